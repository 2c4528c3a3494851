/- Part 3 of the texts that this proof stands on: a symbolic walk over the program, what its functions and the reference's do, plain laws. -/
import Derived.Test.YtggpnfgohpifoaaGreatZfoa
import Derived.Test.YtggpnfgohpifoaaGreatV17
import Derived.Sort.Walk13a
import Derived.Test.YtggpnfgohpifoaaGreatZfob
set_option linter.all false

/- Comparing spots; the library's small functions. -/
namespace Go.Proofs.YtggpnfgohpifoaaGreat.V
def cmp8 (a b : Int) : Int := if a < b then -1 else if b < a then 1 else 0
def cmpSp (a b : Int × Int) : Int := if cmp8 a.2 b.2 ≠ 0 then cmp8 a.2 b.2 else cmp8 a.1 b.1
theorem cmpSp_lt (a b : Int × Int) : decide (cmpSp a b < 0) = ltSp a b := by
  unfold cmpSp cmp8 ltSp
  by_cases h1 : a.2 < b.2
  · simp [h1]
  · by_cases h2 : b.2 < a.2
    · have : ¬ a.2 = b.2 := by omega
      simp [h1, h2, this]
    · have : a.2 = b.2 := by omega
      by_cases h3 : a.1 < b.1
      · simp [h1, h2, h3, this]
      · by_cases h4 : b.1 < a.1 <;> simp [h1, h2, h3, h4, this]
section
variable (cx : Cx) (h : List (Nat × Seg)) (n : Nat)
theorem isNaN8_Q (a : Int) : CallQ Tryz.prog cx 104 [.int .i8 a] h n (.bool false) := by
  refine callQ_of_T (P := Tryz.prog) hti (nt := 6) (rs := [.tmp 2]) rfl rfl Tryz.call104 Tryz.func104 rfl _ (by simp only [go_sem, and_self]) (Nat.le_of_ble_eq_true rfl) _ (by first | exact trivial | (refine lt_flat rfl ?_; simp [SV.flat]; done) | simp only [go_sem]) fun hok => ?_
  simp only [go_sem, Nat.reduceLT]
theorem compare8_Q (a b : Int) : CallQ Tryz.prog cx 88 [.int .i8 a, .int .i8 b] h n (.int .i64 (cmp8 a b)) := by
  refine callQ_of_T (P := Tryz.prog) hti (nt := 20) (rs := [.tmp 4]) rfl rfl Tryz.call88 Tryz.func88 rfl _ (by simp only [go_sem, and_self]) (Nat.le_of_ble_eq_true rfl) _ (by first | exact trivial | (refine lt_flat rfl ?_; simp [SV.flat]; done) | simp only [go_sem]) fun hok => ?_
  simp only [go_sem, Nat.reduceLT, Int.reduceNeg]
  refine (isNaN8_Q _ _ _ a).A ?_
  simp only [go_sem, Nat.reduceLT, Int.reduceNeg]
  refine (isNaN8_Q _ _ _ b).A ?_
  simp only [go_sem, Nat.reduceLT, Int.reduceNeg]
  unfold cmp8
  by_cases h1 : a < b
  · simp only [go_sem, reduceIte, reduceCtorEq, Int.reduceNeg, h1]
  · by_cases h2 : b < a
    · simp only [go_sem, reduceIte, reduceCtorEq, Int.reduceNeg, h1, h2]
    · simp only [go_sem, reduceIte, Int.reduceNeg, h1, h2]
theorem orI_Q (i cap : Nat) (s : Seg) (a b : Int) (hs : hget h i = some s) (hi : i < n) (hn : s.n = 2) (h0 : s.c 0 = .int .i64 a) (h1 : s.c 1 = .int .i64 b) : CallQ Tryz.prog cx 87 [.sl i 0 2 cap] h n (.int .i64 (if a ≠ 0 then a else b)) := by
  refine callQ_of_T (P := Tryz.prog) hti (nt := 18) (rs := [.tmp 2]) rfl rfl Tryz.call87 Tryz.func87 rfl _ (by simp only [go_sem, and_self]) (Nat.le_of_ble_eq_true rfl) _ (by first | exact trivial | (refine lt_flat rfl ?_; simp [SV.flat]; done) | simp only [go_sem]) fun hok => ?_
  simp only [go_sem, Nat.reduceLT]
  refine T_unroll 2 ?_
  simp only [go_sem, Nat.reduceLT, Nat.reduceLeDiff, Int.reduceToNat, Int.reduceLE, Int.reduceLT, Int.reduceNeg, Int.reduceAdd, hs, hi, hn, h0]
  by_cases ha : a = 0
  · simp only [go_sem, ha]
    refine U_step ?_
    simp only [go_sem, Nat.reduceLT, Int.reduceToNat, Int.reduceLE, Int.reduceLT, Int.reduceNeg, Int.reduceAdd, hs, hi, hn, h1]
    by_cases hb : b = 0
    · simp only [go_sem, hb]
      refine U_step ?_
      simp only [go_sem, Nat.reduceLT, Int.reduceLT, not_true, if_false]
    · simp only [go_sem, reduceCtorEq, hb, not_true, if_false]
  · simp only [go_sem, reduceCtorEq, ha, not_false_eq_true, if_true]
theorem inOrder_Q (a b : Int × Int) : CallQ Tryz.prog cx 72 [spot a.1 a.2, spot b.1 b.2] h n (.int .i64 (cmpSp a b)) := by
  refine callQ_of_T (P := Tryz.prog) hti (nt := 17) (rs := [.tmp 4]) rfl rfl Tryz.call72 Tryz.func72 rfl _ (by simp only [go_sem, and_self]) (Nat.le_of_ble_eq_true rfl) _ (by first | exact trivial | (refine lt_flat rfl ?_; simp [SV.flat]; done) | simp only [go_sem]) fun hok => ?_
  simp only [go_sem, Nat.reduceLT]
  refine T_drawG hti 13 [] (.b 0 0 (.b 0 1 (.b 0 2 (.b 0 3 (.b 0 5 (.b 0 6 (.b 0 7 (.b 0 8 (.b 1 4 (.b 1 9 (.b 2 10 (.b 1 11 (.b 0 12 (.f) .o) .o) .o) .o) .o) .o) .o) .o) .o) .o) .o) .o) .o) _ _ (by kernel_rfl) (by kernel_rfl) ?_
  simp only [go_sem, Nat.reduceLT, Nat.reduceLeDiff, reduceCtorEq]
  refine CallQ.F _ (fun h' n' hn hx => compare8_Q _ h' n' a.2 b.2) ?_
  simp only [go_sem, Nat.reduceLT]
  refine CallQ.F _ (fun h' n' hn hx => compare8_Q _ h' n' a.1 b.1) ?_
  simp only [go_sem, Nat.reduceLT, Nat.reduceLeDiff]
  refine CallQ.F _ (fun h' n' hn hx => orI_Q _ h' n' (n + 2) 2 _ _ _ (hx (n + 2) (by omega) _ (by simp only [go_sem]; rfl)) (by omega) rfl rfl rfl) ?_
  simp only [go_sem, Nat.reduceLT]
  rfl
theorem u8_in (x : Int) : 0 ≤ IntKind.u8.wrap x ∧ IntKind.u8.wrap x < 256 := by
  simp [IntKind.wrap, IntKind.bits, IntKind.signed]; omega
end
end Go.Proofs.YtggpnfgohpifoaaGreat.V

/- The library's insertion sort over spots. -/
namespace Go.Proofs.YtggpnfgohpifoaaGreat.V
open Go.Sort (swp insInner insOuter insertionSort)

theorem bang_getD (d : Array (Int × Int)) (j : Nat) : d[j]! = d.toList.getD j (0, 0) := by
  rw [List.getD_eq_getElem?_getD, Array.getElem?_toList, getElem!_def]
  cases d[j]? <;> rfl
theorem swp_toList (d : Array (Int × Int)) (i j : Nat) : (swp d i j).toList = (d.toList.set i (d.toList.getD j (0, 0))).set j (d.toList.getD i (0, 0)) := by
  unfold swp
  rw [Array.toList_setIfInBounds, Array.toList_setIfInBounds, bang_getD, bang_getD]
theorem swp_size (d : Array (Int × Int)) (i j : Nat) : (swp d i j).size = d.size := by unfold swp; simp
/-- A spot stored. -/
theorem spots_store (L : List (Int × Int)) (k : Nat) (x : Int × Int) (hk : k < L.length) : (fun j => if k * 2 ≤ j ∧ j < k * 2 + 2 then cl [.int .i8 x.1, .int .i8 x.2] (j - k * 2) else spotsC L j) = spotsC (L.set k x) := by
  funext j
  by_cases h : k * 2 ≤ j ∧ j < k * 2 + 2
  · rw [if_pos h]
    have hg : (L.set k x).getD k (0, 0) = x := by simp [List.getD_eq_getElem?_getD, hk]
    rcases (by omega : j = k * 2 ∨ j = k * 2 + 1) with rfl | rfl
    · rw [spotsC_x, hg, Nat.sub_self]; rfl
    · rw [spotsC_y, hg, show k * 2 + 1 - k * 2 = 1 by omega]; rfl
  · rw [if_neg h]
    have hg : (L.set k x).getD (j / 2) (0, 0) = L.getD (j / 2) (0, 0) := by
      simp only [List.getD_eq_getElem?_getD, List.getElem?_set]; rw [if_neg (by omega)]
    unfold spotsC
    rw [hg]
/-- A function that compares spots. -/
def Cmps (cx : Cx) (h : List (Nat × Seg)) (n i f p q : Nat) (G F : Nat → SV) (cI : Int × Int → Int × Int → Int) : Prop :=
  ∀ (a b : Int × Int) nt n0 h' n', n ≤ n' → HBut i n h h' → CallQ Tryz.prog ⟨cx.w0, cx.W, nt, n0⟩ f (lst p G ++ [spot a.1 a.2, spot b.1 b.2] ++ lst q F) h' n' (.int .i64 (cI a b))
section
variable (cx : Cx) (h : List (Nat × Seg)) (n : Nat)
set_option maxRecDepth 100000 in
theorem insSort_E (i cap : Nat) (d : Array (Int × Int)) (own : Option (Nat × Nat)) (a b : Nat) (f p q : Nat) (G F : Nat → SV) (cI : Int × Int → Int × Int → Int) (lt : Int × Int → Int × Int → Bool) (hlt : ∀ x y, decide (cI x y < 0) = lt x y)
    (hs : hget h i = some ⟨d.size * 2, spotsC d.toList, true, own⟩) (hi : i < n) (hb : b ≤ d.size) (hab : a ≤ b) (hm9 : d.size ≤ 1000000000) (hF : (SV.fn f p G q F).lt n) (hcmp : Cmps cx h n i f p q G F cI) (K : HK)
    (hK : K (.tup 0 (cl [])) (hset h i ⟨d.size * 2, spotsC (insertionSort lt d a b).toList, true, own⟩) n) :
    CallE Tryz.prog cx 94 [.sl i 0 d.size cap, .int .i64 a, .int .i64 b, .fn f p G q F] h n K := by
  refine CallE.to _ _ (by simp only [go_sem]) (fun hok => hok_set hok fun k hk => spotsC_flat _ _) hK ?_
  have hgi : ∀ t, hget (hset h i t) i = some t := hget_hset_self hs
  have hFl : (SV.fn f p G q F).lt n = True := eq_true hF
  refine callE_of_T (P := Tryz.prog) hti (nt := 53) (rs := []) rfl rfl Tryz.call94 Tryz.func94 rfl _ (by simp only [go_sem, and_self]) (Nat.le_of_ble_eq_true rfl) _ fun hok => ?_
  have ha9 : a ≤ 1000000000 := by omega
  simp only [go_sem, Nat.reduceLT, w64 (n := (a : Int) + 1) (by omega)]
  refine T_lp (ι := { p : Nat × Array (Int × Int) // p.1 ≤ b + 1 ∧ a + 1 ≤ p.1 ∧ p.2.size = d.size ∧ insOuter lt a b p.1 p.2 = insertionSort lt d a b })
    (fun w => ([(0, .sl i 0 d.size cap), (1, .int .i64 a), (2, .int .i64 b), (3, .fn f p G q F), (8, .int .i64 w.1.1)], hset h i ⟨d.size * 2, spotsC w.1.2.toList, true, own⟩, n)) (fun w => b + 1 - w.1.1) ⟨(a + 1, d), by omega, Nat.le_refl _, rfl, rfl⟩ ?_ ?_
  · refine Imp.id (by simp) ?_ ?_
    · simp only [go_sem, Nat.reduceLT, hFl, Int.natCast_add, Int.natCast_one]
      exact hi
    · rw [hset_self hs]; exact impH.base0 hok (by simp) HExt.rfl
  · rintro ⟨⟨k, D⟩, hk, hak, hD, hO⟩
    simp only at hk hak hD hO
    simp only [go_sem, Nat.reduceLT, decide_eq_true_eq, decide_eq_false_iff_not]
    refine ⟨fun h1 => ?_, fun h1 => ?_⟩
    · have hkb : k < b := by omega
      refine T_lp (ι := { p : Nat × Array (Int × Int) // p.1 ≤ k ∧ a ≤ p.1 ∧ p.2.size = d.size ∧ insInner lt a p.1 p.2 = insInner lt a k D })
        (fun w => ([(0, .sl i 0 d.size cap), (1, .int .i64 a), (2, .int .i64 b), (3, .fn f p G q F), (8, .int .i64 k), (9, .int .i64 w.1.1)], hset h i ⟨d.size * 2, spotsC w.1.2.toList, true, own⟩, n)) (fun w => w.1.1) ⟨(k, D), Nat.le_refl _, by omega, hD, rfl⟩ ?_ ?_
      · refine Imp.id (by simp) ?_ ?_
        · simp only [go_sem, Nat.reduceLT, hFl]
          exact hi
        · exact impH.base0 (hok_set hok fun k hk => spotsC_flat _ _) (by simp) HExt.rfl
      · rintro ⟨⟨j, E⟩, hj, haj, hE, hI⟩
        simp only at hj haj hE hI
        have hEl : E.toList.length = d.size := by rw [Array.length_toList]; exact hE
        simp only [go_sem]
        by_cases hja : a < j
        rotate_left
        · have e1 : ((a : Int) < j) = False := eq_false (by omega)
          refine T_draw hti _ _ (by kernel_rfl) (by kernel_rfl) ?_
          simp only [go_sem, Nat.reduceLT, e1]
          have e2 : insInner lt a j E = E := by
            cases j with
            | zero => rfl
            | succ j => unfold insInner; rw [if_neg (by simp; omega)]
          rw [e2] at hI
          refine ⟨⟨(k + 1, E), by show k + 1 ≤ b + 1; omega, by show a + 1 ≤ k + 1; omega, hE, ?_⟩, by show b + 1 - (k + 1) < b + 1 - k; omega, ?_⟩
          · rw [← hO]
            show insOuter lt a b (k + 1) E = _
            rw [insOuter.eq_1 lt a b k D, if_pos hkb, hI]
          · refine Imp.id (by simp) ?_ ?_
            · simp only [go_sem, Nat.reduceLT, hFl, w64 (n := (k : Int) + 1) (by omega), Int.natCast_add, Int.natCast_one]
              exact hi
            · exact impH.base0 (hok_set hok fun k hk => spotsC_flat _ _) (by simp) HExt.rfl
        obtain ⟨j, rfl⟩ : ∃ j', j = j' + 1 := ⟨j - 1, by omega⟩
        have e1 : ((a : Int) < ((j + 1 : Nat) : Int)) = True := eq_true (by omega)
        have r1 : (0 : Int) ≤ (j : Int) + 1 ∧ (j : Int) + 1 < d.size := ⟨by omega, by omega⟩
        have r2 : (0 : Int) ≤ (j : Int) ∧ (j : Int) < d.size := ⟨by omega, by omega⟩
        have e2 : ((j : Int) + 1).toNat = j + 1 := by omega
        have b1 : (j + 1) * 2 ≤ d.size * 2 - 2 := by omega
        have b2 : (j + 1) * 2 + 2 ≤ d.size * 2 := by omega
        have b3 : j * 2 ≤ d.size * 2 - 2 := by omega
        have b4 : j * 2 + 2 ≤ d.size * 2 := by omega
        have b5 : 2 ≤ d.size * 2 := by omega
        have b6 : (2 = d.size * 2) = False := eq_false (by omega)
        have e1' : ((a : Int) < (j : Int) + 1) = True := eq_true (by omega)
        refine T_draw hti _ _ (by kernel_rfl) (by kernel_rfl) ?_
        simp only [go_sem, Nat.reduceLT, hgi, hi, e1, e1', r1, r2, e2, b1, b2, b3, b4, b5, spotsC_x, spotsC_y, Int.natCast_add, Int.natCast_one, Int.add_sub_cancel, w64 (n := (j : Int)) (by omega)]
        refine (hcmp (E.toList.getD (j + 1) (0, 0)) (E.toList.getD j (0, 0)) _ _ _ _ (Nat.le_refl n) (HBut.set i n h _)).A ?_
        have hl := hlt (E.toList.getD (j + 1) (0, 0)) (E.toList.getD j (0, 0))
        by_cases hc : cI (E.toList.getD (j + 1) (0, 0)) (E.toList.getD j (0, 0)) < 0
        rotate_left
        · have e3 : insInner lt a (j + 1) E = E := by
            unfold insInner
            rw [bang_getD, bang_getD, ← hl, decide_eq_false hc, Bool.and_false]
            rfl
          rw [e3] at hI
          simp only [go_sem, Nat.reduceLT, hc]
          refine ⟨⟨(k + 1, E), by show k + 1 ≤ b + 1; omega, by show a + 1 ≤ k + 1; omega, hE, ?_⟩, by show b + 1 - (k + 1) < b + 1 - k; omega, ?_⟩
          · rw [← hO]
            show insOuter lt a b (k + 1) E = _
            rw [insOuter.eq_1 lt a b k D, if_pos hkb, hI]
          · refine Imp.id (by simp) ?_ ?_
            · simp only [go_sem, Nat.reduceLT, hFl, w64 (n := (k : Int) + 1) (by omega), Int.natCast_add, Int.natCast_one]
              exact hi
            · exact impH.base0 (hok_set hok fun k hk => spotsC_flat _ _) (by simp) HExt.rfl
        · have e3 : insInner lt a (j + 1) E = insInner lt a j (swp E (j + 1) j) := by
            show (if decide (j + 1 > a) && lt E[j + 1]! E[j]! then insInner lt a j (swp E (j + 1) j) else E) = _
            rw [bang_getD, bang_getD, ← hl, decide_eq_true hc]
            simp only [gt_iff_lt, hja, decide_true, Bool.and_true, if_true]
          rw [e3] at hI
          simp only [go_sem, Nat.reduceLT, hc]
          refine T_drawG hti 18 [15, 17] (.b 0 0 (.b 0 1 (.b 0 2 (.b 0 3 (.b 0 4 (.b 0 5 (.b 0 6 (.b 0 7 (.b 0 8 (.b 0 9 (.b 0 10 (.b 0 11 (.b 0 12 (.b 0 13 (.b 0 14 (.b 4 15 (.b 0 16 (.b 4 17 (.f) .o) .o) .o) .o) .o) .o) .o) .o) .o) .o) .o) .o) .o) .o) .o) .o) .o) .o) _ _ (by kernel_rfl) (by kernel_rfl) ?_
          simp only [go_sem, Nat.reduceLT, reduceCtorEq, hgi, hi, r1, r2, e2, b1, b2, b3, b4, b5, b6, and_false, if_false, spotsC_x, spotsC_y, spots_store E.toList (j + 1) (E.toList.getD j (0, 0)) (by omega), Int.add_sub_cancel, w64 (n := (j : Int)) (by omega)]
          rw [spots_store (E.toList.set (j + 1) (E.toList.getD j (0, 0))) j (E.toList.getD (j + 1) (0, 0)) (by rw [List.length_set]; omega), ← swp_toList]
          refine ⟨⟨(j, swp E (j + 1) j), by show j ≤ k; omega, by show a ≤ j; omega, (swp_size _ _ _).trans hE, hI⟩, by show j < j + 1; omega, ?_⟩
          refine Imp.id (by simp) ?_ ?_
          · simp only [go_sem, Nat.reduceLT, hFl]
            exact hi
          · exact impH.base0 (hok_set hok fun k hk => spotsC_flat _ _) (by simp) HExt.rfl
    · have hkb : ¬ k < b := by omega
      have e : D = insertionSort lt d a b := by rw [← hO]; unfold insOuter; rw [if_neg hkb]
      rw [e]
      exact HExt.rfl
end
end Go.Proofs.YtggpnfgohpifoaaGreat.V

/- Sets of few cells: the program's own walk. -/
namespace Go.Proofs.YtggpnfgohpifoaaGreat.V
theorem srtS_nodup {L : List (Int × Int)} (h : L.Nodup) : (srtS L).Pairwise fun a b => ltSp a b = true := by
  have h1 := srtS_sorted L
  have h2 : (srtS L).Nodup := (srtS_perm L).nodup_iff.2 h
  refine (h1.and h2).imp fun {a b} ⟨h3, h4⟩ => ?_
  cases hlt : ltSp a b with
  | true => rfl
  | false => exact absurd (ltSp_tri hlt h3) h4
section
variable (cx : Cx) (h : List (Nat × Seg)) (n : Nat)
theorem cloneSp_E (i cap : Nat) (L : List (Int × Int)) (s : Seg) (hs : hget h i = some s) (hi : i < n) (hn : L.length * 2 ≤ s.n) (hc : ∀ k, k < L.length * 2 → s.c k = spotsC L k) (hm9 : L.length ≤ 10000000) (K : HK)
    (hK : ∀ cap', L.length ≤ cap' → cap' ≤ maxLen → K (.sl n 0 L.length cap') ((n, ⟨L.length * 2, spotsC L, true, none⟩) :: h) (n + 1)) :
    CallE Tryz.prog cx 70 [.sl i 0 L.length cap] h n K := by
  refine CallE.imp1 (K := fun r h1 n1 => ∃ cap', L.length ≤ cap' ∧ cap' ≤ maxLen ∧ r = .sl (n + 1) 0 L.length cap' ∧ n1 = n + 2 ∧ HExt n h h1 ∧ ∃ t, hget h1 (n + 1) = some t ∧ t.n = L.length * 2 ∧ t.rw = true ∧ ∀ k, k < L.length * 2 → t.c k = spotsC L k) ?_ ?_
  · refine callE_of_T (P := Tryz.prog) hti (nt := 8) (rs := [.tmp 2]) rfl rfl Tryz.call70 Tryz.func70 rfl _ (by simp only [go_sem, and_self]) (Nat.le_of_ble_eq_true rfl) _ fun hok => ?_
    simp only [go_sem, Nat.reduceLT, Nat.reduceLeDiff, Nat.reduceMul, hs, hi, ↓hok.del (Nat.le_refl n)]
    refine ⟨⟨⟨trivial, Nat.succ_pos 1, ?_, ?_⟩, by omega⟩, fun cap' c1 c2 => ?_⟩
    · show 0 + L.length * 2 ≤ s.n
      omega
    · refine allP_iff.2 fun j hj => ?_
      have hj : j < L.length * 2 := hj
      show (s.c (0 + j)).one
      rw [Nat.zero_add, hc j hj]
      exact (spotsC_flat L j).one
    · refine ⟨cap', c1, c2, rfl, _, rfl, rfl, rfl, fun k hk => ?_⟩
      refine Eq.trans ?_ (hc k hk)
      simp only [both, news, Nat.not_lt_zero, if_false, Nat.sub_zero, Nat.zero_add]
  · rintro hok r h1 n1 ⟨cap', c1, c2, rfl, rfl, hx, t, ht, t1, t2, t3⟩
    exact ⟨n + 1, .sl n 0 L.length cap', (n, ⟨L.length * 2, spotsC L, true, none⟩) :: h, n + 1, by omega, by omega, by simp only [ren_sl, sig_hit], Nat.lt_succ_self n,
      impH.cons1 ht (Nat.lt_succ_self n) (SegLe.flat (by rw [t1]; exact Nat.le_refl _) (fun _ => t2) (.inl rfl) fun k hk => ⟨t3 k hk, spotsC_flat _ _⟩) (impH.base1 hok (by simp) (Nat.le_refl n) hx), hK cap' c1 c2⟩
end
end Go.Proofs.YtggpnfgohpifoaaGreat.V

/- The cells to which one can go. -/
namespace Go.Proofs.YtggpnfgohpifoaaGreat.V
def addB (is : Int → Int → Bool) (out : List (Int × Int)) (q : Int × Int) : List (Int × Int) := if is q.1 q.2 = true ∧ q ∉ out then out ++ [q] else out
theorem addB_new {is : Int → Int → Bool} {out : List (Int × Int)} {q : Int × Int} (h1 : is q.1 q.2 = true) (h2 : q ∉ out) : addB is out q = out ++ [q] := if_pos ⟨h1, h2⟩
theorem addB_old {is : Int → Int → Bool} {out : List (Int × Int)} {q : Int × Int} (h : ¬ (is q.1 q.2 = true ∧ q ∉ out)) : addB is out q = out := if_neg h
/-- What is kept: cells of the sheet, each one once. -/
structure BOk (out : List (Int × Int)) : Prop where
  nd : out.Nodup
  in8 : In8s out
theorem BOk.len {out : List (Int × Int)} (h : BOk out) : out.length ≤ 64 := by
  have h1 : Strict (setL out) := setL_strict out
  have h2 := strict_len h1 h.in8.setL
  have h3 : setL out = srtS out := setL_eq (srtS_nodup h.nd) fun a => (srtS_perm out).mem_iff
  rw [h3] at h2
  exact Nat.le_trans (Nat.le_of_eq (srtS_perm out).length_eq.symm) h2
theorem BOk.add {is : Int → Int → Bool} (his : ∀ x y, is x y = true → In8 (x, y)) {out : List (Int × Int)} (h : BOk out) (q : Int × Int) : BOk (addB is out q) := by
  by_cases hq : is q.1 q.2 = true ∧ q ∉ out
  · rw [addB_new hq.1 hq.2]
    refine ⟨List.nodup_append.2 ⟨h.nd, by simp, fun a ha b hb => ?_⟩, fun p hp => ?_⟩
    · rw [List.mem_singleton] at hb; subst hb; exact fun e => hq.2 (e ▸ ha)
    · rcases List.mem_append.1 hp with hp | hp
      · exact h.in8 p hp
      · rw [List.mem_singleton] at hp; subst hp; exact his _ _ hq.1
  · rw [addB_old hq]; exact h
theorem BOk.one {p : Int × Int} (h : In8 p) : BOk [p] := ⟨by simp, fun q hq => by rw [List.mem_singleton] at hq; subst hq; exact h⟩
end Go.Proofs.YtggpnfgohpifoaaGreat.V

/- The library's heap sort over spots. -/
namespace Go.Proofs.YtggpnfgohpifoaaGreat.V
open Go.Sort (swp siftDown heapBuild heapPop heapSort)
theorem w64N {a : Int} {k : Nat} (h : a = (k : Int)) (hk : k ≤ 4611686018427387904) : IntKind.i64.wrap a = (k : Int) := by rw [h]; exact w64 (by omega)
theorem bangL {D : Array (Int × Int)} {j : Nat} : D[j]! = D.toList.getD j (0, 0) := bang_getD D j
theorem ix_r {k s : Nat} (h : k < s) : (0 : Int) ≤ (k : Int) ∧ (k : Int) < (s : Int) := ⟨by omega, by omega⟩
theorem ix_b {k s : Nat} (h : k < s) : k * 2 ≤ s * 2 - 2 := by omega
theorem ix_c {k s : Nat} (h : k < s) : k * 2 + 2 ≤ s * 2 := by omega
/-- Two spots exchanged. -/
theorem swap_fn (D : Array (Int × Int)) {a b : Nat} (ha : a < D.size) (hb : b < D.size) :
    (fun z => if b * 2 ≤ z ∧ z < b * 2 + 2 then cl [.int .i8 (D.toList.getD a (0, 0)).1, .int .i8 (D.toList.getD a (0, 0)).2] (z - b * 2) else if a * 2 ≤ z ∧ z < a * 2 + 2 then cl [.int .i8 (D.toList.getD b (0, 0)).1, .int .i8 (D.toList.getD b (0, 0)).2] (z - a * 2) else spotsC D.toList z) = spotsC (swp D a b).toList := by
  rw [swp_toList, ← spots_store _ b _ (by rw [List.length_set, Array.length_toList]; exact hb)]
  funext z
  split
  · rfl
  · rw [← spots_store D.toList a (D.toList.getD b (0, 0)) (by rw [Array.length_toList]; exact ha)]
def pickC (lt : Int × Int → Int × Int → Bool) (hi first root : Nat) (d : Array (Int × Int)) : Nat := if 2 * root + 2 < hi ∧ lt d[first + (2 * root + 1)]! d[first + (2 * root + 2)]! = true then 2 * root + 2 else 2 * root + 1
theorem siftDown_end {lt : Int × Int → Int × Int → Bool} {hi first root : Nat} {d : Array (Int × Int)} (h : hi ≤ 2 * root + 1) : siftDown lt hi first root d = d := by
  rw [siftDown, dif_pos h]
theorem siftDown_eq {lt : Int × Int → Int × Int → Bool} {hi first root : Nat} {d : Array (Int × Int)} (h : 2 * root + 1 < hi) :
    siftDown lt hi first root d = if lt d[first + root]! d[first + pickC lt hi first root d]! = true then siftDown lt hi first (pickC lt hi first root d) (swp d (first + root) (first + pickC lt hi first root d)) else d := by
  rw [siftDown, dif_neg (by omega)]
  unfold pickC
  have e : first + (2 * root + 1) + 1 = first + (2 * root + 2) := by omega
  rw [e]
  by_cases h2 : 2 * root + 2 < hi ∧ lt d[first + (2 * root + 1)]! d[first + (2 * root + 2)]! = true
  · rw [if_pos (by rw [h2.2]; simp; omega), if_pos h2]
    cases hl : lt d[first + root]! d[first + (2 * root + 2)]!
    · simp
    · simp [h2.1]
  · rw [if_neg (by
      rw [Bool.and_eq_true, decide_eq_true_eq]
      rintro ⟨a, b⟩
      exact h2 ⟨by omega, b⟩), if_neg h2]
    cases hl : lt d[first + root]! d[first + (2 * root + 1)]! <;> simp
theorem siftDown_size (lt : Int × Int → Int × Int → Bool) (hi first : Nat) : ∀ (m root : Nat) (d : Array (Int × Int)), hi - root ≤ m → (siftDown lt hi first root d).size = d.size := by
  intro m
  induction m with
  | zero => intro root d h; rw [siftDown_end (by omega)]
  | succ m ih =>
    intro root d h
    by_cases h1 : hi ≤ 2 * root + 1
    · rw [siftDown_end h1]
    · rw [siftDown_eq (by omega)]
      split
      · rw [ih _ _ (by unfold pickC; split <;> omega), swp_size]
      · rfl
section
variable (cx : Cx) (h : List (Nat × Seg)) (n : Nat)
set_option maxRecDepth 100000 in
set_option maxHeartbeats 1600000 in
theorem siftDown_E (i cap : Nat) (d : Array (Int × Int)) (own : Option (Nat × Nat)) (lo hi first : Nat) (f p q : Nat) (G F : Nat → SV) (cI : Int × Int → Int × Int → Int) (lt : Int × Int → Int × Int → Bool) (hlt : ∀ x y, decide (cI x y < 0) = lt x y)
    (hs : hget h i = some ⟨d.size * 2, spotsC d.toList, true, own⟩) (hi0 : i < n) (hb : first + hi ≤ d.size) (h2 : 2 ≤ d.size) (hlo : lo ≤ d.size) (hm9 : d.size ≤ 1000000000) (hF : (SV.fn f p G q F).lt n) (hcmp : Cmps cx h n i f p q G F cI) (K : HK)
    (hK : K (.tup 0 (cl [])) (hset h i ⟨d.size * 2, spotsC (siftDown lt hi first lo d).toList, true, own⟩) n) :
    CallE Tryz.prog cx 107 [.sl i 0 d.size cap, .int .i64 lo, .int .i64 hi, .int .i64 first, .fn f p G q F] h n K := by
  refine CallE.to _ _ (by simp only [go_sem]) (fun hok => hok_set hok fun k hk => spotsC_flat _ _) hK ?_
  have hgi : ∀ t, hget (hset h i t) i = some t := hget_hset_self hs
  have hFl : (SV.fn f p G q F).lt n = True := eq_true hF
  refine callE_of_T (P := Tryz.prog) hti (nt := 82) (rs := []) rfl rfl Tryz.call107 Tryz.func107 rfl _ (by simp only [go_sem, and_self]) (Nat.le_of_ble_eq_true rfl) _ fun hok => ?_
  simp only [go_sem, Nat.reduceLT]
  refine T_lp (ι := { p : Nat × Array (Int × Int) // p.1 ≤ d.size + 1 ∧ p.2.size = d.size ∧ siftDown lt hi first p.1 p.2 = siftDown lt hi first lo d })
    (fun w => ([(0, .sl i 0 d.size cap), (2, .int .i64 hi), (3, .int .i64 first), (4, .fn f p G q F), (10, .int .i64 w.1.1)], hset h i ⟨d.size * 2, spotsC w.1.2.toList, true, own⟩, n)) (fun w => hi - w.1.1) ⟨(lo, d), by show lo ≤ d.size + 1; omega, rfl, rfl⟩ ?_ ?_
  · refine Imp.id (by simp) ?_ ?_
    · simp only [go_sem, Nat.reduceLT, hFl]
      exact hi0
    · rw [hset_self hs]; exact impH.base0 hok (by simp) HExt.rfl
  · rintro ⟨⟨r, D⟩, hr, hD, hO⟩
    simp only at hr hD hO
    simp only [go_sem, Nat.reduceLT, w64N (a := 2 * (r : Int)) (k := 2 * r) (by omega) (by omega), w64N (a := ((2 * r : Nat) : Int) + 1) (k := 2 * r + 1) (by omega) (by omega)]
    by_cases h1 : hi ≤ 2 * r + 1
    · rw [siftDown_end h1] at hO
      have e1 : ((hi : Int) ≤ ((2 * r + 1 : Nat) : Int)) = True := eq_true (by omega)
      simp only [go_sem, reduceCtorEq, e1]
      rw [hO]
      exact HExt.rfl
    have e1 : ((hi : Int) ≤ ((2 * r + 1 : Nat) : Int)) = False := eq_false (by omega)
    rw [siftDown_eq (by omega)] at hO
    simp only [go_sem, e1]
    have c0 : first + r < d.size := by omega
    have c1 : first + (2 * r + 1) < d.size := by omega
    have cA : 2 * r + 2 < hi → first + (2 * r + 2) < d.size := by omega
    have W0 := w64N (a := (first : Int) + (r : Int)) (k := first + r) (by omega) (by omega)
    have W1 := w64N (a := (first : Int) + ((2 * r + 1 : Nat) : Int)) (k := first + (2 * r + 1)) (by omega) (by omega)
    have W2 := w64N (a := ((2 * r + 1 : Nat) : Int) + 1) (k := 2 * r + 2) (by omega) (by omega)
    have W3 := w64N (a := ((first + (2 * r + 1) : Nat) : Int) + 1) (k := first + (2 * r + 2)) (by omega) (by omega)
    have W4 := w64N (a := (first : Int) + ((2 * r + 2 : Nat) : Int)) (k := first + (2 * r + 2)) (by omega) (by omega)
    have b6 : (2 = d.size * 2) = False := eq_false (by omega)
    by_cases hA : 2 * r + 2 < hi
    · have e2 : (((2 * r + 2 : Nat) : Int) < (hi : Int)) = True := eq_true (by omega)
      refine T_draw hti _ _ (by kernel_rfl) (by kernel_rfl) ?_
      simp only [go_sem, Nat.reduceLT, hgi, hi0, e2, W1, W2, W3, ix_r c1, ix_b c1, ix_c c1, ix_r (cA hA), ix_b (cA hA), ix_c (cA hA), spotsC_x, spotsC_y]
      refine (hcmp (D.toList.getD (first + (2 * r + 1)) (0, 0)) (D.toList.getD (first + (2 * r + 2)) (0, 0)) _ _ _ _ (Nat.le_refl n) (HBut.set i n h _)).A ?_
      have hl := hlt (D.toList.getD (first + (2 * r + 1)) (0, 0)) (D.toList.getD (first + (2 * r + 2)) (0, 0))
      by_cases hc : cI (D.toList.getD (first + (2 * r + 1)) (0, 0)) (D.toList.getD (first + (2 * r + 2)) (0, 0)) < 0
      · simp only [go_sem, Nat.reduceLT, hc, W2]
        have hp : pickC lt hi first r D = 2 * r + 2 := if_pos ⟨hA, by rw [bangL, bangL, ← hl, decide_eq_true hc]⟩
        rw [hp] at hO
        refine T_draw hti _ _ (by kernel_rfl) (by kernel_rfl) ?_
        simp only [go_sem, Nat.reduceLT, hgi, hi0, W0, W1, W4, ix_r c0, ix_r c1, ix_b c0, ix_b c1, ix_c c0, ix_c c1, ix_r (cA hA), ix_b (cA hA), ix_c (cA hA), spotsC_x, spotsC_y]
        refine (hcmp (D.toList.getD (first + r) (0, 0)) (D.toList.getD (first + (2 * r + 2)) (0, 0)) _ _ _ _ (Nat.le_refl n) (HBut.set i n h _)).A ?_
        have hl2 := hlt (D.toList.getD (first + r) (0, 0)) (D.toList.getD (first + (2 * r + 2)) (0, 0))
        rw [bangL, bangL, ← hl2] at hO
        by_cases hc2 : cI (D.toList.getD (first + r) (0, 0)) (D.toList.getD (first + (2 * r + 2)) (0, 0)) < 0
        rotate_left
        · rw [decide_eq_false hc2, if_neg (by simp)] at hO
          simp only [go_sem, Nat.reduceLT, hc2]
          rw [hO]
          exact HExt.rfl
        · rw [decide_eq_true hc2, if_pos rfl] at hO
          simp only [go_sem, Nat.reduceLT, hc2]
          refine T_drawG hti 24 [21, 23] (.b 0 0 (.b 0 1 (.b 0 2 (.b 0 3 (.b 0 4 (.b 0 5 (.b 0 6 (.b 0 7 (.b 0 8 (.b 0 9 (.b 0 10 (.b 0 11 (.b 0 12 (.b 0 13 (.b 0 14 (.b 0 15 (.b 0 16 (.b 0 17 (.b 0 18 (.b 0 19 (.b 0 20 (.b 4 21 (.b 0 22 (.b 4 23 (.f) .o) .o) .o) .o) .o) .o) .o) .o) .o) .o) .o) .o) .o) .o) .o) .o) .o) .o) .o) .o) .o) .o) .o) .o) _ _ (by kernel_rfl) (by kernel_rfl) ?_
          simp only [go_sem, Nat.reduceLT, reduceCtorEq, hgi, hi0, W0, W1, W4, ix_r c0, ix_r c1, ix_b c0, ix_b c1, ix_c c0, ix_c c1, ix_r (cA hA), ix_b (cA hA), ix_c (cA hA), spotsC_x, spotsC_y, b6, and_false, if_false]
          rw [swap_fn D (a := first + r) (b := first + (2 * r + 2)) (by omega) (by omega)]
          refine ⟨⟨(2 * r + 2, swp D (first + r) (first + (2 * r + 2))), by show 2 * r + 2 ≤ d.size + 1; omega, (swp_size _ _ _).trans hD, hO⟩, by show hi - (2 * r + 2) < hi - r; omega, ?_⟩
          refine Imp.id (by simp) ?_ ?_
          · simp only [go_sem, Nat.reduceLT, hFl]
            exact hi0
          · exact impH.base0 (hok_set hok fun k hk => spotsC_flat _ _) (by simp) HExt.rfl
      · simp only [go_sem, Nat.reduceLT, hc]
        have hp : pickC lt hi first r D = 2 * r + 1 := if_neg fun hh => by rw [bangL, bangL, ← hl, decide_eq_false hc] at hh; exact absurd hh.2 (by simp)
        rw [hp] at hO
        refine T_draw hti _ _ (by kernel_rfl) (by kernel_rfl) ?_
        simp only [go_sem, Nat.reduceLT, hgi, hi0, W0, W1, W4, ix_r c0, ix_r c1, ix_b c0, ix_b c1, ix_c c0, ix_c c1, spotsC_x, spotsC_y]
        refine (hcmp (D.toList.getD (first + r) (0, 0)) (D.toList.getD (first + (2 * r + 1)) (0, 0)) _ _ _ _ (Nat.le_refl n) (HBut.set i n h _)).A ?_
        have hl2 := hlt (D.toList.getD (first + r) (0, 0)) (D.toList.getD (first + (2 * r + 1)) (0, 0))
        rw [bangL, bangL, ← hl2] at hO
        by_cases hc2 : cI (D.toList.getD (first + r) (0, 0)) (D.toList.getD (first + (2 * r + 1)) (0, 0)) < 0
        rotate_left
        · rw [decide_eq_false hc2, if_neg (by simp)] at hO
          simp only [go_sem, Nat.reduceLT, hc2]
          rw [hO]
          exact HExt.rfl
        · rw [decide_eq_true hc2, if_pos rfl] at hO
          simp only [go_sem, Nat.reduceLT, hc2]
          refine T_drawG hti 24 [21, 23] (.b 0 0 (.b 0 1 (.b 0 2 (.b 0 3 (.b 0 4 (.b 0 5 (.b 0 6 (.b 0 7 (.b 0 8 (.b 0 9 (.b 0 10 (.b 0 11 (.b 0 12 (.b 0 13 (.b 0 14 (.b 0 15 (.b 0 16 (.b 0 17 (.b 0 18 (.b 0 19 (.b 0 20 (.b 4 21 (.b 0 22 (.b 4 23 (.f) .o) .o) .o) .o) .o) .o) .o) .o) .o) .o) .o) .o) .o) .o) .o) .o) .o) .o) .o) .o) .o) .o) .o) .o) _ _ (by kernel_rfl) (by kernel_rfl) ?_
          simp only [go_sem, Nat.reduceLT, reduceCtorEq, hgi, hi0, W0, W1, W4, ix_r c0, ix_r c1, ix_b c0, ix_b c1, ix_c c0, ix_c c1, spotsC_x, spotsC_y, b6, and_false, if_false]
          rw [swap_fn D (a := first + r) (b := first + (2 * r + 1)) (by omega) (by omega)]
          refine ⟨⟨(2 * r + 1, swp D (first + r) (first + (2 * r + 1))), by show 2 * r + 1 ≤ d.size + 1; omega, (swp_size _ _ _).trans hD, hO⟩, by show hi - (2 * r + 1) < hi - r; omega, ?_⟩
          refine Imp.id (by simp) ?_ ?_
          · simp only [go_sem, Nat.reduceLT, hFl]
            exact hi0
          · exact impH.base0 (hok_set hok fun k hk => spotsC_flat _ _) (by simp) HExt.rfl
    · have e2 : (((2 * r + 2 : Nat) : Int) < (hi : Int)) = False := eq_false (by omega)
      refine T_draw hti _ _ (by kernel_rfl) (by kernel_rfl) ?_
      simp only [go_sem, Nat.reduceLT, e2, W2]
      have hp : pickC lt hi first r D = 2 * r + 1 := if_neg fun hh => hA hh.1
      rw [hp] at hO
      refine T_draw hti _ _ (by kernel_rfl) (by kernel_rfl) ?_
      simp only [go_sem, Nat.reduceLT, hgi, hi0, W0, W1, W4, ix_r c0, ix_r c1, ix_b c0, ix_b c1, ix_c c0, ix_c c1, spotsC_x, spotsC_y]
      refine (hcmp (D.toList.getD (first + r) (0, 0)) (D.toList.getD (first + (2 * r + 1)) (0, 0)) _ _ _ _ (Nat.le_refl n) (HBut.set i n h _)).A ?_
      have hl2 := hlt (D.toList.getD (first + r) (0, 0)) (D.toList.getD (first + (2 * r + 1)) (0, 0))
      rw [bangL, bangL, ← hl2] at hO
      by_cases hc2 : cI (D.toList.getD (first + r) (0, 0)) (D.toList.getD (first + (2 * r + 1)) (0, 0)) < 0
      rotate_left
      · rw [decide_eq_false hc2, if_neg (by simp)] at hO
        simp only [go_sem, Nat.reduceLT, hc2]
        rw [hO]
        exact HExt.rfl
      · rw [decide_eq_true hc2, if_pos rfl] at hO
        simp only [go_sem, Nat.reduceLT, hc2]
        refine T_drawG hti 24 [21, 23] (.b 0 0 (.b 0 1 (.b 0 2 (.b 0 3 (.b 0 4 (.b 0 5 (.b 0 6 (.b 0 7 (.b 0 8 (.b 0 9 (.b 0 10 (.b 0 11 (.b 0 12 (.b 0 13 (.b 0 14 (.b 0 15 (.b 0 16 (.b 0 17 (.b 0 18 (.b 0 19 (.b 0 20 (.b 4 21 (.b 0 22 (.b 4 23 (.f) .o) .o) .o) .o) .o) .o) .o) .o) .o) .o) .o) .o) .o) .o) .o) .o) .o) .o) .o) .o) .o) .o) .o) .o) _ _ (by kernel_rfl) (by kernel_rfl) ?_
        simp only [go_sem, Nat.reduceLT, reduceCtorEq, hgi, hi0, W0, W1, W4, ix_r c0, ix_r c1, ix_b c0, ix_b c1, ix_c c0, ix_c c1, spotsC_x, spotsC_y, b6, and_false, if_false]
        rw [swap_fn D (a := first + r) (b := first + (2 * r + 1)) (by omega) (by omega)]
        refine ⟨⟨(2 * r + 1, swp D (first + r) (first + (2 * r + 1))), by show 2 * r + 1 ≤ d.size + 1; omega, (swp_size _ _ _).trans hD, hO⟩, by show hi - (2 * r + 1) < hi - r; omega, ?_⟩
        refine Imp.id (by simp) ?_ ?_
        · simp only [go_sem, Nat.reduceLT, hFl]
          exact hi0
        · exact impH.base0 (hok_set hok fun k hk => spotsC_flat _ _) (by simp) HExt.rfl
end
end Go.Proofs.YtggpnfgohpifoaaGreat.V

/- The library's heap sort over spots. -/
namespace Go.Proofs.YtggpnfgohpifoaaGreat.V
open Go.Sort (swp siftDown heapBuild heapPop heapSort)
section
variable (cx : Cx) (h : List (Nat × Seg)) (n : Nat)
theorem siftDown_M (i cap : Nat) (d : Array (Int × Int)) (m : Nat) (hm : d.size = m) (own : Option (Nat × Nat)) (lo hi first : Nat) (f p q : Nat) (G F : Nat → SV) (cI : Int × Int → Int × Int → Int) (lt : Int × Int → Int × Int → Bool) (hlt : ∀ x y, decide (cI x y < 0) = lt x y)
    (hs : hget h i = some ⟨m * 2, spotsC d.toList, true, own⟩) (hi0 : i < n) (hb : first + hi ≤ m) (h2 : 2 ≤ m) (hlo : lo ≤ m) (hm9 : m ≤ 1000000000) (hF : (SV.fn f p G q F).lt n) (hcmp : Cmps cx h n i f p q G F cI) (K : HK)
    (hK : K (.tup 0 (cl [])) (hset h i ⟨m * 2, spotsC (siftDown lt hi first lo d).toList, true, own⟩) n) :
    CallE Tryz.prog cx 107 [.sl i 0 m cap, .int .i64 lo, .int .i64 hi, .int .i64 first, .fn f p G q F] h n K := by
  subst hm
  exact siftDown_E cx h n i cap d own lo hi first f p q G F cI lt hlt hs hi0 hb h2 hlo hm9 hF hcmp K hK
theorem Cmps.set {cx : Cx} {h : List (Nat × Seg)} {n i f p q : Nat} {G F : Nat → SV} {cI : Int × Int → Int × Int → Int} (hcmp : Cmps cx h n i f p q G F cI) (t : Seg) : Cmps cx (hset h i t) n i f p q G F cI :=
  fun a b nt n0 h' n' hn hb => hcmp a b nt n0 h' n' hn fun j hj hji u hu => hb j hj hji u (by rw [hget_hset, if_neg (Ne.symm hji)]; exact hu)
theorem Cmps.nt {cx : Cx} {h : List (Nat × Seg)} {n i f p q : Nat} {G F : Nat → SV} {cI : Int × Int → Int × Int → Int} (hcmp : Cmps cx h n i f p q G F cI) (t m : Nat) : Cmps ⟨cx.w0, cx.W, t, m⟩ h n i f p q G F cI :=
  fun a b nt n0 h' n' hn hb => hcmp a b nt n0 h' n' hn hb
set_option maxRecDepth 100000 in
set_option maxHeartbeats 1600000 in
theorem heapSort_E (i cap : Nat) (d : Array (Int × Int)) (own : Option (Nat × Nat)) (a b : Nat) (f p q : Nat) (G F : Nat → SV) (cI : Int × Int → Int × Int → Int) (lt : Int × Int → Int × Int → Bool) (hlt : ∀ x y, decide (cI x y < 0) = lt x y)
    (hs : hget h i = some ⟨d.size * 2, spotsC d.toList, true, own⟩) (hi0 : i < n) (hb : b ≤ d.size) (hab : a + 2 ≤ b) (hm9 : d.size ≤ 1000000000) (hF : (SV.fn f p G q F).lt n) (hcmp : Cmps cx h n i f p q G F cI) (K : HK)
    (hK : K (.tup 0 (cl [])) (hset h i ⟨d.size * 2, spotsC (heapSort lt d a b).toList, true, own⟩) n) :
    CallE Tryz.prog cx 95 [.sl i 0 d.size cap, .int .i64 a, .int .i64 b, .fn f p G q F] h n K := by
  refine CallE.to _ _ (by simp only [go_sem]) (fun hok => hok_set hok fun k hk => spotsC_flat _ _) hK ?_
  have hgi : ∀ t, hget (hset h i t) i = some t := hget_hset_self hs
  have hFl : (SV.fn f p G q F).lt n = True := eq_true hF
  refine callE_of_T (P := Tryz.prog) hti (nt := 60) (rs := []) rfl rfl Tryz.call95 Tryz.func95 rfl _ (by simp only [go_sem, and_self]) (Nat.le_of_ble_eq_true rfl) _ fun hok => ?_
  have W0 := w64N (a := (b : Int) - a) (k := b - a) (by omega) (by omega)
  have W1 := w64N (a := ((b - a : Nat) : Int) - 1) (k := b - a - 1) (by omega) (by omega)
  have W2 : IntKind.i64.wrap (((b - a - 1 : Nat) : Int).tdiv 2) = (((b - a - 1) / 2 + 1 : Nat) : Int) - 1 := by rw [Int.tdiv_eq_ediv_of_nonneg (by omega)]; rw [w64 (by omega)]; omega
  simp only [go_sem, Nat.reduceLT, Int.reduceEq, W0, W1, W2]
  refine T_lp (ι := { p : Nat × Array (Int × Int) // p.1 ≤ b - a ∧ p.2.size = d.size ∧ heapBuild lt (b - a) a p.1 p.2 = heapBuild lt (b - a) a ((b - a - 1) / 2 + 1) d })
    (fun w => ([(0, .sl i 0 d.size cap), (3, .fn f p G q F), (8, .int .i64 a), (9, .int .i64 0), (10, .int .i64 ((b - a : Nat) : Int)), (11, .int .i64 ((w.1.1 : Int) - 1))], hset h i ⟨d.size * 2, spotsC w.1.2.toList, true, own⟩, n)) (fun w => w.1.1) ⟨((b - a - 1) / 2 + 1, d), by show (b - a - 1) / 2 + 1 ≤ b - a; omega, rfl, rfl⟩ ?_ ?_
  · refine Imp.id (by simp) ?_ ?_
    · simp only [go_sem, Nat.reduceLT, hFl]
      exact hi0
    · rw [hset_self hs]; exact impH.base0 hok (by simp) HExt.rfl
  · rintro ⟨⟨k, D⟩, hk, hD, hO⟩
    simp only at hk hD hO
    cases k with
    | succ k =>
      have e1 : ((0 : Int) ≤ ((k + 1 : Nat) : Int) - 1) = True := eq_true (by omega)
      have e2 : ((k + 1 : Nat) : Int) - 1 = (k : Int) := by omega
      rw [heapBuild] at hO
      simp only [go_sem, Nat.reduceLT, e1, e2, show ((0 : Int) ≤ (k : Int)) = True from eq_true (by omega)]
      refine callA_false (siftDown_M _ _ _ i cap D d.size hD own k (b - a) a f p q G F cI lt hlt (hgi _) hi0 (by omega) (by omega) (by omega) hm9 hF ((hcmp.set _).nt _ _) _ ?_)
      simp only [go_sem, Nat.reduceLT, hset_hset]
      refine ⟨⟨(k, siftDown lt (b - a) a k D), by show k ≤ b - a; omega, (siftDown_size _ _ _ _ _ _ (Nat.le_refl _)).trans hD, hO⟩, by show k < k + 1; omega, ?_⟩
      refine Imp.id (by simp) ?_ ?_
      · simp only [go_sem, Nat.reduceLT, hFl, w64 (n := (k : Int) - 1) (by omega)]
        exact hi0
      · exact impH.base0 (hok_set hok fun k hk => spotsC_flat _ _) (by simp) HExt.rfl
    | zero =>
      rw [heapBuild] at hO
      simp only [go_sem, Nat.reduceLT, Int.reduceLE, Int.reduceNeg, Int.reduceSub, show ((0 : Int) ≤ ((0 : Nat) : Int) - 1) = False from eq_false (by omega), W1]
      refine T_lp (ι := { p : Nat × Array (Int × Int) // p.1 ≤ b - a ∧ p.2.size = d.size ∧ heapPop lt a p.1 p.2 = heapSort lt d a b })
        (fun w => ([(0, .sl i 0 d.size cap), (3, .fn f p G q F), (8, .int .i64 a), (9, .int .i64 0), (12, .int .i64 ((w.1.1 : Int) - 1))], hset h i ⟨d.size * 2, spotsC w.1.2.toList, true, own⟩, n)) (fun w => w.1.1) ⟨(b - a, D), Nat.le_refl _, hD, by rw [hO]; rfl⟩ ?_ ?_
      · refine Imp.id (by simp) ?_ ?_
        · simp only [go_sem, Nat.reduceLT, Int.reduceNeg, hFl, show ((b - a - 1 : Nat) : Int) = ((b - a : Nat) : Int) - 1 by omega]
          exact hi0
        · exact impH.base0 (hok_set hok fun k hk => spotsC_flat _ _) (by simp) HExt.rfl
      · rintro ⟨⟨k, E⟩, hk, hE, hP⟩
        simp only at hk hE hP
        cases k with
        | succ k =>
          have e2 : ((k + 1 : Nat) : Int) - 1 = (k : Int) := by omega
          have W3 := w64N (a := (a : Int) + (k : Int)) (k := a + k) (by omega) (by omega)
          have c0 : a < d.size := by omega
          have c1 : a + k < d.size := by omega
          have b6 : (2 = d.size * 2) = False := eq_false (by omega)
          rw [heapPop] at hP
          simp only [go_sem, Nat.reduceLT, e2, show ((0 : Int) ≤ (k : Int)) = True from eq_true (by omega)]
          refine T_drawG hti 20 [17, 19] (.b 0 0 (.b 0 1 (.b 0 2 (.b 0 3 (.b 0 4 (.b 0 5 (.b 0 6 (.b 0 7 (.b 0 8 (.b 0 9 (.b 0 10 (.b 0 11 (.b 0 12 (.b 0 13 (.b 0 14 (.b 0 15 (.b 0 16 (.b 4 17 (.b 0 18 (.b 4 19 (.f) .o) .o) .o) .o) .o) .o) .o) .o) .o) .o) .o) .o) .o) .o) .o) .o) .o) .o) .o) .o) _ _ (by kernel_rfl) (by kernel_rfl) ?_
          simp only [go_sem, Nat.reduceLT, hgi, hi0, W3, ix_r c0, ix_r c1, ix_b c0, ix_b c1, ix_c c0, ix_c c1, spotsC_x, spotsC_y, b6, and_false, if_false]
          rw [swap_fn E (a := a) (b := a + k) (by omega) (by omega)]
          have hsw : (swp E a (a + k)).size = d.size := (swp_size _ _ _).trans hE
          refine callA_false (siftDown_M _ _ _ i cap (swp E a (a + k)) d.size hsw own 0 k a f p q G F cI lt hlt (hgi _) hi0 (by omega) (by omega) (by omega) hm9 hF ((hcmp.set _).nt _ _) _ ?_)
          simp only [go_sem, Nat.reduceLT, hset_hset]
          refine ⟨⟨(k, siftDown lt k a 0 (swp E a (a + k))), by show k ≤ b - a; omega, (siftDown_size _ _ _ _ _ _ (Nat.le_refl _)).trans hsw, hP⟩, by show k < k + 1; omega, ?_⟩
          refine Imp.id (by simp) ?_ ?_
          · simp only [go_sem, Nat.reduceLT, hFl, w64 (n := (k : Int) - 1) (by omega)]
            exact hi0
          · exact impH.base0 (hok_set hok fun k hk => spotsC_flat _ _) (by simp) HExt.rfl
        | zero =>
          rw [heapPop] at hP
          simp only [go_sem, Nat.reduceLT, Int.reduceLE, Int.reduceNeg, Int.reduceSub, show ((0 : Int) ≤ ((0 : Nat) : Int) - 1) = False from eq_false (by omega)]
          rw [hP]
          exact HExt.rfl
end
end Go.Proofs.YtggpnfgohpifoaaGreat.V

/- The law's spots, and lists of spots that are alike. -/
namespace Go.Proofs.YtggpnfgohpifoaaGreat.V
section
variable (cx : Cx) (h : List (Nat × Seg)) (n : Nat)
end
end Go.Proofs.YtggpnfgohpifoaaGreat.V

/- The law's lists of spots that were made: compared, marked, looked at again. -/
namespace Go.Proofs.YtggpnfgohpifoaaGreat.V
/-- A list of spots that a call has made. -/
def SpsOut (h : List (Nat × Seg)) (lo n : Nat) (V : SV) (L : List (Int × Int)) : Prop :=
  (V = .nils ∧ L = []) ∨ ∃ i cap s, V = .sl i 0 L.length cap ∧ lo ≤ i ∧ i < n ∧ hget h i = some s ∧ s.rw = true ∧ s.n = L.length * 2 ∧ ∀ k, k < L.length * 2 → s.c k = spotsC L k
theorem SpsOut.ok {h : List (Nat × Seg)} {lo n : Nat} {V : SV} {L : List (Int × Int)} (hA : SpsOut h lo n V L) : V.ok = True := by
  rcases hA with ⟨rfl, rfl⟩ | ⟨i, cap, s, rfl, _⟩ <;> rfl
theorem SpsOut.mono {h h' : List (Nat × Seg)} {lo n n' : Nat} {V : SV} {L : List (Int × Int)} (hA : SpsOut h lo n V L) (hn : n ≤ n') (hx : ∀ i, lo ≤ i → i < n → ∀ t, hget h i = some t → hget h' i = some t) : SpsOut h' lo n' V L := by
  rcases hA with h1 | ⟨i, cap, s, rfl, h1, h2, h3, h4⟩
  · exact .inl h1
  · exact .inr ⟨i, cap, s, rfl, h1, by omega, hx i h1 h2 s h3, h4⟩
theorem SpsOut.ext {h h' : List (Nat × Seg)} {lo n n' : Nat} {V : SV} {L : List (Int × Int)} (hA : SpsOut h lo n V L) (hn : n ≤ n') (hx : HExt n h h') : SpsOut h' lo n' V L := hA.mono hn fun i _ hi => hx i hi
theorem SpsOut.mono' {h : List (Nat × Seg)} {lo lo' n : Nat} {V : SV} {L : List (Int × Int)} (hA : SpsOut h lo n V L) (hl : lo' ≤ lo) : SpsOut h lo' n V L := by
  rcases hA with h1 | ⟨i, cap, s, rfl, h1, h2⟩
  · exact .inl h1
  · exact .inr ⟨i, cap, s, rfl, by omega, h2⟩
/-- Spots that were marked. -/
def SpsHeld (h : List (Nat × Seg)) (lo n : Nat) (V : SV) (len : Nat) : Prop :=
  (V = .nils ∧ len = 0) ∨ ∃ i cap s, V = .sl i 0 len cap ∧ lo ≤ i ∧ i < n ∧ hget h i = some s ∧ s.n = len * 2 ∧ ∀ k : Nat, k < len → s.c (k * 2) = .int .i8 (IntKind.i8.wrap (2 * (k : Int) + 1)) ∧ s.c (k * 2 + 1) = .int .i8 (IntKind.i8.wrap (2 * (k : Int) + 1 + 1))
theorem SpsHeld.ext {h h' : List (Nat × Seg)} {lo n n' : Nat} {V : SV} {len : Nat} (hA : SpsHeld h lo n V len) (hn : n ≤ n') (hx : HExt n h h') : SpsHeld h' lo n' V len := by
  rcases hA with h1 | ⟨i, cap, s, rfl, h1, h2, h3, h4⟩
  · exact .inl h1
  · exact .inr ⟨i, cap, s, rfl, h1, by omega, hx i h2 s h3, h4⟩
section
variable (cx : Cx) (h : List (Nat × Seg)) (n : Nat)
end
end Go.Proofs.YtggpnfgohpifoaaGreat.V

/- What is stained: the program's own walk. -/
namespace Go.Proofs.YtggpnfgohpifoaaGreat.V

theorem drop_good {S : Sh} {x y ink amount water : Int} (hG : Good S) (ha : 0 ≤ amount ∧ amount ≤ 1000) (hw : 0 ≤ water ∧ water ≤ 200) : Good (S.drop x y ink amount water) :=
  ⟨hG.small, fun y' x' a b c d => by
    show 0 ≤ (if y' = y ∧ x' = x then water else S.wet y' x') ∧ (if y' = y ∧ x' = x then water else S.wet y' x') ≤ 200
    split
    · exact hw
    · exact hG.wet y' x' a b c d, fun y' x' i' a b c d e f => by
    show 0 ≤ (if y' = y ∧ x' = x ∧ i' = ink then amount else S.dye y' x' i') ∧ (if y' = y ∧ x' = x ∧ i' = ink then amount else S.dye y' x' i') ≤ 1000
    split
    · exact ha
    · exact hG.dye y' x' i' a b c d e f⟩
theorem dropD_blank {S : Sh} {x y ink amount water : Int} (hw : waxB S x y = false) (h1 : S.wet y x = 0) (h2 : S.dye y x ink = 0) (ha : amount ≤ 1000) (hwa : water ≤ 200) : dropC S x y ink amount water = 0 ∧ dropD S x y ink amount water = S.drop x y ink amount water := by
  have e : dropC S x y ink amount water = 0 := by
    unfold dropC
    rw [if_neg (by rw [hw]; simp), if_neg (by rw [h1, h2]; omega)]
  refine ⟨e, ?_⟩
  unfold dropD Sh.drop
  rw [if_pos e, h1, h2, Int.zero_add, Int.zero_add]
section
variable (cx : Cx) (h : List (Nat × Seg)) (n : Nat)
theorem runC_E (i : Nat) (S : Sh) (W H : Nat) (hs : hget h i = some (shS S)) (hi : i < n) (hR : ShR S) (hG : Good S) (hW : S.wide = W) (hH : S.high = H) (K : HK)
    (hK : ShR (runS S W H).1 → K (.int .i64 (runS S W H).2) (hset h i (shS (runS S W H).1)) n) : CallE Tryz.prog cx 79 [.ptr i 0] h n K := by
  refine (run_E cx h n i 0 (shS S) S W H hs hi rfl (shAt_shC hR) hG hW hH (fun r' h' n' => r' = .int .i64 (runS S W H).2 ∧ n' = n ∧ ∃ c', ShAt ⟨266, c', true, none⟩ 0 (runS S W H).1 ∧ h' = hset h i ⟨266, c', true, none⟩) (fun c' hc' _ => ⟨rfl, rfl, c', hc', rfl⟩)).imp0 ?_
  rintro hok r' h1 n1 ⟨rfl, rfl, c', hS, rfl⟩
  have hF : ShF c' (runS S W H).1 := by simpa using hS.2
  exact ⟨_, hset h i (shS (runS S W H).1), n1, Nat.le_refl _, by rw [ren_nil], (show (SV.int .i64 (runS S W H).2).lt n1 from trivial), impH.set0 hok (Nat.le_refl _) hs (HBut.set i n1 h _) (hget_hset_self hs _) (SegLe.flat (Nat.le_refl _) id (.inr rfl) fun k hk => ⟨hF.eqC hk, shC_flat _ k⟩), hK hF.R⟩
theorem runUntil_E (i : Nat) (S : Sh) (W H : Nat) (hs : hget h i = some (shS S)) (hi : i < n) (hR : ShR S) (hG : Good S) (hW : S.wide = W) (hH : S.high = H) (K : HK)
    (hK : K (.tup 2 (cl [.int .i64 (untilN W H 500 0 S).2.1, .int .i64 (if (untilN W H 500 0 S).2.2 then 0 else 7)])) (hset h i (shS (untilN W H 500 0 S).1)) n) : CallE Tryz.prog cx 59 [.ptr i 0] h n K := by
  refine CallE.to _ _ (by simp only [go_sem]) (fun hok => hok_set hok fun k hk => shC_flat _ _) hK ?_
  refine callE_of_T (P := Tryz.prog) hti (nt := 13) (rs := [.tmp 2, .tmp 3]) rfl rfl Tryz.call59 Tryz.func59 rfl _ (by simp only [go_sem, and_self]) (Nat.le_of_ble_eq_true rfl) _ fun hok => ?_
  simp only [go_sem, Nat.reduceLT]
  refine T_lp (ι := { p : Nat × Sh // p.1 ≤ 500 ∧ ShR p.2 ∧ Good p.2 ∧ p.2.wide = W ∧ p.2.high = H ∧ untilN W H (500 - p.1) p.1 p.2 = untilN W H 500 0 S })
    (fun p => ([(0, .ptr i 0), (4, .int .i64 p.1.1)], hset h i (shS p.1.2), n)) (fun p => 500 - p.1.1) ⟨(0, S), by simp, hR, hG, hW, hH, rfl⟩ ?_ ?_
  · refine Imp.id (by simp) ?_ ?_
    · simp only [go_sem, Nat.reduceLT]
      exact hi
    · rw [hset_self hs]; exact impH.base0 hok (by simp) HExt.rfl
  · rintro ⟨⟨k, S1⟩, hk, hR1, hG1, hW1, hH1, he⟩
    simp only at hk hR1 hG1 hW1 hH1 he
    simp only [go_sem, Nat.reduceLT]
    refine callA_false (runC_E _ _ _ i S1 W H (hget_hset_self hs _) (by omega) hR1 hG1 hW1 hH1 _ fun hR2 => ?_)
    obtain ⟨g1, g2, g3, g4⟩ := runS_good hG1 hW1 hH1
    by_cases h0 : (runS S1 W H).2 = 0
    · rw [untilN_stop h0] at he
      have hst := runS_still h0
      simp only [go_sem, Nat.reduceLT, h0, ← he, hst, if_true]
    · by_cases h5 : k = 500
      · subst h5
        rw [Nat.sub_self, untilN_end h0] at he
        simp only [go_sem, Nat.reduceLT, Nat.reduceSub, reduceIte, h0, ← he]
      · have hk5 : ¬ ((k : Int) = 500) := by omega
        rw [show 500 - k = (500 - (k + 1)) + 1 by omega, untilN_next h0] at he
        simp only [go_sem, Nat.reduceLT, h0, hk5]
        refine ⟨⟨(k + 1, (runS S1 W H).1), by show k + 1 ≤ 500; omega, hR2, g1, g2.wide.trans hW1, g2.high.trans hH1, he⟩, by show 500 - (k + 1) < 500 - k; omega, ?_⟩
        refine Imp.id (by simp) ?_ ?_
        · simp only [go_sem, Nat.reduceLT, w64 (n := (k : Int) + 1) (by omega), Int.natCast_add, Int.natCast_one]
          exact hi
        · exact impH.base0 (hok_set hok fun k hk => shC_flat _ _) (by simp) HExt.rfl
theorem stained_Q (S : Sh) (W H : Nat) (x y ink amount water : Int) (hR : ShR S) (hG : Good S) (hW : S.wide = W) (hH : S.high = H) (hx : 0 ≤ x) (hx8 : x < 8) (hy : 0 ≤ y) (hy8 : y < 8)
    (hk0 : 0 ≤ ink) (hk3 : ink < 3) (ha : 0 ≤ amount ∧ amount ≤ 1000) (hw : 0 ≤ water ∧ water ≤ 200) (hwx : waxB S x y = false) (h1 : S.wet y x = 0) (h2 : S.dye y x ink = 0) :
    CallQ Tryz.prog cx 28 [.agg 266 (shC S), spot x y, .int .i64 ink, .int .i64 amount, .int .i64 water] h n
      (.tup 2 (cl [.agg 266 (shC (untilN W H 500 0 (S.drop x y ink amount water)).1), .int .i64 (if (untilN W H 500 0 (S.drop x y ink amount water)).2.2 then 0 else 7)])) := by
  obtain ⟨e1, e2⟩ := dropD_blank (amount := amount) (water := water) hwx h1 h2 ha.2 hw.2
  have hGd := drop_good (x := x) (y := y) (ink := ink) hG ha hw
  have hRd : ShR (S.drop x y ink amount water) := (hR.setWet (by omega)).setDye (by omega)
  refine callQ_of_T (P := Tryz.prog) hti (nt := 25) (rs := [.cell 10 33, .tmp 11]) rfl rfl Tryz.call28 Tryz.func28 rfl _ (by simp only [go_sem, and_self]) (Nat.le_of_ble_eq_true rfl) _ (by first | exact trivial | (refine lt_flat rfl ?_; simp [SV.flat]; done) | simp only [go_sem]) fun hok => ?_
  simp only [go_sem, Nat.reduceLT]
  refine callA_false (drop_E _ _ _ n S x y ink amount water (by simp only [go_sem]) (by omega) hR hG hx hx8 hy hy8 hk0 hk3 ha hw _ ?_)
  rw [e1, e2]
  simp only [go_sem, Nat.reduceLT]
  refine callA_false (runUntil_E _ _ _ n (S.drop x y ink amount water) W H (by simp only [go_sem]) (by omega) hRd hGd hW hH _ ?_)
  simp only [go_sem, Nat.reduceLT, reduceIte]
/-- A function that is asked of a spot. -/
def Asks (cx : Cx) (h : List (Nat × Seg)) (n f a b : Nat) (G F : Nat → SV) (x y : Int) (q : Bool) : Prop :=
  ∀ nt n0 h' n', n ≤ n' → HExt n h h' → CallQ Tryz.prog ⟨cx.w0, cx.W, nt, n0⟩ f (lst a G ++ [spot x y] ++ lst b F) h' n' (.bool q)
theorem that1_Q (iv : Nat) (f a b : Nat) (G F : Nat → SV) (x y : Int) (q : Bool) (hv : hget h iv = some ⟨1, cl [.fn f a G b F], true, none⟩) (hi : iv < n) (hq : Asks cx h n f a b G F x y q) :
    CallQ Tryz.prog cx 62 [spot x y, .ptr iv 0] h n (.bool !q) := by
  refine callQ_of_T (P := Tryz.prog) hti (nt := 8) (rs := [.tmp 3]) rfl rfl Tryz.call62 Tryz.func62 rfl _ (by simp only [go_sem, and_self]) (Nat.le_of_ble_eq_true rfl) _ (by first | exact trivial | (refine lt_flat rfl ?_; simp [SV.flat]; done) | simp only [go_sem]) fun hok => ?_
  simp only [go_sem, Nat.reduceLT, hv, hi]
  refine CallQ.A (hq _ _ _ _ (by omega) (by simp only [go_sem, HExt_cons])) ?_
  simp only [go_sem, Nat.reduceLT]
end
end Go.Proofs.YtggpnfgohpifoaaGreat.V

/- StainOf by the program's own code: the walk. -/
namespace Go.Proofs.YtggpnfgohpifoaaGreat.V
theorem valid_sides {S : Sh} (hs : Small S) : S.wide = (S.wide.toNat : Int) ∧ S.high = (S.high.toNat : Int) ∧ S.wide.toNat ≤ 8 ∧ S.high.toNat ≤ 8 := by
  unfold Small at hs; omega
section
variable (cx : Cx) (h : List (Nat × Seg)) (n : Nat)
theorem stain1_Q (iv : Nat) (S : Sh) (x y : Int) (hv : hget h iv = some (shS S)) (hi : iv < n) (hR : ShR S) (hG : Good S) (hx : 0 ≤ x) (hx8 : x < 8) (hy : 0 ≤ y) (hy8 : y < 8) :
    CallQ Tryz.prog cx 30 [spot x y, .ptr iv 0] h n (.bool (decide (1 ≤ darkB S x y))) := by
  refine callQ_of_T (P := Tryz.prog) hti (nt := 7) (rs := [.tmp 3]) rfl rfl Tryz.call30 Tryz.func30 rfl _ (by simp only [go_sem, and_self]) (Nat.le_of_ble_eq_true rfl) _ (by first | exact trivial | (refine lt_flat rfl ?_; simp [SV.flat]; done) | simp only [go_sem]) fun hok => ?_
  simp only [go_sem, Nat.reduceLT]
  refine (dark_Q _ _ _ iv 0 _ S x y (by simp only [go_sem, hv, hi]) (by omega) (shAt_shC hR) hG hx hx8 hy hy8).A ?_
  simp only [go_sem, Nat.reduceLT]
  congr 1
theorem that_E (i : Nat) (S : Sh) (W H : Nat) (hs : hget h i = some (shS S)) (hi : i < n) (hR : ShR S) (hW : S.wide = W) (hH : S.high = H) (hW8 : W ≤ 8) (hH8 : H ≤ 8) (f a b : Nat) (G F : Nat → SV) (hfl : (SV.fn f a G b F).lt n) (p : Int → Int → Bool)
    (hp : ∀ j, j < H * W → Asks cx h n f a b G F ((j % W : Nat) : Int) ((j / W : Nat) : Int) (p ((j % W : Nat) : Int) ((j / W : Nat) : Int))) (K : HK)
    (hK : ∀ V h' n', n ≤ n' → HExt n h h' → HOk n' h' → SpsOut h' n n' V ((cellsL W H).filter fun a => p a.1 a.2) → K V h' n') :
    CallE Tryz.prog cx 29 [.ptr i 0, .fn f a G b F] h n K := by
  have hWH : H * W ≤ 64 := Nat.mul_le_mul hH8 hW8
  refine CallE.hokE ?_
  refine callE_of_T (P := Tryz.prog) hti (nt := 9) (rs := [.tmp 4]) rfl rfl Tryz.call29 Tryz.func29 rfl _ (by simp only [go_sem, and_self]) (Nat.le_of_ble_eq_true rfl) _ fun hok => ?_
  simp only [go_sem, Nat.reduceLT]
  refine callA_false (cells_E _ _ _ i 0 _ S W H (by simp only [go_sem, hs, hi]) (by omega) (shAt_shC hR) hW hH hW8 hH8 _ fun cap hc1 hc2 => ?_)
  simp only [go_sem, Nat.reduceLT]
  obtain ⟨r, r0, r1⟩ := fst_ex (fun x y => !p x y) (cellsL W H) (H * W)
  refine callA_false (deleteFunc_E _ _ _ (n + 1) (H * W) cap (cellsL W H) _ _ _ _ _ _ (fun x y => !p x y) r (hget_hit _ _ _) (by omega) (cellsL_len W H) (by omega) hc1 rfl rfl (fun k hk => cellsL_cells W H k hk) ?_ r0 r1 (fun j hj nt n0 h' n' hn hb => ?_) _ fun own => ?_)
  · exact fn_lt (xs := []) (ys := [.ptr n 0]) (fun v hv => by cases hv) (fun v hv => by simp at hv; subst hv; show n < _; omega)
  · rw [cellsL_get W H j hj]
    have hx' : HExt n h h' := fun k hk t ht => hb k (by omega) (by omega) t (by simp only [hget]; rw [if_neg (by omega), if_neg (by omega)]; exact ht)
    exact that1_Q _ h' n' n f a b G F _ _ _ (hb n (by omega) (by omega) _ (by simp [hget])) (by omega) fun nt1 n1 h1 n1' hn1 hx1 => hp j hj nt1 n1 h1 n1' (by omega) (hx'.tr hx1 (by omega))
  · simp only [go_sem, Nat.reduceLT]
    simp only [Bool.not_not]
    exact fun hok' => hK _ _ _ (by omega) (by simp only [go_sem, HExt_cons]) hok' (.inr ⟨n + 1, cap, _, rfl, by omega, by omega, hget_hit _ _ _, rfl, rfl, fun k hk => rfl⟩)
theorem codeI_bad {S : Sh} {b : Bool} (h : ¬ Valid S) : codeI S b = 1 := by simp [codeI, validB_false h]
theorem codeI_ok {S : Sh} {b : Bool} (h : Valid S) : codeI S b = if b then 0 else 2 := by simp [codeI, validB_true h]
def dropB (S : Sh) (x y ink amount water : Int) : Bool := hasB S x y && decide (0 ≤ ink ∧ ink ≤ 2) && decide (0 ≤ amount ∧ amount ≤ 1000) && decide (0 ≤ water ∧ water ≤ 200)
theorem dropB_iff {S : Sh} {x y ink amount water : Int} : dropB S x y ink amount water = true ↔ hasB S x y = true ∧ (0 ≤ ink ∧ ink ≤ 2) ∧ (0 ≤ amount ∧ amount ≤ 1000) ∧ (0 ≤ water ∧ water ≤ 200) := by
  simp only [dropB, Bool.and_eq_true, decide_eq_true_eq, and_assoc]
theorem stainR_bad {S : Sh} {x y ink amount water : Int} (h : ¬ Valid S) : stainR S x y ink amount water = ([], 1) := by unfold stainR; rw [if_neg h]
theorem stainR_range {S : Sh} {x y ink amount water : Int} (h : Valid S) (h2 : ¬ dropB S x y ink amount water = true) : stainR S x y ink amount water = ([], 2) := by
  rw [dropB_iff] at h2; unfold stainR; rw [if_pos h, if_neg h2]
theorem stainR_state {S : Sh} {x y ink amount water : Int} (h : Valid S) (h2 : dropB S x y ink amount water = true) (h3 : ¬ (Blank S S.wide.toNat S.high.toNat ∧ waxB S x y = false)) : stainR S x y ink amount water = ([], 4) := by
  rw [dropB_iff] at h2; unfold stainR; rw [if_pos h, if_pos h2, if_neg h3]
theorem stainR_run {S : Sh} {x y ink amount water : Int} (h : Valid S) (h2 : dropB S x y ink amount water = true) (h3 : Blank S S.wide.toNat S.high.toNat ∧ waxB S x y = false) :
    stainR S x y ink amount water = if (untilN S.wide.toNat S.high.toNat 500 0 (S.drop x y ink amount water)).2.2 then (dyedL (untilN S.wide.toNat S.high.toNat 500 0 (S.drop x y ink amount water)).1 S.wide.toNat S.high.toNat 1, 0) else ([], 7) := by
  rw [dropB_iff] at h2; unfold stainR; rw [if_pos h, if_pos h2, if_pos h3]
theorem stain_E (S : Sh) (x y ink amount water : Int) (hR : ShR S) (K : HK)
    (hK : ∀ V h' n', n ≤ n' → HExt n h h' → HOk n' h' → SpsOut h' n n' V (stainR S x y ink amount water).1 → K (.tup 2 (cl [V, .int .i64 (stainR S x y ink amount water).2])) h' n') :
    CallE Tryz.prog cx 8 [.agg 266 (shC S), spot x y, .int .i64 ink, .int .i64 amount, .int .i64 water] h n K := by
  refine CallE.hokE ?_
  have bad : ∀ (c : Int) (h' : List (Nat × Seg)) (n' : Nat), stainR S x y ink amount water = ([], c) → n ≤ n' → HExt n h h' → HOk n' h' → K (.tup 2 (cl [.nils, .int .i64 c])) h' n' := fun c h' n' e hn' hx hok' => by
    have := hK .nils h' n' hn' hx hok' (by rw [e]; exact .inl ⟨rfl, rfl⟩)
    rw [e] at this; exact this
  refine callE_of_T (P := Tryz.prog) hti (nt := 47) (rs := [.tmp 10, .tmp 11]) rfl rfl Tryz.call8 Tryz.func8 rfl _ (by simp only [go_sem, and_self]) (Nat.le_of_ble_eq_true rfl) _ fun hok => ?_
  simp only [go_sem, Nat.reduceLT]
  refine (isDrop_Q _ _ _ n S x y ink amount water (by simp only [go_sem]) (by omega) hR).A ?_
  simp only [go_sem, Nat.reduceLT]
  refine (code_Q _ _ _ n 0 _ S (dropB S x y ink amount water) (by simp only [go_sem]) (by omega) (shAt_shC hR)).A ?_
  by_cases hV : Valid S
  rotate_left
  · simp only [go_sem, Nat.reduceLT, Int.reduceEq, codeI_bad hV]
    exact fun hok' => bad 1 _ _ (stainR_bad hV) (by omega) (by simp only [go_sem, HExt_cons]) hok'
  obtain ⟨hW, hH, hW8, hH8⟩ := valid_sides hV.1
  by_cases hd : dropB S x y ink amount water = true
  rotate_left
  · simp only [go_sem, Nat.reduceLT, reduceIte, Int.reduceEq, codeI_ok hV, hd]
    exact fun hok' => bad 2 _ _ (stainR_range hV hd) (by omega) (by simp only [go_sem, HExt_cons]) hok'
  obtain ⟨hh, hk, ha, hw⟩ := dropB_iff.1 hd
  obtain ⟨x0, x8, y0, y8⟩ := hasB_in hV.1 hh
  simp only [go_sem, Nat.reduceLT, reduceIte, codeI_ok hV, hd]
  refine (isBlank_Q _ _ _ n S _ _ (by simp only [go_sem]) (by omega) hR hV.good hW hH).A ?_
  by_cases hB : Blank S S.wide.toNat S.high.toNat
  rotate_left
  · simp only [go_sem, Nat.reduceLT, Int.reduceEq, blankB_f hB]
    exact fun hok' => bad 4 _ _ (stainR_state hV hd fun h => hB h.1) (by omega) (by simp only [go_sem, HExt_cons]) hok'
  simp only [go_sem, Nat.reduceLT, blankB_t hB]
  refine (waxed_Q _ _ _ n 0 _ S x y (by simp only [go_sem]) (by omega) (shAt_shC hR) x0 y0 y8).A ?_
  by_cases hwx : waxB S x y = true
  · simp only [go_sem, Nat.reduceLT, Int.reduceEq, hwx]
    exact fun hok' => bad 4 _ _ (stainR_state hV hd fun h => by rw [hwx] at h; cases h.2) (by omega) (by simp only [go_sem, HExt_cons]) hok'
  have hwf : waxB S x y = false := by simpa using hwx
  simp only [go_sem, Nat.reduceLT, hwf]
  refine (stained_Q _ _ _ S _ _ x y ink amount water hR hV.good hW hH x0 x8 y0 y8 hk.1 (by omega) ha hw hwf (hB.wet hV.good hW hH hh) (hB.dye hV.good hW hH hh hk.1 (by omega))).A ?_
  have hGd := drop_good (x := x) (y := y) (ink := ink) hV.good ha hw
  obtain ⟨u1, u2, u3⟩ := untilN_good (W := S.wide.toNat) (H := S.high.toNat) 500 0 (S.drop x y ink amount water) hGd hW hH
  have hr := stainR_run hV hd ⟨hB, hwf⟩
  have uR : ShR (untilN S.wide.toNat S.high.toNat 500 0 (S.drop x y ink amount water)).1 := untilN_R 500 0 _ ((hR.setWet (by omega)).setDye (by omega))
  generalize hU : untilN S.wide.toNat S.high.toNat 500 0 (S.drop x y ink amount water) = U at *
  by_cases hu : U.2.2 = true
  rotate_left
  · rw [if_neg hu] at hr
    simp only [go_sem, Nat.reduceLT, reduceIte, Int.reduceEq, hu]
    exact fun hok' => bad 7 _ _ hr (by omega) (by simp only [go_sem, HExt_cons]) hok'
  rw [if_pos hu] at hr
  simp only [go_sem, Nat.reduceLT, reduceIte, hu]
  refine callA_false (that_E _ _ _ (n + 2) U.1 _ _ (by simp only [go_sem]) (by omega) uR (u2.wide.trans hW) (u2.high.trans hH) hW8 hH8 _ _ _ _ _ ?_ (fun x y => decide (1 ≤ darkB U.1 x y)) (fun j hj nt n0 h' n' hn hx => ?_) _ fun V h' n' hn' hx' hok' hV' => ?_)
  · exact fn_lt (xs := []) (ys := [.ptr (n + 2) 0]) (fun v hv => by cases hv) (fun v hv => by simp at hv; subst hv; show n + 2 < _; omega)
  · obtain ⟨a0, a8, b0, b8⟩ := cell_in u1.small (u2.wide.trans hW) (u2.high.trans hH) hj
    exact stain1_Q _ h' n' (n + 2) U.1 _ _ (hx (n + 2) (by omega) _ (by simp only [go_sem])) (by omega) uR u1 a0 a8 b0 b8
  · simp only [go_sem, Nat.reduceLT, hV'.ok]
    intro hok2
    have := hK V h' n' (by omega) (HExt.tr (m' := n + 3) (by simp only [go_sem, HExt_cons]) hx' (by omega)) hok2 (by rw [hr]; exact hV'.mono' (by omega))
    rw [hr] at this
    exact this
end
end Go.Proofs.YtggpnfgohpifoaaGreat.V

/- What is stained, by the reference: sums of dyes, running until nothing is given, cells with dye. -/
namespace Go.Proofs.YtggpnfgohpifoaaGreat.V
theorem dye8_in {S : Sh} (hG : Good S) {i : Int} (h0 : 0 ≤ i) (h3 : i < 3) (j : Nat) (hj : j ≤ 64) : 0 ≤ dyeN S 8 i j ∧ dyeN S 8 i j ≤ 1000 * j :=
  sumN_in j fun k hk => hG.dye _ _ _ (by omega) (by omega) (by omega) (by omega) h0 h3
theorem dye8_next (S : Sh) (i : Int) {y x : Nat} (hx : x < 8) : dyeN S 8 i (y * 8 + (x + 1)) = dyeN S 8 i (y * 8 + x) + S.dye y x i := by
  show sumN _ (y * 8 + x) + dyeAt S 8 i (y * 8 + x) = _
  unfold dyeAt
  rw [show (y * 8 + x) / 8 = y by omega, show (y * 8 + x) % 8 = x by omega]; rfl
section
variable (cx : Cx) (h : List (Nat × Seg)) (n : Nat)
theorem ink2_Q (ink : Int) : CallQ Tryz.prog cx 33 [.int .i64 ink] h n (.bool (decide (0 ≤ ink ∧ ink ≤ 2))) := by
  refine callQ_of_T (P := Tryz.prog) hti (nt := 5) (rs := [.tmp 2]) rfl rfl Tryz.call33 Tryz.func33 rfl _ (by simp only [go_sem, and_self]) (Nat.le_of_ble_eq_true rfl) _ (by first | exact trivial | (refine lt_flat rfl ?_; simp [SV.flat]; done) | simp only [go_sem]) fun hok => ?_
  simp only [go_sem, Nat.reduceLT]
  refine (in_Q _ _ _ _ _ _).A ?_
  simp only [go_sem, Nat.reduceLT]
theorem dark2_Q (i : Nat) (S : Sh) (x y : Int) (hs : hget h i = some (shS S)) (hi : i < n) (hG : Good S) (hx : 0 ≤ x) (hx8 : x < 8) (hy : 0 ≤ y) (hy8 : y < 8) :
    CallQ Tryz.prog cx 67 [.ptr i 0, spot x y] h n (.int .i64 (darkB S x y)) := by
  have h0 := hG.dye y x 0 hy hy8 hx hx8 (by omega) (by omega)
  have h1 := hG.dye y x 1 hy hy8 hx hx8 (by omega) (by omega)
  have h2 := hG.dye y x 2 hy hy8 hx hx8 (by omega) (by omega)
  refine callQ_of_T (P := Tryz.prog) hti (nt := 27) (rs := [.tmp 4]) rfl rfl Tryz.call67 Tryz.func67 rfl _ (by simp only [go_sem, and_self]) (Nat.le_of_ble_eq_true rfl) _ (by first | exact trivial | (refine lt_flat rfl ?_; simp [SV.flat]; done) | simp only [go_sem]) fun hok => ?_
  simp only [go_sem, Nat.reduceLT]
  refine T_drawG hti 12 [11] (.b 0 0 (.b 0 1 (.b 0 2 (.b 0 3 (.b 0 4 (.b 0 5 (.b 0 6 (.b 0 7 (.b 0 8 (.b 0 9 (.b 2 10 (.b 4 11 (.f) .o) .o) .o) .o) .o) .o) .o) .o) .o) .o) .o) .o) _ _ (by kernel_rfl) (by kernel_rfl) ?_
  simp only [go_sem, Nat.reduceLT, Nat.reduceLeDiff, Int.reduceToNat, reduceIte, reduceCtorEq, Int.reduceLE, Int.reduceLT, hs, hi, hx, hx8, hy, hy8, w64 (n := S.dye y x 0) (by omega), w64 (n := S.dye y x 1) (by omega), w64 (n := S.dye y x 2) (by omega), w64 (n := S.dye y x 0 + S.dye y x 1) (by omega), w64 (n := S.dye y x 0 + S.dye y x 1 + S.dye y x 2) (by omega)]
  rfl
theorem asked2_Q (i : Nat) (S : Sh) (x y : Int) (b : Bool) (hs : hget h i = some (shS S)) (hi : i < n) (hR : ShR S) (hx : -128 ≤ x ∧ x < 128) (hy : -128 ≤ y ∧ y < 128) :
    CallQ Tryz.prog cx 32 [.ptr i 0, spot x y, .bool b] h n (.int .i64 (codeI S (hasB S x y && b))) := by
  refine callQ_of_T (P := Tryz.prog) hti (nt := 18) (rs := [.tmp 6]) rfl rfl Tryz.call32 Tryz.func32 rfl _ (by simp only [go_sem, and_self]) (Nat.le_of_ble_eq_true rfl) _ (by first | exact trivial | (refine lt_flat rfl ?_; simp [SV.flat]; done) | simp only [go_sem]) fun hok => ?_
  simp only [go_sem, Nat.reduceLT]
  refine (ok2_Q _ _ _ i 0 _ S (by simp only [go_sem, hs, hi]) (by omega) (shAt_shC hR)).A ?_
  by_cases hV : Valid S
  rotate_left
  · simp only [go_sem, Nat.reduceLT, validB_false hV, codeI_bad hV]
  simp only [go_sem, Nat.reduceLT, validB_true hV, codeI_ok hV]
  refine (is_Q _ _ _ i 0 _ S x y (by simp only [go_sem, hs, hi]) (by omega) (shAt_shC hR) hx hy).A ?_
  by_cases hh : hasB S x y = true
  · cases b <;> simp only [go_sem, Nat.reduceLT, reduceIte, hh, Bool.true_and]
  · simp only [go_sem, Nat.reduceLT, reduceIte, hh, Bool.false_and]
theorem sums2_Q (i : Nat) (S : Sh) (hs : hget h i = some (shS S)) (hi : i < n) (hG : Good S) :
    CallQ Tryz.prog cx 35 [.ptr i 0] h n (.agg 3 (cl [.int .i64 (dyeN S 8 0 64), .int .i64 (dyeN S 8 1 64), .int .i64 (dyeN S 8 2 64)])) := by
  refine callQ_of_T (P := Tryz.prog) hti (nt := 37) (rs := [.cell 2 66]) rfl rfl Tryz.call35 Tryz.func35 rfl _ (by simp only [go_sem, and_self]) (Nat.le_of_ble_eq_true rfl) _ (by first | exact trivial | (refine lt_flat rfl ?_; simp [SV.flat]; done) | simp only [go_sem]) fun hok => ?_
  simp only [go_sem, Nat.reduceLT, reduceIte]
  refine T_lp (ι := { y : Nat // y ≤ 8 }) (fun y => ([(0, .ptr i 0), (2, .ptr n 0), (3, .ptr (n + 1) 0), (4, .int .i64 y.1)], (n + 1, ⟨3, cl [.int .i64 (dyeN S 8 0 (y.1 * 8)), .int .i64 (dyeN S 8 1 (y.1 * 8)), .int .i64 (dyeN S 8 2 (y.1 * 8))], true, none⟩) :: (n, ⟨3, cl [.int .i64 0, .int .i64 0, .int .i64 0], true, none⟩) :: h, n + 2)) (fun y => 8 - y.1) ⟨0, by omega⟩ ?_ ?_
  · refine Imp.id (by simp) ?_ ?_
    · simp only [go_sem, Nat.reduceLT]
      omega
    · (repeat (refine impH.cons0 (by first | (simp only [go_sem, hget_hset_self]; done) | (simp only [go_sem, hget_hset_self]; rfl)) (by simp) ?_ ?_; · exact SegLe.flat (Nat.le_refl _) id (by first | exact .inr rfl | exact .inl rfl) fun z hz => ⟨by first | rfl | exact dC_zero hz | exact dC_cl (by rfl) (by rfl) (by rfl) hz, by first | exact shC_flat _ _ | exact brC_flat _ hz | exact pair_flat _ _ hz | exact cellC_flat _ _ | exact dC_flat _ _ | exact stC_flat _ _ | exact cl_flat (l := [_, _, _, _, _]) (by simp [SV.flat]) hz | exact cl_flat (l := [_, _, _]) (by simp [SV.flat]) hz | trivial⟩)); exact impH.base0 (by first | exact hok | exact hok_set hok (fun k hk => stC_flat _ _) | exact hok_set hok (fun k hk => shC_flat _ _)) (by simp) (by first | (simp only [go_sem, HExt_cons]; done) | (simp only [go_sem, Nat.reduceBEq, Nat.reduceLT, Nat.reduceLeDiff, Nat.reduceAdd, Nat.reduceMul, Nat.reduceSub, Nat.reduceMod, Nat.reduceDiv, Nat.reduceEqDiff, Int.reduceToNat, reduceIte, reduceCtorEq, Int.reduceLE, Int.reduceLT, Int.reduceEq, Int.reduceNeg, Int.reduceAdd, Int.reduceSub, Int.reduceMul, HExt_cons]; exact HExt.rfl))
  · rintro ⟨y, hy⟩
    simp only [go_sem, Nat.reduceLT, reduceIte, decide_eq_true_eq, decide_eq_false_iff_not]
    refine ⟨fun h1 => ?_, fun h1 => ?_⟩
    · refine T_lp (ι := { x : Nat // x ≤ 8 }) (fun x => ([(0, .ptr i 0), (2, .ptr n 0), (3, .ptr (n + 1) 0), (4, .int .i64 y), (5, .int .i64 x.1)], (n + 1, ⟨3, cl [.int .i64 (dyeN S 8 0 (y * 8 + x.1)), .int .i64 (dyeN S 8 1 (y * 8 + x.1)), .int .i64 (dyeN S 8 2 (y * 8 + x.1))], true, none⟩) :: (n, ⟨3, cl [.int .i64 0, .int .i64 0, .int .i64 0], true, none⟩) :: h, n + 2)) (fun x => 8 - x.1) ⟨0, by omega⟩ ?_ ?_
      · refine Imp.id (by simp) ?_ ?_
        · simp only [go_sem, Nat.reduceLT]
          omega
        · (repeat (refine impH.cons0 (by first | (simp only [go_sem, hget_hset_self]; done) | (simp only [go_sem, hget_hset_self]; rfl)) (by simp) ?_ ?_; · exact SegLe.flat (Nat.le_refl _) id (by first | exact .inr rfl | exact .inl rfl) fun z hz => ⟨by first | rfl | exact dC_zero hz | exact dC_cl (by rfl) (by rfl) (by rfl) hz, by first | exact shC_flat _ _ | exact brC_flat _ hz | exact pair_flat _ _ hz | exact cellC_flat _ _ | exact dC_flat _ _ | exact stC_flat _ _ | exact cl_flat (l := [_, _, _, _, _]) (by simp [SV.flat]) hz | exact cl_flat (l := [_, _, _]) (by simp [SV.flat]) hz | trivial⟩)); exact impH.base0 (by first | exact hok | exact hok_set hok (fun k hk => stC_flat _ _) | exact hok_set hok (fun k hk => shC_flat _ _)) (by simp) (by first | (simp only [go_sem, HExt_cons]; done) | (simp only [go_sem, Nat.reduceBEq, Nat.reduceLT, Nat.reduceLeDiff, Nat.reduceAdd, Nat.reduceMul, Nat.reduceSub, Nat.reduceMod, Nat.reduceDiv, Nat.reduceEqDiff, Int.reduceToNat, reduceIte, reduceCtorEq, Int.reduceLE, Int.reduceLT, Int.reduceEq, Int.reduceNeg, Int.reduceAdd, Int.reduceSub, Int.reduceMul, HExt_cons]; exact HExt.rfl))
      · rintro ⟨x, hx⟩
        have a0 := dye8_in hG (i := 0) (by omega) (by omega) (y * 8 + x) (by omega)
        have a1 := dye8_in hG (i := 1) (by omega) (by omega) (y * 8 + x) (by omega)
        have a2 := dye8_in hG (i := 2) (by omega) (by omega) (y * 8 + x) (by omega)
        simp only [go_sem, Nat.reduceLT, decide_eq_true_eq, decide_eq_false_iff_not]
        refine ⟨fun h2 => ?_, fun h2 => ?_⟩
        · have hxr : (0 : Int) ≤ x ∧ (x : Int) < 8 := ⟨by omega, h2⟩
          have hyr : (0 : Int) ≤ y ∧ (y : Int) < 8 := ⟨by omega, h1⟩
          have d0 := hG.dye y x 0 hyr.1 hyr.2 hxr.1 hxr.2 (by omega) (by omega)
          have d1 := hG.dye y x 1 hyr.1 hyr.2 hxr.1 hxr.2 (by omega) (by omega)
          have d2 := hG.dye y x 2 hyr.1 hyr.2 hxr.1 hxr.2 (by omega) (by omega)
          have e0 : shC S (66 + y * 24 + x * 3) = .int .i16 (S.dye y x 0) := by have := shC_dye0 (S := S) (y := (y : Int)) (x := (x : Int)) hyr.1 hyr.2 hxr.1 hxr.2; simpa only [Int.toNat_natCast] using this
          have e1 : shC S (66 + y * 24 + x * 3 + 1) = .int .i16 (S.dye y x 1) := by have := shC_dye1 (S := S) (y := (y : Int)) (x := (x : Int)) hyr.1 hyr.2 hxr.1 hxr.2; simpa only [Int.toNat_natCast] using this
          have e2 : shC S (66 + y * 24 + x * 3 + 2) = .int .i16 (S.dye y x 2) := by have := shC_dye2 (S := S) (y := (y : Int)) (x := (x : Int)) hyr.1 hyr.2 hxr.1 hxr.2; simpa only [Int.toNat_natCast] using this
          have l0 : 66 + y * 24 + x * 3 ≤ 265 := by omega
          have l1 : 66 + y * 24 + x * 3 ≤ 264 := by omega
          have l2 : 66 + y * 24 + x * 3 ≤ 263 := by omega
          refine T_unroll 3 ?_
          simp only [go_sem, Nat.reduceLT, Int.reduceLT]
          refine T_drawT hti 16 _ _ (by kernel_rfl) (by kernel_rfl) ?_
          simp only [go_sem, Nat.reduceLT, Nat.reduceLeDiff, Nat.reduceEqDiff, Int.reduceToNat, reduceIte, reduceCtorEq, Int.reduceLE, Int.reduceLT, Int.reduceNeg, Int.reduceAdd, hs, hi, hxr, hyr, e0, e1, e2, l0, l1, l2, w64 (n := S.dye y x 0) (by omega), w64 (n := dyeN S 8 0 (y * 8 + x) + S.dye y x 0) (by omega)]
          refine U_step ?_
          simp only [go_sem, Nat.reduceLT, Int.reduceLT]
          refine T_drawT hti 16 _ _ (by kernel_rfl) (by kernel_rfl) ?_
          simp only [go_sem, Nat.reduceLT, Nat.reduceLeDiff, Nat.reduceEqDiff, Int.reduceToNat, reduceIte, reduceCtorEq, Int.reduceLE, Int.reduceLT, Int.reduceNeg, Int.reduceAdd, hs, hi, hxr, hyr, e0, e1, e2, l0, l1, l2, w64 (n := S.dye y x 1) (by omega), w64 (n := dyeN S 8 1 (y * 8 + x) + S.dye y x 1) (by omega)]
          refine U_step ?_
          simp only [go_sem, Nat.reduceLT, Int.reduceLT]
          refine T_drawT hti 16 _ _ (by kernel_rfl) (by kernel_rfl) ?_
          simp only [go_sem, Nat.reduceLT, Nat.reduceLeDiff, Nat.reduceEqDiff, Int.reduceToNat, reduceIte, reduceCtorEq, Int.reduceLE, Int.reduceLT, Int.reduceNeg, Int.reduceAdd, hs, hi, hxr, hyr, e0, e1, e2, l0, l1, l2, w64 (n := S.dye y x 2) (by omega), w64 (n := dyeN S 8 2 (y * 8 + x) + S.dye y x 2) (by omega)]
          refine U_step ?_
          simp only [go_sem, Nat.reduceLT, Int.reduceLT]
          refine ⟨⟨x + 1, by omega⟩, by show 8 - (x + 1) < 8 - x; omega, ?_⟩
          rw [← dye8_next S 0 (y := y) (by omega), ← dye8_next S 1 (y := y) (by omega), ← dye8_next S 2 (y := y) (by omega)]
          refine Imp.id (by simp) ?_ ?_
          · simp only [go_sem, Nat.reduceLT, w64 (n := (x : Int) + 1) (by omega), Int.natCast_add, Int.natCast_one]
            omega
          · (repeat (refine impH.cons0 (by first | (simp only [go_sem, hget_hset_self]; done) | (simp only [go_sem, hget_hset_self]; rfl)) (by simp) ?_ ?_; · exact SegLe.flat (Nat.le_refl _) id (by first | exact .inr rfl | exact .inl rfl) fun z hz => ⟨by first | rfl | exact dC_zero hz | exact dC_cl (by rfl) (by rfl) (by rfl) hz, by first | exact shC_flat _ _ | exact brC_flat _ hz | exact pair_flat _ _ hz | exact cellC_flat _ _ | exact dC_flat _ _ | exact stC_flat _ _ | exact cl_flat (l := [_, _, _, _, _]) (by simp [SV.flat]) hz | exact cl_flat (l := [_, _, _]) (by simp [SV.flat]) hz | trivial⟩)); exact impH.base0 (by first | exact hok | exact hok_set hok (fun k hk => stC_flat _ _) | exact hok_set hok (fun k hk => shC_flat _ _)) (by simp) (by first | (simp only [go_sem, HExt_cons]; done) | (simp only [go_sem, Nat.reduceBEq, Nat.reduceLT, Nat.reduceLeDiff, Nat.reduceAdd, Nat.reduceMul, Nat.reduceSub, Nat.reduceMod, Nat.reduceDiv, Nat.reduceEqDiff, Int.reduceToNat, reduceIte, reduceCtorEq, Int.reduceLE, Int.reduceLT, Int.reduceEq, Int.reduceNeg, Int.reduceAdd, Int.reduceSub, Int.reduceMul, HExt_cons]; exact HExt.rfl))
        · have hx8 : x = 8 := by omega
          subst hx8
          refine ⟨⟨y + 1, by omega⟩, by show 8 - (y + 1) < 8 - y; omega, ?_⟩
          rw [show y * 8 + 8 = (y + 1) * 8 by omega]
          refine Imp.id (by simp) ?_ ?_
          · simp only [go_sem, Nat.reduceLT, w64 (n := (y : Int) + 1) (by omega), Int.natCast_add, Int.natCast_one]
            omega
          · (repeat (refine impH.cons0 (by first | (simp only [go_sem, hget_hset_self]; done) | (simp only [go_sem, hget_hset_self]; rfl)) (by simp) ?_ ?_; · exact SegLe.flat (Nat.le_refl _) id (by first | exact .inr rfl | exact .inl rfl) fun z hz => ⟨by first | rfl | exact dC_zero hz | exact dC_cl (by rfl) (by rfl) (by rfl) hz, by first | exact shC_flat _ _ | exact brC_flat _ hz | exact pair_flat _ _ hz | exact cellC_flat _ _ | exact dC_flat _ _ | exact stC_flat _ _ | exact cl_flat (l := [_, _, _, _, _]) (by simp [SV.flat]) hz | exact cl_flat (l := [_, _, _]) (by simp [SV.flat]) hz | trivial⟩)); exact impH.base0 (by first | exact hok | exact hok_set hok (fun k hk => stC_flat _ _) | exact hok_set hok (fun k hk => shC_flat _ _)) (by simp) (by first | (simp only [go_sem, HExt_cons]; done) | (simp only [go_sem, Nat.reduceBEq, Nat.reduceLT, Nat.reduceLeDiff, Nat.reduceAdd, Nat.reduceMul, Nat.reduceSub, Nat.reduceMod, Nat.reduceDiv, Nat.reduceEqDiff, Int.reduceToNat, reduceIte, reduceCtorEq, Int.reduceLE, Int.reduceLT, Int.reduceEq, Int.reduceNeg, Int.reduceAdd, Int.reduceSub, Int.reduceMul, HExt_cons]; exact HExt.rfl))
    · have hy8 : y = 8 := by omega
      subst hy8
      rfl
end
end Go.Proofs.YtggpnfgohpifoaaGreat.V

/- StainOf by the reference: the walk. -/
namespace Go.Proofs.YtggpnfgohpifoaaGreat.V
theorem spots_push {A : List (Int × Int)} {a : Int × Int} {c : Nat → SV} (hc0 : c 0 = .int .i8 a.1) (hc1 : c 1 = .int .i8 a.2) {z : Nat} (hz : z < (A ++ [a]).length * 2) : both (A.length * 2) (spotsC A) (news c 0) z = spotsC (A ++ [a]) z := by
  rw [List.length_append, List.length_singleton] at hz
  unfold both news
  split
  · rename_i h5; rw [spotsC_take (b := [a]) h5]
  · rename_i h5
    rcases (by omega : z = A.length * 2 ∨ z = A.length * 2 + 1) with rfl | rfl
    · rw [(spotsC_last _ _).1, Nat.sub_self, ← hc0]
    · rw [(spotsC_last _ _).2, Nat.add_sub_cancel_left, ← hc1]
/-- A slice that is not nil, within its capacity. -/
def CapOK (V : SV) : Prop := ∃ i o len cap, V = .sl i o len cap ∧ len ≤ cap
section
variable (cx : Cx) (h : List (Nat × Seg)) (n : Nat)
theorem run2_Q (S : Sh) (W H : Nat) (hR : ShR S) (hG : Good S) (hW : S.wide = W) (hH : S.high = H) :
    CallQ Tryz.prog cx 66 [.agg 266 (shC S)] h n (.tup 2 (cl [.agg 266 (shC (runS S W H).1), .int .i64 (runS S W H).2])) :=
  CallE.toQ (by rw [lt_tup2]; exact ⟨shC_lt _ n, trivial⟩) fun K hK => run2_E cx h n _ S W H (shF_shC hR) hG hW hH K fun F' hF' => hK _ fun ρ => by
    simp only [den]
    congr 1
    refine arr_congr fun j hj => ?_
    rcases (by omega : j = 0 ∨ j = 1) with rfl | rfl
    · exact hF'.denC ρ
    · rfl
theorem until2_Q (S : Sh) (W H : Nat) (hR : ShR S) (hG : Good S) (hW : S.wide = W) (hH : S.high = H) :
    CallQ Tryz.prog cx 38 [.agg 266 (shC S)] h n (.tup 3 (cl [.agg 266 (shC (if (untilN W H 500 0 S).2.2 then (untilN W H 500 0 S).1 else sh0)), .int .i64 (untilN W H 500 0 S).2.1, .int .i64 (if (untilN W H 500 0 S).2.2 then 0 else 7)])) := by
  refine callQ_of_T (P := Tryz.prog) hti (nt := 23) (rs := [.cell 2 33, .tmp 3, .tmp 4]) rfl rfl Tryz.call38 Tryz.func38 rfl _ (by simp only [go_sem, and_self]) (Nat.le_of_ble_eq_true rfl) _ (by first | exact trivial | (refine lt_flat rfl ?_; simp [SV.flat]; done) | simp only [go_sem]) fun hok => ?_
  simp only [go_sem, Nat.reduceLT]
  refine T_lp (ι := { p : Nat × Sh // p.1 ≤ 500 ∧ ShR p.2 ∧ Good p.2 ∧ p.2.wide = W ∧ p.2.high = H ∧ untilN W H (500 - p.1) p.1 p.2 = untilN W H 500 0 S })
    (fun p => ([(1, .ptr n 0), (2, .ptr (n + 1) 0), (5, .int .i64 p.1.1)], (n + 1, shS sh0) :: (n, shS p.1.2) :: h, n + 2)) (fun p => 500 - p.1.1) ⟨(0, S), by simp, hR, hG, hW, hH, rfl⟩ ?_ ?_
  · refine Imp.id (by simp) ?_ ?_
    · simp only [go_sem, Nat.reduceLT]
      omega
    · (repeat (refine impH.cons0 (by first | (simp only [go_sem, hget_hset_self]; done) | (simp only [go_sem, hget_hset_self]; rfl)) (by simp) ?_ ?_; · exact SegLe.flat (Nat.le_refl _) id (by first | exact .inr rfl | exact .inl rfl) fun z hz => ⟨by first | rfl | exact dC_zero hz | exact dC_cl (by rfl) (by rfl) (by rfl) hz, by first | exact shC_flat _ _ | exact brC_flat _ hz | exact pair_flat _ _ hz | exact cellC_flat _ _ | exact dC_flat _ _ | exact stC_flat _ _ | exact cl_flat (l := [_, _, _, _, _]) (by simp [SV.flat]) hz | exact cl_flat (l := [_, _, _]) (by simp [SV.flat]) hz | trivial⟩)); exact impH.base0 (by first | exact hok | exact hok_set hok (fun k hk => stC_flat _ _) | exact hok_set hok (fun k hk => shC_flat _ _)) (by simp) (by first | (simp only [go_sem, HExt_cons]; done) | (simp only [go_sem, Nat.reduceBEq, Nat.reduceLT, Nat.reduceLeDiff, Nat.reduceAdd, Nat.reduceMul, Nat.reduceSub, Nat.reduceMod, Nat.reduceDiv, Nat.reduceEqDiff, Int.reduceToNat, reduceIte, reduceCtorEq, Int.reduceLE, Int.reduceLT, Int.reduceEq, Int.reduceNeg, Int.reduceAdd, Int.reduceSub, Int.reduceMul, HExt_cons]; exact HExt.rfl))
  · rintro ⟨⟨k, S1⟩, hk, hR1, hG1, hW1, hH1, he⟩
    simp only at hk hR1 hG1 hW1 hH1 he
    simp only [go_sem, Nat.reduceLT]
    refine (run2_Q _ _ _ S1 W H hR1 hG1 hW1 hH1).A ?_
    obtain ⟨g1, g2, g3, g4⟩ := runS_good hG1 hW1 hH1
    by_cases h0 : (runS S1 W H).2 = 0
    · rw [untilN_stop h0] at he
      have hst := runS_still h0
      simp only [go_sem, Nat.reduceLT, h0, ← he, hst, if_true]
    · by_cases h5 : k = 500
      · subst h5
        rw [Nat.sub_self, untilN_end h0] at he
        simp only [go_sem, Nat.reduceLT, Nat.reduceSub, reduceIte, h0, ← he]
      · have hk5 : ¬ ((k : Int) = 500) := by omega
        rw [show 500 - k = (500 - (k + 1)) + 1 by omega, untilN_next h0] at he
        simp only [go_sem, Nat.reduceLT, reduceIte, h0, hk5]
        refine ⟨⟨(k + 1, (runS S1 W H).1), by show k + 1 ≤ 500; omega, runN_R hR1 _ _, g1, g2.wide.trans hW1, g2.high.trans hH1, he⟩, by show 500 - (k + 1) < 500 - k; omega, ?_⟩
        refine Imp.id (by simp) ?_ ?_
        · simp only [go_sem, Nat.reduceLT, w64 (n := (k : Int) + 1) (by omega), Int.natCast_add, Int.natCast_one]
          omega
        · (repeat (refine impH.cons0 (by first | (simp only [go_sem, Nat.reduceLT, hget_hset_self]; done) | (simp only [go_sem, Nat.reduceLT, hget_hset_self]; rfl)) (by simp) ?_ ?_; · exact SegLe.flat (Nat.le_refl _) id (by first | exact .inr rfl | exact .inl rfl) fun z hz => ⟨by first | rfl | exact dC_zero hz | exact dC_cl (by rfl) (by rfl) (by rfl) hz, by first | exact shC_flat _ _ | exact brC_flat _ hz | exact pair_flat _ _ hz | exact cellC_flat _ _ | exact dC_flat _ _ | exact stC_flat _ _ | exact cl_flat (l := [_, _, _, _, _]) (by simp [SV.flat]) hz | exact cl_flat (l := [_, _, _]) (by simp [SV.flat]) hz | trivial⟩)); exact impH.base0 (by first | exact hok | exact hok_set hok (fun k hk => stC_flat _ _) | exact hok_set hok (fun k hk => shC_flat _ _)) (by simp) (by first | (simp only [go_sem, HExt_cons]; done) | (simp only [go_sem, Nat.reduceBEq, Nat.reduceLT, Nat.reduceLeDiff, Nat.reduceAdd, Nat.reduceMul, Nat.reduceSub, Nat.reduceMod, Nat.reduceDiv, Nat.reduceEqDiff, Int.reduceToNat, reduceIte, reduceCtorEq, Int.reduceLE, Int.reduceLT, Int.reduceEq, Int.reduceNeg, Int.reduceAdd, Int.reduceSub, Int.reduceMul, HExt_cons]; exact HExt.rfl))
theorem dyed2C_E (i : Nat) (S : Sh) (W H : Nat) (hs : hget h i = some (shS S)) (hi : i < n) (hR : ShR S) (hG : Good S) (hW : S.wide = W) (hH : S.high = H) (hW8 : W ≤ 8) (hH8 : H ≤ 8) (least : Int) (K : HK)
    (hK : ∀ V h' n', n ≤ n' → HExt n h h' → HOk n' h' → SpsOut h' n n' V (dyedL S W H least) → CapOK V → K V h' n') :
    CallE Tryz.prog cx 39 [.ptr i 0, .int .i64 least] h n K := by
  have hWH : H * W ≤ 64 := Nat.mul_le_mul hH8 hW8
  unfold dyedL at hK
  generalize hP : (fun a : Int × Int => decide (least ≤ darkB S a.1 a.2)) = P at hK
  have hPj : ∀ a, P a = decide (least ≤ darkB S a.1 a.2) := fun a => by rw [← hP]
  have hLl := cellsL_len W H
  have hLg := cellsL_get W H
  generalize cellsL W H = L at *
  refine CallE.hokE ?_
  refine callE_of_T (P := Tryz.prog) hti (nt := 33) (rs := [.tmp 4]) rfl rfl Tryz.call39 Tryz.func39 rfl _ (by simp only [go_sem, and_self]) (Nat.le_of_ble_eq_true rfl) _ fun hok => ?_
  simp only [go_sem, Nat.reduceLT]
  refine callA_false (spots_E _ _ _ i 0 _ S W H (by simp only [go_sem, hs, hi]) (by omega) (shAt_shC hR) hW hH hW8 hH8 _ fun cap0 hc1 hc2 => ?_)
  simp only [go_sem, Nat.reduceLT, Nat.reduceMul]
  have ok1 : HOk (n + 1) ((n, ⟨H * W * 2, cellC W, true, some (36, cap0 * 2)⟩) :: h) := hok_cons (hok_up hok (by omega)) (by omega) fun k hk => cellC_flat W k
  refine T_lp (ι := { w : Nat × Nat // w.1 ≤ H * W ∧ ((L.take w.1).filter P).length ≤ w.2 ∧ w.2 ≤ maxLen })
    (fun w => ([(0, .ptr i 0), (1, .int .i64 least), (5, .sl n 0 (H * W) cap0), (6, .sl (n + 1) 0 ((L.take w.1.1).filter P).length w.1.2), (7, .int .i64 w.1.1)],
      (n + 1, ⟨((L.take w.1.1).filter P).length * 2, spotsC ((L.take w.1.1).filter P), true, some (36, w.1.2 * 2)⟩) :: (n, ⟨H * W * 2, cellC W, true, some (36, cap0 * 2)⟩) :: h, n + 2)) (fun w => H * W - w.1.1) ⟨(0, 0), by simp⟩ ?_ ?_
  · exact imp_oneE (s' := ⟨0, zrow (ti 36), true, some (36, 0)⟩) (n + 1) (n + 1) (Nat.le_add_right n 1) ok1 (by simp only [go_sem, HExt_cons]) (by omega) (by simp only [go_sem]) ⟨by simp, fun _ => rfl, .inr (by simp), fun k hk => by simp at hk⟩ (fun k hk => spotsC_flat _ _) (by simp only [go_sem, Nat.reduceLT, hi, List.take_zero, List.filter_nil, List.length_nil]; omega)
  · rintro ⟨⟨k, cap⟩, hk, hcap, hm⟩
    simp only at hk hcap hm
    have hlen : ((L.take k).filter P).length ≤ k := filter_len P _ k
    simp only [go_sem, Nat.reduceLT, decide_eq_true_eq, decide_eq_false_iff_not]
    refine ⟨fun h1 => ?_, fun h1 => ?_⟩
    · have hj : k < H * W := by omega
      have r1 : (0 : Int) ≤ k ∧ (k : Int) < ((H * W : Nat) : Int) := ⟨by omega, h1⟩
      have b1 : k * 2 ≤ H * W * 2 - 2 := by omega
      have b3 : 2 ≤ H * W * 2 := by omega
      obtain ⟨x0, x8, y0, y8⟩ := cell_in hG.small hW hH hj
      simp only [go_sem, r1, b1, b3, cellC_x, cellC_y]
      refine ⟨by omega, (dark2_Q _ _ _ i S _ _ (by simp only [go_sem, hs, hi]) (by omega) hG x0 x8 y0 y8).A ?_⟩
      have hPk : P (L.getD k (0, 0)) = decide (least ≤ darkB S ((k % W : Nat) : Int) ((k / W : Nat) : Int)) := by rw [hPj, hLg k hj]
      by_cases hl : least ≤ darkB S ((k % W : Nat) : Int) ((k / W : Nat) : Int)
      · have hf : (L.take (k + 1)).filter P = (L.take k).filter P ++ [L.getD k (0, 0)] := by
          rw [take_filter P _ k (by omega), hPk, decide_eq_true hl]; rfl
        simp only [go_sem, Nat.reduceLT, Nat.reduceLeDiff, Nat.reduceMul, Nat.reduceSub, Nat.reduceMod, reduceIte, hl, r1, b1, b3, cellC_x, cellC_y, ↓hok.del (show n ≤ n + 1 by simp)]
        refine ⟨by omega, ⟨hcap, hm, by omega⟩, fun cap' h3 h4 => ⟨⟨(k + 1, cap'), by show k + 1 ≤ H * W; omega, by simp only [hf, List.length_append, List.length_singleton]; exact h3, h4⟩, by show H * W - (k + 1) < H * W - k; omega, ?_⟩⟩
        simp only [hf]
        exact imp_oneE (n + 1) (n + 3) (Nat.le_add_right n 1) ok1 (by simp only [go_sem, Nat.reduceLeDiff, HExt_cons]) (by omega) (hget_hit _ _ _) ⟨by simp, fun _ => rfl, .inr rfl, fun z hz => spots_push (by rw [hLg k hj]; rfl) (by rw [hLg k hj]; rfl) hz⟩ (fun k hk => spotsC_flat _ _) (by simp only [go_sem, Nat.reduceLT, hi, List.length_append, List.length_singleton, w64 (n := (k : Int) + 1) (by omega), Int.natCast_add, Int.natCast_one]; omega)
      · have hf : (L.take (k + 1)).filter P = (L.take k).filter P := by
          rw [take_filter P _ k (by omega), hPk, decide_eq_false hl]; simp
        simp only [go_sem, Nat.reduceLT, hl]
        refine ⟨⟨(k + 1, cap), by show k + 1 ≤ H * W; omega, by simp only [hf]; exact hcap, hm⟩, by show H * W - (k + 1) < H * W - k; omega, ?_⟩
        simp only [hf]
        exact imp_oneE (n + 1) (n + 1) (Nat.le_add_right n 1) ok1 (by simp only [go_sem, HExt_cons]) (by omega) (by simp only [go_sem]) .rfl' (fun k hk => spotsC_flat _ _) (by simp only [go_sem, Nat.reduceLT, hi, w64 (n := (k : Int) + 1) (by omega), Int.natCast_add, Int.natCast_one]; omega)
    · have hk4 : k = H * W := by omega
      subst hk4
      have ht : L.take (H * W) = L := by rw [← hLl]; exact List.take_length
      rw [ht] at hcap
      rw [ht]
      exact fun hok' => hK _ _ _ (by omega) (by simp only [go_sem, HExt_cons]) hok' (.inr ⟨n + 1, cap, _, rfl, by omega, by omega, hget_hit _ _ _, rfl, rfl, fun k hk => rfl⟩) ⟨_, _, _, _, rfl, hcap⟩
theorem stain2C_E (S : Sh) (x y ink amount water : Int) (hR : ShR S) (hx : -128 ≤ x ∧ x < 128) (hy : -128 ≤ y ∧ y < 128) (K : HK)
    (hK : ∀ V h' n', n ≤ n' → HExt n h h' → HOk n' h' → SpsOut h' n n' V (stainR S x y ink amount water).1 → CapOK V → K (.tup 2 (cl [V, .int .i64 (stainR S x y ink amount water).2])) h' n') :
    CallE Tryz.prog cx 9 [.agg 266 (shC S), spot x y, .int .i64 ink, .int .i64 amount, .int .i64 water] h n K := by
  refine CallE.hokE ?_
  have bad : ∀ (c : Int) (k cp : Nat) (z : Nat → SV) (ow : Option (Nat × Nat)) (h' : List (Nat × Seg)) (n' : Nat), stainR S x y ink amount water = ([], c) → n ≤ k → k < n' → n ≤ n' → hget h' k = some ⟨0, z, true, ow⟩ → HExt n h h' → HOk n' h' → K (.tup 2 (cl [.sl k 0 0 cp, .int .i64 c])) h' n' := fun c k cp z ow h' n' e hk hk' hn' hg hx hok' => by
    have := hK (.sl k 0 0 cp) h' n' hn' hx hok' (by rw [e]; exact .inr ⟨k, cp, _, rfl, hk, hk', hg, rfl, rfl, fun j hj => absurd hj (Nat.not_lt_zero j)⟩) ⟨_, _, _, _, rfl, Nat.zero_le _⟩
    rw [e] at this; exact this
  have no : ∀ c, codeI S (hasB S x y && false) = c → dropB S x y ink amount water = false → stainR S x y ink amount water = ([], c) ∧ ¬ c = 0 := fun c e hd => by
    by_cases hV : Valid S
    · rw [codeI_ok hV, Bool.and_false] at e
      exact ⟨by rw [stainR_range hV (by rw [hd]; simp), ← e]; rfl, by rw [← e]; simp⟩
    · rw [codeI_bad hV] at e
      exact ⟨by rw [stainR_bad hV, ← e], by rw [← e]; simp⟩
  refine callE_of_T (P := Tryz.prog) hti (nt := 84) (rs := [.tmp 10, .tmp 11]) rfl rfl Tryz.call9 Tryz.func9 rfl _ (by simp only [go_sem, and_self]) (Nat.le_of_ble_eq_true rfl) _ fun hok => ?_
  simp only [go_sem, Nat.reduceLT]
  refine T_draw hti _ _ (by kernel_rfl) (by kernel_rfl) ?_
  simp only [go_sem, Nat.reduceLT]
  refine (ink2_Q _ _ _ ink).A ?_
  by_cases h1 : 0 ≤ ink ∧ ink ≤ 2
  rotate_left
  · have hd : dropB S x y ink amount water = false := by simp [dropB, h1]
    simp only [go_sem, Nat.reduceLT, h1]
    refine (asked2_Q _ _ _ n S x y false (by simp only [go_sem]) (by omega) hR hx hy).A ?_
    generalize hc : codeI S (hasB S x y && false) = c
    obtain ⟨e1, e2⟩ := no c hc hd
    simp only [go_sem, Nat.reduceLT, Nat.reduceMul, e2]
    exact fun hok' => bad c (n + 2) _ _ _ _ _ e1 (by omega) (by omega) (by omega) (by simp only [go_sem]; rfl) (by simp only [go_sem, HExt_cons]) hok'
  simp only [go_sem, Nat.reduceLT, h1]
  refine (in_Q _ _ _ _ _ _).A ?_
  by_cases h2 : 0 ≤ amount ∧ amount ≤ 1000
  rotate_left
  · have hd : dropB S x y ink amount water = false := by simp [dropB, h2]
    simp only [go_sem, Nat.reduceLT, h2]
    refine (asked2_Q _ _ _ n S x y false (by simp only [go_sem]) (by omega) hR hx hy).A ?_
    generalize hc : codeI S (hasB S x y && false) = c
    obtain ⟨e1, e2⟩ := no c hc hd
    simp only [go_sem, Nat.reduceLT, Nat.reduceMul, e2]
    exact fun hok' => bad c (n + 2) _ _ _ _ _ e1 (by omega) (by omega) (by omega) (by simp only [go_sem]; rfl) (by simp only [go_sem, HExt_cons]) hok'
  simp only [go_sem, Nat.reduceLT, h2]
  refine (in_Q _ _ _ _ _ _).A ?_
  by_cases h3 : 0 ≤ water ∧ water ≤ 200
  rotate_left
  · have hd : dropB S x y ink amount water = false := by simp [dropB, h3]
    simp only [go_sem, Nat.reduceLT, h3]
    refine (asked2_Q _ _ _ n S x y false (by simp only [go_sem]) (by omega) hR hx hy).A ?_
    generalize hc : codeI S (hasB S x y && false) = c
    obtain ⟨e1, e2⟩ := no c hc hd
    simp only [go_sem, Nat.reduceLT, Nat.reduceMul, e2]
    exact fun hok' => bad c (n + 2) _ _ _ _ _ e1 (by omega) (by omega) (by omega) (by simp only [go_sem]; rfl) (by simp only [go_sem, HExt_cons]) hok'
  simp only [go_sem, Nat.reduceLT, h3]
  refine (asked2_Q _ _ _ n S x y true (by simp only [go_sem]) (by omega) hR hx hy).A ?_
  have hdE : dropB S x y ink amount water = hasB S x y := by simp [dropB, h1, h2, h3]
  by_cases hV : Valid S
  rotate_left
  · rw [codeI_bad hV]
    simp only [go_sem, Nat.reduceLT, Nat.reduceMul, Int.reduceEq]
    exact fun hok' => bad 1 (n + 2) _ _ _ _ _ (stainR_bad hV) (by omega) (by omega) (by omega) (by simp only [go_sem]; rfl) (by simp only [go_sem, HExt_cons]) hok'
  rw [codeI_ok hV, Bool.and_true]
  obtain ⟨hW, hH, hW8, hH8⟩ := valid_sides hV.1
  by_cases hh : hasB S x y = true
  rotate_left
  · simp only [go_sem, Nat.reduceLT, Nat.reduceMul, reduceIte, Int.reduceEq, hh]
    exact fun hok' => bad 2 (n + 2) _ _ _ _ _ (stainR_range hV (by rw [hdE]; exact hh)) (by omega) (by omega) (by omega) (by simp only [go_sem]; rfl) (by simp only [go_sem, HExt_cons]) hok'
  have hd : dropB S x y ink amount water = true := by rw [hdE]; exact hh
  obtain ⟨x0, x8, y0, y8⟩ := hasB_in hV.1 hh
  simp only [go_sem, Nat.reduceLT, reduceIte, hh]
  refine (sums2_Q _ _ _ n S (by simp only [go_sem]) (by omega) hV.good).A ?_
  have d0 := dyeN_in hV.good hW hH (i := 0) (by omega) (by omega) _ (Nat.le_refl _)
  have d1 := dyeN_in hV.good hW hH (i := 1) (by omega) (by omega) _ (Nat.le_refl _)
  have d2 := dyeN_in hV.good hW hH (i := 2) (by omega) (by omega) _ (Nat.le_refl _)
  have w0 := water_in hV.good hW hH _ (Nat.le_refl _)
  have hHW : S.high.toNat * S.wide.toNat ≤ 64 := Nat.mul_le_mul hH8 hW8
  rw [dye8 hV hW hH (by omega) (by omega), dye8 hV hW hH (by omega) (by omega), dye8 hV hW hH (by omega) (by omega)]
  simp only [go_sem, Nat.reduceLT, reduceIte]
  refine (water2_Q _ _ _ n 0 _ S (by simp only [go_sem]) (by omega) (shAt_shC hR) hV.good).A ?_
  rw [water8 hV.1 hV.out hW hH]
  change 0 ≤ dyeSum S _ _ 0 ∧ dyeSum S _ _ 0 ≤ _ at d0
  change 0 ≤ dyeSum S _ _ 1 ∧ dyeSum S _ _ 1 ≤ _ at d1
  change 0 ≤ dyeSum S _ _ 2 ∧ dyeSum S _ _ 2 ≤ _ at d2
  change 0 ≤ V.water S _ _ ∧ _ at w0
  by_cases hw : 0 < V.water S S.wide.toNat S.high.toNat
  · simp only [go_sem, Nat.reduceLT, Nat.reduceMul, Int.reduceEq, hw]
    exact fun hok' => bad 4 (n + 3) _ _ _ _ _ (stainR_state hV hd fun h => by have := h.1.1; omega) (by omega) (by omega) (by omega) (by simp only [go_sem]; rfl) (by simp only [go_sem, HExt_cons]) hok'
  simp only [go_sem, Nat.reduceLT, Nat.reduceLeDiff, Nat.reduceMul, Int.reduceToNat, Int.reduceLE, Int.reduceLT, Int.reduceEq, hw, w64 (n := dyeSum S S.wide.toNat S.high.toNat 0 + dyeSum S S.wide.toNat S.high.toNat 1) (by omega), w64 (n := dyeSum S S.wide.toNat S.high.toNat 0 + dyeSum S S.wide.toNat S.high.toNat 1 + dyeSum S S.wide.toNat S.high.toNat 2) (by omega)]
  by_cases hy' : 0 < dyeSum S S.wide.toNat S.high.toNat 0 + dyeSum S S.wide.toNat S.high.toNat 1 + dyeSum S S.wide.toNat S.high.toNat 2
  · simp only [go_sem, reduceCtorEq, hy']
    exact fun hok' => bad 4 (n + 3) _ _ _ _ _ (stainR_state hV hd fun h => by have := h.1.2; omega) (by omega) (by omega) (by omega) (by simp only [go_sem]; rfl) (by simp only [go_sem, HExt_cons]) hok'
  have hB : Blank S S.wide.toNat S.high.toNat := ⟨by omega, by omega, by omega, by omega⟩
  simp only [go_sem, hy']
  refine (waxed2_Q _ _ _ n 0 _ S x y (by simp only [go_sem]) (by omega) (shAt_shC hR) x0 (by omega) y0 y8).A ?_
  by_cases hwx : waxB S x y = true
  · simp only [go_sem, Nat.reduceLT, Nat.reduceMul, Int.reduceEq, hwx]
    exact fun hok' => bad 4 (n + 3) _ _ _ _ _ (stainR_state hV hd fun h => by rw [hwx] at h; cases h.2) (by omega) (by omega) (by omega) (by simp only [go_sem]; rfl) (by simp only [go_sem, HExt_cons]) hok'
  have hwf : waxB S x y = false := by simpa using hwx
  have k3 : ink < 3 := by omega
  simp only [go_sem, Nat.reduceLT, hwf]
  refine T_drawT hti 11 _ _ (by kernel_rfl) (by kernel_rfl) ?_
  simp only [go_sem, Nat.reduceLT, Nat.reduceLeDiff, Nat.reduceEqDiff, reduceIte, reduceCtorEq, x0, x8, y0, y8, h1.1, k3, w16 (n := amount) (by omega)]
  refine T_drawT hti 9 _ _ (by kernel_rfl) (by kernel_rfl) ?_
  simp only [go_sem, Nat.reduceLT, Nat.reduceLeDiff, Nat.reduceEqDiff, reduceIte, reduceCtorEq, x0, x8, y0, y8, h1.1, k3, w16 (n := water) (by omega)]
  rw [show (S.setDye y x ink amount).setWet y x water = S.drop x y ink amount water from rfl]
  have hGd := drop_good (x := x) (y := y) (ink := ink) hV.good h2 h3
  have hRd : ShR (S.drop x y ink amount water) := (hR.setWet (by omega)).setDye (by omega)
  refine (until2_Q _ _ _ (S.drop x y ink amount water) _ _ hRd hGd hW hH).A ?_
  obtain ⟨u1, u2, u3⟩ := untilN_good (W := S.wide.toNat) (H := S.high.toNat) 500 0 (S.drop x y ink amount water) hGd hW hH
  have hr := stainR_run hV hd ⟨hB, hwf⟩
  have uR : ShR (untilN S.wide.toNat S.high.toNat 500 0 (S.drop x y ink amount water)).1 := untilN_R 500 0 _ hRd
  generalize hU : untilN S.wide.toNat S.high.toNat 500 0 (S.drop x y ink amount water) = U at *
  by_cases hu : U.2.2 = true
  rotate_left
  · rw [if_neg hu] at hr
    simp only [go_sem, Nat.reduceLT, Nat.reduceMul, reduceIte, Int.reduceEq, hu]
    exact fun hok' => bad 7 (n + 4) _ _ _ _ _ hr (by omega) (by omega) (by omega) (by simp only [go_sem]; rfl) (by simp only [go_sem, HExt_cons]) hok'
  rw [if_pos hu] at hr
  simp only [go_sem, Nat.reduceLT, reduceIte, hu]
  refine callA_false (dyed2C_E _ _ _ (n + 3) U.1 _ _ (by simp only [go_sem]) (by omega) uR u1 (u2.wide.trans hW) (u2.high.trans hH) hW8 hH8 1 _ fun V h' n' hn' hx' hok' hV' hC' => ?_)
  simp only [go_sem, Nat.reduceLT, hV'.ok]
  intro hok2
  have := hK V h' n' (by omega) (HExt.tr (m' := n + 4) (by simp only [go_sem, HExt_cons]) hx' (by omega)) hok2 (by rw [hr]; exact hV'.mono' (by omega)) hC'
  rw [hr] at this
  exact this
theorem stain2_E (S : Sh) (x y ink amount water : Int) (hR : ShR S) (hx : -128 ≤ x ∧ x < 128) (hy : -128 ≤ y ∧ y < 128) (K : HK)
    (hK : ∀ V h' n', n ≤ n' → HExt n h h' → HOk n' h' → SpsOut h' n n' V (stainR S x y ink amount water).1 → K (.tup 2 (cl [V, .int .i64 (stainR S x y ink amount water).2])) h' n') :
    CallE Tryz.prog cx 9 [.agg 266 (shC S), spot x y, .int .i64 ink, .int .i64 amount, .int .i64 water] h n K :=
  stain2C_E cx h n S x y ink amount water hR hx hy K fun V h' n' a b c d _ => hK V h' n' a b c d
end
end Go.Proofs.YtggpnfgohpifoaaGreat.V

/- Plain laws of running: water and dye are kept, the squares of the water fall, so running stops. -/
namespace Go.Proofs.YtggpnfgohpifoaaGreat.V
theorem sumN_two {f g : Nat → Int} {n a b : Nat} (ha : a < n) (hb : b < n) (hab : a ≠ b) (h : ∀ k, k < n → k ≠ a → k ≠ b → g k = f k) : sumN g n = sumN f n + (g a - f a) + (g b - f b) := by
  induction n with
  | zero => omega
  | succ n ih =>
    simp only [sumN]
    by_cases h1 : a = n
    · subst h1
      have hb' : b < a := by omega
      have e : ∀ m, b < m → m ≤ a → sumN g m = sumN f m + (g b - f b) := by
        intro m
        induction m with
        | zero => omega
        | succ m im =>
          intro hbm hma
          simp only [sumN]
          by_cases h2 : b = m
          · subst h2
            have : sumN g b = sumN f b := sumN_congr fun k hk => h k (by omega) (by omega) (by omega)
            omega
          · have := im (by omega) (by omega)
            have := h m (by omega) (by omega) (by omega)
            omega
      have := e a hb' (Nat.le_refl _)
      omega
    · by_cases h2 : b = n
      · subst h2
        have ha' : a < b := by omega
        have e : ∀ m, a < m → m ≤ b → sumN g m = sumN f m + (g a - f a) := by
          intro m
          induction m with
          | zero => omega
          | succ m im =>
            intro hbm hma
            simp only [sumN]
            by_cases h3 : a = m
            · subst h3
              have : sumN g a = sumN f a := sumN_congr fun k hk => h k (by omega) (by omega) (by omega)
              omega
            · have := im (by omega) (by omega)
              have := h m (by omega) (by omega) (by omega)
              omega
        have := e b ha' (Nat.le_refl _)
        omega
      · have := ih (by omega) (by omega) fun k hk => h k (by omega)
        have := h n (by omega) (Ne.symm h1) (Ne.symm h2)
        omega
/-- A sum over all places of what stands there. -/
def allS (f : Int → Int → Int) : Int := sumN (fun k => f ((k / 8 : Nat) : Int) ((k % 8 : Nat) : Int)) 64
theorem allS_two {f g : Int → Int → Int} {fx fy tx ty : Int} (hfx : 0 ≤ fx) (hfx8 : fx < 8) (hfy : 0 ≤ fy) (hfy8 : fy < 8) (htx : 0 ≤ tx) (htx8 : tx < 8) (hty : 0 ≤ ty) (hty8 : ty < 8) (hne : ¬ (ty = fy ∧ tx = fx))
    (h : ∀ y x, ¬ (y = fy ∧ x = fx) → ¬ (y = ty ∧ x = tx) → g y x = f y x) : allS g = allS f + (g fy fx - f fy fx) + (g ty tx - f ty tx) := by
  unfold allS
  have i1 : (((fy.toNat * 8 + fx.toNat) / 8 : Nat) : Int) = fy ∧ (((fy.toNat * 8 + fx.toNat) % 8 : Nat) : Int) = fx := by omega
  have i2 : (((ty.toNat * 8 + tx.toNat) / 8 : Nat) : Int) = ty ∧ (((ty.toNat * 8 + tx.toNat) % 8 : Nat) : Int) = tx := by omega
  have key := sumN_two (f := fun k => f ((k / 8 : Nat) : Int) ((k % 8 : Nat) : Int)) (g := fun k => g ((k / 8 : Nat) : Int) ((k % 8 : Nat) : Int)) (n := 64) (a := fy.toNat * 8 + fx.toNat) (b := ty.toNat * 8 + tx.toNat) (by omega) (by omega) (by omega) fun k hk h1 h2 => h _ _ (by omega) (by omega)
  simp only [i1.1, i1.2, i2.1, i2.2] at key
  exact key
def watS (S : Sh) : Int := allS S.wet
def sqS (S : Sh) : Int := allS fun y x => S.wet y x * S.wet y x
def dyeS (S : Sh) (i : Int) : Int := allS fun y x => S.dye y x i
section
variable {S : Sh} {fx fy tx ty : Int} (hG : Good S) (hfx : 0 ≤ fx) (hfx8 : fx < 8) (hfy : 0 ≤ fy) (hfy8 : fy < 8) (htx : 0 ≤ tx) (htx8 : tx < 8) (hty : 0 ≤ ty) (hty8 : ty < 8) (h2 : 2 ≤ S.wet fy fx - S.wet ty tx)
include hG hfx hfx8 hfy hfy8 htx htx8 hty hty8 h2
theorem giveS_kept : watS (giveS S fx fy tx ty) = watS S ∧ sqS (giveS S fx fy tx ty) + 2 ≤ sqS S := by
  have hne : ¬ (ty = fy ∧ tx = fx) := fun ⟨h1, h3⟩ => by subst h1; subst h3; omega
  have hne' : ¬ (fy = ty ∧ fx = tx) := fun ⟨h1, h3⟩ => hne ⟨h1.symm, h3.symm⟩
  have hw := giveS_wet hG hfx hfx8 hfy hfy8 htx htx8 hty hty8 h2
  have w1 : (giveS S fx fy tx ty).wet fy fx = S.wet fy fx - 1 := by rw [hw, if_neg hne', if_pos ⟨rfl, rfl⟩]
  have w2 : (giveS S fx fy tx ty).wet ty tx = S.wet ty tx + 1 := by rw [hw, if_pos ⟨rfl, rfl⟩]
  have w3 : ∀ y x, ¬ (y = fy ∧ x = fx) → ¬ (y = ty ∧ x = tx) → (giveS S fx fy tx ty).wet y x = S.wet y x := fun y x h1 h2 => by rw [hw, if_neg h2, if_neg h1]
  constructor
  · have := allS_two hfx hfx8 hfy hfy8 htx htx8 hty hty8 hne w3
    unfold watS
    rw [this, w1, w2]; omega
  · have := allS_two (f := fun y x => S.wet y x * S.wet y x) (g := fun y x => (giveS S fx fy tx ty).wet y x * (giveS S fx fy tx ty).wet y x) hfx hfx8 hfy hfy8 htx htx8 hty hty8 hne (fun y x h1 h2 => by rw [w3 y x h1 h2])
    unfold sqS
    rw [this, w1, w2]
    generalize S.wet fy fx = a at *
    generalize S.wet ty tx = b at *
    have e1 : (a - 1) * (a - 1) - a * a = 1 - 2 * a := by rw [Int.sub_mul, Int.mul_sub]; omega
    have e2 : (b + 1) * (b + 1) - b * b = 1 + 2 * b := by rw [Int.add_mul, Int.mul_add]; omega
    rw [e1, e2]
    omega
theorem giveN_dye {w : Int} (hw : 0 < w) (hne : ¬ (ty = fy ∧ tx = fx)) (i : Int) : ∀ k, k ≤ 3 → dyeS (giveN w S fx fy tx ty k) i = dyeS S i
  | 0, _ => rfl
  | k + 1, hk => by
    have ih := giveN_dye hw hne i k (by omega)
    have hD := giveN_in hw hfx hfx8 hfy hfy8 htx htx8 hty hty8 hne (S := S) hG.dye (k := k) (by omega)
    rw [← ih]
    have hd := giveInk_dye hw hfx hfx8 hfy hfy8 htx htx8 hty hty8 hne hD (k := k) (by omega)
    show dyeS (giveInk w (giveN w S fx fy tx ty k) fx fy tx ty k) i = _
    unfold dyeS
    have hne' : ¬ (fy = ty ∧ fx = tx) := fun ⟨h1, h3⟩ => hne ⟨h1.symm, h3.symm⟩
    rw [allS_two (f := fun y x => (giveN w S fx fy tx ty k).dye y x i) (g := fun y x => (giveInk w (giveN w S fx fy tx ty k) fx fy tx ty k).dye y x i) hfx hfx8 hfy hfy8 htx htx8 hty hty8 hne (fun y x h1 h2 => by
      rw [hd, if_neg fun h => h2 ⟨h.1, h.2.1⟩, if_neg fun h => h1 ⟨h.1, h.2.1⟩])]
    simp only [hd]
    by_cases hik : i = k
    · simp [hik, hne', hne]; omega
    · simp [hik]
theorem giveN_out {w : Int} (hw : 0 < w) (hne : ¬ (ty = fy ∧ tx = fx)) {y x : Int} (h3 : ¬ (y = fy ∧ x = fx)) (h4 : ¬ (y = ty ∧ x = tx)) (i : Int) : ∀ k, k ≤ 3 → (giveN w S fx fy tx ty k).dye y x i = S.dye y x i
  | 0, _ => rfl
  | k + 1, hk => by
    have ih := giveN_out hw hne h3 h4 i k (by omega)
    have hD := giveN_in hw hfx hfx8 hfy hfy8 htx htx8 hty hty8 hne (S := S) hG.dye (k := k) (by omega)
    show (giveInk w (giveN w S fx fy tx ty k) fx fy tx ty k).dye y x i = _
    rw [giveInk_dye hw hfx hfx8 hfy hfy8 htx htx8 hty hty8 hne hD (by omega), if_neg fun h => h4 ⟨h.1, h.2.1⟩, if_neg fun h => h3 ⟨h.1, h.2.1⟩, ih]
theorem giveS_out {y x : Int} (h3 : ¬ (y = fy ∧ x = fx)) (h4 : ¬ (y = ty ∧ x = tx)) : (giveS S fx fy tx ty).wet y x = S.wet y x ∧ ∀ i, (giveS S fx fy tx ty).dye y x i = S.dye y x i := by
  have hne : ¬ (ty = fy ∧ tx = fx) := fun ⟨q1, q3⟩ => by rw [q1, q3] at h2; omega
  have b := hG.wet ty tx hty hty8 htx htx8
  refine ⟨by rw [giveS_wet hG hfx hfx8 hfy hfy8 htx htx8 hty hty8 h2, if_neg h4, if_neg h3], fun i => ?_⟩
  exact giveN_out hG hfx hfx8 hfy hfy8 htx htx8 hty hty8 h2 (w := S.wet fy fx) (by omega) hne h3 h4 i 3 (Nat.le_refl _)
theorem giveS_dye (i : Int) : dyeS (giveS S fx fy tx ty) i = dyeS S i := by
  have hne : ¬ (ty = fy ∧ tx = fx) := fun ⟨h1, h3⟩ => by subst h1; subst h3; omega
  have b := hG.wet ty tx hty hty8 htx htx8
  exact giveN_dye hG hfx hfx8 hfy hfy8 htx htx8 hty hty8 h2 (w := S.wet fy fx) (by omega) hne i 3 (Nat.le_refl _)
end
/-- Water and dyes are as they were; the squares of the water have fallen by two for each unit given. -/
structure Kept (a b : Sh × Int) : Prop where
  wat : watS b.1 = watS a.1
  dye : ∀ i, dyeS b.1 i = dyeS a.1 i
  sq : sqS b.1 + 2 * (b.2 - a.2) ≤ sqS a.1
  al : Alike' a.1 b.1
  out : ∀ y x, hasB a.1 x y = false → b.1.wet y x = a.1.wet y x ∧ ∀ i, b.1.dye y x i = a.1.dye y x i
theorem Kept.rfl' (a : Sh × Int) : Kept a a := ⟨rfl, fun _ => rfl, by omega, .refl _, fun _ _ _ => ⟨rfl, fun _ => rfl⟩⟩
theorem Kept.tr {a b c : Sh × Int} (h1 : Kept a b) (h2 : Kept b c) : Kept a c := ⟨h2.wat.trans h1.wat, fun i => (h2.dye i).trans (h1.dye i), by have := h1.sq; have := h2.sq; omega, h1.al.trans h2.al, fun y x h => by
  have e1 := h1.out y x h
  have e2 := h2.out y x (by rw [h1.al.hasB]; exact h)
  exact ⟨e2.1.trans e1.1, fun i => (e2.2 i).trans (e1.2 i)⟩⟩
theorem nbN_kept {x y : Int} {L : List (Int × Int)} {S0 : Sh} {a : Sh × Int} (hx : 0 ≤ x) (hx8 : x < 8) (hy : 0 ≤ y) (hy8 : y < 8) (hL : ∀ q, q < L.length → 0 ≤ (L.getD q (0, 0)).1 ∧ (L.getD q (0, 0)).1 < 8 ∧ 0 ≤ (L.getD q (0, 0)).2 ∧ (L.getD q (0, 0)).2 < 8)
    (hG : Good a.1) (hA : Alike' S0 a.1) (hh : hasB S0 x y = true) (hLb : ∀ q, q < L.length → hasB S0 (L.getD q (0, 0)).1 (L.getD q (0, 0)).2 = true) : ∀ q, q ≤ L.length → Kept a (nbN x y L a q)
  | 0, _ => .rfl' a
  | q + 1, hq => by
    have ih := nbN_kept hx hx8 hy hy8 hL hG hA hh hLb q (by omega)
    obtain ⟨g1, g2, g3, g4⟩ := nbN_good hx hx8 hy hy8 hL hG hA q (by omega)
    obtain ⟨l1, l2, l3, l4⟩ := hL q (by omega)
    refine ih.tr ?_
    simp only [nbN, nbStep]
    split
    · rename_i h
      obtain ⟨k1, k2⟩ := giveS_kept g1 hx hx8 hy hy8 l1 l2 l3 l4 h
      refine ⟨k1, giveS_dye g1 hx hx8 hy hy8 l1 l2 l3 l4 h, by simp only; omega, (giveS_good g1 hx hx8 hy hy8 l1 l2 l3 l4 h).2, fun y' x' hb => ?_⟩
      rw [g2.hasB] at hb
      refine giveS_out g1 hx hx8 hy hy8 l1 l2 l3 l4 h (fun e => ?_) (fun e => ?_)
      · rw [e.1, e.2, hh] at hb; cases hb
      · have := hLb q (by omega); rw [e.1, e.2, this] at hb; cases hb
    · exact .rfl' _
theorem runN_kept {S : Sh} {W H : Nat} (hG : Good S) (hW : S.wide = W) (hH : S.high = H) : ∀ j, j ≤ H * W → Kept (S, 0) (runN S W j)
  | 0, _ => .rfl' _
  | j + 1, hj => by
    have ih := runN_kept hG hW hH j (by omega)
    obtain ⟨g1, g2, g3, g4⟩ := runN_good hG hW hH j (by omega)
    have hs := hG.small
    unfold Small at hs
    have hW0 : 0 < W := by omega
    have hm := Nat.mod_lt j hW0
    have hd : j / W < H := (Nat.div_lt_iff_lt_mul hW0).2 (by omega)
    have hx8 : ((j % W : Nat) : Int) < 8 := by omega
    have hy8 : ((j / W : Nat) : Int) < 8 := by omega
    refine ih.tr ?_
    simp only [runN, runCell]
    split
    · exact .rfl' _
    · exact nbN_kept (S0 := S) (Int.natCast_nonneg _) hx8 (Int.natCast_nonneg _) hy8 (fun q hq => (nb_mem g1.small hq).2) g1 g2 (by
        generalize j % W = p1 at *
        generalize j / W = p2 at *
        simp only [hasB, Bool.and_eq_true, decide_eq_true_eq]; omega) (fun q hq => by have := (nb_mem g1.small hq).1; rw [g2.hasB] at this; exact this) _ (Nat.le_refl _)
theorem runS_kept {S : Sh} {W H : Nat} (hG : Good S) (hW : S.wide = W) (hH : S.high = H) : Kept (S, 0) (runS S W H) := runN_kept hG hW hH _ (Nat.le_refl _)
theorem sqS_nonneg (S : Sh) : 0 ≤ sqS S := sumN_nonneg fun k hk => by
  have : 0 ≤ S.wet ((k / 8 : Nat) : Int) ((k % 8 : Nat) : Int) * S.wet ((k / 8 : Nat) : Int) ((k % 8 : Nat) : Int) := by
    rcases Int.le_total 0 (S.wet ((k / 8 : Nat) : Int) ((k % 8 : Nat) : Int)) with h | h
    · exact Int.mul_nonneg h h
    · exact Int.mul_nonneg_of_nonpos_of_nonpos h h
  exact this
/-- Running stops where the squares are small; it keeps water and dyes. -/
theorem untilN_stops {W H : Nat} : ∀ (f k : Nat) (S : Sh), Good S → S.wide = W → S.high = H → sqS S < 2 * (f + 1) → (untilN W H f k S).2.2 = true
  | f, k, S, hG, hW, hH, hq => by
    have hk := runS_kept hG hW hH
    obtain ⟨g1, g2, g3, g4⟩ := runS_good hG hW hH
    have hsq := hk.sq
    simp only at hsq
    have h0 := sqS_nonneg (runS S W H).1
    by_cases hr : (runS S W H).2 = 0
    · rw [untilN_stop hr]
    · cases f with
      | zero => simp only [Int.natCast_zero] at hq; omega
      | succ f =>
        rw [untilN_next hr]
        exact untilN_stops f (k + 1) _ g1 (g2.wide.trans hW) (g2.high.trans hH) (by simp only [Int.natCast_add, Int.natCast_one] at hq; omega)
theorem untilN_kept {W H : Nat} : ∀ (f k : Nat) (S : Sh), Good S → S.wide = W → S.high = H → (watS (untilN W H f k S).1 = watS S ∧ ∀ i, dyeS (untilN W H f k S).1 i = dyeS S i) ∧ ∀ y x, hasB S x y = false → (untilN W H f k S).1.wet y x = S.wet y x ∧ ∀ i, (untilN W H f k S).1.dye y x i = S.dye y x i
  | f, k, S, hG, hW, hH => by
    have hk := runS_kept hG hW hH
    obtain ⟨g1, g2, g3, g4⟩ := runS_good hG hW hH
    by_cases hr : (runS S W H).2 = 0
    · rw [untilN_stop hr]; exact ⟨⟨rfl, fun _ => rfl⟩, fun _ _ _ => ⟨rfl, fun _ => rfl⟩⟩
    · cases f with
      | zero => rw [untilN_end hr]; exact ⟨⟨hk.wat, hk.dye⟩, hk.out⟩
      | succ f =>
        rw [untilN_next hr]
        obtain ⟨⟨a, b⟩, c⟩ := untilN_kept f (k + 1) _ g1 (g2.wide.trans hW) (g2.high.trans hH)
        refine ⟨⟨a.trans hk.wat, fun i => (b i).trans (hk.dye i)⟩, fun y x hb => ?_⟩
        have e1 := hk.out y x hb
        have e2 := c y x (by rw [g2.hasB]; exact hb)
        exact ⟨e2.1.trans e1.1, fun i => (e2.2 i).trans (e1.2 i)⟩
theorem allS_le {f g : Int → Int → Int} (h : ∀ y x : Int, 0 ≤ y → y < 8 → 0 ≤ x → x < 8 → f y x ≤ g y x) : allS f ≤ allS g := sumN_le fun k hk => h _ _ (Int.natCast_nonneg _) (by omega) (Int.natCast_nonneg _) (by omega)
theorem allS_zero : allS (fun _ _ => 0) = 0 := by decide
/-- One place alone. -/
theorem allS_one {f : Int → Int → Int} {y x : Int} (hy : 0 ≤ y) (hy8 : y < 8) (hx : 0 ≤ x) (hx8 : x < 8) (h : ∀ y' x', 0 ≤ y' → y' < 8 → 0 ≤ x' → x' < 8 → ¬ (y' = y ∧ x' = x) → f y' x' = 0) : allS f = f y x := by
  unfold allS
  have i1 : (((y.toNat * 8 + x.toNat) / 8 : Nat) : Int) = y ∧ (((y.toNat * 8 + x.toNat) % 8 : Nat) : Int) = x := by omega
  have e : sumN (fun k => f ((k / 8 : Nat) : Int) ((k % 8 : Nat) : Int)) 64 = sumN (fun k => if k = y.toNat * 8 + x.toNat then f y x else 0) 64 := sumN_congr fun k hk => by
    by_cases hk2 : k = y.toNat * 8 + x.toNat
    · subst hk2; rw [if_pos rfl, i1.1, i1.2]
    · rw [if_neg hk2]; exact h _ _ (Int.natCast_nonneg _) (by omega) (Int.natCast_nonneg _) (by omega) fun e => hk2 (by omega)
  rw [e, sumN_one, if_pos (by omega)]
/-- A blank sheet has nothing anywhere. -/
theorem blank_none {S : Sh} (hV : Valid S) (hB : Blank S S.wide.toNat S.high.toNat) {y x : Int} (a : 0 ≤ y) (b : y < 8) (c : 0 ≤ x) (d : x < 8) : S.wet y x = 0 ∧ ∀ i : Int, 0 ≤ i → i < 3 → S.dye y x i = 0 := by
  have hW : S.wide = (S.wide.toNat : Int) := by have := hV.1; unfold Small at this; omega
  have hH : S.high = (S.high.toNat : Int) := by have := hV.1; unfold Small at this; omega
  by_cases hh : hasB S x y = true
  · exact ⟨hB.wet hV.good hW hH hh, fun i h0 h3 => hB.dye hV.good hW hH hh h0 h3⟩
  · have hf : hasB S x y = false := by simpa using hh
    exact ⟨hV.out y x a b c d hf, fun i h0 h3 => hV.outD a b c d h0 h3 hf⟩
theorem drop_sq {S : Sh} (hV : Valid S) (hB : Blank S S.wide.toNat S.high.toNat) {x y ink amount water : Int} (hh : hasB S x y = true) : sqS (S.drop x y ink amount water) = water * water ∧ (0 ≤ ink → ink < 3 → dyeS (S.drop x y ink amount water) ink = amount) := by
  obtain ⟨x0, x8, y0, y8⟩ := hasB_in hV.1 hh
  have hw : ∀ y' x', (S.drop x y ink amount water).wet y' x' = if y' = y ∧ x' = x then water else S.wet y' x' := fun _ _ => rfl
  have hd : ∀ y' x' i', (S.drop x y ink amount water).dye y' x' i' = if y' = y ∧ x' = x ∧ i' = ink then amount else S.dye y' x' i' := fun _ _ _ => rfl
  constructor
  · unfold sqS
    rw [allS_one y0 y8 x0 x8 fun y' x' a b c d h => by rw [hw, if_neg h, (blank_none hV hB a b c d).1]; rfl]
    rw [hw, if_pos ⟨rfl, rfl⟩]
  · intro h0 h3
    unfold dyeS
    rw [allS_one y0 y8 x0 x8 fun y' x' a b c d h => by rw [hd, if_neg fun e => h ⟨e.1, e.2.1⟩, (blank_none hV hB a b c d).2 ink h0 h3]]
    rw [hd, if_pos ⟨rfl, rfl, rfl⟩]
/-- A drop with some dye and little water makes a stain that is not empty. -/
theorem stain_ok {S : Sh} (hV : Valid S) (hB : Blank S S.wide.toNat S.high.toNat) {x y ink amount water : Int} (hd : dropB S x y ink amount water = true) (hwx : waxB S x y = false) (hw : water ≤ 30) :
    (stainR S x y ink amount water).2 = 0 ∧ (1 ≤ amount → (stainR S x y ink amount water).1 ≠ []) := by
  obtain ⟨hh, hk, ha, hwa⟩ := dropB_iff.1 hd
  obtain ⟨hW, hH, hW8, hH8⟩ := valid_sides hV.1
  have hG := drop_good (x := x) (y := y) (ink := ink) hV.good ha hwa
  obtain ⟨s1, s2⟩ := drop_sq hV hB (ink := ink) (amount := amount) (water := water) hh
  have hww : water * water ≤ 900 := by
    have : water * water ≤ 30 * 30 := Int.mul_le_mul hw hw hwa.1 (by omega)
    omega
  have hst := untilN_stops (W := S.wide.toNat) (H := S.high.toNat) 500 0 (S.drop x y ink amount water) hG hW hH (by rw [s1]; show water * water < 2 * (((500 : Nat) : Int) + 1); omega)
  have hr := stainR_run hV hd ⟨hB, hwx⟩
  rw [if_pos hst] at hr
  rw [hr]
  refine ⟨rfl, fun h1 he => ?_⟩
  obtain ⟨⟨_, k2⟩, k3⟩ := untilN_kept (W := S.wide.toNat) (H := S.high.toNat) 500 0 (S.drop x y ink amount water) hG hW hH
  obtain ⟨u1, u2, u3⟩ := untilN_good (W := S.wide.toNat) (H := S.high.toNat) 500 0 (S.drop x y ink amount water) hG hW hH
  have hsum := (k2 ink).trans (s2 hk.1 (by omega))
  generalize untilN S.wide.toNat S.high.toNat 500 0 (S.drop x y ink amount water) = U at *
  have hle : dyeS U.1 ink ≤ 0 := by
    rw [← allS_zero]
    refine allS_le fun y' x' a b c d => ?_
    have hgd := fun i (h0 : 0 ≤ i) (h3 : i < 3) => (u1.dye y' x' i a b c d h0 h3).1
    by_cases hb : hasB S x' y' = true
    · have hmem : ¬ ((x', y') ∈ dyedL U.1 S.wide.toNat S.high.toNat 1) := by simp only at he; rw [he]; simp
      have hcell : (x', y') ∈ cellsL S.wide.toNat S.high.toNat := by
        simp only [hasB, Bool.and_eq_true, decide_eq_true_eq] at hb
        have e := at_cell (W := S.wide.toNat) c a (by omega)
        unfold cellsL
        refine List.mem_map.2 ⟨y'.toNat * S.wide.toNat + x'.toNat, List.mem_range.2 ?_, by rw [e.1, e.2]⟩
        have : (y'.toNat + 1) * S.wide.toNat ≤ S.high.toNat * S.wide.toNat := Nat.mul_le_mul_right _ (by omega)
        rw [Nat.add_mul] at this
        omega
      have hdk : ¬ (1 ≤ darkB U.1 x' y') := fun h => hmem (List.mem_filter.2 ⟨hcell, decide_eq_true h⟩)
      unfold darkB at hdk
      have g0 := hgd 0 (by omega) (by omega)
      have g1 := hgd 1 (by omega) (by omega)
      have g2 := hgd 2 (by omega) (by omega)
      rcases (by omega : ink = 0 ∨ ink = 1 ∨ ink = 2) with e | e | e <;> subst e <;> omega
    · have hf : hasB S x' y' = false := by simpa using hb
      have := (k3 y' x' hf).2 ink
      rw [this]
      have hne : ¬ (y' = y ∧ x' = x ∧ ink = ink) := fun e => by rw [e.1, e.2.1, hh] at hf; cases hf
      show (if y' = y ∧ x' = x ∧ ink = ink then amount else S.dye y' x' ink) ≤ 0
      rw [if_neg hne, (blank_none hV hB a b c d).2 ink hk.1 (by omega)]
      exact Int.le_refl 0
  omega
end Go.Proofs.YtggpnfgohpifoaaGreat.V

/- The law of StainOf: the walk. -/
namespace Go.Proofs.YtggpnfgohpifoaaGreat.V
theorem dyedL_len (S : Sh) {W H : Nat} (hW8 : W ≤ 8) (hH8 : H ≤ 8) (least : Int) : (dyedL S W H least).length ≤ 64 := by
  have : H * W ≤ 64 := Nat.mul_le_mul hH8 hW8
  have h2 := List.length_filter_le (fun a : Int × Int => decide (least ≤ darkB S a.1 a.2)) (cellsL W H)
  rw [cellsL_len] at h2
  unfold dyedL
  omega
theorem stainR_len (S : Sh) (x y ink amount water : Int) : (stainR S x y ink amount water).1.length ≤ 64 := by
  by_cases hV : Valid S
  rotate_left
  · rw [stainR_bad hV]; simp
  obtain ⟨hW, hH, hW8, hH8⟩ := valid_sides hV.1
  by_cases hd : dropB S x y ink amount water = true
  rotate_left
  · rw [stainR_range hV hd]; simp
  by_cases h3 : Blank S S.wide.toNat S.high.toNat ∧ waxB S x y = false
  rotate_left
  · rw [stainR_state hV hd h3]; simp
  rw [stainR_run hV hd h3]
  split
  · exact dyedL_len _ hW8 hH8 1
  · simp
section
variable (cx : Cx) (h : List (Nat × Seg)) (n : Nat)
end
end Go.Proofs.YtggpnfgohpifoaaGreat.V
