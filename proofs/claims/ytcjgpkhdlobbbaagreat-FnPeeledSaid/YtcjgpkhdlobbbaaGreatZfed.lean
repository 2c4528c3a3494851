/- Part 4 of the texts that this proof stands on: a symbolic walk over the program, what its functions and the reference's do, plain laws. -/
import Derived.Test.YtcjgpkhdlobbbaaGreatZfeb
import Derived.Test.YtcjgpkhdlobbbaaGreatV17
import Derived.Test.YtcjgpkhdlobbbaaGreatZfec
set_option linter.all false

/- Comparing spots; the library's small functions. -/
namespace Go.Proofs.YtcjgpkhdlobbbaaGreat.V
def cmp8 (a b : Int) : Int := if a < b then -1 else if b < a then 1 else 0
def cmpSp (a b : Int × Int) : Int := if cmp8 a.2 b.2 ≠ 0 then cmp8 a.2 b.2 else cmp8 a.1 b.1
theorem cmpSp_lt (a b : Int × Int) : decide (cmpSp a b < 0) = ltSp a b := by
  unfold cmpSp cmp8 ltSp
  by_cases h1 : a.2 < b.2
  · simp [h1]
  · by_cases h2 : b.2 < a.2
    · have : ¬ a.2 = b.2 := by omega
      simp [h1, h2, this]
    · have : a.2 = b.2 := by omega
      by_cases h3 : a.1 < b.1
      · simp [h1, h2, h3, this]
      · by_cases h4 : b.1 < a.1 <;> simp [h1, h2, h3, h4, this]
theorem bt_in (s : ByteArray) (j : Int) : 0 ≤ bt s j ∧ bt s j < 256 := by
  unfold bt
  have := ((s[j.toNat]?).getD 0).toNat_lt
  omega
section
variable (cx : Cx) (h : List (Nat × Seg)) (n : Nat)
theorem isNaN8_Q (a : Int) : CallQ Tryz.prog cx 104 [.int .i8 a] h n (.bool false) := by
  refine callQ_of_T (P := Tryz.prog) hti (nt := 6) (rs := [.tmp 2]) rfl rfl Tryz.call104 Tryz.func104 rfl _ (by simp only [go_sem, and_self]) (Nat.le_of_ble_eq_true rfl) _ (by first | exact trivial | (refine lt_flat rfl ?_; simp [SV.flat]; done) | simp only [go_sem]) fun hok => ?_
  simp only [go_sem, Nat.reduceLT]
theorem compare8_Q (a b : Int) : CallQ Tryz.prog cx 92 [.int .i8 a, .int .i8 b] h n (.int .i64 (cmp8 a b)) := by
  refine callQ_of_T (P := Tryz.prog) hti (nt := 20) (rs := [.tmp 4]) rfl rfl Tryz.call92 Tryz.func92 rfl _ (by simp only [go_sem, and_self]) (Nat.le_of_ble_eq_true rfl) _ (by first | exact trivial | (refine lt_flat rfl ?_; simp [SV.flat]; done) | simp only [go_sem]) fun hok => ?_
  simp only [go_sem, Nat.reduceLT, Int.reduceNeg]
  refine (isNaN8_Q _ _ _ a).A ?_
  simp only [go_sem, Nat.reduceLT, Int.reduceNeg]
  refine (isNaN8_Q _ _ _ b).A ?_
  simp only [go_sem, Nat.reduceLT, Int.reduceNeg]
  unfold cmp8
  by_cases h1 : a < b
  · simp only [go_sem, reduceIte, reduceCtorEq, Int.reduceNeg, h1]
  · by_cases h2 : b < a
    · simp only [go_sem, reduceIte, reduceCtorEq, Int.reduceNeg, h1, h2]
    · simp only [go_sem, reduceIte, Int.reduceNeg, h1, h2]
theorem orI_Q (i cap : Nat) (s : Seg) (a b : Int) (hs : hget h i = some s) (hi : i < n) (hn : s.n = 2) (h0 : s.c 0 = .int .i64 a) (h1 : s.c 1 = .int .i64 b) : CallQ Tryz.prog cx 91 [.sl i 0 2 cap] h n (.int .i64 (if a ≠ 0 then a else b)) := by
  refine callQ_of_T (P := Tryz.prog) hti (nt := 18) (rs := [.tmp 2]) rfl rfl Tryz.call91 Tryz.func91 rfl _ (by simp only [go_sem, and_self]) (Nat.le_of_ble_eq_true rfl) _ (by first | exact trivial | (refine lt_flat rfl ?_; simp [SV.flat]; done) | simp only [go_sem]) fun hok => ?_
  simp only [go_sem, Nat.reduceLT]
  refine T_unroll 2 ?_
  simp only [go_sem, Nat.reduceLT, Nat.reduceLeDiff, Int.reduceToNat, Int.reduceLE, Int.reduceLT, Int.reduceNeg, Int.reduceAdd, hs, hi, hn, h0]
  by_cases ha : a = 0
  · simp only [go_sem, ha]
    refine U_step ?_
    simp only [go_sem, Nat.reduceLT, Int.reduceToNat, Int.reduceLE, Int.reduceLT, Int.reduceNeg, Int.reduceAdd, hs, hi, hn, h1]
    by_cases hb : b = 0
    · simp only [go_sem, hb]
      refine U_step ?_
      simp only [go_sem, Nat.reduceLT, Int.reduceLT, not_true, if_false]
    · simp only [go_sem, reduceCtorEq, hb, not_true, if_false]
  · simp only [go_sem, reduceCtorEq, ha, not_false_eq_true, if_true]
theorem inOrder_Q (a b : Int × Int) : CallQ Tryz.prog cx 83 [spot a.1 a.2, spot b.1 b.2] h n (.int .i64 (cmpSp a b)) := by
  refine callQ_of_T (P := Tryz.prog) hti (nt := 17) (rs := [.tmp 4]) rfl rfl Tryz.call83 Tryz.func83 rfl _ (by simp only [go_sem, and_self]) (Nat.le_of_ble_eq_true rfl) _ (by first | exact trivial | (refine lt_flat rfl ?_; simp [SV.flat]; done) | simp only [go_sem]) fun hok => ?_
  simp only [go_sem, Nat.reduceLT]
  refine T_drawG hti 13 [] (.b 0 0 (.b 0 1 (.b 0 2 (.b 0 3 (.b 0 5 (.b 0 6 (.b 0 7 (.b 0 8 (.b 1 4 (.b 1 9 (.b 2 10 (.b 1 11 (.b 0 12 (.f) .o) .o) .o) .o) .o) .o) .o) .o) .o) .o) .o) .o) .o) _ _ (by kernel_rfl) (by kernel_rfl) ?_
  simp only [go_sem, Nat.reduceLT, Nat.reduceLeDiff, reduceCtorEq]
  refine CallQ.F _ (fun h' n' hn hx => compare8_Q _ h' n' a.2 b.2) ?_
  simp only [go_sem, Nat.reduceLT]
  refine CallQ.F _ (fun h' n' hn hx => compare8_Q _ h' n' a.1 b.1) ?_
  simp only [go_sem, Nat.reduceLT, Nat.reduceLeDiff]
  refine CallQ.F _ (fun h' n' hn hx => orI_Q _ h' n' (n + 2) 2 _ _ _ (hx (n + 2) (by omega) _ (by simp only [go_sem]; rfl)) (by omega) rfl rfl rfl) ?_
  simp only [go_sem, Nat.reduceLT]
  rfl
theorem lenR_in (tab : ByteArray) (z k : Int) (hk : 0 ≤ k ∧ k ≤ 100) : 0 ≤ IntKind.i64.wrap (k + IntKind.i64.wrap (bt tab z)) ∧ IntKind.i64.wrap (k + IntKind.i64.wrap (bt tab z)) < 1000 := by
  have := bt_in tab z
  rw [w64 (n := bt tab z) (by omega), w64 (by omega)]
  omega
theorem u8_in (x : Int) : 0 ≤ IntKind.u8.wrap x ∧ IntKind.u8.wrap x < 256 := by
  simp [IntKind.wrap, IntKind.bits, IntKind.signed]; omega
set_option maxRecDepth 100000 in
theorem len64_E (x : Int) (K : HK) (hK : ∀ r : Int, 0 ≤ r ∧ r < 1000 → K (.int .i64 r) h n) : CallE Tryz.prog cx 103 [.int .u64 x] h n K := by
  by_cases h1 : 4294967296 ≤ x
  · by_cases h2 : 65536 ≤ shrI .u64 (x) 32
    · by_cases h3 : 256 ≤ shrI .u64 (shrI .u64 (x) 32) 16
      · refine callE_of_T (P := Tryz.prog) hti (nt := 25) (rs := [.tmp 2]) rfl rfl Tryz.call103 Tryz.func103 rfl _ (by simp only [go_sem, and_self]) (Nat.le_of_ble_eq_true rfl) _ fun hok => ?_
        simp only [go_sem, Nat.reduceLT, Int.reduceLE, Int.reduceLT, Int.reduceNeg, Int.reduceAdd, h1, h2, h3]
        exact ⟨(u8_in (shrI .u64 (shrI .u64 (shrI .u64 (x) 32) 16) 8)).2, hK _ (lenR_in _ _ 56 (by omega))⟩
      · refine callE_of_T (P := Tryz.prog) hti (nt := 25) (rs := [.tmp 2]) rfl rfl Tryz.call103 Tryz.func103 rfl _ (by simp only [go_sem, and_self]) (Nat.le_of_ble_eq_true rfl) _ fun hok => ?_
        simp only [go_sem, Nat.reduceLT, Int.reduceLE, Int.reduceLT, Int.reduceNeg, Int.reduceAdd, h1, h2, h3]
        exact ⟨(u8_in (shrI .u64 (shrI .u64 (x) 32) 16)).2, hK _ (lenR_in _ _ 48 (by omega))⟩
    · by_cases h3 : 256 ≤ shrI .u64 (x) 32
      · refine callE_of_T (P := Tryz.prog) hti (nt := 25) (rs := [.tmp 2]) rfl rfl Tryz.call103 Tryz.func103 rfl _ (by simp only [go_sem, and_self]) (Nat.le_of_ble_eq_true rfl) _ fun hok => ?_
        simp only [go_sem, Nat.reduceLT, Int.reduceLE, Int.reduceLT, Int.reduceNeg, Int.reduceAdd, h1, h2, h3]
        exact ⟨(u8_in (shrI .u64 (shrI .u64 (x) 32) 8)).2, hK _ (lenR_in _ _ 40 (by omega))⟩
      · refine callE_of_T (P := Tryz.prog) hti (nt := 25) (rs := [.tmp 2]) rfl rfl Tryz.call103 Tryz.func103 rfl _ (by simp only [go_sem, and_self]) (Nat.le_of_ble_eq_true rfl) _ fun hok => ?_
        simp only [go_sem, Nat.reduceLT, Int.reduceLE, h1, h2, h3]
        exact ⟨(u8_in (shrI .u64 (x) 32)).2, hK _ (lenR_in _ _ 32 (by omega))⟩
  · by_cases h2 : 65536 ≤ x
    · by_cases h3 : 256 ≤ shrI .u64 (x) 16
      · refine callE_of_T (P := Tryz.prog) hti (nt := 25) (rs := [.tmp 2]) rfl rfl Tryz.call103 Tryz.func103 rfl _ (by simp only [go_sem, and_self]) (Nat.le_of_ble_eq_true rfl) _ fun hok => ?_
        simp only [go_sem, Nat.reduceLT, Int.reduceLE, Int.reduceLT, Int.reduceNeg, Int.reduceAdd, h1, h2, h3]
        exact ⟨(u8_in (shrI .u64 (shrI .u64 (x) 16) 8)).2, hK _ (lenR_in _ _ 24 (by omega))⟩
      · refine callE_of_T (P := Tryz.prog) hti (nt := 25) (rs := [.tmp 2]) rfl rfl Tryz.call103 Tryz.func103 rfl _ (by simp only [go_sem, and_self]) (Nat.le_of_ble_eq_true rfl) _ fun hok => ?_
        simp only [go_sem, Nat.reduceLT, Int.reduceLE, Int.reduceLT, Int.reduceNeg, Int.reduceAdd, h1, h2, h3]
        exact ⟨(u8_in (shrI .u64 (x) 16)).2, hK _ (lenR_in _ _ 16 (by omega))⟩
    · by_cases h3 : 256 ≤ x
      · refine callE_of_T (P := Tryz.prog) hti (nt := 25) (rs := [.tmp 2]) rfl rfl Tryz.call103 Tryz.func103 rfl _ (by simp only [go_sem, and_self]) (Nat.le_of_ble_eq_true rfl) _ fun hok => ?_
        simp only [go_sem, Nat.reduceLT, Int.reduceLE, Int.reduceLT, Int.reduceNeg, Int.reduceAdd, h1, h2, h3]
        exact ⟨(u8_in (shrI .u64 (x) 8)).2, hK _ (lenR_in _ _ 8 (by omega))⟩
      · refine callE_of_T (P := Tryz.prog) hti (nt := 25) (rs := [.tmp 2]) rfl rfl Tryz.call103 Tryz.func103 rfl _ (by simp only [go_sem, and_self]) (Nat.le_of_ble_eq_true rfl) _ fun hok => ?_
        simp only [go_sem, Nat.reduceLT, h1, h2, h3]
        exact ⟨(u8_in (x)).2, hK _ (lenR_in _ _ 0 (by omega))⟩
theorem len_E (x : Int) (K : HK) (hK : ∀ r : Int, 0 ≤ r ∧ r < 1000 → K (.int .i64 r) h n) : CallE Tryz.prog cx 90 [.int .u64 x] h n K := by
  refine callE_of_T (P := Tryz.prog) hti (nt := 8) (rs := [.tmp 2]) rfl rfl Tryz.call90 Tryz.func90 rfl _ (by simp only [go_sem, and_self]) (Nat.le_of_ble_eq_true rfl) _ fun hok => ?_
  simp only [go_sem, Nat.reduceLT]
  refine callA_false (len64_E _ _ _ x _ fun r hr => ?_)
  simp only [go_sem, Nat.reduceLT]
  exact hK r hr
end
end Go.Proofs.YtcjgpkhdlobbbaaGreat.V

/- The library's insertion sort over spots. -/
namespace Go.Proofs.YtcjgpkhdlobbbaaGreat.V
open Go.Sort (swp insInner insOuter insertionSort)

theorem bang_getD (d : Array (Int × Int)) (j : Nat) : d[j]! = d.toList.getD j (0, 0) := by
  rw [List.getD_eq_getElem?_getD, Array.getElem?_toList, getElem!_def]
  cases d[j]? <;> rfl
theorem swp_toList (d : Array (Int × Int)) (i j : Nat) : (swp d i j).toList = (d.toList.set i (d.toList.getD j (0, 0))).set j (d.toList.getD i (0, 0)) := by
  unfold swp
  rw [Array.toList_setIfInBounds, Array.toList_setIfInBounds, bang_getD, bang_getD]
theorem swp_size (d : Array (Int × Int)) (i j : Nat) : (swp d i j).size = d.size := by unfold swp; simp
/-- A spot stored. -/
theorem spots_store (L : List (Int × Int)) (k : Nat) (x : Int × Int) (hk : k < L.length) : (fun j => if k * 2 ≤ j ∧ j < k * 2 + 2 then cl [.int .i8 x.1, .int .i8 x.2] (j - k * 2) else spotsC L j) = spotsC (L.set k x) := by
  funext j
  by_cases h : k * 2 ≤ j ∧ j < k * 2 + 2
  · rw [if_pos h]
    have hg : (L.set k x).getD k (0, 0) = x := by simp [List.getD_eq_getElem?_getD, hk]
    rcases (by omega : j = k * 2 ∨ j = k * 2 + 1) with rfl | rfl
    · rw [spotsC_x, hg, Nat.sub_self]; rfl
    · rw [spotsC_y, hg, show k * 2 + 1 - k * 2 = 1 by omega]; rfl
  · rw [if_neg h]
    have hg : (L.set k x).getD (j / 2) (0, 0) = L.getD (j / 2) (0, 0) := by
      simp only [List.getD_eq_getElem?_getD, List.getElem?_set]; rw [if_neg (by omega)]
    unfold spotsC
    rw [hg]
/-- A function that compares spots. -/
def Cmps (cx : Cx) (h : List (Nat × Seg)) (n i f p q : Nat) (G F : Nat → SV) (cI : Int × Int → Int × Int → Int) : Prop :=
  ∀ (a b : Int × Int) nt n0 h' n', n ≤ n' → HBut i n h h' → CallQ Tryz.prog ⟨cx.w0, cx.W, nt, n0⟩ f (lst p G ++ [spot a.1 a.2, spot b.1 b.2] ++ lst q F) h' n' (.int .i64 (cI a b))
section
variable (cx : Cx) (h : List (Nat × Seg)) (n : Nat)
set_option maxRecDepth 100000 in
theorem insSort_E (i cap : Nat) (d : Array (Int × Int)) (own : Option (Nat × Nat)) (a b : Nat) (f p q : Nat) (G F : Nat → SV) (cI : Int × Int → Int × Int → Int) (lt : Int × Int → Int × Int → Bool) (hlt : ∀ x y, decide (cI x y < 0) = lt x y)
    (hs : hget h i = some ⟨d.size * 2, spotsC d.toList, true, own⟩) (hi : i < n) (hb : b ≤ d.size) (hab : a ≤ b) (hm9 : d.size ≤ 1000000000) (hF : (SV.fn f p G q F).lt n) (hcmp : Cmps cx h n i f p q G F cI) (K : HK)
    (hK : K (.tup 0 (cl [])) (hset h i ⟨d.size * 2, spotsC (insertionSort lt d a b).toList, true, own⟩) n) :
    CallE Tryz.prog cx 94 [.sl i 0 d.size cap, .int .i64 a, .int .i64 b, .fn f p G q F] h n K := by
  refine CallE.to _ _ (by simp only [go_sem]) (fun hok => hok_set hok fun k hk => spotsC_flat _ _) hK ?_
  have hgi : ∀ t, hget (hset h i t) i = some t := hget_hset_self hs
  have hFl : (SV.fn f p G q F).lt n = True := eq_true hF
  refine callE_of_T (P := Tryz.prog) hti (nt := 53) (rs := []) rfl rfl Tryz.call94 Tryz.func94 rfl _ (by simp only [go_sem, and_self]) (Nat.le_of_ble_eq_true rfl) _ fun hok => ?_
  have ha9 : a ≤ 1000000000 := by omega
  simp only [go_sem, Nat.reduceLT, w64 (n := (a : Int) + 1) (by omega)]
  refine T_lp (ι := { p : Nat × Array (Int × Int) // p.1 ≤ b + 1 ∧ a + 1 ≤ p.1 ∧ p.2.size = d.size ∧ insOuter lt a b p.1 p.2 = insertionSort lt d a b })
    (fun w => ([(0, .sl i 0 d.size cap), (1, .int .i64 a), (2, .int .i64 b), (3, .fn f p G q F), (8, .int .i64 w.1.1)], hset h i ⟨d.size * 2, spotsC w.1.2.toList, true, own⟩, n)) (fun w => b + 1 - w.1.1) ⟨(a + 1, d), by omega, Nat.le_refl _, rfl, rfl⟩ ?_ ?_
  · refine Imp.id (by simp) ?_ ?_
    · simp only [go_sem, Nat.reduceLT, hFl, Int.natCast_add, Int.natCast_one]
      exact hi
    · rw [hset_self hs]; exact impH.base0 hok (by simp) HExt.rfl
  · rintro ⟨⟨k, D⟩, hk, hak, hD, hO⟩
    simp only at hk hak hD hO
    simp only [go_sem, Nat.reduceLT, decide_eq_true_eq, decide_eq_false_iff_not]
    refine ⟨fun h1 => ?_, fun h1 => ?_⟩
    · have hkb : k < b := by omega
      refine T_lp (ι := { p : Nat × Array (Int × Int) // p.1 ≤ k ∧ a ≤ p.1 ∧ p.2.size = d.size ∧ insInner lt a p.1 p.2 = insInner lt a k D })
        (fun w => ([(0, .sl i 0 d.size cap), (1, .int .i64 a), (2, .int .i64 b), (3, .fn f p G q F), (8, .int .i64 k), (9, .int .i64 w.1.1)], hset h i ⟨d.size * 2, spotsC w.1.2.toList, true, own⟩, n)) (fun w => w.1.1) ⟨(k, D), Nat.le_refl _, by omega, hD, rfl⟩ ?_ ?_
      · refine Imp.id (by simp) ?_ ?_
        · simp only [go_sem, Nat.reduceLT, hFl]
          exact hi
        · exact impH.base0 (hok_set hok fun k hk => spotsC_flat _ _) (by simp) HExt.rfl
      · rintro ⟨⟨j, E⟩, hj, haj, hE, hI⟩
        simp only at hj haj hE hI
        have hEl : E.toList.length = d.size := by rw [Array.length_toList]; exact hE
        simp only [go_sem]
        by_cases hja : a < j
        rotate_left
        · have e1 : ((a : Int) < j) = False := eq_false (by omega)
          refine T_draw hti _ _ (by kernel_rfl) (by kernel_rfl) ?_
          simp only [go_sem, Nat.reduceLT, e1]
          have e2 : insInner lt a j E = E := by
            cases j with
            | zero => rfl
            | succ j => unfold insInner; rw [if_neg (by simp; omega)]
          rw [e2] at hI
          refine ⟨⟨(k + 1, E), by show k + 1 ≤ b + 1; omega, by show a + 1 ≤ k + 1; omega, hE, ?_⟩, by show b + 1 - (k + 1) < b + 1 - k; omega, ?_⟩
          · rw [← hO]
            show insOuter lt a b (k + 1) E = _
            rw [insOuter.eq_1 lt a b k D, if_pos hkb, hI]
          · refine Imp.id (by simp) ?_ ?_
            · simp only [go_sem, Nat.reduceLT, hFl, w64 (n := (k : Int) + 1) (by omega), Int.natCast_add, Int.natCast_one]
              exact hi
            · exact impH.base0 (hok_set hok fun k hk => spotsC_flat _ _) (by simp) HExt.rfl
        obtain ⟨j, rfl⟩ : ∃ j', j = j' + 1 := ⟨j - 1, by omega⟩
        have e1 : ((a : Int) < ((j + 1 : Nat) : Int)) = True := eq_true (by omega)
        have r1 : (0 : Int) ≤ (j : Int) + 1 ∧ (j : Int) + 1 < d.size := ⟨by omega, by omega⟩
        have r2 : (0 : Int) ≤ (j : Int) ∧ (j : Int) < d.size := ⟨by omega, by omega⟩
        have e2 : ((j : Int) + 1).toNat = j + 1 := by omega
        have b1 : (j + 1) * 2 ≤ d.size * 2 - 2 := by omega
        have b2 : (j + 1) * 2 + 2 ≤ d.size * 2 := by omega
        have b3 : j * 2 ≤ d.size * 2 - 2 := by omega
        have b4 : j * 2 + 2 ≤ d.size * 2 := by omega
        have b5 : 2 ≤ d.size * 2 := by omega
        have b6 : (2 = d.size * 2) = False := eq_false (by omega)
        have e1' : ((a : Int) < (j : Int) + 1) = True := eq_true (by omega)
        refine T_draw hti _ _ (by kernel_rfl) (by kernel_rfl) ?_
        simp only [go_sem, Nat.reduceLT, hgi, hi, e1, e1', r1, r2, e2, b1, b2, b3, b4, b5, spotsC_x, spotsC_y, Int.natCast_add, Int.natCast_one, Int.add_sub_cancel, w64 (n := (j : Int)) (by omega)]
        refine (hcmp (E.toList.getD (j + 1) (0, 0)) (E.toList.getD j (0, 0)) _ _ _ _ (Nat.le_refl n) (HBut.set i n h _)).A ?_
        have hl := hlt (E.toList.getD (j + 1) (0, 0)) (E.toList.getD j (0, 0))
        by_cases hc : cI (E.toList.getD (j + 1) (0, 0)) (E.toList.getD j (0, 0)) < 0
        rotate_left
        · have e3 : insInner lt a (j + 1) E = E := by
            unfold insInner
            rw [bang_getD, bang_getD, ← hl, decide_eq_false hc, Bool.and_false]
            rfl
          rw [e3] at hI
          simp only [go_sem, Nat.reduceLT, hc]
          refine ⟨⟨(k + 1, E), by show k + 1 ≤ b + 1; omega, by show a + 1 ≤ k + 1; omega, hE, ?_⟩, by show b + 1 - (k + 1) < b + 1 - k; omega, ?_⟩
          · rw [← hO]
            show insOuter lt a b (k + 1) E = _
            rw [insOuter.eq_1 lt a b k D, if_pos hkb, hI]
          · refine Imp.id (by simp) ?_ ?_
            · simp only [go_sem, Nat.reduceLT, hFl, w64 (n := (k : Int) + 1) (by omega), Int.natCast_add, Int.natCast_one]
              exact hi
            · exact impH.base0 (hok_set hok fun k hk => spotsC_flat _ _) (by simp) HExt.rfl
        · have e3 : insInner lt a (j + 1) E = insInner lt a j (swp E (j + 1) j) := by
            show (if decide (j + 1 > a) && lt E[j + 1]! E[j]! then insInner lt a j (swp E (j + 1) j) else E) = _
            rw [bang_getD, bang_getD, ← hl, decide_eq_true hc]
            simp only [gt_iff_lt, hja, decide_true, Bool.and_true, if_true]
          rw [e3] at hI
          simp only [go_sem, Nat.reduceLT, hc]
          refine T_drawG hti 18 [15, 17] (.b 0 0 (.b 0 1 (.b 0 2 (.b 0 3 (.b 0 4 (.b 0 5 (.b 0 6 (.b 0 7 (.b 0 8 (.b 0 9 (.b 0 10 (.b 0 11 (.b 0 12 (.b 0 13 (.b 0 14 (.b 4 15 (.b 0 16 (.b 4 17 (.f) .o) .o) .o) .o) .o) .o) .o) .o) .o) .o) .o) .o) .o) .o) .o) .o) .o) .o) _ _ (by kernel_rfl) (by kernel_rfl) ?_
          simp only [go_sem, Nat.reduceLT, reduceCtorEq, hgi, hi, r1, r2, e2, b1, b2, b3, b4, b5, b6, and_false, if_false, spotsC_x, spotsC_y, spots_store E.toList (j + 1) (E.toList.getD j (0, 0)) (by omega), Int.add_sub_cancel, w64 (n := (j : Int)) (by omega)]
          rw [spots_store (E.toList.set (j + 1) (E.toList.getD j (0, 0))) j (E.toList.getD (j + 1) (0, 0)) (by rw [List.length_set]; omega), ← swp_toList]
          refine ⟨⟨(j, swp E (j + 1) j), by show j ≤ k; omega, by show a ≤ j; omega, (swp_size _ _ _).trans hE, hI⟩, by show j < j + 1; omega, ?_⟩
          refine Imp.id (by simp) ?_ ?_
          · simp only [go_sem, Nat.reduceLT, hFl]
            exact hi
          · exact impH.base0 (hok_set hok fun k hk => spotsC_flat _ _) (by simp) HExt.rfl
    · have hkb : ¬ k < b := by omega
      have e : D = insertionSort lt d a b := by rw [← hO]; unfold insOuter; rw [if_neg hkb]
      rw [e]
      exact HExt.rfl
theorem pdqFew_E (i cap : Nat) (L : List (Int × Int)) (own : Option (Nat × Nat)) (r : Int) (f p q : Nat) (G F : Nat → SV) (cI : Int × Int → Int × Int → Int) (hlt : ∀ x y, decide (cI x y < 0) = ltSp x y)
    (hs : hget h i = some ⟨L.length * 2, spotsC L, true, own⟩) (hi : i < n) (hm : L.length ≤ 12) (hF : (SV.fn f p G q F).lt n) (hcmp : Cmps cx h n i f p q G F cI) (K : HK)
    (hK : K (.tup 0 (cl [])) (hset h i ⟨L.length * 2, spotsC (srtS L), true, own⟩) n) :
    CallE Tryz.prog cx 89 [.sl i 0 L.length cap, .int .i64 0, .int .i64 L.length, .int .i64 r, .fn f p G q F] h n K := by
  have hsort : (insertionSort ltSp L.toArray 0 L.length).toList = srtS L := by
    have h1 := Go.Sort.insertionSort_holds ltSp_swo L.toArray 0 L.length (Nat.zero_le _) (by simp)
    have := sorted_srtS (d := L.toArray) (d' := insertionSort ltSp L.toArray 0 L.length) (by simpa using h1.1) (by simpa using h1.2)
    simpa using this
  refine CallE.to _ _ (by simp only [go_sem]) (fun hok => hok_set hok fun k hk => spotsC_flat _ _) hK ?_
  have e1 : ((L.length : Int) ≤ 12) = True := eq_true (by omega)
  refine callE_of_T (P := Tryz.prog) hti (nt := 148) (rs := []) rfl rfl Tryz.call89 Tryz.func89 rfl _ (by simp only [go_sem, and_self]) (Nat.le_of_ble_eq_true rfl) _ fun hok => ?_
  simp only [go_sem, Nat.reduceLT]
  refine T_unroll 0 ?_
  simp only [go_sem, Nat.reduceLT, w64 (n := (L.length : Int) - 0) (by omega), Int.sub_zero, e1, w64 (n := (L.length : Int)) (by omega)]
  refine callA_false (insSort_E _ _ _ i cap L.toArray own 0 L.length f p q G F cI ltSp hlt hs hi (Nat.le_refl _) (Nat.zero_le _) (by simp; omega) hF (by intro a b nt n0 h' n' hn hb; exact hcmp a b nt n0 h' n' hn hb) _ ?_)
  rw [hsort]
  simp only [go_sem]
  (try exact HExt.rfl)
/-- The library's sort, of few spots. -/
theorem sortFunc_E (i cap : Nat) (L : List (Int × Int)) (own : Option (Nat × Nat)) (f p q : Nat) (G F : Nat → SV) (cI : Int × Int → Int × Int → Int) (hlt : ∀ x y, decide (cI x y < 0) = ltSp x y)
    (hs : hget h i = some ⟨L.length * 2, spotsC L, true, own⟩) (hi : i < n) (hm : L.length ≤ 12) (hF : (SV.fn f p G q F).lt n) (hcmp : Cmps cx h n i f p q G F cI) (K : HK)
    (hK : K (.tup 0 (cl [])) (hset h i ⟨L.length * 2, spotsC (srtS L), true, own⟩) n) :
    CallE Tryz.prog cx 82 [.sl i 0 L.length cap, .fn f p G q F] h n K := by
  refine CallE.to _ _ (by simp only [go_sem]) (fun hok => hok_set hok fun k hk => spotsC_flat _ _) hK ?_
  refine callE_of_T (P := Tryz.prog) hti (nt := 14) (rs := []) rfl rfl Tryz.call82 Tryz.func82 rfl _ (by simp only [go_sem, and_self]) (Nat.le_of_ble_eq_true rfl) _ fun hok => ?_
  simp only [go_sem, Nat.reduceLT]
  refine callA_false (len_E _ _ _ _ _ fun r hr => ?_)
  simp only [go_sem, Nat.reduceLT]
  refine callA_false (pdqFew_E _ _ _ i cap L own r f p q G F cI hlt hs hi hm hF (by intro a b nt n0 h' n' hn hb; exact hcmp a b nt n0 h' n' hn hb) _ ?_)
  simp only [go_sem]
end
end Go.Proofs.YtcjgpkhdlobbbaaGreat.V

/- Sets of few cells: the program's own walk. -/
namespace Go.Proofs.YtcjgpkhdlobbbaaGreat.V
theorem srtS_nodup {L : List (Int × Int)} (h : L.Nodup) : (srtS L).Pairwise fun a b => ltSp a b = true := by
  have h1 := srtS_sorted L
  have h2 : (srtS L).Nodup := (srtS_perm L).nodup_iff.2 h
  refine (h1.and h2).imp fun {a b} ⟨h3, h4⟩ => ?_
  cases hlt : ltSp a b with
  | true => rfl
  | false => exact absurd (ltSp_tri hlt h3) h4
theorem setL_nodup {L : List (Int × Int)} (h : L.Nodup) : setL L = srtS L := setL_eq (srtS_nodup h) fun a => (srtS_perm L).mem_iff
theorem strict_ne {L : List (Int × Int)} (h : L.Pairwise fun a b => ltSp a b = true) {k : Nat} (hk : k + 1 < L.length) : L.getD (k + 1) (0, 0) ≠ L.getD k (0, 0) := by
  have := List.pairwise_iff_getElem.1 h k (k + 1) (by omega) hk (by omega)
  intro e
  simp only [List.getD_eq_getElem?_getD, List.getElem?_eq_getElem hk, List.getElem?_eq_getElem (show k < L.length by omega), Option.getD_some] at e
  rw [e, ltSp_iff] at this
  omega
/-- A list of spots, made anew, under the next name. -/
theorem CallE.spots {P : Program} {cx : Cx} {h : List (Nat × Seg)} {n f : Nat} {args : List SV} {K : HK} (M : List (Int × Int)) (hK : ∀ cap, K (.sl n 0 M.length cap) ((n, ⟨M.length * 2, spotsC M, true, none⟩) :: h) (n + 1))
    (hc : CallE P cx f args h n fun r h1 n1 => ∃ b cap, n + 1 ≤ b ∧ r = .sl b 0 M.length cap ∧ HExt n h h1 ∧ ∃ t, hget h1 b = some t ∧ t.n = M.length * 2 ∧ t.rw = true ∧ ∀ k, k < M.length * 2 → t.c k = spotsC M k) : CallE P cx f args h n K :=
  CallE.imp1 hc fun hok r h1 n1 ⟨b, cap, hb, hr, hx, t, ht, t1, t2, t3⟩ => by
    subst hr
    exact ⟨b, .sl n 0 M.length cap, (n, ⟨M.length * 2, spotsC M, true, none⟩) :: h, n + 1, by omega, by omega, by simp only [ren_sl, sig_hit], Nat.lt_succ_self n,
      impH.cons1 ht (Nat.lt_succ_self n) (SegLe.flat (by rw [t1]; exact Nat.le_refl _) (fun _ => t2) (.inl rfl) fun k hk => ⟨t3 k hk, spotsC_flat _ _⟩) (impH.base1 hok (by simp) (Nat.le_refl n) hx), hK cap⟩
theorem both_cons (a : Int × Int) (L : List (Int × Int)) (c : Nat → SV) (h0 : c 0 = .int .i8 a.1) (h1 : c 1 = .int .i8 a.2) (k : Nat) : both 2 c (news (spotsC L) 0) k = spotsC (a :: L) k := by
  unfold both news
  by_cases hk : k < 2
  · rw [if_pos hk]
    rcases (by omega : k = 0 ∨ k = 1) with rfl | rfl
    · exact h0
    · exact h1
  · rw [if_neg hk]
    obtain ⟨j, rfl⟩ : ∃ j, k = j + 2 := ⟨k - 2, by omega⟩
    unfold spotsC
    rw [show (0 + (j + 2 - 2)) % 2 = (j + 2) % 2 by omega, show (j + 2) / 2 = j / 2 + 1 by omega, show (0 + (j + 2 - 2)) / 2 = j / 2 by omega, List.getD_cons_succ]
section
variable (cx : Cx) (h : List (Nat × Seg)) (n : Nat)
theorem cloneSp_E (i cap : Nat) (L : List (Int × Int)) (s : Seg) (hs : hget h i = some s) (hi : i < n) (hn : L.length * 2 ≤ s.n) (hc : ∀ k, k < L.length * 2 → s.c k = spotsC L k) (hm9 : L.length ≤ 10000000) (K : HK)
    (hK : ∀ cap', L.length ≤ cap' → cap' ≤ maxLen → K (.sl n 0 L.length cap') ((n, ⟨L.length * 2, spotsC L, true, none⟩) :: h) (n + 1)) :
    CallE Tryz.prog cx 81 [.sl i 0 L.length cap] h n K := by
  refine CallE.imp1 (K := fun r h1 n1 => ∃ cap', L.length ≤ cap' ∧ cap' ≤ maxLen ∧ r = .sl (n + 1) 0 L.length cap' ∧ n1 = n + 2 ∧ HExt n h h1 ∧ ∃ t, hget h1 (n + 1) = some t ∧ t.n = L.length * 2 ∧ t.rw = true ∧ ∀ k, k < L.length * 2 → t.c k = spotsC L k) ?_ ?_
  · refine callE_of_T (P := Tryz.prog) hti (nt := 8) (rs := [.tmp 2]) rfl rfl Tryz.call81 Tryz.func81 rfl _ (by simp only [go_sem, and_self]) (Nat.le_of_ble_eq_true rfl) _ fun hok => ?_
    simp only [go_sem, Nat.reduceLT, Nat.reduceLeDiff, Nat.reduceMul, hs, hi, ↓hok.del (Nat.le_refl n)]
    refine ⟨⟨⟨trivial, Nat.succ_pos 1, ?_, ?_⟩, by omega⟩, fun cap' c1 c2 => ?_⟩
    · show 0 + L.length * 2 ≤ s.n
      omega
    · refine allP_iff.2 fun j hj => ?_
      have hj : j < L.length * 2 := hj
      show (s.c (0 + j)).one
      rw [Nat.zero_add, hc j hj]
      exact (spotsC_flat L j).one
    · refine ⟨cap', c1, c2, rfl, _, rfl, rfl, rfl, fun k hk => ?_⟩
      refine Eq.trans ?_ (hc k hk)
      simp only [both, news, Nat.not_lt_zero, if_false, Nat.sub_zero, Nat.zero_add]
  · rintro hok r h1 n1 ⟨cap', c1, c2, rfl, rfl, hx, t, ht, t1, t2, t3⟩
    exact ⟨n + 1, .sl n 0 L.length cap', (n, ⟨L.length * 2, spotsC L, true, none⟩) :: h, n + 1, by omega, by omega, by simp only [ren_sl, sig_hit], Nat.lt_succ_self n,
      impH.cons1 ht (Nat.lt_succ_self n) (SegLe.flat (by rw [t1]; exact Nat.le_refl _) (fun _ => t2) (.inl rfl) fun k hk => ⟨t3 k hk, spotsC_flat _ _⟩) (impH.base1 hok (by simp) (Nat.le_refl n) hx), hK cap' c1 c2⟩
/-- No two that stand together are equal: nothing to do. -/
theorem compactD_Q (i cap : Nat) (L : List (Int × Int)) (own : Option (Nat × Nat)) (hs : hget h i = some ⟨L.length * 2, spotsC L, true, own⟩) (hi : i < n) (hne : ∀ k, k + 1 < L.length → L.getD (k + 1) (0, 0) ≠ L.getD k (0, 0)) (hm9 : L.length ≤ 10000000) :
    CallQ Tryz.prog cx 84 [.sl i 0 L.length cap] h n (.sl i 0 L.length cap) := by
  refine callQ_of_T (P := Tryz.prog) hti (nt := 61) (rs := [.tmp 2]) rfl rfl Tryz.call84 Tryz.func84 rfl _ (by simp only [go_sem]) (Nat.le_of_ble_eq_true rfl) _ (by exact hi) fun hok => ?_
  by_cases h2 : L.length < 2
  · simp only [go_sem, Nat.reduceLT, show (L.length : Int) < 2 by omega]
  have e0 : ((L.length : Int) < 2) = False := eq_false (by omega)
  simp only [go_sem, Nat.reduceLT, e0]
  refine T_lp (ι := { k : Nat // k ≤ L.length ∧ 1 ≤ k }) (fun k => ([(0, .sl i 0 L.length cap), (3, .int .i64 k.1)], h, n)) (fun k => L.length - k.1) ⟨1, by omega⟩ ?_ ?_
  · refine Imp.id (by simp) ?_ (impH.base0 hok (by simp) HExt.rfl)
    simp only [go_sem, Nat.reduceLT]
    exact hi
  · rintro ⟨k, hk, hk1⟩
    simp only [go_sem, Nat.reduceLT, decide_eq_true_eq, decide_eq_false_iff_not]
    refine ⟨fun h1 => ?_, fun h1 => ?_⟩
    · obtain ⟨k, rfl⟩ : ∃ k', k = k' + 1 := ⟨k - 1, by omega⟩
      have r1 : (0 : Int) ≤ (k : Int) + 1 ∧ (k : Int) + 1 < L.length := ⟨by omega, by omega⟩
      have r2 : (0 : Int) ≤ (k : Int) ∧ (k : Int) < L.length := ⟨by omega, by omega⟩
      have e2 : ((k : Int) + 1).toNat = k + 1 := by omega
      have b1 : (k + 1) * 2 ≤ L.length * 2 - 2 := by omega
      have b2 : (k + 1) * 2 + 2 ≤ L.length * 2 := by omega
      have b3 : k * 2 ≤ L.length * 2 - 2 := by omega
      have b4 : k * 2 + 2 ≤ L.length * 2 := by omega
      have b5 : 2 ≤ L.length * 2 := by omega
      have hn := hne k (by omega)
      have hd : (decide ((L.getD (k + 1) (0, 0)).1 = (L.getD k (0, 0)).1) && decide ((L.getD (k + 1) (0, 0)).2 = (L.getD k (0, 0)).2)) = false := by
        rw [Bool.and_eq_false_iff, decide_eq_false_iff_not, decide_eq_false_iff_not]
        by_cases e1 : (L.getD (k + 1) (0, 0)).1 = (L.getD k (0, 0)).1
        · exact .inr fun e2 => hn (Prod.ext e1 e2)
        · exact .inl e1
      refine T_draw hti _ _ (by kernel_rfl) (by kernel_rfl) ?_
      simp only [go_sem, Nat.reduceLT, Nat.reduceLeDiff, Nat.reduceMod, hs, hi, r1, r2, e2, b1, b2, b3, b4, b5, spotsC_x, spotsC_y, Int.natCast_add, Int.natCast_one, Int.add_sub_cancel, w64 (n := (k : Int)) (by omega), hd]
      refine ⟨⟨k + 1 + 1, by omega, by omega⟩, by show L.length - (k + 1 + 1) < L.length - (k + 1); omega, ?_⟩
      refine Imp.id (by simp) ?_ (impH.base0 hok (by simp) HExt.rfl)
      simp only [go_sem, Nat.reduceLT, w64 (n := (k : Int) + 1 + 1) (by omega), Int.natCast_add, Int.natCast_one]
      exact ⟨hi, congrArg (SV.int IntKind.i64) (by omega)⟩
    · simp only [go_sem]
/-- A set of few cells, no two of them equal. -/
theorem setFew_E (i cap : Nat) (L : List (Int × Int)) (s : Seg) (hs : hget h i = some s) (hi : i < n) (hn : L.length * 2 ≤ s.n) (hc : ∀ k, k < L.length * 2 → s.c k = spotsC L k) (hm : L.length ≤ 12) (hnd : L.Nodup) (K : HK)
    (hK : ∀ cap', K (.sl n 0 (setL L).length cap') ((n, ⟨(setL L).length * 2, spotsC (setL L), true, none⟩) :: h) (n + 1)) :
    CallE Tryz.prog cx 77 [.sl i 0 L.length cap] h n K := by
  have hsl := srtS_len L
  have hst := srtS_nodup hnd
  rw [setL_nodup hnd, hsl] at hK
  refine callE_of_T (P := Tryz.prog) hti (nt := 10) (rs := [.tmp 2]) rfl rfl Tryz.call77 Tryz.func77 rfl _ (by simp only [go_sem, and_self]) (Nat.le_of_ble_eq_true rfl) _ fun hok => ?_
  simp only [go_sem, Nat.reduceLT]
  refine callA_false (cloneSp_E _ _ _ i cap L s hs hi hn hc (by omega) _ fun cap' c1 c2 => ?_)
  simp only [go_sem, Nat.reduceLT]
  refine callA_false (sortFunc_E _ _ _ n cap' L none _ _ _ _ _ cmpSp cmpSp_lt (by simp only [go_sem]) (by omega) hm (fn_lt (xs := []) (ys := []) (fun v hv => by cases hv) (fun v hv => by cases hv)) (by intro a b nt n0 h' n' hn hb; exact inOrder_Q _ h' n' a b) _ ?_)
  simp only [go_sem, Nat.reduceLT]
  have := compactD_Q ⟨cx.w0, cx.W, 10, n⟩ ((n, ⟨L.length * 2, spotsC (srtS L), true, none⟩) :: h) (n + 1) n cap' (srtS L) none (by simp only [go_sem, hsl]) (by omega) (fun k hk => strict_ne hst hk) (by omega)
  rw [hsl] at this
  refine this.A ?_
  simp only [go_sem, Nat.reduceLT]
  exact hK cap'
end
end Go.Proofs.YtcjgpkhdlobbbaaGreat.V

/- Pictures: validity, covered cells: the program's own walk. -/
namespace Go.Proofs.YtcjgpkhdlobbbaaGreat.V
theorem pcC_ofNat (P : Pc) (y x : Nat) (hy : y < 8) (hx : x < 8) : pcC P (2 + y * 8 + x) = .int .u8 (P.ink y x) := by
  have := pcC_ink P (y : Int) (x : Int) (by omega) (by omega) (by omega) (by omega)
  simpa using this
theorem cov_nodup {W H x y : Int} (hW : W ≤ 8) (hH : H ≤ 8) (x0 : 0 ≤ x) (x1 : x < W) (y0 : 0 ≤ y) (y1 : y < H) (S : Sh) : ((x, y) :: nb S x y).Nodup := by
  have e1 : IntKind.i8.wrap (y - 1) = y - 1 := w8 (by omega)
  have e2 : IntKind.i8.wrap (x + 1) = x + 1 := w8 (by omega)
  have e3 : IntKind.i8.wrap (y + 1) = y + 1 := w8 (by omega)
  have e4 : IntKind.i8.wrap (x - 1) = x - 1 := w8 (by omega)
  refine List.nodup_cons.2 ⟨fun hm => ?_, ?_⟩
  · have := (List.mem_filter.1 hm).1
    simp only [besideL, e1, e2, e3, e4, List.mem_cons, List.not_mem_nil, or_false, Prod.mk.injEq] at this
    omega
  · refine List.Pairwise.filter _ ?_
    simp [besideL, e1, e2, e3, e4]
    (try omega)
section
variable (cx : Cx) (h : List (Nat × Seg)) (n : Nat)
theorem sheet_E (i : Nat) (P : Pc) (hs : hget h i = some (pcS P)) (hi : i < n) (K : HK) (hK : K (.ptr n 0) ((n, shS (psh P)) :: h) (n + 1)) :
    CallE Tryz.prog cx 62 [.ptr i 0] h n K := by
  refine callE_of_T (P := Tryz.prog) hti (nt := 13) (rs := [.tmp 2]) rfl rfl Tryz.call62 Tryz.func62 rfl _ (by simp only [go_sem, and_self]) (Nat.le_of_ble_eq_true rfl) _ fun hok => ?_
  simp only [go_sem, Nat.reduceLT]
  refine T_drawG hti 11 [] (.b 0 0 (.b 0 1 (.b 0 2 (.b 0 3 (.b 0 4 (.b 0 5 (.b 0 6 (.b 0 7 (.b 0 8 (.b 2 9 (.b 0 10 (.f) .o) .o) .o) .o) .o) .o) .o) .o) .o) .o) .o) _ _ (by kernel_rfl) (by kernel_rfl) ?_
  simp only [go_sem, Nat.reduceLT, Nat.reduceLeDiff, reduceCtorEq, hs, hi]
  exact hK
theorem validPc_Q (P : Pc) (hR : PcR P) : CallQ Tryz.prog cx 61 [.agg 66 (pcC P)] h n (.bool (pcokB P)) := by
  have wW := w64 (n := P.wide) (by have := hR.wide; omega)
  have wH := w64 (n := P.high) (by have := hR.high; omega)
  have bad : ∀ y x : Int, 0 ≤ y → y < 8 → 0 ≤ x → x < 8 → ¬ (P.ink y x ≤ 3 ∧ (0 < P.ink y x → x < P.wide ∧ y < P.high)) → pcokB P = false := fun y x a b c d hn => pcokB_f fun hk => hn (hk.2 y x a b c d)
  refine callQ_of_T (P := Tryz.prog) hti (nt := 52) (rs := [.tmp 2]) rfl rfl Tryz.call61 Tryz.func61 rfl _ (by simp only [go_sem, and_self]) (Nat.le_of_ble_eq_true rfl) _ (by first | exact trivial | (refine lt_flat rfl ?_; simp [SV.flat]; done) | simp only [go_sem]) fun hok => ?_
  simp only [go_sem, Nat.reduceLT, Nat.reduceLeDiff, reduceCtorEq, wW, wH]
  refine (within_Q _ _ _ P.wide 1 8).A ?_
  by_cases hw : 1 ≤ P.wide ∧ P.wide ≤ 8
  rotate_left
  · simp only [go_sem, Nat.reduceLT, hw]
    rw [pcokB_f fun hv => hw ⟨hv.1.1, hv.1.2.1⟩]
  simp only [go_sem, Nat.reduceLT, Nat.reduceLeDiff, reduceCtorEq, wW, wH, hw]
  refine (within_Q _ _ _ P.high 1 8).A ?_
  by_cases hh : 1 ≤ P.high ∧ P.high ≤ 8
  rotate_left
  · simp only [go_sem, Nat.reduceLT, hh]
    rw [pcokB_f fun hv => hh ⟨hv.1.2.2.1, hv.1.2.2.2⟩]
  simp only [go_sem, Nat.reduceLT, Nat.reduceAdd, reduceCtorEq, hh]
  have ok1 : ∀ (t20 : Nat → SV), (SV.agg 64 fun j => pcC P (2 + j)).lt (n + 1) = True := fun _ => eq_true (lt_aggF fun j _ => pcC_flat P _)
  have lt20 := ok1 fun _ => .bad
  refine T_lp (ι := { y : Nat // y ≤ 8 ∧ ∀ y' x' : Int, 0 ≤ y' → y' < y → 0 ≤ x' → x' < 8 → P.ink y' x' ≤ 3 ∧ (0 < P.ink y' x' → x' < P.wide ∧ y' < P.high) })
    (fun y => ([(1, .ptr n 0), (20, .agg 64 fun j => pcC P (2 + j)), (21, .int .i64 y.1)], (n, ⟨66, pcC P, true, none⟩) :: h, n + 1)) (fun y => 8 - y.1) ⟨0, by omega, fun _ _ _ _ => by omega⟩ ?_ ?_
  · refine Imp.id (by simp) ?_ ?_
    · simp only [go_sem, Nat.reduceLT, lt20]
      omega
    · refine impH.cons0 (hget_hit _ _ _) (by simp) (SegLe.flat (Nat.le_refl _) id (.inr rfl) fun z hz => ⟨rfl, pcC_flat _ _⟩) (impH.base0 hok (by simp) (HExt.rfl.cons (Nat.le_refl n)))
  · rintro ⟨y, hy, hall⟩
    simp only [go_sem, Nat.reduceLT, Nat.reduceLeDiff, reduceIte, decide_eq_true_eq, decide_eq_false_iff_not]
    refine ⟨fun h1 => ?_, fun h1 => ?_⟩
    rotate_left
    · have hy8 : y = 8 := by omega
      subst hy8
      rw [pcokB_t ⟨⟨hw.1, hw.2, hh.1, hh.2⟩, fun y x a b c d => hall y x a b c d⟩]
    have ry : (0 : Int) ≤ y ∧ (y : Int) < 8 := ⟨by omega, h1⟩
    have by1 : y * 8 + 8 ≤ 64 := by omega
    have lt25 : (SV.agg 8 fun j => pcC P (2 + (y * 8 + j))).lt (n + 1) = True := eq_true (lt_aggF fun j _ => pcC_flat P _)
    have on25 : ones (.agg 8 fun j => pcC P (2 + (y * 8 + j))) = True := eq_true fun j _ => (pcC_flat P _).one
    have by2 : y * 8 ≤ 56 := by omega
    simp only [go_sem, ry, by1, by2, on25]
    refine T_lp (ι := { x : Nat // x ≤ 8 ∧ ∀ x' : Int, 0 ≤ x' → x' < x → P.ink y x' ≤ 3 ∧ (0 < P.ink y x' → x' < P.wide ∧ (y : Int) < P.high) })
      (fun x => ([(1, .ptr n 0), (3, .int .i64 y), (20, .agg 64 fun j => pcC P (2 + j)), (21, .int .i64 y), (25, .agg 8 fun j => pcC P (2 + (y * 8 + j))), (26, .int .i64 x.1)], (n, ⟨66, pcC P, true, none⟩) :: h, n + 1)) (fun x => 8 - x.1) ⟨0, by omega, fun _ _ _ => by omega⟩ ?_ ?_
    · refine Imp.id (by simp) ?_ ?_
      · simp only [go_sem, Nat.reduceLT, lt20, lt25]
        omega
      · refine impH.cons0 (by simp only [go_sem]) (by simp) (SegLe.flat (Nat.le_refl _) id (.inr rfl) fun z hz => ⟨rfl, pcC_flat _ _⟩) (impH.base0 hok (by simp) (by simp only [go_sem, HExt_cons]))
    · rintro ⟨x, hx, hax⟩
      simp only [go_sem, Nat.reduceLT, decide_eq_true_eq, decide_eq_false_iff_not]
      refine ⟨fun h2 => ?_, fun h2 => ?_⟩
      rotate_left
      · have hx8 : x = 8 := by omega
        subst hx8
        refine ⟨⟨y + 1, by omega, fun y' x' a b c d => ?_⟩, by show 8 - (y + 1) < 8 - y; omega, ?_⟩
        · rcases (by omega : y' < y ∨ y' = y) with e | rfl
          · exact hall y' x' a e c d
          · exact hax x' c d
        · refine Imp.id (by simp) ?_ ?_
          · simp only [go_sem, Nat.reduceLT, lt20, w64 (n := (y : Int) + 1) (by omega), Int.natCast_add, Int.natCast_one]
            omega
          · refine impH.cons0 (by simp only [go_sem]) (by simp) (SegLe.flat (Nat.le_refl _) id (.inr rfl) fun z hz => ⟨rfl, pcC_flat _ _⟩) (impH.base0 hok (by simp) (by simp only [go_sem, HExt_cons]))
      have rx : (0 : Int) ≤ x ∧ (x : Int) < 8 := ⟨by omega, h2⟩
      have hv : pcC P (2 + (y * 8 + x)) = .int .u8 (P.ink y x) := by
        rw [← Nat.add_assoc]; exact pcC_ofNat P y x (by omega) (by omega)
      have next : (P.ink y x ≤ 3 ∧ (0 < P.ink y x → (x : Int) < P.wide ∧ (y : Int) < P.high)) → ∀ x' : Int, 0 ≤ x' → x' < ((x + 1 : Nat) : Int) → P.ink y x' ≤ 3 ∧ (0 < P.ink y x' → x' < P.wide ∧ (y : Int) < P.high) := fun hc x' a b => by
        rcases (by omega : x' < x ∨ x' = x) with e | rfl
        · exact hax x' a e
        · exact hc
      have w1 := w8 (n := (x : Int)) (by omega)
      have w2 := w8 (n := (y : Int)) (by omega)
      have bd := bad y x (by omega) (by omega) (by omega) (by omega)
      have bx : (x < 8) = True := eq_true (by omega)
      by_cases i3 : 3 < P.ink y x
      · simp only [go_sem, Nat.reduceLT, rx, bx, hv, i3]
        rw [bd (by omega)]
      by_cases i0 : 0 < P.ink y x
      · by_cases iw : P.wide ≤ x
        · simp only [go_sem, Nat.reduceLT, Nat.reduceLeDiff, reduceCtorEq, rx, bx, hv, i3, i0, w1, iw]
          rw [bd (by omega)]
        by_cases ih : P.high ≤ y
        · simp only [go_sem, Nat.reduceLT, Nat.reduceLeDiff, reduceCtorEq, rx, bx, hv, i3, i0, w1, w2, iw, ih]
          rw [bd (by omega)]
        simp only [go_sem, Nat.reduceLT, Nat.reduceLeDiff, reduceCtorEq, rx, bx, hv, i3, i0, w1, w2, iw, ih]
        refine ⟨⟨x + 1, by omega, next (by omega)⟩, by show 8 - (x + 1) < 8 - x; omega, ?_⟩
        refine Imp.id (by simp) ?_ ?_
        · simp only [go_sem, Nat.reduceLT, lt20, lt25, w64 (n := (x : Int) + 1) (by omega), Int.natCast_add, Int.natCast_one]
          omega
        · refine impH.cons0 (by simp only [go_sem]) (by simp) (SegLe.flat (Nat.le_refl _) id (.inr rfl) fun z hz => ⟨rfl, pcC_flat _ _⟩) (impH.base0 hok (by simp) (by simp only [go_sem, HExt_cons]))
      · simp only [go_sem, Nat.reduceLT, rx, bx, hv, i3, i0]
        refine ⟨⟨x + 1, by omega, next (by omega)⟩, by show 8 - (x + 1) < 8 - x; omega, ?_⟩
        refine Imp.id (by simp) ?_ ?_
        · simp only [go_sem, Nat.reduceLT, lt20, lt25, w64 (n := (x : Int) + 1) (by omega), Int.natCast_add, Int.natCast_one]
          omega
        · refine impH.cons0 (by simp only [go_sem]) (by simp) (SegLe.flat (Nat.le_refl _) id (.inr rfl) fun z hz => ⟨rfl, pcC_flat _ _⟩) (impH.base0 hok (by simp) (by simp only [go_sem, HExt_cons]))
noncomputable def codePc (P : Pc) (b : Bool) : Int := if pcokB P then (if b then 0 else 2) else 1
theorem codePc_Q (i : Nat) (P : Pc) (hs : hget h i = some (pcS P)) (hi : i < n) (hR : PcR P) (b : Bool) : CallQ Tryz.prog cx 25 [.ptr i 0, .bool b] h n (.int .i64 (codePc P b)) := by
  refine callQ_of_T (P := Tryz.prog) hti (nt := 14) (rs := [.tmp 4]) rfl rfl Tryz.call25 Tryz.func25 rfl _ (by simp only [go_sem, and_self]) (Nat.le_of_ble_eq_true rfl) _ (by first | exact trivial | (refine lt_flat rfl ?_; simp [SV.flat]; done) | simp only [go_sem]) fun hok => ?_
  simp only [go_sem, Nat.reduceLT, hs, hi]
  refine (validPc_Q _ _ _ P hR).A ?_
  unfold codePc
  by_cases hk : pcokB P = true
  · cases b <;> simp only [go_sem, Nat.reduceLT, reduceIte, hk]
  · simp only [go_sem, Nat.reduceLT, reduceIte, hk]
theorem covered_E (i : Nat) (P : Pc) (x y : Int) (hs : hget h i = some (pcS P)) (hi : i < n) (hR : PcR P) (hP : PcOk P) (hx : 0 ≤ x) (hx1 : x < P.wide) (hy : 0 ≤ y) (hy1 : y < P.high) (K : HK)
    (hK : ∀ cap, K (.sl n 0 (covL P.wide P.high x y).length cap) ((n, ⟨(covL P.wide P.high x y).length * 2, spotsC (covL P.wide P.high x y), true, none⟩) :: h) (n + 1)) :
    CallE Tryz.prog cx 64 [.ptr i 0, spot x y] h n K := by
  have hnb := nb_len (psh P) x y
  have hnd := cov_nodup hP.1.2.1 hP.1.2.2.2 hx hx1 hy hy1 (psh P)
  have hst := covL_set hP.1.2.1 hP.1.2.2.2 hx hx1 hy hy1 (psh P) rfl rfl (psh_wax P)
  have hln : ∀ k : Nat, 1 + (nb (psh P) x y).length = ((x, y) :: nb (psh P) x y).length := fun _ => by simp [Nat.add_comm]
  refine CallE.spots (covL P.wide P.high x y) hK ?_
  refine callE_of_T (P := Tryz.prog) hti (nt := 13) (rs := [.tmp 4]) rfl rfl Tryz.call64 Tryz.func64 rfl _ (by simp only [go_sem, and_self]) (Nat.le_of_ble_eq_true rfl) _ fun hok => ?_
  have hd1 : hdel h (n + 1) = h := hok.del (by omega)
  have hd2 : hdel h (n + 2) = h := hok.del (by omega)
  have hd3 : hdel h (n + 3) = h := hok.del (by omega)
  simp only [go_sem, Nat.reduceLT]
  refine T_drawG hti 9 [6] (.b 0 0 (.b 0 2 (.b 0 4 (.b 2 1 (.b 2 3 (.b 2 5 (.b 4 6 (.b 2 7 (.b 0 8 (.f) .o) .o) .o) .o) .o) (.b 2 3 (.b 2 1 (.b 2 5 (.b 4 6 (.b 2 7 (.b 0 8 (.f) .o) .o) .o) .o) (.b 2 5 (.b 2 1 (.b 4 6 (.b 2 7 (.b 0 8 (.f) .o) .o) .o) .o) .o)) .o)) .o) .o) .o) _ _ (by kernel_rfl) (by kernel_rfl) ?_
  simp only [go_sem, Nat.reduceLT, Nat.reduceLeDiff, Nat.reduceMul, hs, hi]
  refine ⟨callA_false (sheet_E _ _ _ i P (by first | (simp only [go_sem, hs, hi]; done) | (simp only [go_sem, Nat.reduceBEq, Nat.reduceLT, Nat.reduceLeDiff, Nat.reduceAdd, Nat.reduceMul, Nat.reduceSub, Nat.reduceMod, Nat.reduceDiv, Nat.reduceEqDiff, Int.reduceToNat, reduceIte, reduceCtorEq, Int.reduceLE, Int.reduceLT, Int.reduceEq, Int.reduceNeg, Int.reduceAdd, Int.reduceSub, Int.reduceMul, hs, hi]; rfl)) (by omega) _ ?_), callA_false (sheet_E _ _ _ i P (by first | (simp only [go_sem, hs, hi]; done) | (simp only [go_sem, Nat.reduceBEq, Nat.reduceLT, Nat.reduceLeDiff, Nat.reduceAdd, Nat.reduceMul, Nat.reduceSub, Nat.reduceMod, Nat.reduceDiv, Nat.reduceEqDiff, Int.reduceToNat, reduceIte, reduceCtorEq, Int.reduceLE, Int.reduceLT, Int.reduceEq, Int.reduceNeg, Int.reduceAdd, Int.reduceSub, Int.reduceMul, hs, hi]; rfl)) (by omega) _ ?_)⟩
  · simp only [go_sem, Nat.reduceLT, Nat.reduceLeDiff, hs, hi]
    refine callA_false (neighbours_E _ _ _ _ 0 (shS (psh P)) (psh P) x y (by first | (simp only [go_sem]; done) | (simp only [go_sem, Nat.reduceBEq, Nat.reduceLT, Nat.reduceLeDiff, Nat.reduceAdd, Nat.reduceMul, Nat.reduceSub, Nat.reduceMod, Nat.reduceDiv, Nat.reduceEqDiff, Int.reduceToNat, reduceIte, reduceCtorEq, Int.reduceLE, Int.reduceLT, Int.reduceEq, Int.reduceNeg, Int.reduceAdd, Int.reduceSub, Int.reduceMul]; rfl)) (by omega) (shAt_shC (psh_R hR)) (psh_small hP) _ fun cap2 => ?_)
    simp only [go_sem, Nat.reduceLT, Nat.reduceLeDiff, Nat.reduceMul, hs, hi]
    refine ⟨⟨allP_iff.2 fun j hj => (spotsC_flat _ j).one, by simp [Go.maxLen], by omega⟩, fun cap3 c1 c2 => ?_⟩
    rw [hln 0]
    refine callA_false (setFew_E _ _ _ _ _ ((x, y) :: nb (psh P) x y) _ (by first | (simp only [go_sem]; done) | (simp only [go_sem]; rfl)) (by omega) (Nat.le_refl _) (by intro k _; dsimp only; exact both_cons (x, y) _ _ rfl rfl k) (by simp; omega) hnd _ fun cap4 => ?_)
    rw [hst]
    simp only [go_sem, Nat.reduceLeDiff, HExt_cons, hd1, hd2, hd3]
    exact ⟨n + 5, cap4, by omega, rfl, _, (by first | (simp only [go_sem]; done) | (simp only [go_sem]; rfl)), rfl, rfl, fun _ _ => rfl⟩
  · simp only [go_sem, Nat.reduceLT, Nat.reduceLeDiff, hs, hi]
    refine ⟨callA_false (neighbours_E _ _ _ _ 0 (shS (psh P)) (psh P) x y (by first | (simp only [go_sem, Nat.reduceLT]; done) | (simp only [go_sem, Nat.reduceBEq, Nat.reduceLT, Nat.reduceLeDiff, Nat.reduceAdd, Nat.reduceMul, Nat.reduceSub, Nat.reduceMod, Nat.reduceDiv, Nat.reduceEqDiff, Int.reduceToNat, reduceIte, reduceCtorEq, Int.reduceLE, Int.reduceLT, Int.reduceEq, Int.reduceNeg, Int.reduceAdd, Int.reduceSub, Int.reduceMul]; rfl)) (by omega) (shAt_shC (psh_R hR)) (psh_small hP) _ fun cap2 => ?_), callA_false (neighbours_E _ _ _ _ 0 (shS (psh P)) (psh P) x y (by first | (simp only [go_sem]; done) | (simp only [go_sem, Nat.reduceBEq, Nat.reduceLT, Nat.reduceLeDiff, Nat.reduceAdd, Nat.reduceMul, Nat.reduceSub, Nat.reduceMod, Nat.reduceDiv, Nat.reduceEqDiff, Int.reduceToNat, reduceIte, reduceCtorEq, Int.reduceLE, Int.reduceLT, Int.reduceEq, Int.reduceNeg, Int.reduceAdd, Int.reduceSub, Int.reduceMul]; rfl)) (by omega) (shAt_shC (psh_R hR)) (psh_small hP) _ fun cap2 => ?_)⟩
    · simp only [go_sem, Nat.reduceLT, Nat.reduceLeDiff, Nat.reduceMul, hs, hi]
      refine ⟨⟨allP_iff.2 fun j hj => (spotsC_flat _ j).one, by simp [Go.maxLen], by omega⟩, fun cap3 c1 c2 => ?_⟩
      rw [hln 0]
      refine callA_false (setFew_E _ _ _ _ _ ((x, y) :: nb (psh P) x y) _ (by first | (simp only [go_sem]; done) | (simp only [go_sem]; rfl)) (by omega) (Nat.le_refl _) (by intro k _; dsimp only; exact both_cons (x, y) _ _ rfl rfl k) (by simp; omega) hnd _ fun cap4 => ?_)
      rw [hst]
      simp only [go_sem, Nat.reduceLeDiff, HExt_cons, hd1, hd2, hd3]
      exact ⟨n + 5, cap4, by omega, rfl, _, (by first | (simp only [go_sem]; done) | (simp only [go_sem]; rfl)), rfl, rfl, fun _ _ => rfl⟩
    · simp only [go_sem, Nat.reduceLT, Nat.reduceLeDiff, Nat.reduceMul, hs, hi]
      refine ⟨⟨allP_iff.2 fun j hj => (spotsC_flat _ j).one, by simp [Go.maxLen], by omega⟩, fun cap3 c1 c2 => ?_⟩
      rw [hln 0]
      refine callA_false (setFew_E _ _ _ _ _ ((x, y) :: nb (psh P) x y) _ (by first | (simp only [go_sem]; done) | (simp only [go_sem]; rfl)) (by omega) (Nat.le_refl _) (by intro k _; dsimp only; exact both_cons (x, y) _ _ rfl rfl k) (by simp; omega) hnd _ fun cap4 => ?_)
      rw [hst]
      simp only [go_sem, Nat.reduceLeDiff, HExt_cons, hd1, hd2, hd3]
      exact ⟨n + 5, cap4, by omega, rfl, _, (by first | (simp only [go_sem]; done) | (simp only [go_sem]; rfl)), rfl, rfl, fun _ _ => rfl⟩
end
end Go.Proofs.YtcjgpkhdlobbbaaGreat.V

/- Pictures: validity, covered cells: the reference's walk. -/
namespace Go.Proofs.YtcjgpkhdlobbbaaGreat.V
theorem both_snoc (A : List (Int × Int)) (a : Int × Int) (c : Nat → SV) (h0 : c 0 = .int .i8 a.1) (h1 : c 1 = .int .i8 a.2) {z : Nat} (hz : z < (A.length + 1) * 2) : both (A.length * 2) (spotsC A) (news c 0) z = spotsC (A ++ [a]) z := by
  unfold both news
  split
  · rename_i h5; rw [spotsC_take (b := [a]) h5]
  · rename_i h5
    rcases (by omega : z = A.length * 2 ∨ z = A.length * 2 + 1) with rfl | rfl
    · rw [(spotsC_last _ _).1, Nat.sub_self, Nat.zero_add, h0]
    · rw [(spotsC_last _ _).2, show 0 + (A.length * 2 + 1 - A.length * 2) = 1 by omega, h1]
section
variable (cx : Cx) (h : List (Nat × Seg)) (n : Nat)
theorem is7_Q (i : Nat) (P : Pc) (x y : Int) (hs : hget h i = some (pcS P)) (hi : i < n) (hR : PcR P) (hx : -128 ≤ x ∧ x < 128) (hy : -128 ≤ y ∧ y < 128) :
    CallQ Tryz.prog cx 66 [.ptr i 0, spot x y] h n (.bool (hasB (psh P) x y)) := by
  have wW := hR.wide; have wH := hR.high
  have e : hasB (psh P) x y = (decide (0 ≤ x ∧ x ≤ P.wide - 1) && decide (0 ≤ y ∧ y ≤ P.high - 1)) := by
    rw [psh_has, Bool.eq_iff_iff]
    simp only [Bool.and_eq_true, decide_eq_true_eq]
    omega
  rw [e]
  refine callQ_of_T (P := Tryz.prog) hti (nt := 27) (rs := [.tmp 4]) rfl rfl Tryz.call66 Tryz.func66 rfl _ (by simp only [go_sem, and_self]) (Nat.le_of_ble_eq_true rfl) _ (by first | exact trivial | (refine lt_flat rfl ?_; simp [SV.flat]; done) | simp only [go_sem]) fun hok => ?_
  simp only [go_sem, Nat.reduceLT]
  refine T_draw hti _ _ (by kernel_rfl) (by kernel_rfl) ?_
  simp only [go_sem, Nat.reduceLT, Nat.reduceLeDiff, reduceCtorEq, hs, hi, w64 (n := x) (by omega), w64 (n := P.wide) (by omega), w64 (n := P.wide - 1) (by omega)]
  refine (in_Q _ _ _ _ _ _).A ?_
  by_cases h1 : 0 ≤ x ∧ x ≤ P.wide - 1
  · simp only [go_sem, Nat.reduceLT, Nat.reduceLeDiff, reduceCtorEq, h1, hs, hi, w64 (n := y) (by omega), w64 (n := P.high) (by omega), w64 (n := P.high - 1) (by omega)]
    refine (in_Q _ _ _ _ _ _).A ?_
    simp only [go_sem, Nat.reduceLT]
  · simp only [go_sem, Nat.reduceLT, h1]
theorem ok7_Q (i : Nat) (P : Pc) (hs : hget h i = some (pcS P)) (hi : i < n) (hR : PcR P) : CallQ Tryz.prog cx 33 [.ptr i 0] h n (.bool (pcokB P)) := by
  have wW := w64 (n := P.wide) (by have := hR.wide; omega)
  have wH := w64 (n := P.high) (by have := hR.high; omega)
  have bad : ∀ y x : Int, 0 ≤ y → y < 8 → 0 ≤ x → x < 8 → ¬ (P.ink y x ≤ 3 ∧ (0 < P.ink y x → x < P.wide ∧ y < P.high)) → pcokB P = false := fun y x a b c d hn => pcokB_f fun hk => hn (hk.2 y x a b c d)
  refine callQ_of_T (P := Tryz.prog) hti (nt := 57) (rs := [.tmp 2]) rfl rfl Tryz.call33 Tryz.func33 rfl _ (by simp only [go_sem, and_self]) (Nat.le_of_ble_eq_true rfl) _ (by first | exact trivial | (refine lt_flat rfl ?_; simp [SV.flat]; done) | simp only [go_sem]) fun hok => ?_
  simp only [go_sem, Nat.reduceLT, Nat.reduceLeDiff, reduceCtorEq, hs, hi, wW, wH]
  refine (in_Q _ _ _ P.wide 1 8).A ?_
  by_cases hw : 1 ≤ P.wide ∧ P.wide ≤ 8
  rotate_left
  · simp only [go_sem, Nat.reduceLT, hw]
    rw [pcokB_f fun hv => hw ⟨hv.1.1, hv.1.2.1⟩]
  simp only [go_sem, Nat.reduceLT, Nat.reduceLeDiff, reduceCtorEq, hs, hi, wW, wH, hw]
  refine (in_Q _ _ _ P.high 1 8).A ?_
  by_cases hh : 1 ≤ P.high ∧ P.high ≤ 8
  rotate_left
  · simp only [go_sem, Nat.reduceLT, hh]
    rw [pcokB_f fun hv => hh ⟨hv.1.2.2.1, hv.1.2.2.2⟩]
  simp only [go_sem, Nat.reduceLT, hh]
  refine T_lp (ι := { y : Nat // y ≤ 8 ∧ ∀ y' x' : Int, 0 ≤ y' → y' < y → 0 ≤ x' → x' < 8 → P.ink y' x' ≤ 3 ∧ (0 < P.ink y' x' → x' < P.wide ∧ y' < P.high) })
    (fun y => ([(0, .ptr i 0), (3, .int .i8 y.1)], h, n)) (fun y => 8 - y.1) ⟨0, by omega, fun _ _ _ _ => by omega⟩ ?_ ?_
  · refine Imp.id (by simp) ?_ (impH.base0 hok (by simp) HExt.rfl)
    simp only [go_sem, Nat.reduceLT]
    exact hi
  · rintro ⟨y, hy, hall⟩
    simp only [go_sem, Nat.reduceLT, decide_eq_true_eq, decide_eq_false_iff_not]
    refine ⟨fun h1 => ?_, fun h1 => ?_⟩
    rotate_left
    · have hy8 : y = 8 := by omega
      subst hy8
      rw [pcokB_t ⟨⟨hw.1, hw.2, hh.1, hh.2⟩, fun y x a b c d => hall y x a b c d⟩]
    refine T_lp (ι := { x : Nat // x ≤ 8 ∧ ∀ x' : Int, 0 ≤ x' → x' < x → P.ink y x' ≤ 3 ∧ (0 < P.ink y x' → x' < P.wide ∧ (y : Int) < P.high) })
      (fun x => ([(0, .ptr i 0), (3, .int .i8 y), (4, .int .i8 x.1)], h, n)) (fun x => 8 - x.1) ⟨0, by omega, fun _ _ _ => by omega⟩ ?_ ?_
    · refine Imp.id (by simp) ?_ (impH.base0 hok (by simp) HExt.rfl)
      simp only [go_sem, Nat.reduceLT]
      exact hi
    · rintro ⟨x, hx, hax⟩
      simp only [go_sem, Nat.reduceLT, reduceCtorEq, decide_eq_true_eq, decide_eq_false_iff_not]
      refine ⟨fun h2 => ?_, fun h2 => ?_⟩
      rotate_left
      · have hx8 : x = 8 := by omega
        subst hx8
        refine ⟨⟨y + 1, by omega, fun y' x' a b c d => ?_⟩, by show 8 - (y + 1) < 8 - y; omega, ?_⟩
        · rcases (by omega : y' < y ∨ y' = y) with e | rfl
          · exact hall y' x' a e c d
          · exact hax x' c d
        · refine Imp.id (by simp) ?_ (impH.base0 hok (by simp) HExt.rfl)
          simp only [go_sem, Nat.reduceLT, w8 (n := (y : Int) + 1) (by omega), Int.natCast_add, Int.natCast_one]
          exact hi
      have next : (P.ink y x ≤ 3 ∧ (0 < P.ink y x → (x : Int) < P.wide ∧ (y : Int) < P.high)) → ∀ x' : Int, 0 ≤ x' → x' < ((x + 1 : Nat) : Int) → P.ink y x' ≤ 3 ∧ (0 < P.ink y x' → x' < P.wide ∧ (y : Int) < P.high) := fun hc x' a b => by
        rcases (by omega : x' < x ∨ x' = x) with e | rfl
        · exact hax x' a e
        · exact hc
      have ry : (0 : Int) ≤ y ∧ (y : Int) < 8 := ⟨by omega, h1⟩
      have rx : (0 : Int) ≤ x ∧ (x : Int) < 8 := ⟨by omega, h2⟩
      have bd := bad y x (by omega) (by omega) (by omega) (by omega)
      have hv := pcC_ofNat P y x (by omega) (by omega)
      have c1 : 2 + y * 8 + x ≤ 65 := by omega
      have c2 : 2 + y * 8 + x + 1 ≤ 66 := by omega
      by_cases i3 : 3 < P.ink y x
      · simp only [go_sem, Nat.reduceLT, hs, hi, rx, ry, hv, c1, c2, i3]
        rw [bd (by omega)]
      by_cases i0 : 0 < P.ink y x
      · simp only [go_sem, Nat.reduceLT, Nat.reduceLeDiff, reduceCtorEq, hs, hi, rx, ry, hv, c1, c2, i3, i0]
        refine (is7_Q _ _ _ i P x y (by simp only [go_sem, hs, hi]) (by omega) hR (by omega) (by omega)).A ?_
        by_cases hb : hasB (psh P) x y = true
        · have hb' := hb
          simp only [psh_has, Bool.and_eq_true, decide_eq_true_eq] at hb'
          simp only [go_sem, Nat.reduceLT, hb]
          refine ⟨⟨x + 1, by omega, next (by omega)⟩, by show 8 - (x + 1) < 8 - x; omega, ?_⟩
          refine Imp.id (by simp) ?_ (impH.base0 hok (by simp) HExt.rfl)
          simp only [go_sem, Nat.reduceLT, w8 (n := (x : Int) + 1) (by omega), Int.natCast_add, Int.natCast_one]
          exact hi
        · have hb' := hb
          simp only [psh_has, Bool.and_eq_true, decide_eq_true_eq] at hb'
          simp only [go_sem, Nat.reduceLT, hb]
          rw [bd (by omega)]
      · simp only [go_sem, Nat.reduceLT, reduceCtorEq, hs, hi, rx, ry, hv, c1, c2, i3, i0]
        refine ⟨⟨x + 1, by omega, next (by omega)⟩, by show 8 - (x + 1) < 8 - x; omega, ?_⟩
        refine Imp.id (by simp) ?_ (impH.base0 hok (by simp) HExt.rfl)
        simp only [go_sem, Nat.reduceLT, w8 (n := (x : Int) + 1) (by omega), Int.natCast_add, Int.natCast_one]
        exact hi
def nearL (x y : Int) : List (Int × Int) := [(x, y - 1), (x - 1, y), (x, y), (x + 1, y), (x, y + 1)]
theorem nearL_in {x y : Int} (hx : 0 ≤ x ∧ x < 8) (hy : 0 ≤ y ∧ y < 8) (k : Nat) : (-128 ≤ ((nearL x y).getD k (0, 0)).1 ∧ ((nearL x y).getD k (0, 0)).1 < 128) ∧ (-128 ≤ ((nearL x y).getD k (0, 0)).2 ∧ ((nearL x y).getD k (0, 0)).2 < 128) := by
  rcases (by omega : k = 0 ∨ k = 1 ∨ k = 2 ∨ k = 3 ∨ k = 4 ∨ 5 ≤ k) with rfl | rfl | rfl | rfl | rfl | h
  · show (-128 ≤ x ∧ x < 128) ∧ (-128 ≤ y - 1 ∧ y - 1 < 128); omega
  · show (-128 ≤ x - 1 ∧ x - 1 < 128) ∧ (-128 ≤ y ∧ y < 128); omega
  · show (-128 ≤ x ∧ x < 128) ∧ (-128 ≤ y ∧ y < 128); omega
  · show (-128 ≤ x + 1 ∧ x + 1 < 128) ∧ (-128 ≤ y ∧ y < 128); omega
  · show (-128 ≤ x ∧ x < 128) ∧ (-128 ≤ y + 1 ∧ y + 1 < 128); omega
  · rw [List.getD_eq_getElem?_getD, List.getElem?_eq_none (by simpa [nearL] using h)]; simp
theorem covered2_E (i : Nat) (P : Pc) (x y : Int) (hs : hget h i = some (pcS P)) (hi : i < n) (hR : PcR P) (hx : 0 ≤ x ∧ x < 8) (hy : 0 ≤ y ∧ y < 8) (K : HK)
    (hK : ∀ cap, K (.sl n 0 (covL P.wide P.high x y).length cap) ((n, ⟨(covL P.wide P.high x y).length * 2, spotsC (covL P.wide P.high x y), true, none⟩) :: h) (n + 1)) :
    CallE Tryz.prog cx 69 [.ptr i 0, spot x y] h n K := by
  refine CallE.spots (covL P.wide P.high x y) hK ?_
  generalize hPr : (fun a : Int × Int => hasB (psh P) a.1 a.2) = Pr
  have hPj : ∀ a, Pr a = hasB (psh P) a.1 a.2 := fun a => by rw [← hPr]
  have hcov : covL P.wide P.high x y = (nearL x y).filter Pr := by rw [← hPr]; rfl
  have e0 : ((besideL x y).getD 0 (0, 0)) = (x, y - 1) := by show (x, IntKind.i8.wrap (y - 1)) = _; rw [w8 (by omega)]
  have e1 : ((besideL x y).getD 1 (0, 0)) = (x + 1, y) := by show (IntKind.i8.wrap (x + 1), y) = _; rw [w8 (by omega)]
  have e2 : ((besideL x y).getD 2 (0, 0)) = (x, y + 1) := by show (x, IntKind.i8.wrap (y + 1)) = _; rw [w8 (by omega)]
  have e3 : ((besideL x y).getD 3 (0, 0)) = (x - 1, y) := by show (IntKind.i8.wrap (x - 1), y) = _; rw [w8 (by omega)]
  refine callE_of_T (P := Tryz.prog) hti (nt := 39) (rs := [.tmp 4]) rfl rfl Tryz.call69 Tryz.func69 rfl _ (by simp only [go_sem, and_self]) (Nat.le_of_ble_eq_true rfl) _ fun hok => ?_
  simp only [go_sem, Nat.reduceLT]
  refine T_drawT hti 9 _ _ (by kernel_rfl) (by kernel_rfl) ?_
  simp only [go_sem, Nat.reduceLT]
  refine (next_Q _ _ _ x y 0 (by omega)).A ?_
  simp only [go_sem, Nat.reduceLT, e0]
  refine (next_Q _ _ _ x y 3 (by omega)).A ?_
  simp only [go_sem, Nat.reduceLT, e3]
  refine (next_Q _ _ _ x y 1 (by omega)).A ?_
  simp only [go_sem, Nat.reduceLT, e1]
  refine (next_Q _ _ _ x y 2 (by omega)).A ?_
  simp only [go_sem, Nat.reduceLT, Nat.reduceLeDiff, Nat.reduceMul, e2]
  have hsp : (46 : Nat) = 46 := rfl
  refine T_lp (ι := { q : Nat × Nat // q.1 ≤ 5 ∧ (((nearL x y).take q.1).filter Pr).length ≤ q.2 ∧ q.2 ≤ maxLen })
    (fun q => ([(0, .ptr i 0), (5, .sl (n + 1) 0 5 5), (6, .sl (n + 2) 0 (((nearL x y).take q.1.1).filter Pr).length q.1.2), (7, .int .i64 q.1.1)],
      (n + 2, ⟨(((nearL x y).take q.1.1).filter Pr).length * 2, spotsC (((nearL x y).take q.1.1).filter Pr), true, some (46, q.1.2 * 2)⟩) :: (n + 1, ⟨10, spotsC (nearL x y), true, none⟩) :: h, n + 3)) (fun q => 5 - q.1.1) ⟨(0, 0), by simp⟩ ?_ ?_
  · refine Imp.id (by simp) ?_ ?_
    · simp only [go_sem, Nat.reduceLT]
      exact ⟨by omega, by omega, rfl, by omega⟩
    · refine impH.cons0 (hget_hit _ _ _) (by simp) (SegLe.flat (by simp) id (.inr (by simp)) fun k hk => by simp at hk) ?_
      refine impH.cons0 (by simp only [go_sem, Nat.reduceLT]; rfl) (by simp) ?_ (impH.base0 hok (by simp) (by simp only [go_sem, HExt_cons]))
      refine SegLe.flat (Nat.le_refl _) id (.inl rfl) fun z hz => ⟨?_, spotsC_flat _ _⟩
      have hz : z < 10 := hz
      rcases (by omega : z = 0 ∨ z = 1 ∨ z = 2 ∨ z = 3 ∨ z = 4 ∨ z = 5 ∨ z = 6 ∨ z = 7 ∨ z = 8 ∨ z = 9) with rfl | rfl | rfl | rfl | rfl | rfl | rfl | rfl | rfl | rfl <;> rfl
  · rintro ⟨⟨k, cap⟩, hk, hcap, hm⟩
    simp only at hk hcap hm
    have hlen5 : ((nearL x y).take k |>.filter Pr).length ≤ k := filter_len Pr _ k
    simp only [go_sem, Nat.reduceLT, Nat.reduceLeDiff, decide_eq_true_eq, decide_eq_false_iff_not]
    refine ⟨fun h1 => ?_, fun h1 => ?_⟩
    · have hk5 : k < 5 := by omega
      have r1 : (0 : Int) ≤ k ∧ (k : Int) < 5 := ⟨by omega, h1⟩
      have b1 : k * 2 ≤ 8 := by omega
      have b2 : k * 2 + 2 ≤ 10 := by omega
      have hni := nearL_in hx hy k
      simp only [go_sem, r1, b1, b2, spotsC_x, spotsC_y]
      refine (is7_Q _ _ _ i P _ _ (by first | (simp only [go_sem, hs, hi]; done) | (simp only [go_sem, Nat.reduceBEq, Nat.reduceLT, Nat.reduceLeDiff, Nat.reduceAdd, Nat.reduceMul, Nat.reduceSub, Nat.reduceMod, Nat.reduceDiv, Nat.reduceEqDiff, Int.reduceToNat, reduceIte, reduceCtorEq, Int.reduceLE, Int.reduceLT, Int.reduceEq, Int.reduceNeg, Int.reduceAdd, Int.reduceSub, Int.reduceMul, hs, hi]; rfl)) (by omega) hR hni.1 hni.2).A ?_
      cases hb : hasB (psh P) ((nearL x y).getD k (0, 0)).1 ((nearL x y).getD k (0, 0)).2
      · have hf : ((nearL x y).take (k + 1)).filter Pr = ((nearL x y).take k).filter Pr := by
          rw [take_filter Pr _ k (by show k < 5; omega), hPj, hb]; simp
        simp only [go_sem, Nat.reduceLT]
        refine ⟨⟨(k + 1, cap), by omega, by simp only [hf]; exact hcap, hm⟩, by show 5 - (k + 1) < 5 - k; omega, ?_⟩
        refine Imp.id (by simp) ?_ ?_
        · simp only [go_sem, Nat.reduceLT, hf, w64 (n := (k : Int) + 1) (by omega), Int.natCast_add, Int.natCast_one]
          omega
        · simp only [hf]
          exact impH.cons0 (by first | (simp only [go_sem]; done) | (simp only [go_sem, Nat.reduceBEq, Nat.reduceLT, Nat.reduceLeDiff, Nat.reduceAdd, Nat.reduceMul, Nat.reduceSub, Nat.reduceMod, Nat.reduceDiv, Nat.reduceEqDiff, Int.reduceToNat, reduceIte, reduceCtorEq, Int.reduceLE, Int.reduceLT, Int.reduceEq, Int.reduceNeg, Int.reduceAdd, Int.reduceSub, Int.reduceMul]; rfl)) (by simp) (SegLe.flat (Nat.le_refl _) id (.inr rfl) fun k hk => ⟨rfl, spotsC_flat _ _⟩) (impH.cons0 (by first | (simp only [go_sem, Nat.reduceLT]; done) | (simp only [go_sem, Nat.reduceBEq, Nat.reduceLT, Nat.reduceLeDiff, Nat.reduceAdd, Nat.reduceMul, Nat.reduceSub, Nat.reduceMod, Nat.reduceDiv, Nat.reduceEqDiff, Int.reduceToNat, reduceIte, reduceCtorEq, Int.reduceLE, Int.reduceLT, Int.reduceEq, Int.reduceNeg, Int.reduceAdd, Int.reduceSub, Int.reduceMul]; rfl)) (by simp) (SegLe.flat (Nat.le_refl _) id (.inr rfl) fun z hz => ⟨rfl, spotsC_flat _ _⟩) (impH.base0 hok (by simp) (by simp only [go_sem, HExt_cons])))
      · have hf : ((nearL x y).take (k + 1)).filter Pr = ((nearL x y).take k).filter Pr ++ [(nearL x y).getD k (0, 0)] := by
          rw [take_filter Pr _ k (by show k < 5; omega), hPj, hb]; rfl
        have hd2 : hdel h (n + 2) = h := hok.del (by omega)
        simp only [go_sem, Nat.reduceLT, Nat.reduceLeDiff, Nat.reduceMul, Nat.reduceSub, Nat.reduceMod, reduceIte, r1, b1, b2, spotsC_x, spotsC_y, hd2]
        refine ⟨⟨hcap, hm, by omega⟩, fun cap' h3 h4 => ⟨⟨(k + 1, cap'), by omega, by simp only [hf, List.length_append, List.length_singleton]; exact h3, h4⟩, by show 5 - (k + 1) < 5 - k; omega, ?_⟩⟩
        refine Imp.of1 (n + 2) (n + 4) (by simp) (by omega) (by simp) ?_ ?_
        · simp only [go_sem, Nat.reduceLT, hi, hf, List.length_append, List.length_singleton, w64 (n := (k : Int) + 1) (by omega), Int.natCast_add, Int.natCast_one]
          omega
        · simp only [hf]
          refine impH.cons1 (hget_hit _ _ _) (by simp) (SegLe.flat (by simp) id (.inr rfl) fun z hz => ⟨?_, spotsC_flat _ _⟩) (impH.cons2 (by first | (simp only [go_sem, Nat.reduceLT]; done) | (simp only [go_sem, Nat.reduceBEq, Nat.reduceLT, Nat.reduceLeDiff, Nat.reduceAdd, Nat.reduceMul, Nat.reduceSub, Nat.reduceMod, Nat.reduceDiv, Nat.reduceEqDiff, Int.reduceToNat, reduceIte, reduceCtorEq, Int.reduceLE, Int.reduceLT, Int.reduceEq, Int.reduceNeg, Int.reduceAdd, Int.reduceSub, Int.reduceMul]; rfl)) (by simp) (by omega) (SegLe.flat (Nat.le_refl _) id (.inr rfl) fun z hz => ⟨rfl, spotsC_flat _ _⟩) (impH.base1 hok (by simp) (by simp) (by simp only [go_sem, HExt_cons])))
          have hz : z < (((nearL x y).take k).filter Pr ++ [(nearL x y).getD k (0, 0)]).length * 2 := hz
          rw [List.length_append, List.length_singleton] at hz
          exact both_snoc _ _ _ rfl rfl hz
    · have hk5 : k = 5 := by omega
      subst hk5
      rw [hcov]
      exact ⟨n + 2, cap, by omega, rfl, _, (by first | (simp only [go_sem]; done) | (simp only [go_sem]; rfl)), rfl, rfl, fun _ _ => rfl⟩
end
end Go.Proofs.YtcjgpkhdlobbbaaGreat.V

/- The law's spots, and lists of spots that are alike. -/
namespace Go.Proofs.YtcjgpkhdlobbbaaGreat.V
section
variable (cx : Cx) (h : List (Nat × Seg)) (n : Nat)
end
end Go.Proofs.YtcjgpkhdlobbbaaGreat.V

/- The law's pictures and drops: copied, compared. -/
namespace Go.Proofs.YtcjgpkhdlobbbaaGreat.V
section
variable (cx : Cx) (h : List (Nat × Seg)) (n : Nat)
abbrev dropV (x y k : Int) : SV := .agg 3 (cl [.int .i8 x, .int .i8 y, .int .u8 k])
end
end Go.Proofs.YtcjgpkhdlobbbaaGreat.V

/- A drop made upon a picture: both walks. -/
namespace Go.Proofs.YtcjgpkhdlobbbaaGreat.V
/-- Some cells show a number. -/
def dropN (P : Pc) (M : List (Int × Int)) (v : Int) : Nat → Pc
  | 0 => P
  | j + 1 => (dropN P M v j).setInk (M.getD j (0, 0)).2 (M.getD j (0, 0)).1 v
def dropS (P : Pc) (x y k : Int) : Pc := dropN P (covL P.wide P.high x y) (k + 1) (covL P.wide P.high x y).length
theorem dropN_sides (P : Pc) (M : List (Int × Int)) (v : Int) : ∀ j, (dropN P M v j).wide = P.wide ∧ (dropN P M v j).high = P.high
  | 0 => ⟨rfl, rfl⟩
  | j + 1 => dropN_sides P M v j
theorem covL_mem {W H x y : Int} {j : Nat} (hj : j < (covL W H x y).length) : (0 ≤ ((covL W H x y).getD j (0, 0)).1 ∧ ((covL W H x y).getD j (0, 0)).1 < W) ∧ 0 ≤ ((covL W H x y).getD j (0, 0)).2 ∧ ((covL W H x y).getD j (0, 0)).2 < H := by
  have hm : (covL W H x y).getD j (0, 0) ∈ covL W H x y := by rw [List.getD_eq_getElem?_getD, List.getElem?_eq_getElem hj]; exact List.getElem_mem hj
  have := (List.mem_filter.1 hm).2
  simp only [Bool.and_eq_true, decide_eq_true_eq] at this
  omega
theorem PcR.setInk {P : Pc} (h : PcR P) {y x v : Int} (hv : 0 ≤ v ∧ v < 256) : PcR (P.setInk y x v) :=
  ⟨h.wide, h.high, fun y' x' => by
    show 0 ≤ (if y' = y ∧ x' = x then v else P.ink y' x') ∧ (if y' = y ∧ x' = x then v else P.ink y' x') < 256
    split
    · exact hv
    · exact h.ink y' x'⟩
theorem PcOk.setInk {P : Pc} (h : PcOk P) {y x v : Int} (hv : v ≤ 3) (hx : x < P.wide) (hy : y < P.high) : PcOk (P.setInk y x v) :=
  ⟨h.1, fun y' x' a b c d => by
    show (if y' = y ∧ x' = x then v else P.ink y' x') ≤ 3 ∧ (0 < (if y' = y ∧ x' = x then v else P.ink y' x') → x' < P.wide ∧ y' < P.high)
    split
    · rename_i e
      rw [e.1, e.2]
      exact ⟨hv, fun _ => ⟨hx, hy⟩⟩
    · exact h.2 y' x' a b c d⟩
theorem dropN_ok {P : Pc} (hR : PcR P) (hP : PcOk P) {x y v : Int} (hv : 0 ≤ v ∧ v ≤ 3) : ∀ j, j ≤ (covL P.wide P.high x y).length → PcR (dropN P (covL P.wide P.high x y) v j) ∧ PcOk (dropN P (covL P.wide P.high x y) v j)
  | 0, _ => ⟨hR, hP⟩
  | j + 1, hj => by
    obtain ⟨h1, h2⟩ := dropN_ok hR hP (x := x) (y := y) hv j (by omega)
    have hm := covL_mem (W := P.wide) (H := P.high) (x := x) (y := y) (j := j) (by omega)
    obtain ⟨e1, e2⟩ := dropN_sides P (covL P.wide P.high x y) v j
    exact ⟨h1.setInk (y := _) (x := _) ⟨hv.1, by omega⟩, h2.setInk hv.2 (by rw [e1]; exact hm.1.2) (by rw [e2]; exact hm.2.2)⟩
theorem dropS_ok {P : Pc} (hR : PcR P) (hP : PcOk P) {x y k : Int} (hk : 0 ≤ k ∧ k < 3) : PcR (dropS P x y k) ∧ PcOk (dropS P x y k) ∧ (dropS P x y k).wide = P.wide ∧ (dropS P x y k).high = P.high := by
  obtain ⟨h1, h2⟩ := dropN_ok hR hP (x := x) (y := y) (v := k + 1) (by omega) _ (Nat.le_refl _)
  obtain ⟨e1, e2⟩ := dropN_sides P (covL P.wide P.high x y) (k + 1) (covL P.wide P.high x y).length
  exact ⟨h1, h2, e1, e2⟩
theorem wu8 {n : Int} (h : 0 ≤ n ∧ n < 256) : IntKind.u8.wrap n = n := by simp [IntKind.wrap, IntKind.bits, IntKind.signed]; omega
theorem covL_len5 (W H x y : Int) : (covL W H x y).length ≤ 5 := Nat.le_trans (List.length_filter_le _ _) (by simp)
section
variable (cx : Cx) (h : List (Nat × Seg)) (n : Nat)
theorem drop7_E (i : Nat) (P : Pc) (x y k : Int) (hs : hget h i = some (pcS P)) (hi : i < n) (hR : PcR P) (hP : PcOk P) (hx : 0 ≤ x) (hx1 : x < P.wide) (hy : 0 ≤ y) (hy1 : y < P.high) (hk : 0 ≤ k ∧ k < 3) (K : HK)
    (hK : K (.tup 0 (cl [])) (hset h i (pcS (dropS P x y k))) n) : CallE Tryz.prog cx 72 [.ptr i 0, dropV x y k] h n K := by
  have hM5 := covL_len5 P.wide P.high x y
  have hmem := fun j => covL_mem (W := P.wide) (H := P.high) (x := x) (y := y) (j := j)
  have hs8 := hP.1
  refine CallE.to _ _ (by simp only [go_sem]) (fun hok => hok_set hok fun k hk => pcC_flat _ _) hK ?_
  have hgi : ∀ t, hget (hset h i t) i = some t := hget_hset_self hs
  refine callE_of_T (P := Tryz.prog) hti (nt := 28) (rs := []) rfl rfl Tryz.call72 Tryz.func72 rfl _ (by simp only [go_sem, and_self]) (Nat.le_of_ble_eq_true rfl) _ fun hok => ?_
  simp only [go_sem, Nat.reduceLT, Nat.reduceLeDiff, reduceCtorEq]
  refine callA_false (covered_E _ _ _ i P x y (by first | (simp only [go_sem, hs, hi]; done) | (simp only [go_sem, Nat.reduceBEq, Nat.reduceLT, Nat.reduceLeDiff, Nat.reduceAdd, Nat.reduceMul, Nat.reduceSub, Nat.reduceMod, Nat.reduceDiv, Nat.reduceEqDiff, Int.reduceToNat, reduceIte, reduceCtorEq, Int.reduceLE, Int.reduceLT, Int.reduceEq, Int.reduceNeg, Int.reduceAdd, Int.reduceSub, Int.reduceMul, hs, hi]; rfl)) (by omega) hR hP hx hx1 hy hy1 _ fun cap => ?_)
  unfold dropS
  generalize hMM : covL P.wide P.high x y = M at *
  simp only [go_sem, Nat.reduceLT]
  refine T_lp (ι := { j : Nat // j ≤ M.length })
    (fun j => ([(0, .ptr i 0), (3, .ptr n 0), (9, .sl (n + 1) 0 M.length cap), (10, .int .i64 M.length), (11, .int .i64 j.1)],
      (n + 1, ⟨M.length * 2, spotsC M, true, none⟩) :: (n, ⟨3, cl [.int .i8 x, .int .i8 y, .int .u8 k], true, none⟩) :: hset h i (pcS (dropN P M (k + 1) j.1)), n + 2)) (fun j => M.length - j.1) ⟨0, Nat.zero_le _⟩ ?_ ?_
  · refine Imp.id (by simp) ?_ ?_
    · simp only [go_sem, Nat.reduceLT]
      omega
    · simp only [go_sem, dropN]
      rw [← pcS_eq, hset_self hs]
      exact impH.cons0 (by first | (simp only [go_sem]; done) | (simp only [go_sem, Nat.reduceBEq, Nat.reduceLT, Nat.reduceLeDiff, Nat.reduceAdd, Nat.reduceMul, Nat.reduceSub, Nat.reduceMod, Nat.reduceDiv, Nat.reduceEqDiff, Int.reduceToNat, reduceIte, reduceCtorEq, Int.reduceLE, Int.reduceLT, Int.reduceEq, Int.reduceNeg, Int.reduceAdd, Int.reduceSub, Int.reduceMul]; rfl)) (by simp) (SegLe.flat (Nat.le_refl _) id (.inr rfl) fun k hk => ⟨rfl, spotsC_flat _ _⟩) (impH.cons0 (by first | (simp only [go_sem]; done) | (simp only [go_sem, Nat.reduceBEq, Nat.reduceLT, Nat.reduceLeDiff, Nat.reduceAdd, Nat.reduceMul, Nat.reduceSub, Nat.reduceMod, Nat.reduceDiv, Nat.reduceEqDiff, Int.reduceToNat, reduceIte, reduceCtorEq, Int.reduceLE, Int.reduceLT, Int.reduceEq, Int.reduceNeg, Int.reduceAdd, Int.reduceSub, Int.reduceMul]; rfl)) (by simp) (SegLe.flat (Nat.le_refl _) id (.inr rfl) fun z hz => ⟨rfl, cl_flat (l := [_, _, _]) (by simp [SV.flat]) hz⟩) (impH.base0 hok (by simp) (by simp only [go_sem, HExt_cons])))
  · rintro ⟨j, hj⟩
    simp only [go_sem, Nat.reduceLT, reduceIte, decide_eq_true_eq, decide_eq_false_iff_not]
    refine ⟨fun h1 => ?_, fun h1 => ?_⟩
    · have r1 : (0 : Int) ≤ j ∧ (j : Int) < M.length := ⟨by omega, h1⟩
      have b1 : j * 2 ≤ M.length * 2 - 2 := by omega
      have b2 : j * 2 + 2 ≤ M.length * 2 := by omega
      have b3 : 2 ≤ M.length * 2 := by omega
      obtain ⟨⟨c1, c2⟩, c3, c4⟩ := hmem j (by omega)
      have c5 : (M.getD j (0, 0)).1 < 8 := by omega
      have c6 : (M.getD j (0, 0)).2 < 8 := by omega
      simp only [go_sem, r1, b1, b2, b3, spotsC_x, spotsC_y]
      refine T_drawT hti 12 _ _ (by kernel_rfl) (by kernel_rfl) ?_
      simp only [go_sem, Nat.reduceLT, Nat.reduceLeDiff, Nat.reduceEqDiff, reduceIte, reduceCtorEq, hgi, hi, c1, c3, c5, c6, wu8 (n := k + 1) (by omega)]
      refine ⟨⟨j + 1, by omega⟩, by show M.length - (j + 1) < M.length - j; omega, ?_⟩
      refine Imp.id (by simp) ?_ ?_
      · simp only [go_sem, Nat.reduceLT, w64 (n := (j : Int) + 1) (by omega), Int.natCast_add, Int.natCast_one]
        omega
      · exact impH.cons0 (by first | (simp only [go_sem, Nat.reduceLT]; done) | (simp only [go_sem, Nat.reduceBEq, Nat.reduceLT, Nat.reduceLeDiff, Nat.reduceAdd, Nat.reduceMul, Nat.reduceSub, Nat.reduceMod, Nat.reduceDiv, Nat.reduceEqDiff, Int.reduceToNat, reduceIte, reduceCtorEq, Int.reduceLE, Int.reduceLT, Int.reduceEq, Int.reduceNeg, Int.reduceAdd, Int.reduceSub, Int.reduceMul]; rfl)) (by simp) (SegLe.flat (Nat.le_refl _) id (.inr rfl) fun k hk => ⟨rfl, spotsC_flat _ _⟩) (impH.cons0 (by first | (simp only [go_sem]; done) | (simp only [go_sem, Nat.reduceBEq, Nat.reduceLT, Nat.reduceLeDiff, Nat.reduceAdd, Nat.reduceMul, Nat.reduceSub, Nat.reduceMod, Nat.reduceDiv, Nat.reduceEqDiff, Int.reduceToNat, reduceIte, reduceCtorEq, Int.reduceLE, Int.reduceLT, Int.reduceEq, Int.reduceNeg, Int.reduceAdd, Int.reduceSub, Int.reduceMul]; rfl)) (by simp) (SegLe.flat (Nat.le_refl _) id (.inr rfl) fun z hz => ⟨rfl, cl_flat (l := [_, _, _]) (by simp [SV.flat]) hz⟩) (impH.base0 (hok_set hok fun k hk => pcC_flat _ _) (by simp) (by first | (simp only [go_sem, HExt_cons]; done) | (simp only [go_sem, HExt_cons]; exact HExt.rfl))))
    · have hj2 : j = M.length := by omega
      subst hj2
      simp only [go_sem]
theorem drop72_E (i : Nat) (P : Pc) (x y k : Int) (hs : hget h i = some (pcS P)) (hi : i < n) (hR : PcR P) (hP : PcOk P) (hx : 0 ≤ x) (hx1 : x < P.wide) (hy : 0 ≤ y) (hy1 : y < P.high) (hk : 0 ≤ k ∧ k < 3) (K : HK)
    (hK : K (.tup 0 (cl [])) (hset h i (pcS (dropS P x y k))) n) : CallE Tryz.prog cx 60 [.ptr i 0, dropV x y k] h n K := by
  have hM5 := covL_len5 P.wide P.high x y
  have hmem := fun j => covL_mem (W := P.wide) (H := P.high) (x := x) (y := y) (j := j)
  have hs8 := hP.1
  refine CallE.to _ _ (by simp only [go_sem]) (fun hok => hok_set hok fun k hk => pcC_flat _ _) hK ?_
  have hgi : ∀ t, hget (hset h i t) i = some t := hget_hset_self hs
  refine callE_of_T (P := Tryz.prog) hti (nt := 34) (rs := []) rfl rfl Tryz.call60 Tryz.func60 rfl _ (by simp only [go_sem, and_self]) (Nat.le_of_ble_eq_true rfl) _ fun hok => ?_
  simp only [go_sem, Nat.reduceLT, Nat.reduceLeDiff, reduceCtorEq]
  refine callA_false (covered2_E _ _ _ i P x y (by first | (simp only [go_sem, hs, hi]; done) | (simp only [go_sem, Nat.reduceBEq, Nat.reduceLT, Nat.reduceLeDiff, Nat.reduceAdd, Nat.reduceMul, Nat.reduceSub, Nat.reduceMod, Nat.reduceDiv, Nat.reduceEqDiff, Int.reduceToNat, reduceIte, reduceCtorEq, Int.reduceLE, Int.reduceLT, Int.reduceEq, Int.reduceNeg, Int.reduceAdd, Int.reduceSub, Int.reduceMul, hs, hi]; rfl)) (by omega) hR (by omega) (by omega) _ fun cap => ?_)
  unfold dropS
  generalize hMM : covL P.wide P.high x y = M at *
  simp only [go_sem, Nat.reduceLT]
  refine T_lp (ι := { j : Nat // j ≤ M.length })
    (fun j => ([(0, .ptr i 0), (3, .ptr n 0), (4, .sl (n + 1) 0 M.length cap), (5, .int .i64 j.1)],
      (n + 1, ⟨M.length * 2, spotsC M, true, none⟩) :: (n, ⟨3, cl [.int .i8 x, .int .i8 y, .int .u8 k], true, none⟩) :: hset h i (pcS (dropN P M (k + 1) j.1)), n + 2)) (fun j => M.length - j.1) ⟨0, Nat.zero_le _⟩ ?_ ?_
  · refine Imp.id (by simp) ?_ ?_
    · simp only [go_sem, Nat.reduceLT]
      omega
    · simp only [go_sem, dropN]
      rw [← pcS_eq, hset_self hs]
      exact impH.cons0 (by first | (simp only [go_sem]; done) | (simp only [go_sem, Nat.reduceBEq, Nat.reduceLT, Nat.reduceLeDiff, Nat.reduceAdd, Nat.reduceMul, Nat.reduceSub, Nat.reduceMod, Nat.reduceDiv, Nat.reduceEqDiff, Int.reduceToNat, reduceIte, reduceCtorEq, Int.reduceLE, Int.reduceLT, Int.reduceEq, Int.reduceNeg, Int.reduceAdd, Int.reduceSub, Int.reduceMul]; rfl)) (by simp) (SegLe.flat (Nat.le_refl _) id (.inr rfl) fun k hk => ⟨rfl, spotsC_flat _ _⟩) (impH.cons0 (by first | (simp only [go_sem]; done) | (simp only [go_sem, Nat.reduceBEq, Nat.reduceLT, Nat.reduceLeDiff, Nat.reduceAdd, Nat.reduceMul, Nat.reduceSub, Nat.reduceMod, Nat.reduceDiv, Nat.reduceEqDiff, Int.reduceToNat, reduceIte, reduceCtorEq, Int.reduceLE, Int.reduceLT, Int.reduceEq, Int.reduceNeg, Int.reduceAdd, Int.reduceSub, Int.reduceMul]; rfl)) (by simp) (SegLe.flat (Nat.le_refl _) id (.inr rfl) fun z hz => ⟨rfl, cl_flat (l := [_, _, _]) (by simp [SV.flat]) hz⟩) (impH.base0 hok (by simp) (by simp only [go_sem, HExt_cons])))
  · rintro ⟨j, hj⟩
    simp only [go_sem, Nat.reduceLT, decide_eq_true_eq, decide_eq_false_iff_not]
    refine ⟨fun h1 => ?_, fun h1 => ?_⟩
    · have r1 : (0 : Int) ≤ j ∧ (j : Int) < M.length := ⟨by omega, h1⟩
      have b1 : j * 2 ≤ M.length * 2 - 2 := by omega
      have b2 : j * 2 + 2 ≤ M.length * 2 := by omega
      have b3 : 2 ≤ M.length * 2 := by omega
      have b4 : j * 2 ≤ M.length * 2 - 1 := by omega
      have b5 : j * 2 + 1 ≤ M.length * 2 - 1 := by omega
      have b6 : j * 2 + 1 ≤ M.length * 2 := by omega
      have b7 : 1 ≤ M.length * 2 := by omega
      obtain ⟨⟨c1, c2⟩, c3, c4⟩ := hmem j (by omega)
      have c5 : (M.getD j (0, 0)).1 < 8 := by omega
      have c6 : (M.getD j (0, 0)).2 < 8 := by omega
      refine T_drawT hti 18 _ _ (by kernel_rfl) (by kernel_rfl) ?_
      simp only [go_sem, Nat.reduceLT, Nat.reduceEqDiff, reduceIte, reduceCtorEq, hgi, hi, r1, b1, b2, b3, b4, b5, b6, b7, spotsC_x, spotsC_y, c1, c3, c5, c6, wu8 (n := k + 1) (by omega)]
      refine ⟨⟨j + 1, by omega⟩, by show M.length - (j + 1) < M.length - j; omega, ?_⟩
      refine Imp.id (by simp) ?_ ?_
      · simp only [go_sem, Nat.reduceLT, w64 (n := (j : Int) + 1) (by omega), Int.natCast_add, Int.natCast_one]
        omega
      · exact impH.cons0 (by first | (simp only [go_sem]; done) | (simp only [go_sem, Nat.reduceBEq, Nat.reduceLT, Nat.reduceLeDiff, Nat.reduceAdd, Nat.reduceMul, Nat.reduceSub, Nat.reduceMod, Nat.reduceDiv, Nat.reduceEqDiff, Int.reduceToNat, reduceIte, reduceCtorEq, Int.reduceLE, Int.reduceLT, Int.reduceEq, Int.reduceNeg, Int.reduceAdd, Int.reduceSub, Int.reduceMul]; rfl)) (by simp) (SegLe.flat (Nat.le_refl _) id (.inr rfl) fun k hk => ⟨rfl, spotsC_flat _ _⟩) (impH.cons0 (by first | (simp only [go_sem]; done) | (simp only [go_sem, Nat.reduceBEq, Nat.reduceLT, Nat.reduceLeDiff, Nat.reduceAdd, Nat.reduceMul, Nat.reduceSub, Nat.reduceMod, Nat.reduceDiv, Nat.reduceEqDiff, Int.reduceToNat, reduceIte, reduceCtorEq, Int.reduceLE, Int.reduceLT, Int.reduceEq, Int.reduceNeg, Int.reduceAdd, Int.reduceSub, Int.reduceMul]; rfl)) (by simp) (SegLe.flat (Nat.le_refl _) id (.inr rfl) fun z hz => ⟨rfl, cl_flat (l := [_, _, _]) (by simp [SV.flat]) hz⟩) (impH.base0 (hok_set hok fun k hk => pcC_flat _ _) (by simp) (by first | (simp only [go_sem, HExt_cons]; done) | (simp only [go_sem, HExt_cons]; exact HExt.rfl))))
    · have hj2 : j = M.length := by omega
      subst hj2
      simp only [go_sem]
theorem can7_Q (i : Nat) (P : Pc) (x y k : Int) (hs : hget h i = some (pcS P)) (hi : i < n) (hR : PcR P) (hx : -128 ≤ x ∧ x < 128) (hy : -128 ≤ y ∧ y < 128) :
    CallQ Tryz.prog cx 80 [.ptr i 0, dropV x y k] h n (.bool (hasB (psh P) x y && decide (k < 3))) := by
  refine callQ_of_T (P := Tryz.prog) hti (nt := 14) (rs := [.tmp 4]) rfl rfl Tryz.call80 Tryz.func80 rfl _ (by simp only [go_sem, and_self]) (Nat.le_of_ble_eq_true rfl) _ (by first | exact trivial | (refine lt_flat rfl ?_; simp [SV.flat]; done) | simp only [go_sem]) fun hok => ?_
  simp only [go_sem, Nat.reduceLT, Nat.reduceLeDiff, reduceCtorEq]
  refine (is7_Q _ _ _ i P x y (by first | (simp only [go_sem, hs, hi]; done) | (simp only [go_sem, Nat.reduceBEq, Nat.reduceLT, Nat.reduceLeDiff, Nat.reduceAdd, Nat.reduceMul, Nat.reduceSub, Nat.reduceMod, Nat.reduceDiv, Nat.reduceEqDiff, Int.reduceToNat, reduceIte, reduceCtorEq, Int.reduceLE, Int.reduceLT, Int.reduceEq, Int.reduceNeg, Int.reduceAdd, Int.reduceSub, Int.reduceMul, hs, hi]; rfl)) (by omega) hR hx hy).A ?_
  by_cases hb : hasB (psh P) x y = true
  · simp only [go_sem, Nat.reduceLT, reduceCtorEq, hb]
  · simp only [go_sem, Nat.reduceLT, hb]
theorem isDrop7_Q (i : Nat) (P : Pc) (x y k : Int) (hs : hget h i = some (pcS P)) (hi : i < n) (hR : PcR P) :
    CallQ Tryz.prog cx 52 [.ptr i 0, dropV x y k] h n (.bool (hasB (psh P) x y && decide (k < 3))) := by
  refine callQ_of_T (P := Tryz.prog) hti (nt := 15) (rs := [.tmp 4]) rfl rfl Tryz.call52 Tryz.func52 rfl _ (by simp only [go_sem, and_self]) (Nat.le_of_ble_eq_true rfl) _ (by first | exact trivial | (refine lt_flat rfl ?_; simp [SV.flat]; done) | simp only [go_sem]) fun hok => ?_
  simp only [go_sem, Nat.reduceLT]
  by_cases hb : hasB (psh P) x y = true
  · refine T_drawG hti 11 [] (.b 0 0 (.b 0 2 (.b 0 3 (.b 2 1 (.b 1 4 (.b 0 5 (.b 0 6 (.b 0 7 (.b 0 8 (.b 0 9 (.b 0 10 (.f) .o) .o) .o) .o) .o) .o) .o) .o) .o) .o) .o) _ _ (by kernel_rfl) (by kernel_rfl) ?_
    simp only [go_sem, Nat.reduceLT, Nat.reduceLeDiff, reduceCtorEq]
    refine callA_false (sheet_E _ _ _ i P (by first | (simp only [go_sem, hs, hi]; done) | (simp only [go_sem, Nat.reduceBEq, Nat.reduceLT, Nat.reduceLeDiff, Nat.reduceAdd, Nat.reduceMul, Nat.reduceSub, Nat.reduceMod, Nat.reduceDiv, Nat.reduceEqDiff, Int.reduceToNat, reduceIte, reduceCtorEq, Int.reduceLE, Int.reduceLT, Int.reduceEq, Int.reduceNeg, Int.reduceAdd, Int.reduceSub, Int.reduceMul, hs, hi]; rfl)) (by omega) _ ?_)
    simp only [go_sem, Nat.reduceLT, Nat.reduceLeDiff]
    refine CallQ.F _ (fun h' n' hn hx => has_Q _ h' n' (n + 1) 0 (shS (psh P)) (psh P) x y (hx _ (by omega) _ (by first | (simp only [go_sem]; done) | (simp only [go_sem, Nat.reduceBEq, Nat.reduceLT, Nat.reduceLeDiff, Nat.reduceAdd, Nat.reduceMul, Nat.reduceSub, Nat.reduceMod, Nat.reduceDiv, Nat.reduceEqDiff, Int.reduceToNat, reduceIte, reduceCtorEq, Int.reduceLE, Int.reduceLT, Int.reduceEq, Int.reduceNeg, Int.reduceAdd, Int.reduceSub, Int.reduceMul]; rfl))) (by omega) (shAt_shC (psh_R hR))) ?_
    simp only [go_sem, Nat.reduceLT, reduceCtorEq, hb, hs, hi, HExt_cons]
  · refine T_drawG hti 11 [] (.b 0 0 (.b 0 2 (.b 0 3 (.b 2 1 (.b 1 4 (.b 0 5 (.b 0 6 (.b 0 7 (.b 0 8 (.b 0 9 (.b 0 10 (.f) .o) .o) .o) .o) .o) .o) .o) .o) .o) .o) .o) _ _ (by kernel_rfl) (by kernel_rfl) ?_
    simp only [go_sem, Nat.reduceLT, Nat.reduceLeDiff, reduceCtorEq]
    refine callA_false (sheet_E _ _ _ i P (by first | (simp only [go_sem, hs, hi]; done) | (simp only [go_sem, Nat.reduceBEq, Nat.reduceLT, Nat.reduceLeDiff, Nat.reduceAdd, Nat.reduceMul, Nat.reduceSub, Nat.reduceMod, Nat.reduceDiv, Nat.reduceEqDiff, Int.reduceToNat, reduceIte, reduceCtorEq, Int.reduceLE, Int.reduceLT, Int.reduceEq, Int.reduceNeg, Int.reduceAdd, Int.reduceSub, Int.reduceMul, hs, hi]; rfl)) (by omega) _ ?_)
    simp only [go_sem, Nat.reduceLT, Nat.reduceLeDiff]
    refine CallQ.F _ (fun h' n' hn hx => has_Q _ h' n' (n + 1) 0 (shS (psh P)) (psh P) x y (hx _ (by omega) _ (by first | (simp only [go_sem]; done) | (simp only [go_sem, Nat.reduceBEq, Nat.reduceLT, Nat.reduceLeDiff, Nat.reduceAdd, Nat.reduceMul, Nat.reduceSub, Nat.reduceMod, Nat.reduceDiv, Nat.reduceEqDiff, Int.reduceToNat, reduceIte, reduceCtorEq, Int.reduceLE, Int.reduceLT, Int.reduceEq, Int.reduceNeg, Int.reduceAdd, Int.reduceSub, Int.reduceMul]; rfl))) (by omega) (shAt_shC (psh_R hR))) ?_
    simp only [go_sem, Nat.reduceLT, hb, hs, hi, HExt_cons]
theorem shown_Q (i : Nat) (P : Pc) (x y : Int) (hs : hget h i = some (pcS P)) (hi : i < n) (hx : 0 ≤ x) (hx8 : x < 8) (hy : 0 ≤ y) (hy8 : y < 8) : CallQ Tryz.prog cx 65 [.ptr i 0, spot x y] h n (.int .u8 (P.ink y x)) := by
  refine callQ_of_T (P := Tryz.prog) hti (nt := 15) (rs := [.tmp 4]) rfl rfl Tryz.call65 Tryz.func65 rfl _ (by simp only [go_sem, and_self]) (Nat.le_of_ble_eq_true rfl) _ (by first | exact trivial | (refine lt_flat rfl ?_; simp [SV.flat]; done) | simp only [go_sem]) fun hok => ?_
  simp only [go_sem, Nat.reduceLT]
  refine T_draw hti _ _ (by kernel_rfl) (by kernel_rfl) ?_
  simp only [go_sem, Nat.reduceLT, Nat.reduceLeDiff, reduceCtorEq, hs, hi, hx, hx8, hy, hy8]
end
end Go.Proofs.YtcjgpkhdlobbbaaGreat.V

/- Lists of drops; drops made one behind the other: both walks. -/
namespace Go.Proofs.YtcjgpkhdlobbbaaGreat.V
abbrev Dr := Int × Int × Int
def dropsC (D : List Dr) : Nat → SV := fun k =>
  if k % 3 = 0 then .int .i8 (D.getD (k / 3) (0, 0, 0)).1 else if k % 3 = 1 then .int .i8 (D.getD (k / 3) (0, 0, 0)).2.1 else .int .u8 (D.getD (k / 3) (0, 0, 0)).2.2
theorem dropsC_flat (D : List Dr) (k : Nat) : (dropsC D k).flat := by unfold dropsC; (repeat' split) <;> trivial
theorem dropsC_0 (D : List Dr) (j : Nat) : dropsC D (j * 3) = .int .i8 (D.getD j (0, 0, 0)).1 := by unfold dropsC; rw [if_pos (by omega), show j * 3 / 3 = j by omega]
theorem dropsC_1 (D : List Dr) (j : Nat) : dropsC D (j * 3 + 1) = .int .i8 (D.getD j (0, 0, 0)).2.1 := by unfold dropsC; rw [if_neg (by omega), if_pos (by omega), show (j * 3 + 1) / 3 = j by omega]
theorem dropsC_2 (D : List Dr) (j : Nat) : dropsC D (j * 3 + 2) = .int .u8 (D.getD j (0, 0, 0)).2.2 := by unfold dropsC; rw [if_neg (by omega), if_neg (by omega), show (j * 3 + 2) / 3 = j by omega]
/-- A list's cells are drops. -/
def DrAt (s : Seg) (D : List Dr) : Prop := D.length * 3 ≤ s.n ∧ ∀ k, k < D.length * 3 → s.c k = dropsC D k
theorem DrAt.c0 {s : Seg} {D : List Dr} (h : DrAt s D) {j : Nat} (hj : j < D.length) : s.c (j * 3) = .int .i8 (D.getD j (0, 0, 0)).1 := (h.2 _ (by omega)).trans (dropsC_0 D j)
theorem DrAt.c1 {s : Seg} {D : List Dr} (h : DrAt s D) {j : Nat} (hj : j < D.length) : s.c (j * 3 + 1) = .int .i8 (D.getD j (0, 0, 0)).2.1 := (h.2 _ (by omega)).trans (dropsC_1 D j)
theorem DrAt.c2 {s : Seg} {D : List Dr} (h : DrAt s D) {j : Nat} (hj : j < D.length) : s.c (j * 3 + 2) = .int .u8 (D.getD j (0, 0, 0)).2.2 := (h.2 _ (by omega)).trans (dropsC_2 D j)
def DrR (D : List Dr) : Prop := ∀ j, j < D.length → (-128 ≤ (D.getD j (0, 0, 0)).1 ∧ (D.getD j (0, 0, 0)).1 < 128) ∧ (-128 ≤ (D.getD j (0, 0, 0)).2.1 ∧ (D.getD j (0, 0, 0)).2.1 < 128) ∧ 0 ≤ (D.getD j (0, 0, 0)).2.2 ∧ (D.getD j (0, 0, 0)).2.2 < 256
def canD (P : Pc) (d : Dr) : Bool := hasB (psh P) d.1 d.2.1 && decide (d.2.2 < 3)
theorem canD_in {P : Pc} (hP : PcOk P) {d : Dr} (h : canD P d = true) : (0 ≤ d.1 ∧ d.1 < P.wide) ∧ (0 ≤ d.2.1 ∧ d.2.1 < P.high) ∧ d.2.2 < 3 := by
  unfold canD at h
  rw [psh_has] at h
  simp only [Bool.and_eq_true, decide_eq_true_eq] at h
  omega
theorem canD_sides {P Q : Pc} (h1 : P.wide = Q.wide) (h2 : P.high = Q.high) (d : Dr) : canD P d = canD Q d := by
  unfold canD; rw [psh_has, psh_has, h1, h2]
def allN7 (P : Pc) (D : List Dr) : Nat → Pc
  | 0 => P
  | j + 1 => dropS (allN7 P D j) (D.getD j (0, 0, 0)).1 (D.getD j (0, 0, 0)).2.1 (D.getD j (0, 0, 0)).2.2
theorem allN7_ok {P : Pc} (hR : PcR P) (hP : PcOk P) {D : List Dr} (hD : DrR D) : ∀ j, j ≤ D.length → (∀ q, q < j → canD P (D.getD q (0, 0, 0)) = true) → PcR (allN7 P D j) ∧ PcOk (allN7 P D j) ∧ (allN7 P D j).wide = P.wide ∧ (allN7 P D j).high = P.high
  | 0, _, _ => ⟨hR, hP, rfl, rfl⟩
  | j + 1, hj, hc => by
    obtain ⟨h1, h2, h3, h4⟩ := allN7_ok hR hP hD j (by omega) fun q hq => hc q (by omega)
    have hk := canD_in hP (hc j (by omega))
    have hd := hD j (by omega)
    obtain ⟨g1, g2, g3, g4⟩ := dropS_ok (x := (D.getD j (0, 0, 0)).1) (y := (D.getD j (0, 0, 0)).2.1) (k := (D.getD j (0, 0, 0)).2.2) h1 h2 (by omega)
    exact ⟨g1, g2, g3.trans h3, g4.trans h4⟩
/-- The code of a picture and drops. -/
noncomputable def dcode (P : Pc) (D : List Dr) : Int := haveI := Classical.propDecidable; if pcokB P then (if 100 < D.length then 3 else if ∀ q, q < D.length → canD P (D.getD q (0, 0, 0)) = true then 0 else 2) else 1
theorem dcode_1 {P : Pc} {D : List Dr} (h : ¬ pcokB P = true) : dcode P D = 1 := by unfold dcode; rw [if_neg h]
theorem dcode_3 {P : Pc} {D : List Dr} (h : pcokB P = true) (hl : 100 < D.length) : dcode P D = 3 := by unfold dcode; rw [if_pos h, if_pos hl]
theorem dcode_2 {P : Pc} {D : List Dr} (h : pcokB P = true) (hl : ¬ 100 < D.length) {q : Nat} (hq : q < D.length) (hc : canD P (D.getD q (0, 0, 0)) = false) : dcode P D = 2 := by
  unfold dcode; rw [if_pos h, if_neg hl, if_neg fun hall => by have := hall q hq; rw [hc] at this; cases this]
theorem dcode_0 {P : Pc} {D : List Dr} (h : pcokB P = true) (hl : ¬ 100 < D.length) (hall : ∀ q, q < D.length → canD P (D.getD q (0, 0, 0)) = true) : dcode P D = 0 := by unfold dcode; rw [if_pos h, if_neg hl, if_pos hall]
theorem dcode_ok {P : Pc} {D : List Dr} (h : dcode P D = 0) : PcOk P ∧ D.length ≤ 100 ∧ ∀ q, q < D.length → canD P (D.getD q (0, 0, 0)) = true := by
  unfold dcode at h
  split at h
  · rename_i h1
    split at h
    · cases h
    · split at h
      · rename_i h2 h3
        exact ⟨by simpa [pcokB] using h1, by omega, h3⟩
      · cases h
  · cases h
section
variable (cx : Cx) (h : List (Nat × Seg)) (n : Nat)
set_option maxRecDepth 100000 in
theorem indexDr_Q (i cap : Nat) (D : List Dr) (s : Seg) (f a b : Nat) (G F : Nat → SV) (p : Nat → Bool) (r : Int)
    (hs : hget h i = some s) (hi : i < n) (hm9 : D.length ≤ 10000000) (hD : DrAt s D) (hF : (SV.fn f a G b F).lt n)
    (hr0 : r = -1 → ∀ j, j < D.length → p j = false) (hr1 : r ≠ -1 → 0 ≤ r ∧ r < D.length ∧ p r.toNat = true ∧ ∀ j : Nat, (j : Int) < r → p j = false)
    (hp : ∀ j, j < D.length → ∀ nt n0, CallQ Tryz.prog ⟨cx.w0, cx.W, nt, n0⟩ f (lst a G ++ [dropV (D.getD j (0, 0, 0)).1 (D.getD j (0, 0, 0)).2.1 (D.getD j (0, 0, 0)).2.2] ++ lst b F) h n (.bool (p j))) :
    CallQ Tryz.prog cx 26 [.sl i 0 D.length cap, .fn f a G b F] h n (.int .i64 r) := by
  have hn := hD.1
  refine callQ_of_T (P := Tryz.prog) hti (nt := 19) (rs := [.tmp 4]) rfl rfl Tryz.call26 Tryz.func26 rfl _ (by simp only [go_sem, and_self]) (Nat.le_of_ble_eq_true rfl) _ (by first | exact trivial | (refine lt_flat rfl ?_; simp [SV.flat]; done) | simp only [go_sem]) fun hok => ?_
  simp only [go_sem, Nat.reduceLT, Int.reduceNeg]
  refine T_lp (ι := { j : Nat // j ≤ D.length ∧ ∀ k, k < j → p k = false })
    (fun j => ([(0, .sl i 0 D.length cap), (1, .fn f a G b F), (7, .int .i64 D.length), (8, .int .i64 j.1)], h, n)) (fun j => D.length - j.1) ⟨0, by simp⟩ ?_ ?_
  · refine Imp.id (by simp) ?_ ?_
    · simp only [go_sem, Nat.reduceLT]
      exact ⟨hi, hF⟩
    · exact impH.base0 hok (by simp) (by simp only [go_sem])
  · rintro ⟨j, hj, hall⟩
    simp only [go_sem, Nat.reduceLT, Int.reduceNeg, decide_eq_true_eq, decide_eq_false_iff_not]
    refine ⟨fun h1 => ?_, fun h1 => ?_⟩
    · have hj1 : j < D.length := by omega
      have r1 : (0 : Int) ≤ j ∧ (j : Int) < D.length := ⟨by omega, by omega⟩
      have b1 : j * 3 ≤ s.n - 3 := by omega
      have b3 : 3 ≤ s.n := by omega
      have b6 : j * 3 + 3 ≤ s.n := by omega
      simp only [go_sem, Nat.reduceLT, Int.reduceNeg, hs, hi, r1, b1, b3, b6, hD.c0 hj1, hD.c1 hj1, hD.c2 hj1]
      refine (hp j hj1 _ _).A ?_
      cases hpj : p j
      · simp only [go_sem, Nat.reduceLT, Int.reduceNeg]
        refine ⟨⟨j + 1, by omega, fun k hk => by rcases (by omega : k < j ∨ k = j) with h | rfl; exact hall k h; exact hpj⟩, by show D.length - (j + 1) < D.length - j; omega, ?_⟩
        refine Imp.id (by simp) ?_ (impH.base0 hok (by simp) HExt.rfl)
        simp only [go_sem, Nat.reduceLT, w64 (n := (j : Int) + 1) (by omega), Int.natCast_add, Int.natCast_one]
        exact ⟨hi, hF⟩
      · have e : r = j := by
          rcases (by omega : r = -1 ∨ r ≠ -1) with hr | hr
          · have := hr0 hr j hj1; rw [this] at hpj; cases hpj
          · obtain ⟨r0, r1', r2, r3⟩ := hr1 hr
            rcases (by omega : (j : Int) < r ∨ r < j ∨ r = j) with h | h | h
            · rw [r3 j h] at hpj; cases hpj
            · have := hall r.toNat (by omega)
              rw [r2] at this; cases this
            · exact h
        simp only [go_sem, Nat.reduceLT, Int.reduceNeg, e]
    · have e : r = -1 := by
        rcases (by omega : r = -1 ∨ r ≠ -1) with hr | hr
        · exact hr
        · obtain ⟨r0, r1, r2, r3⟩ := hr1 hr
          have := hall r.toNat (by omega)
          rw [r2] at this; cases this
      rw [e]
theorem fst_ex (p : Nat → Bool) : ∀ m : Nat, ∃ r : Int, (r = -1 → ∀ j : Nat, j < m → p j = false) ∧ (r ≠ -1 → 0 ≤ r ∧ r < m ∧ p r.toNat = true ∧ ∀ j : Nat, (j : Int) < r → p j = false)
  | 0 => ⟨-1, fun _ j hj => absurd hj (Nat.not_lt_zero j), fun h => absurd rfl h⟩
  | m + 1 => by
    obtain ⟨r, h0, h1⟩ := fst_ex p m
    by_cases hr : r = -1
    · by_cases hp : p m = true
      · exact ⟨m, fun e => by omega, fun _ => ⟨by omega, by omega, by rw [Int.toNat_natCast]; exact hp, fun j hj => h0 hr j (by omega)⟩⟩
      · refine ⟨-1, fun _ j hj => ?_, fun h => absurd rfl h⟩
        rcases (by omega : j < m ∨ j = m) with h | rfl
        · exact h0 hr j h
        · simpa using hp
    · obtain ⟨a, b, c, d⟩ := h1 hr
      exact ⟨r, fun e => absurd e hr, fun _ => ⟨a, by omega, c, d⟩⟩
theorem dropsCode1_Q (iv i : Nat) (P : Pc) (x y k : Int) (hs : hget h i = some (pcS P)) (hi : i < n) (hR : PcR P) (hv : hget h iv = some ⟨1, cl [.ptr i 0], true, none⟩) (hvi : iv < n) :
    CallQ Tryz.prog cx 71 [dropV x y k, .ptr iv 0] h n (.bool (!canD P (x, y, k))) := by
  refine callQ_of_T (P := Tryz.prog) hti (nt := 8) (rs := [.tmp 3]) rfl rfl Tryz.call71 Tryz.func71 rfl _ (by simp only [go_sem, and_self]) (Nat.le_of_ble_eq_true rfl) _ (by first | exact trivial | (refine lt_flat rfl ?_; simp [SV.flat]; done) | simp only [go_sem]) fun hok => ?_
  simp only [go_sem, Nat.reduceLT, hv, hvi]
  refine (isDrop7_Q _ _ _ i P x y k (by first | (simp only [go_sem, hs, hi]; done) | (simp only [go_sem, Nat.reduceBEq, Nat.reduceLT, Nat.reduceLeDiff, Nat.reduceAdd, Nat.reduceMul, Nat.reduceSub, Nat.reduceMod, Nat.reduceDiv, Nat.reduceEqDiff, Int.reduceToNat, reduceIte, reduceCtorEq, Int.reduceLE, Int.reduceLT, Int.reduceEq, Int.reduceNeg, Int.reduceAdd, Int.reduceSub, Int.reduceMul, hs, hi]; rfl)) (by omega) hR).A ?_
  simp only [go_sem, Nat.reduceLT]
  rfl
theorem dropsCode_Q (i j cap : Nat) (P : Pc) (D : List Dr) (s : Seg) (hs : hget h i = some (pcS P)) (hi : i < n) (hR : PcR P) (hj : j < n) (hd : hget h j = some s) (hD : DrAt s D) (hm9 : D.length ≤ 10000000) :
    CallQ Tryz.prog cx 38 [.ptr i 0, .sl j 0 D.length cap] h n (.int .i64 (dcode P D)) := by
  refine callQ_of_T (P := Tryz.prog) hti (nt := 19) (rs := [.tmp 4]) rfl rfl Tryz.call38 Tryz.func38 rfl _ (by simp only [go_sem, and_self]) (Nat.le_of_ble_eq_true rfl) _ (by first | exact trivial | (refine lt_flat rfl ?_; simp [SV.flat]; done) | simp only [go_sem]) fun hok => ?_
  simp only [go_sem, Nat.reduceLT, hs, hi]
  refine (validPc_Q _ _ _ P hR).A ?_
  by_cases hk : pcokB P = true
  rotate_left
  · simp only [go_sem, Nat.reduceLT, hk, dcode_1 hk]
  by_cases hl : 100 < D.length
  · simp only [go_sem, Nat.reduceLT, hk, dcode_3 hk hl, show (100 : Int) < D.length by omega]
  simp only [go_sem, Nat.reduceLT, hk, show ¬ (100 : Int) < D.length by omega]
  obtain ⟨r, hr0, hr1⟩ := fst_ex (fun q => !canD P (D.getD q (0, 0, 0))) D.length
  have hix := indexDr_Q ⟨cx.w0, cx.W, 9, n + 1⟩ ((n, ⟨1, cl [.ptr i 0], true, none⟩) :: h) (n + 1) j cap D s 71 0 1 (cl []) (cl [.ptr n 0]) (fun q => !canD P (D.getD q (0, 0, 0))) r (by first | (simp only [go_sem, hd, hj]; done) | (simp only [go_sem, Nat.reduceBEq, Nat.reduceLT, Nat.reduceLeDiff, Nat.reduceAdd, Nat.reduceMul, Nat.reduceSub, Nat.reduceMod, Nat.reduceDiv, Nat.reduceEqDiff, Int.reduceToNat, reduceIte, reduceCtorEq, Int.reduceLE, Int.reduceLT, Int.reduceEq, Int.reduceNeg, Int.reduceAdd, Int.reduceSub, Int.reduceMul, hd, hj]; rfl)) (by omega) hm9 hD
    (fn_lt (xs := []) (ys := [.ptr n 0]) (fun v hv => by cases hv) (fun v hv => by simp at hv; subst hv; show n < _; omega)) hr0 hr1
    (fun q hq nt n0 => dropsCode1_Q _ _ _ n i P _ _ _ (by first | (simp only [go_sem, hs, hi]; done) | (simp only [go_sem, Nat.reduceBEq, Nat.reduceLT, Nat.reduceLeDiff, Nat.reduceAdd, Nat.reduceMul, Nat.reduceSub, Nat.reduceMod, Nat.reduceDiv, Nat.reduceEqDiff, Int.reduceToNat, reduceIte, reduceCtorEq, Int.reduceLE, Int.reduceLT, Int.reduceEq, Int.reduceNeg, Int.reduceAdd, Int.reduceSub, Int.reduceMul, hs, hi]; rfl)) (by omega) hR (by first | (simp only [go_sem]; done) | (simp only [go_sem, Nat.reduceBEq, Nat.reduceLT, Nat.reduceLeDiff, Nat.reduceAdd, Nat.reduceMul, Nat.reduceSub, Nat.reduceMod, Nat.reduceDiv, Nat.reduceEqDiff, Int.reduceToNat, reduceIte, reduceCtorEq, Int.reduceLE, Int.reduceLT, Int.reduceEq, Int.reduceNeg, Int.reduceAdd, Int.reduceSub, Int.reduceMul]; rfl)) (by omega))
  have hcf : CallQ Tryz.prog ⟨cx.w0, cx.W, 19, n⟩ 70 [.sl j 0 D.length cap, .fn 71 0 (cl []) 1 (cl [.ptr n 0])] ((n, ⟨1, cl [.ptr i 0], true, none⟩) :: h) (n + 1) (.bool (decide (0 ≤ r))) := by
    refine callQ_of_T (P := Tryz.prog) hti (nt := 9) (rs := [.tmp 4]) rfl rfl Tryz.call70 Tryz.func70 rfl _ (by simp only [go_sem, and_self]) (Nat.le_of_ble_eq_true rfl) _ (by first | exact trivial | (refine lt_flat rfl ?_; simp [SV.flat]; done) | simp only [go_sem]) fun hok => ?_
    simp only [go_sem, Nat.reduceLT]
    refine hix.A ?_
    simp only [go_sem, Nat.reduceLT]
  refine hcf.A ?_
  by_cases hrr : r = -1
  · have e : dcode P D = 0 := dcode_0 hk hl fun q hq => by have := hr0 hrr q hq; simpa using this
    subst hrr
    simp only [go_sem, Nat.reduceLT, Int.reduceLE, Int.reduceNeg, e]
  · obtain ⟨q0, q1, q2, _⟩ := hr1 hrr
    have e : dcode P D = 2 := dcode_2 hk hl (q := r.toNat) (by omega) (by simpa using q2)
    simp only [go_sem, Nat.reduceLT, e, q0]
end
end Go.Proofs.YtcjgpkhdlobbbaaGreat.V

/- Drops made one behind the other; DropOn, DropAll, CheckDrops: both walks. -/
namespace Go.Proofs.YtcjgpkhdlobbbaaGreat.V
/-- Two pictures compared. -/
def pcEq (P Q : Pc) : Bool := eqT ti 9 28 (pcC P) (pcC Q) 0
theorem pcEqVc (P Q : Pc) : eqVc ti 28 66 66 (pcC P) (pcC Q) := by
  have hu : ∀ j, 2 ≤ j → fitC (.int .u8) (pcC P j) (pcC Q j) := fun j _ => by
    unfold pcC; rw [if_neg (by omega), if_neg (by omega)]; rfl
  refine ⟨rfl, rfl, rfl, rfl, ?_⟩
  simp only [fitT_succ, go_sem, fitK_st, fitL_cons, fitL_nil, fitK_int, fitK_arr, Nat.zero_add, and_true, Nat.mul_one, pcC_0, pcC_1, fitC_int]
  (repeat' apply And.intro) <;> first | omega | exact hu _ (by omega) | rfl | trivial
@[go_sem high] theorem eqV_pic (P Q : Pc) : eqV ti 28 .eql 66 (pcC P) 66 (pcC Q) = ⟨True, .bool (pcEq P Q)⟩ := by
  unfold eqV; rw [eq_true (pcEqVc P Q)]; rfl
/-- What DropAll gives. -/
noncomputable def dropsR (P : Pc) (D : List Dr) : Pc × Int := if dcode P D = 0 then (allN7 P D D.length, 0) else (pc0, dcode P D)
noncomputable def checkR (P : Pc) (D : List Dr) : Bool × Int := if dcode P D = 0 then (pcEq (allN7 ⟨P.wide, P.high, fun _ _ => 0⟩ D D.length) P, 0) else (false, dcode P D)
theorem blank_R {P : Pc} (h : PcR P) : PcR ⟨P.wide, P.high, fun _ _ => 0⟩ := ⟨h.wide, h.high, fun _ _ => by show (0 : Int) ≤ 0 ∧ (0 : Int) < 256; omega⟩
theorem blank_ok {P : Pc} (h : PcOk P) : PcOk ⟨P.wide, P.high, fun _ _ => 0⟩ := ⟨h.1, fun y x _ _ _ _ => ⟨by show (0 : Int) ≤ 3; omega, fun h => absurd h (by show ¬ (0 : Int) < 0; omega)⟩⟩
theorem dcode_blank {P : Pc} (D : List Dr) (hk : pcokB P = true) (hR : PcR P) : dcode ⟨P.wide, P.high, fun _ _ => 0⟩ D = dcode P D := by
  have hk' : pcokB ⟨P.wide, P.high, fun _ _ => 0⟩ = true := by simpa [pcokB] using blank_ok (P := P) (by simpa [pcokB] using hk)
  have hc : ∀ d, canD ⟨P.wide, P.high, fun _ _ => 0⟩ d = canD P d := fun d => canD_sides rfl rfl d
  by_cases hl : 100 < D.length
  · rw [dcode_3 hk' hl, dcode_3 hk hl]
  by_cases ha : ∀ q, q < D.length → canD P (D.getD q (0, 0, 0)) = true
  · rw [dcode_0 hk' hl fun q hq => by rw [hc]; exact ha q hq, dcode_0 hk hl ha]
  · obtain ⟨q, hq⟩ := Classical.not_forall.1 ha
    obtain ⟨hq1, hq2⟩ := Classical.not_imp.1 hq
    have hq3 : canD P (D.getD q (0, 0, 0)) = false := by simpa using hq2
    rw [dcode_2 hk' hl hq1 (by rw [hc]; exact hq3), dcode_2 hk hl hq1 hq3]
section
variable (cx : Cx) (h : List (Nat × Seg)) (n : Nat)
theorem canD_Q (i : Nat) (P Q : Pc) (d : Dr) (hs : hget h i = some (pcS Q)) (hi : i < n) (hR : PcR Q) (h1 : Q.wide = P.wide) (h2 : Q.high = P.high) (hx : -128 ≤ d.1 ∧ d.1 < 128) (hy : -128 ≤ d.2.1 ∧ d.2.1 < 128) :
    CallQ Tryz.prog cx 80 [.ptr i 0, dropV d.1 d.2.1 d.2.2] h n (.bool (canD P d)) := by
  rw [← canD_sides h1 h2]
  exact can7_Q cx h n i Q _ _ _ hs hi hR hx hy
theorem l07All_E (i j cap : Nat) (P : Pc) (D : List Dr) (s : Seg) (hs : hget h i = some (pcS P)) (hi : i < n) (hR : PcR P) (hj : j < n) (hij : i ≠ j) (hd : hget h j = some s) (hD : DrAt s D) (hDR : DrR D) (hm9 : D.length ≤ 10000000) (K : HK)
    (hK : ∀ Q, (dcode P D = 0 → Q = allN7 P D D.length) → K (.int .i64 (dcode P D)) (hset h i (pcS Q)) n) :
    CallE Tryz.prog cx 75 [.ptr i 0, .sl j 0 D.length cap] h n K := by
  have hn := hD.1
  refine CallE.toE (ι := Pc) (fun _ => .int .i64 (dcode P D)) (fun Q => hset h i (pcS Q)) (fun Q => dcode P D = 0 → Q = allN7 P D D.length) (fun _ _ => by simp only [go_sem]) (fun hok _ _ => hok_set hok fun k hk => pcC_flat _ _) hK ?_
  refine callE_of_T (P := Tryz.prog) hti (nt := 31) (rs := [.tmp 4]) rfl rfl Tryz.call75 Tryz.func75 rfl _ (by simp only [go_sem, and_self]) (Nat.le_of_ble_eq_true rfl) _ fun hok => ?_
  simp only [go_sem, Nat.reduceLT]
  refine (ok7_Q _ _ _ i P (by first | (simp only [go_sem, hs, hi]; done) | (simp only [go_sem, Nat.reduceBEq, Nat.reduceLT, Nat.reduceLeDiff, Nat.reduceAdd, Nat.reduceMul, Nat.reduceSub, Nat.reduceMod, Nat.reduceDiv, Nat.reduceEqDiff, Int.reduceToNat, reduceIte, reduceCtorEq, Int.reduceLE, Int.reduceLT, Int.reduceEq, Int.reduceNeg, Int.reduceAdd, Int.reduceSub, Int.reduceMul, hs, hi]; rfl)) (by omega) hR).A ?_
  by_cases hk : pcokB P = true
  rotate_left
  · simp only [go_sem, Nat.reduceLT, Int.reduceEq, hk, dcode_1 hk]
    exact ⟨P, by rw [← pcS_eq, hset_self hs]; exact HExt.rfl⟩
  by_cases hl : 100 < D.length
  · simp only [go_sem, Nat.reduceLT, Int.reduceEq, hk, dcode_3 hk hl, show (100 : Int) < D.length by omega]
    exact ⟨P, by rw [← pcS_eq, hset_self hs]; exact HExt.rfl⟩
  have hP : PcOk P := by simpa [pcokB] using hk
  have hgi : ∀ t, hget (hset h i t) i = some t := hget_hset_self hs
  have hgj : ∀ t, hget (hset h i t) j = some s := fun t => by rw [hget_hset, if_neg (by omega)]; exact hd
  simp only [go_sem, Nat.reduceLT, hk, show ¬ (100 : Int) < D.length by omega]
  refine T_lp (ι := { q : Nat // q ≤ D.length ∧ ∀ k, k < q → canD P (D.getD k (0, 0, 0)) = true })
    (fun q => ([(0, .ptr i 0), (1, .sl j 0 D.length cap), (5, .int .i64 q.1)], hset h i (pcS (allN7 P D q.1)), n)) (fun q => D.length - q.1) ⟨0, by simp⟩ ?_ ?_
  · refine Imp.id (by simp) ?_ ?_
    · simp only [go_sem, Nat.reduceLT]
      exact ⟨hi, hj⟩
    · simp only [go_sem, allN7]
      rw [← pcS_eq, hset_self hs]
      exact impH.base0 hok (by simp) HExt.rfl
  · rintro ⟨q, hq, hall⟩
    obtain ⟨i1, i2, i3, i4⟩ := allN7_ok hR hP hDR q hq hall
    simp only [go_sem, Nat.reduceLT, decide_eq_true_eq, decide_eq_false_iff_not]
    refine ⟨fun h1 => ?_, fun h1 => ?_⟩
    · have hq1 : q < D.length := by omega
      have r1 : (0 : Int) ≤ q ∧ (q : Int) < D.length := ⟨by omega, by omega⟩
      have b1 : q * 3 ≤ s.n - 3 := by omega
      have b3 : 3 ≤ s.n := by omega
      have b6 : q * 3 + 3 ≤ s.n := by omega
      have hdr := hDR q hq1
      simp only [go_sem, Nat.reduceLT, hgj, hj, r1, b1, b3, b6, hD.c0 hq1, hD.c1 hq1, hD.c2 hq1]
      refine (canD_Q _ _ _ i P (allN7 P D q) (D.getD q (0, 0, 0)) (by first | (simp only [go_sem, hgi, hi]; done) | (simp only [go_sem, Nat.reduceBEq, Nat.reduceLT, Nat.reduceLeDiff, Nat.reduceAdd, Nat.reduceMul, Nat.reduceSub, Nat.reduceMod, Nat.reduceDiv, Nat.reduceEqDiff, Int.reduceToNat, reduceIte, reduceCtorEq, Int.reduceLE, Int.reduceLT, Int.reduceEq, Int.reduceNeg, Int.reduceAdd, Int.reduceSub, Int.reduceMul, hgi, hi]; rfl)) (by omega) i1 i3 i4 hdr.1 hdr.2.1).A ?_
      cases hc : canD P (D.getD q (0, 0, 0))
      · have e : dcode P D = 2 := dcode_2 hk hl hq1 hc
        simp only [go_sem, Nat.reduceLT, Int.reduceEq, e]
        exact ⟨allN7 P D q, HExt.rfl⟩
      · obtain ⟨k1, k2, k3⟩ := canD_in hP hc
        simp only [go_sem, Nat.reduceLT, hgj, hj, r1, b1, b3, b6, hD.c0 hq1, hD.c1 hq1, hD.c2 hq1]
        refine callA_false (drop72_E _ _ _ i (allN7 P D q) (D.getD q (0, 0, 0)).1 (D.getD q (0, 0, 0)).2.1 (D.getD q (0, 0, 0)).2.2 (by first | (simp only [go_sem, hgi, hi]; done) | (simp only [go_sem, Nat.reduceBEq, Nat.reduceLT, Nat.reduceLeDiff, Nat.reduceAdd, Nat.reduceMul, Nat.reduceSub, Nat.reduceMod, Nat.reduceDiv, Nat.reduceEqDiff, Int.reduceToNat, reduceIte, reduceCtorEq, Int.reduceLE, Int.reduceLT, Int.reduceEq, Int.reduceNeg, Int.reduceAdd, Int.reduceSub, Int.reduceMul, hgi, hi]; rfl)) (by omega) i1 i2 k1.1 (by omega) k2.1 (by omega) (by omega) _ ?_)
        simp only [go_sem, Nat.reduceLT, hset_hset]
        refine ⟨⟨q + 1, by omega, fun k hk => by rcases (by omega : k < q ∨ k = q) with h | rfl; exact hall k h; exact hc⟩, by show D.length - (q + 1) < D.length - q; omega, ?_⟩
        refine Imp.id (by simp) ?_ (impH.base0 (hok_set hok fun k hk => pcC_flat _ _) (by simp) (by first | (simp only [go_sem, HExt_cons]; done) | (simp only [go_sem, HExt_cons]; exact HExt.rfl)))
        simp only [go_sem, Nat.reduceLT, w64 (n := (q : Int) + 1) (by omega), Int.natCast_add, Int.natCast_one]
        exact ⟨hi, hj⟩
    · have hq' : q = D.length := by omega
      subst hq'
      have e : dcode P D = 0 := dcode_0 hk hl hall
      simp only [go_sem, e]
      exact ⟨_, rfl, HExt.rfl⟩
theorem dropAll_Q (P : Pc) (D : List Dr) (j cap : Nat) (s : Seg) (hR : PcR P) (hj : j < n) (hd : hget h j = some s) (hD : DrAt s D) (hDR : DrR D) (hm9 : D.length ≤ 10000000) :
    CallQ Tryz.prog cx 53 [.agg 66 (pcC P), .sl j 0 D.length cap] h n (.tup 2 (cl [.agg 66 (pcC (dropsR P D).1), .int .i64 (dropsR P D).2])) := by
  have hn := hD.1
  refine callQ_of_T (P := Tryz.prog) hti (nt := 25) (rs := [.cell 4 28, .tmp 5]) rfl rfl Tryz.call53 Tryz.func53 rfl _ (by simp only [go_sem, and_self]) (Nat.le_of_ble_eq_true rfl) _ (by first | exact trivial | (refine lt_flat rfl ?_; simp [SV.flat]; done) | simp only [go_sem]) fun hok => ?_
  simp only [go_sem, Nat.reduceLT]
  refine (dropsCode_Q _ _ _ n j cap P D s (by first | (simp only [go_sem]; done) | (simp only [go_sem, Nat.reduceBEq, Nat.reduceLT, Nat.reduceLeDiff, Nat.reduceAdd, Nat.reduceMul, Nat.reduceSub, Nat.reduceMod, Nat.reduceDiv, Nat.reduceEqDiff, Int.reduceToNat, reduceIte, reduceCtorEq, Int.reduceLE, Int.reduceLT, Int.reduceEq, Int.reduceNeg, Int.reduceAdd, Int.reduceSub, Int.reduceMul]; rfl)) (by omega) hR (by omega) (by first | (simp only [go_sem, hd, hj]; done) | (simp only [go_sem, Nat.reduceBEq, Nat.reduceLT, Nat.reduceLeDiff, Nat.reduceAdd, Nat.reduceMul, Nat.reduceSub, Nat.reduceMod, Nat.reduceDiv, Nat.reduceEqDiff, Int.reduceToNat, reduceIte, reduceCtorEq, Int.reduceLE, Int.reduceLT, Int.reduceEq, Int.reduceNeg, Int.reduceAdd, Int.reduceSub, Int.reduceMul, hd, hj]; rfl)) hD hm9).A ?_
  by_cases hc : dcode P D = 0
  rotate_left
  · have e : dropsR P D = (pc0, dcode P D) := by unfold dropsR; rw [if_neg hc]
    rw [e]
    simp only [go_sem, Nat.reduceLT, reduceIte, hc]
  have e : dropsR P D = (allN7 P D D.length, 0) := by unfold dropsR; rw [if_pos hc]
  obtain ⟨hP, hlen, hcan⟩ := dcode_ok hc
  rw [e]
  simp only [go_sem, Nat.reduceLT, hc]
  refine T_lp (ι := { q : Nat // q ≤ D.length })
    (fun q => ([(2, .ptr n 0), (4, .ptr (n + 1) 0), (15, .sl j 0 D.length cap), (16, .int .i64 D.length), (17, .int .i64 q.1)], (n + 1, pcS pc0) :: (n, pcS (allN7 P D q.1)) :: h, n + 2)) (fun q => D.length - q.1) ⟨0, by simp⟩ ?_ ?_
  · refine Imp.id (by simp) ?_ ?_
    · simp only [go_sem, Nat.reduceLT]
      omega
    · exact impH.cons0 (by first | (simp only [go_sem]; done) | (simp only [go_sem, Nat.reduceBEq, Nat.reduceLT, Nat.reduceLeDiff, Nat.reduceAdd, Nat.reduceMul, Nat.reduceSub, Nat.reduceMod, Nat.reduceDiv, Nat.reduceEqDiff, Int.reduceToNat, reduceIte, reduceCtorEq, Int.reduceLE, Int.reduceLT, Int.reduceEq, Int.reduceNeg, Int.reduceAdd, Int.reduceSub, Int.reduceMul]; rfl)) (by simp) (SegLe.flat (Nat.le_refl _) id (.inr rfl) fun k hk => ⟨rfl, pcC_flat _ _⟩) (impH.cons0 (by first | (simp only [go_sem, allN7]; done) | (simp only [go_sem, Nat.reduceBEq, Nat.reduceLT, Nat.reduceLeDiff, Nat.reduceAdd, Nat.reduceMul, Nat.reduceSub, Nat.reduceMod, Nat.reduceDiv, Nat.reduceEqDiff, Int.reduceToNat, reduceIte, reduceCtorEq, Int.reduceLE, Int.reduceLT, Int.reduceEq, Int.reduceNeg, Int.reduceAdd, Int.reduceSub, Int.reduceMul, allN7]; rfl)) (by simp) (SegLe.flat (Nat.le_refl _) id (.inr rfl) fun k hk => ⟨rfl, pcC_flat _ _⟩) (impH.base0 hok (by simp) (by first | (simp only [go_sem, HExt_cons]; done) | (simp only [go_sem, Nat.reduceBEq, Nat.reduceLT, Nat.reduceLeDiff, Nat.reduceAdd, Nat.reduceMul, Nat.reduceSub, Nat.reduceMod, Nat.reduceDiv, Nat.reduceEqDiff, Int.reduceToNat, reduceIte, reduceCtorEq, Int.reduceLE, Int.reduceLT, Int.reduceEq, Int.reduceNeg, Int.reduceAdd, Int.reduceSub, Int.reduceMul, HExt_cons]; exact HExt.rfl))))
  · rintro ⟨q, hq⟩
    obtain ⟨i1, i2, i3, i4⟩ := allN7_ok hR hP hDR q hq fun k hk => hcan k (by omega)
    simp only [go_sem, Nat.reduceLT, reduceIte, decide_eq_true_eq, decide_eq_false_iff_not]
    refine ⟨fun h1 => ?_, fun h1 => ?_⟩
    · have hq1 : q < D.length := by omega
      have r1 : (0 : Int) ≤ q ∧ (q : Int) < D.length := ⟨by omega, by omega⟩
      have b1 : q * 3 ≤ s.n - 3 := by omega
      have b3 : 3 ≤ s.n := by omega
      have b6 : q * 3 + 3 ≤ s.n := by omega
      have hdr := hDR q hq1
      obtain ⟨k1, k2, k3⟩ := canD_in hP (hcan q hq1)
      simp only [go_sem, Nat.reduceLT, reduceIte, hd, hj, r1, b1, b3, b6, hD.c0 hq1, hD.c1 hq1, hD.c2 hq1]
      refine callA_false (drop7_E _ _ _ n (allN7 P D q) (D.getD q (0, 0, 0)).1 (D.getD q (0, 0, 0)).2.1 (D.getD q (0, 0, 0)).2.2 (by first | (simp only [go_sem]; done) | (simp only [go_sem, Nat.reduceBEq, Nat.reduceLT, Nat.reduceLeDiff, Nat.reduceAdd, Nat.reduceMul, Nat.reduceSub, Nat.reduceMod, Nat.reduceDiv, Nat.reduceEqDiff, Int.reduceToNat, reduceIte, reduceCtorEq, Int.reduceLE, Int.reduceLT, Int.reduceEq, Int.reduceNeg, Int.reduceAdd, Int.reduceSub, Int.reduceMul]; rfl)) (by omega) i1 i2 k1.1 (by omega) k2.1 (by omega) (by omega) _ ?_)
      simp only [go_sem, Nat.reduceLT]
      refine ⟨⟨q + 1, by omega⟩, by show D.length - (q + 1) < D.length - q; omega, ?_⟩
      refine Imp.id (by simp) ?_ ?_
      · simp only [go_sem, Nat.reduceLT, w64 (n := (q : Int) + 1) (by omega), Int.natCast_add, Int.natCast_one]
        omega
      · exact impH.cons0 (by first | (simp only [go_sem, Nat.reduceLT]; done) | (simp only [go_sem, Nat.reduceBEq, Nat.reduceLT, Nat.reduceLeDiff, Nat.reduceAdd, Nat.reduceMul, Nat.reduceSub, Nat.reduceMod, Nat.reduceDiv, Nat.reduceEqDiff, Int.reduceToNat, reduceIte, reduceCtorEq, Int.reduceLE, Int.reduceLT, Int.reduceEq, Int.reduceNeg, Int.reduceAdd, Int.reduceSub, Int.reduceMul]; rfl)) (by simp) (SegLe.flat (Nat.le_refl _) id (.inr rfl) fun k hk => ⟨rfl, pcC_flat _ _⟩) (impH.cons0 (by first | (simp only [go_sem, allN7]; done) | (simp only [go_sem, Nat.reduceBEq, Nat.reduceLT, Nat.reduceLeDiff, Nat.reduceAdd, Nat.reduceMul, Nat.reduceSub, Nat.reduceMod, Nat.reduceDiv, Nat.reduceEqDiff, Int.reduceToNat, reduceIte, reduceCtorEq, Int.reduceLE, Int.reduceLT, Int.reduceEq, Int.reduceNeg, Int.reduceAdd, Int.reduceSub, Int.reduceMul, allN7]; rfl)) (by simp) (SegLe.flat (Nat.le_refl _) id (.inr rfl) fun k hk => ⟨rfl, pcC_flat _ _⟩) (impH.base0 hok (by simp) (by first | (simp only [go_sem, HExt_cons]; done) | (simp only [go_sem, Nat.reduceBEq, Nat.reduceLT, Nat.reduceLeDiff, Nat.reduceAdd, Nat.reduceMul, Nat.reduceSub, Nat.reduceMod, Nat.reduceDiv, Nat.reduceEqDiff, Int.reduceToNat, reduceIte, reduceCtorEq, Int.reduceLE, Int.reduceLT, Int.reduceEq, Int.reduceNeg, Int.reduceAdd, Int.reduceSub, Int.reduceMul, HExt_cons]; exact HExt.rfl))))
    · have hq' : q = D.length := by omega
      subst hq'
      simp only [go_sem]
end
end Go.Proofs.YtcjgpkhdlobbbaaGreat.V

/- DropOn, CheckDrops: both walks. -/
namespace Go.Proofs.YtcjgpkhdlobbbaaGreat.V
theorem dropsR_0 {P : Pc} {d : Dr} (h : pcokB P = true) (hc : canD P d = true) : dropsR P [d] = (dropS P d.1 d.2.1 d.2.2, 0) := by
  unfold dropsR
  rw [dcode_0 (D := [d]) h (by simp) fun q hq => by
    have : q = 0 := by simpa using hq
    subst this; exact hc]
  rfl
theorem drAt_one {s : Seg} {x y k : Int} (hn : s.n = 3) (h0 : s.c 0 = .int .i8 x) (h1 : s.c 1 = .int .i8 y) (h2 : s.c 2 = .int .u8 k) : DrAt s [(x, y, k)] := by
  refine ⟨Nat.le_of_eq hn.symm, fun j hj => ?_⟩
  have hj : j < 3 := hj
  rcases (by omega : j = 0 ∨ j = 1 ∨ j = 2) with rfl | rfl | rfl
  · exact h0
  · exact h1
  · exact h2
section
variable (cx : Cx) (h : List (Nat × Seg)) (n : Nat)
theorem dropOn_Q (P : Pc) (d : Dr) (hR : PcR P) (hx : -128 ≤ d.1 ∧ d.1 < 128) (hy : -128 ≤ d.2.1 ∧ d.2.1 < 128) (hk0 : 0 ≤ d.2.2 ∧ d.2.2 < 256) :
    CallQ Tryz.prog cx 18 [.agg 66 (pcC P), dropV d.1 d.2.1 d.2.2] h n (.tup 2 (cl [.agg 66 (pcC (dropsR P [d]).1), .int .i64 (dropsR P [d]).2])) := by
  refine callQ_of_T (P := Tryz.prog) hti (nt := 12) (rs := [.cell 4 28, .tmp 5]) rfl rfl Tryz.call18 Tryz.func18 rfl _ (by simp only [go_sem, and_self]) (Nat.le_of_ble_eq_true rfl) _ (by first | exact trivial | (refine lt_flat rfl ?_; simp [SV.flat]; done) | simp only [go_sem]) fun hok => ?_
  simp only [go_sem, Nat.reduceLT, Nat.reduceLeDiff, Nat.reduceMul]
  refine (dropAll_Q _ _ _ P [d] (n + 3) 1 ⟨3, fun j => if j < 3 then cl [.int .i8 d.1, .int .i8 d.2.1, .int .u8 d.2.2] (j - 0) else cl [.int .i8 0, .int .i8 0, .int .u8 0] (j % 3), true, some (48, 3)⟩ hR (by omega) (by first | (simp only [go_sem]; done) | (simp only [go_sem, Nat.reduceBEq, Nat.reduceLT, Nat.reduceLeDiff, Nat.reduceAdd, Nat.reduceMul, Nat.reduceSub, Nat.reduceMod, Nat.reduceDiv, Nat.reduceEqDiff, Int.reduceToNat, reduceIte, reduceCtorEq, Int.reduceLE, Int.reduceLT, Int.reduceEq, Int.reduceNeg, Int.reduceAdd, Int.reduceSub, Int.reduceMul]; rfl)) (drAt_one rfl rfl rfl rfl) (fun j hj => by
    have hj : j < 1 := hj
    have : j = 0 := by omega
    subst this; exact ⟨hx, hy, hk0⟩) (by show 1 ≤ 10000000; omega)).A ?_
  simp only [go_sem, Nat.reduceLT, reduceIte]
theorem checkDrops2_Q (P : Pc) (D : List Dr) (j cap : Nat) (s : Seg) (hR : PcR P) (hj : j < n) (hd : hget h j = some s) (hD : DrAt s D) (hDR : DrR D) (hm9 : D.length ≤ 10000000) :
    CallQ Tryz.prog cx 54 [.agg 66 (pcC P), .sl j 0 D.length cap] h n (.tup 2 (cl [.bool (checkR P D).1, .int .i64 (checkR P D).2])) := by
  refine callQ_of_T (P := Tryz.prog) hti (nt := 25) (rs := [.tmp 4, .tmp 5]) rfl rfl Tryz.call54 Tryz.func54 rfl _ (by simp only [go_sem, and_self]) (Nat.le_of_ble_eq_true rfl) _ (by first | exact trivial | (refine lt_flat rfl ?_; simp [SV.flat]; done) | simp only [go_sem]) fun hok => ?_
  simp only [go_sem, Nat.reduceLT]
  refine (ok7_Q _ _ _ n P (by first | (simp only [go_sem]; done) | (simp only [go_sem, Nat.reduceBEq, Nat.reduceLT, Nat.reduceLeDiff, Nat.reduceAdd, Nat.reduceMul, Nat.reduceSub, Nat.reduceMod, Nat.reduceDiv, Nat.reduceEqDiff, Int.reduceToNat, reduceIte, reduceCtorEq, Int.reduceLE, Int.reduceLT, Int.reduceEq, Int.reduceNeg, Int.reduceAdd, Int.reduceSub, Int.reduceMul]; rfl)) (by omega) hR).A ?_
  by_cases hk : pcokB P = true
  rotate_left
  · have e : checkR P D = (false, 1) := by unfold checkR; rw [dcode_1 hk]; rfl
    rw [e]
    simp only [go_sem, Nat.reduceLT, hk]
  simp only [go_sem, Nat.reduceLT, Nat.reduceLeDiff, reduceIte, reduceCtorEq, hk]
  refine callA_false (l07All_E _ _ _ (n + 1) j cap ⟨P.wide, P.high, fun _ _ => 0⟩ D s (by first | (simp only [go_sem]; done) | (simp only [go_sem]; rfl)) (by omega) (blank_R hR) (by omega) (by omega) (by first | (simp only [go_sem, hd, hj]; done) | (simp only [go_sem, Nat.reduceBEq, Nat.reduceLT, Nat.reduceLeDiff, Nat.reduceAdd, Nat.reduceMul, Nat.reduceSub, Nat.reduceMod, Nat.reduceDiv, Nat.reduceEqDiff, Int.reduceToNat, reduceIte, reduceCtorEq, Int.reduceLE, Int.reduceLT, Int.reduceEq, Int.reduceNeg, Int.reduceAdd, Int.reduceSub, Int.reduceMul, hd, hj]; rfl)) hD hDR hm9 _ fun Q hQ => ?_)
  rw [dcode_blank D hk hR] at hQ ⊢
  by_cases hc : dcode P D = 0
  · have e : checkR P D = (pcEq (allN7 ⟨P.wide, P.high, fun _ _ => 0⟩ D D.length) P, 0) := by unfold checkR; rw [if_pos hc]
    rw [hQ hc, hc, e]
    simp only [go_sem, Nat.reduceLT]
  · have e : checkR P D = (false, dcode P D) := by unfold checkR; rw [if_neg hc]
    rw [e]
    simp only [go_sem, Nat.reduceLT, hc]
theorem madeBy_Q (i j cap : Nat) (P : Pc) (D : List Dr) (s : Seg) (hs : hget h i = some (pcS P)) (hi : i < n) (hR : PcR P) (hj : j < n) (hd : hget h j = some s) (hD : DrAt s D) (hDR : DrR D) (hm9 : D.length ≤ 10000000) (hc : dcode P D = 0) :
    CallQ Tryz.prog cx 39 [.ptr i 0, .sl j 0 D.length cap] h n (.bool (pcEq (allN7 ⟨P.wide, P.high, fun _ _ => 0⟩ D D.length) P)) := by
  have hn := hD.1
  obtain ⟨hP, hlen, hcan⟩ := dcode_ok hc
  refine callQ_of_T (P := Tryz.prog) hti (nt := 31) (rs := [.tmp 4]) rfl rfl Tryz.call39 Tryz.func39 rfl _ (by simp only [go_sem, and_self]) (Nat.le_of_ble_eq_true rfl) _ (by first | exact trivial | (refine lt_flat rfl ?_; simp [SV.flat]; done) | simp only [go_sem]) fun hok => ?_
  simp only [go_sem, Nat.reduceLT]
  refine T_drawG hti 11 [10] (.b 0 0 (.b 0 1 (.b 0 2 (.b 0 3 (.b 0 4 (.b 0 5 (.b 0 6 (.b 0 7 (.b 0 8 (.b 2 9 (.b 4 10 (.f) .o) .o) .o) .o) .o) .o) .o) .o) .o) .o) .o) _ _ (by kernel_rfl) (by kernel_rfl) ?_
  simp only [go_sem, Nat.reduceLT, Nat.reduceLeDiff, reduceIte, reduceCtorEq, hs, hi]
  refine T_lp (ι := { q : Nat // q ≤ D.length })
    (fun q => ([(0, .ptr i 0), (4, .bool false), (5, .ptr n 0), (17, .sl j 0 D.length cap), (18, .int .i64 D.length), (19, .int .i64 q.1)], (n, pcS (allN7 ⟨P.wide, P.high, fun _ _ => 0⟩ D q.1)) :: h, n + 1)) (fun q => D.length - q.1) ⟨0, by simp⟩ ?_ ?_
  · refine Imp.id (by simp) ?_ ?_
    · simp only [go_sem, Nat.reduceLT]
      omega
    · exact impH.cons0 (by first | (simp only [go_sem, allN7]; done) | (simp only [go_sem, allN7]; rfl)) (by simp) (SegLe.flat (Nat.le_refl _) id (.inr rfl) fun k hk => ⟨rfl, pcC_flat _ _⟩) (impH.base0 hok (by simp) (by first | (simp only [go_sem, HExt_cons]; done) | (simp only [go_sem, Nat.reduceBEq, Nat.reduceLT, Nat.reduceLeDiff, Nat.reduceAdd, Nat.reduceMul, Nat.reduceSub, Nat.reduceMod, Nat.reduceDiv, Nat.reduceEqDiff, Int.reduceToNat, reduceIte, reduceCtorEq, Int.reduceLE, Int.reduceLT, Int.reduceEq, Int.reduceNeg, Int.reduceAdd, Int.reduceSub, Int.reduceMul, HExt_cons]; exact HExt.rfl)))
  · rintro ⟨q, hq⟩
    obtain ⟨i1, i2, i3, i4⟩ := allN7_ok (blank_R hR) (blank_ok hP) hDR q hq fun k hk => (canD_sides (P := ⟨P.wide, P.high, fun _ _ => 0⟩) rfl rfl _).trans (hcan k (by omega))
    simp only at i3 i4
    simp only [go_sem, Nat.reduceLT, decide_eq_true_eq, decide_eq_false_iff_not]
    refine ⟨fun h1 => ?_, fun h1 => ?_⟩
    · have hq1 : q < D.length := by omega
      have r1 : (0 : Int) ≤ q ∧ (q : Int) < D.length := ⟨by omega, by omega⟩
      have b1 : q * 3 ≤ s.n - 3 := by omega
      have b3 : 3 ≤ s.n := by omega
      have b6 : q * 3 + 3 ≤ s.n := by omega
      have hdr := hDR q hq1
      obtain ⟨k1, k2, k3⟩ := canD_in hP (hcan q hq1)
      simp only [go_sem, Nat.reduceLT, reduceIte, hd, hj, r1, b1, b3, b6, hD.c0 hq1, hD.c1 hq1, hD.c2 hq1]
      refine callA_false (drop7_E _ _ _ n (allN7 ⟨P.wide, P.high, fun _ _ => 0⟩ D q) (D.getD q (0, 0, 0)).1 (D.getD q (0, 0, 0)).2.1 (D.getD q (0, 0, 0)).2.2 (by first | (simp only [go_sem]; done) | (simp only [go_sem, Nat.reduceBEq, Nat.reduceLT, Nat.reduceLeDiff, Nat.reduceAdd, Nat.reduceMul, Nat.reduceSub, Nat.reduceMod, Nat.reduceDiv, Nat.reduceEqDiff, Int.reduceToNat, reduceIte, reduceCtorEq, Int.reduceLE, Int.reduceLT, Int.reduceEq, Int.reduceNeg, Int.reduceAdd, Int.reduceSub, Int.reduceMul]; rfl)) (by omega) i1 i2 k1.1 (by omega) k2.1 (by omega) (by omega) _ ?_)
      simp only [go_sem, Nat.reduceLT]
      refine ⟨⟨q + 1, by omega⟩, by show D.length - (q + 1) < D.length - q; omega, ?_⟩
      refine Imp.id (by simp) ?_ ?_
      · simp only [go_sem, Nat.reduceLT, w64 (n := (q : Int) + 1) (by omega), Int.natCast_add, Int.natCast_one]
        omega
      · exact impH.cons0 (by first | (simp only [go_sem, allN7]; done) | (simp only [go_sem, Nat.reduceBEq, Nat.reduceLT, Nat.reduceLeDiff, Nat.reduceAdd, Nat.reduceMul, Nat.reduceSub, Nat.reduceMod, Nat.reduceDiv, Nat.reduceEqDiff, Int.reduceToNat, reduceIte, reduceCtorEq, Int.reduceLE, Int.reduceLT, Int.reduceEq, Int.reduceNeg, Int.reduceAdd, Int.reduceSub, Int.reduceMul, allN7]; rfl)) (by simp) (SegLe.flat (Nat.le_refl _) id (.inr rfl) fun k hk => ⟨rfl, pcC_flat _ _⟩) (impH.base0 hok (by simp) (by first | (simp only [go_sem, HExt_cons]; done) | (simp only [go_sem, Nat.reduceBEq, Nat.reduceLT, Nat.reduceLeDiff, Nat.reduceAdd, Nat.reduceMul, Nat.reduceSub, Nat.reduceMod, Nat.reduceDiv, Nat.reduceEqDiff, Int.reduceToNat, reduceIte, reduceCtorEq, Int.reduceLE, Int.reduceLT, Int.reduceEq, Int.reduceNeg, Int.reduceAdd, Int.reduceSub, Int.reduceMul, HExt_cons]; exact HExt.rfl)))
    · have hq' : q = D.length := by omega
      subst hq'
      refine T_draw hti _ _ (by kernel_rfl) (by kernel_rfl) ?_
      simp only [go_sem, Nat.reduceLT, hs, hi]
theorem checkDrops_Q (P : Pc) (D : List Dr) (j cap : Nat) (s : Seg) (hR : PcR P) (hj : j < n) (hd : hget h j = some s) (hD : DrAt s D) (hDR : DrR D) (hm9 : D.length ≤ 10000000) :
    CallQ Tryz.prog cx 8 [.agg 66 (pcC P), .sl j 0 D.length cap] h n (.tup 2 (cl [.bool (checkR P D).1, .int .i64 (checkR P D).2])) := by
  refine callQ_of_T (P := Tryz.prog) hti (nt := 14) (rs := [.tmp 4, .tmp 5]) rfl rfl Tryz.call8 Tryz.func8 rfl _ (by simp only [go_sem, and_self]) (Nat.le_of_ble_eq_true rfl) _ (by first | exact trivial | (refine lt_flat rfl ?_; simp [SV.flat]; done) | simp only [go_sem]) fun hok => ?_
  simp only [go_sem, Nat.reduceLT]
  refine (dropsCode_Q _ _ _ n j cap P D s (by first | (simp only [go_sem]; done) | (simp only [go_sem, Nat.reduceBEq, Nat.reduceLT, Nat.reduceLeDiff, Nat.reduceAdd, Nat.reduceMul, Nat.reduceSub, Nat.reduceMod, Nat.reduceDiv, Nat.reduceEqDiff, Int.reduceToNat, reduceIte, reduceCtorEq, Int.reduceLE, Int.reduceLT, Int.reduceEq, Int.reduceNeg, Int.reduceAdd, Int.reduceSub, Int.reduceMul]; rfl)) (by omega) hR (by omega) (by first | (simp only [go_sem, hd, hj]; done) | (simp only [go_sem, Nat.reduceBEq, Nat.reduceLT, Nat.reduceLeDiff, Nat.reduceAdd, Nat.reduceMul, Nat.reduceSub, Nat.reduceMod, Nat.reduceDiv, Nat.reduceEqDiff, Int.reduceToNat, reduceIte, reduceCtorEq, Int.reduceLE, Int.reduceLT, Int.reduceEq, Int.reduceNeg, Int.reduceAdd, Int.reduceSub, Int.reduceMul, hd, hj]; rfl)) hD hm9).A ?_
  by_cases hc : dcode P D = 0
  rotate_left
  · have e : checkR P D = (false, dcode P D) := by unfold checkR; rw [if_neg hc]
    rw [e]
    simp only [go_sem, Nat.reduceLT, hc]
  have e : checkR P D = (pcEq (allN7 ⟨P.wide, P.high, fun _ _ => 0⟩ D D.length) P, 0) := by unfold checkR; rw [if_pos hc]
  rw [e]
  simp only [go_sem, Nat.reduceLT, hc]
  refine (madeBy_Q _ _ _ n j cap P D s (by first | (simp only [go_sem]; done) | (simp only [go_sem, Nat.reduceBEq, Nat.reduceLT, Nat.reduceLeDiff, Nat.reduceAdd, Nat.reduceMul, Nat.reduceSub, Nat.reduceMod, Nat.reduceDiv, Nat.reduceEqDiff, Int.reduceToNat, reduceIte, reduceCtorEq, Int.reduceLE, Int.reduceLT, Int.reduceEq, Int.reduceNeg, Int.reduceAdd, Int.reduceSub, Int.reduceMul]; rfl)) (by omega) hR (by omega) (by first | (simp only [go_sem, hd, hj]; done) | (simp only [go_sem, Nat.reduceBEq, Nat.reduceLT, Nat.reduceLeDiff, Nat.reduceAdd, Nat.reduceMul, Nat.reduceSub, Nat.reduceMod, Nat.reduceDiv, Nat.reduceEqDiff, Int.reduceToNat, reduceIte, reduceCtorEq, Int.reduceLE, Int.reduceLT, Int.reduceEq, Int.reduceNeg, Int.reduceAdd, Int.reduceSub, Int.reduceMul, hd, hj]; rfl)) hD hDR hm9 hc).A ?_
  simp only [go_sem, Nat.reduceLT]
end
end Go.Proofs.YtcjgpkhdlobbbaaGreat.V

/- Drops that can be the last: open cells; both walks. -/
namespace Go.Proofs.YtcjgpkhdlobbbaaGreat.V
abbrev Gr := Int → Int → Bool
def gridC (O : Gr) : Nat → SV := fun j => .bool (O ((j / 8 : Nat) : Int) ((j % 8 : Nat) : Int))
theorem gridC_at (O : Gr) {y x : Int} (h1 : 0 ≤ y) (h2 : y < 8) (h3 : 0 ≤ x) (h4 : x < 8) : gridC O (y.toNat * 8 + x.toNat) = .bool (O y x) := by
  unfold gridC
  rw [show (y.toNat * 8 + x.toNat) / 8 = y.toNat by omega, show (y.toNat * 8 + x.toNat) % 8 = x.toNat by omega, nat_of _ h1, nat_of _ h3]
def GrAt (s : Seg) (O : Gr) : Prop := s.n = 64 ∧ ∀ j, j < 64 → s.c j = gridC O j
theorem GrAt.at {s : Seg} {O : Gr} (h : GrAt s O) {y x : Int} (h1 : 0 ≤ y) (h2 : y < 8) (h3 : 0 ≤ x) (h4 : x < 8) : s.c (y.toNat * 8 + x.toNat) = .bool (O y x) :=
  (h.2 _ (by omega)).trans (gridC_at O h1 h2 h3 h4)
def PelAt (s : Seg) (v : SV) (O : Gr) : Prop := 65 ≤ s.n ∧ s.c 0 = v ∧ ∀ j, j < 64 → s.c (1 + j) = gridC O j
theorem PelAt.at {s : Seg} {v : SV} {O : Gr} (h : PelAt s v O) {y x : Int} (h1 : 0 ≤ y) (h2 : y < 8) (h3 : 0 ≤ x) (h4 : x < 8) : s.c (1 + y.toNat * 8 + x.toNat) = .bool (O y x) := by
  rw [Nat.add_assoc]; exact (h.2.2 _ (by omega)).trans (gridC_at O h1 h2 h3 h4)
def okP (P : Pc) (O : Gr) (k : Int) (c : Int × Int) : Bool := O c.2 c.1 || decide (P.ink c.2 c.1 = k + 1)
def opP (O : Gr) (c : Int × Int) : Bool := !O c.2 c.1
def peelsB (P : Pc) (O : Gr) (x y k : Int) : Bool := (covL P.wide P.high x y).all (okP P O k) && decide (0 < ((covL P.wide P.high x y).filter (opP O)).length)
theorem all_getD {M : List (Int × Int)} {p : Int × Int → Bool} (h : ∀ j, j < M.length → p (M.getD j (0, 0)) = true) : M.all p = true := by
  rw [List.all_eq_true]
  intro a ha
  obtain ⟨j, hj, rfl⟩ := List.getElem_of_mem ha
  have := h j hj
  rwa [List.getD_eq_getElem?_getD, List.getElem?_eq_getElem hj] at this
theorem all_not {M : List (Int × Int)} {p : Int × Int → Bool} {j : Nat} (hj : j < M.length) (h : p (M.getD j (0, 0)) = false) : M.all p = false := by
  rw [Bool.eq_false_iff]
  intro ha
  rw [List.all_eq_true] at ha
  have hm : M.getD j (0, 0) ∈ M := by rw [List.getD_eq_getElem?_getD, List.getElem?_eq_getElem hj]; exact List.getElem_mem hj
  rw [ha _ hm] at h; cases h
section
variable (cx : Cx) (h : List (Nat × Seg)) (n : Nat)
theorem peels2_Q (i g : Nat) (P : Pc) (O : Gr) (x y k : Int) (s : Seg) (hs : hget h i = some (pcS P)) (hi : i < n) (hg : hget h g = some s) (hgn : g < n) (hG : GrAt s O) (hR : PcR P) (hP : PcOk P) (hx : 0 ≤ x ∧ x < 8) (hy : 0 ≤ y ∧ y < 8) (hk : 0 ≤ k ∧ k < 3) :
    CallQ Tryz.prog cx 68 [.ptr i 0, .ptr g 0, dropV x y k] h n (.bool (peelsB P O x y k)) := by
  have hM5 := covL_len5 P.wide P.high x y
  have hmem := fun j => covL_mem (W := P.wide) (H := P.high) (x := x) (y := y) (j := j)
  have hs8 := hP.1
  have hn64 := hG.1
  have hk1 := wu8 (n := k + 1) (by omega)
  refine callQ_of_T (P := Tryz.prog) hti (nt := 56) (rs := [.tmp 6]) rfl rfl Tryz.call68 Tryz.func68 rfl _ (by simp only [go_sem, and_self]) (Nat.le_of_ble_eq_true rfl) _ (by first | exact trivial | (refine lt_flat rfl ?_; simp [SV.flat]; done) | simp only [go_sem]) fun hok => ?_
  simp only [go_sem, Nat.reduceLT, Nat.reduceLeDiff, reduceCtorEq]
  refine callA_false (covered2_E _ _ _ i P x y (by first | (simp only [go_sem, hs, hi]; done) | (simp only [go_sem, Nat.reduceBEq, Nat.reduceLT, Nat.reduceLeDiff, Nat.reduceAdd, Nat.reduceMul, Nat.reduceSub, Nat.reduceMod, Nat.reduceDiv, Nat.reduceEqDiff, Int.reduceToNat, reduceIte, reduceCtorEq, Int.reduceLE, Int.reduceLT, Int.reduceEq, Int.reduceNeg, Int.reduceAdd, Int.reduceSub, Int.reduceMul, hs, hi]; rfl)) (by omega) hR hx hy _ fun cap => ?_)
  unfold peelsB
  generalize hMM : covL P.wide P.high x y = M at *
  simp only [go_sem, Nat.reduceLT]
  refine T_lp (ι := { q : Nat // q ≤ M.length ∧ ∀ j, j < q → okP P O k (M.getD j (0, 0)) = true })
    (fun q => ([(0, .ptr i 0), (1, .ptr g 0), (5, .ptr n 0), (7, .sl (n + 1) 0 M.length cap), (8, .bool (decide (0 < ((M.take q.1).filter (opP O)).length))), (9, .int .i64 q.1)],
      (n + 1, ⟨M.length * 2, spotsC M, true, none⟩) :: (n, ⟨3, cl [.int .i8 x, .int .i8 y, .int .u8 k], true, none⟩) :: h, n + 2)) (fun q => M.length - q.1) ⟨0, by simp⟩ ?_ ?_
  · refine Imp.id (by simp) ?_ ?_
    · simp only [go_sem, Nat.reduceLT, List.take_zero, List.filter_nil, List.length_nil, Nat.lt_irrefl, decide_false]
      omega
    · exact impH.cons0 (by first | (simp only [go_sem]; done) | (simp only [go_sem, Nat.reduceBEq, Nat.reduceLT, Nat.reduceLeDiff, Nat.reduceAdd, Nat.reduceMul, Nat.reduceSub, Nat.reduceMod, Nat.reduceDiv, Nat.reduceEqDiff, Int.reduceToNat, reduceIte, reduceCtorEq, Int.reduceLE, Int.reduceLT, Int.reduceEq, Int.reduceNeg, Int.reduceAdd, Int.reduceSub, Int.reduceMul]; rfl)) (by simp) (SegLe.flat (Nat.le_refl _) id (.inr rfl) fun k hk => ⟨rfl, spotsC_flat _ _⟩) (impH.cons0 (by first | (simp only [go_sem]; done) | (simp only [go_sem, Nat.reduceBEq, Nat.reduceLT, Nat.reduceLeDiff, Nat.reduceAdd, Nat.reduceMul, Nat.reduceSub, Nat.reduceMod, Nat.reduceDiv, Nat.reduceEqDiff, Int.reduceToNat, reduceIte, reduceCtorEq, Int.reduceLE, Int.reduceLT, Int.reduceEq, Int.reduceNeg, Int.reduceAdd, Int.reduceSub, Int.reduceMul]; rfl)) (by simp) (SegLe.flat (Nat.le_refl _) id (.inr rfl) fun z hz => ⟨rfl, cl_flat (l := [_, _, _]) (by simp [SV.flat]) hz⟩) (impH.base0 hok (by simp) (by simp only [go_sem, HExt_cons])))
  · rintro ⟨q, hq, hall⟩
    simp only [go_sem, Nat.reduceLT, decide_eq_true_eq, decide_eq_false_iff_not]
    refine ⟨fun h1 => ?_, fun h1 => ?_⟩
    · have r1 : (0 : Int) ≤ q ∧ (q : Int) < M.length := ⟨by omega, h1⟩
      have hqM : q < M.length := by omega
      have b1 : q * 2 ≤ M.length * 2 - 2 := by omega
      have b2 : q * 2 + 2 ≤ M.length * 2 := by omega
      have b3 : 2 ≤ M.length * 2 := by omega
      have b4 : q * 2 ≤ M.length * 2 - 1 := by omega
      have b5 : q * 2 + 1 ≤ M.length * 2 - 1 := by omega
      have b6 : q * 2 + 1 ≤ M.length * 2 := by omega
      have b7 : 1 ≤ M.length * 2 := by omega
      obtain ⟨⟨c1, c2⟩, c3, c4⟩ := hmem q hqM
      have tf := take_filter (opP O) M q hqM
      have hnx : okP P O k (M.getD q (0, 0)) = true → ∀ j, j < q + 1 → okP P O k (M.getD j (0, 0)) = true := fun ho j hj => by
        rcases (by omega : j < q ∨ j = q) with e | rfl
        · exact hall j e
        · exact ho
      generalize hcc : M.getD q (0, 0) = c at *
      have c5 : c.1 < 8 := by omega
      have c6 : c.2 < 8 := by omega
      have hat := hG.at c3 c6 c1 c5
      have d1 : c.2.toNat * 8 + c.1.toNat ≤ 63 := by omega
      have d2 : c.2.toNat * 8 + c.1.toNat + 1 ≤ 64 := by omega
      refine T_draw hti _ _ (by kernel_rfl) (by kernel_rfl) ?_
      simp only [go_sem, Nat.reduceLT, reduceCtorEq, hg, hgn, r1, b1, b2, b3, b4, b5, b6, b7, spotsC_x, spotsC_y, hcc, c1, c3, c5, c6, hat, hn64, d1, d2]
      cases ho : O c.2 c.1
      rotate_left
      · have e1 : opP O c = false := by unfold opP; rw [ho]; rfl
        have e2 : okP P O k c = true := by unfold okP; rw [ho]; rfl
        rw [e1] at tf
        simp only [Bool.false_eq_true, if_false, List.append_nil] at tf
        simp only [go_sem, reduceCtorEq]
        refine ⟨⟨q + 1, by omega, hnx e2⟩, by show M.length - (q + 1) < M.length - q; omega, ?_⟩
        refine Imp.id (by simp) ?_ ?_
        · simp only [go_sem, Nat.reduceLT, tf, w64 (n := (q : Int) + 1) (by omega), Int.natCast_add, Int.natCast_one]
          omega
        · exact impH.cons0 (by first | (simp only [go_sem]; done) | (simp only [go_sem, Nat.reduceBEq, Nat.reduceLT, Nat.reduceLeDiff, Nat.reduceAdd, Nat.reduceMul, Nat.reduceSub, Nat.reduceMod, Nat.reduceDiv, Nat.reduceEqDiff, Int.reduceToNat, reduceIte, reduceCtorEq, Int.reduceLE, Int.reduceLT, Int.reduceEq, Int.reduceNeg, Int.reduceAdd, Int.reduceSub, Int.reduceMul]; rfl)) (by simp) (SegLe.flat (Nat.le_refl _) id (.inr rfl) fun k hk => ⟨rfl, spotsC_flat _ _⟩) (impH.cons0 (by first | (simp only [go_sem]; done) | (simp only [go_sem, Nat.reduceBEq, Nat.reduceLT, Nat.reduceLeDiff, Nat.reduceAdd, Nat.reduceMul, Nat.reduceSub, Nat.reduceMod, Nat.reduceDiv, Nat.reduceEqDiff, Int.reduceToNat, reduceIte, reduceCtorEq, Int.reduceLE, Int.reduceLT, Int.reduceEq, Int.reduceNeg, Int.reduceAdd, Int.reduceSub, Int.reduceMul]; rfl)) (by simp) (SegLe.flat (Nat.le_refl _) id (.inr rfl) fun z hz => ⟨rfl, cl_flat (l := [_, _, _]) (by simp [SV.flat]) hz⟩) (impH.base0 hok (by simp) (by simp only [go_sem, HExt_cons])))
      · have e1 : opP O c = true := by unfold opP; rw [ho]; rfl
        rw [e1] at tf
        simp only [if_true] at tf
        simp only [go_sem]
        refine T_draw hti _ _ (by kernel_rfl) (by kernel_rfl) ?_
        simp only [go_sem, Nat.reduceLT, reduceCtorEq, hs, hi, r1, b1, b2, b3, b4, b5, b6, b7, spotsC_x, spotsC_y, hcc, c1, c3, c5, c6, hk1]
        by_cases he : P.ink c.2 c.1 = k + 1
        · have e2 : okP P O k c = true := by unfold okP; rw [he]; simp
          have e3 : 0 < ((M.take (q + 1)).filter (opP O)).length := by rw [tf]; simp
          simp only [go_sem, he]
          refine ⟨⟨q + 1, by omega, hnx e2⟩, by show M.length - (q + 1) < M.length - q; omega, ?_⟩
          refine Imp.id (by simp) ?_ ?_
          · simp only [go_sem, Nat.reduceLT, e3, decide_true, w64 (n := (q : Int) + 1) (by omega), Int.natCast_add, Int.natCast_one]
            omega
          · exact impH.cons0 (by first | (simp only [go_sem]; done) | (simp only [go_sem, Nat.reduceBEq, Nat.reduceLT, Nat.reduceLeDiff, Nat.reduceAdd, Nat.reduceMul, Nat.reduceSub, Nat.reduceMod, Nat.reduceDiv, Nat.reduceEqDiff, Int.reduceToNat, reduceIte, reduceCtorEq, Int.reduceLE, Int.reduceLT, Int.reduceEq, Int.reduceNeg, Int.reduceAdd, Int.reduceSub, Int.reduceMul]; rfl)) (by simp) (SegLe.flat (Nat.le_refl _) id (.inr rfl) fun k hk => ⟨rfl, spotsC_flat _ _⟩) (impH.cons0 (by first | (simp only [go_sem]; done) | (simp only [go_sem, Nat.reduceBEq, Nat.reduceLT, Nat.reduceLeDiff, Nat.reduceAdd, Nat.reduceMul, Nat.reduceSub, Nat.reduceMod, Nat.reduceDiv, Nat.reduceEqDiff, Int.reduceToNat, reduceIte, reduceCtorEq, Int.reduceLE, Int.reduceLT, Int.reduceEq, Int.reduceNeg, Int.reduceAdd, Int.reduceSub, Int.reduceMul]; rfl)) (by simp) (SegLe.flat (Nat.le_refl _) id (.inr rfl) fun z hz => ⟨rfl, cl_flat (l := [_, _, _]) (by simp [SV.flat]) hz⟩) (impH.base0 hok (by simp) (by simp only [go_sem, HExt_cons])))
        · have e2 : okP P O k c = false := by unfold okP; rw [ho]; simp [he]
          have e4 : M.all (okP P O k) = false := all_not hqM (by rw [hcc]; exact e2)
          simp only [go_sem, reduceCtorEq, he, e4, Bool.false_and]
    · have hq2 : q = M.length := by omega
      subst hq2
      have e4 : M.all (okP P O k) = true := all_getD hall
      simp only [go_sem, e4, Bool.true_and, List.take_length]
end
end Go.Proofs.YtcjgpkhdlobbbaaGreat.V

/- Drops that can be the last: the program's walk; CanBeLast of both codes. -/
namespace Go.Proofs.YtcjgpkhdlobbbaaGreat.V
/-- The cells that a drop covers and that are not open, if the drop can be the last. -/
def opF (P : Pc) (O : Gr) (x y : Int) : List (Int × Int) := (covL P.wide P.high x y).filter (opP O)
def okAll (P : Pc) (O : Gr) (x y k : Int) : Bool := (covL P.wide P.high x y).all (okP P O k)
theorem opF_len (P : Pc) (O : Gr) (x y : Int) : (opF P O x y).length ≤ 5 := Nat.le_trans (List.length_filter_le _ _) (covL_len5 _ _ _ _)
theorem ren_tup2 (σ : Nat → Nat) (a b : SV) : ren σ (.tup 2 (cl [a, b])) = .tup 2 (cl [ren σ a, ren σ b]) := by
  show SV.tup 2 (fun j => ren σ (cl [a, b] j)) = _
  rw [ren_cl]; rfl
noncomputable def lastR (P : Pc) (d : Dr) : Bool × Int := if codePc P (canD P d) = 0 then (peelsB P (fun _ _ => false) d.1 d.2.1 d.2.2, 0) else (false, codePc P (canD P d))
theorem opF_off (P : Pc) (x y : Int) : opF P (fun _ _ => false) x y = covL P.wide P.high x y := by
  unfold opF opP
  exact List.filter_eq_self.2 fun _ _ => rfl
section
variable (cx : Cx) (h : List (Nat × Seg)) (n : Nat)
theorem can_E (i g : Nat) (P : Pc) (O : Gr) (x y k : Int) (s : Seg) (hs : hget h i = some (pcS P)) (hi : i < n) (hg : hget h g = some s) (hgn : g < n) (hG : PelAt s (.ptr i 0) O) (hR : PcR P) (hP : PcOk P) (hx : 0 ≤ x) (hx1 : x < P.wide) (hy : 0 ≤ y) (hy1 : y < P.high) (hk : 0 ≤ k ∧ k < 3) (K : HK)
    (hK0 : okAll P O x y k = false → K (.tup 2 (cl [.nils, .bool false])) h n)
    (hK1 : okAll P O x y k = true → ∀ cap, K (.tup 2 (cl [.sl n 0 (opF P O x y).length cap, .bool (decide (0 < (opF P O x y).length))])) ((n, ⟨(opF P O x y).length * 2, spotsC (opF P O x y), true, none⟩) :: h) (n + 1)) :
    CallE Tryz.prog cx 29 [.ptr g 0, dropV x y k] h n K := by
  refine CallE.imp1 (K := fun r h' n' => (okAll P O x y k = false ∧ r = .tup 2 (cl [.nils, .bool false]) ∧ n ≤ n' ∧ HExt n h h') ∨ (okAll P O x y k = true ∧ ∃ b cap, n + 1 ≤ b ∧ r = .tup 2 (cl [.sl b 0 (opF P O x y).length cap, .bool (decide (0 < (opF P O x y).length))]) ∧ HExt n h h' ∧ ∃ t, hget h' b = some t ∧ t.n = (opF P O x y).length * 2 ∧ t.rw = true ∧ ∀ k, k < (opF P O x y).length * 2 → t.c k = spotsC (opF P O x y) k)) ?_ ?_
  rotate_left
  · rintro hok r h1 n1 (⟨ha, rfl, hn, hx⟩ | ⟨ha, b, cap, hb, rfl, hx, t, ht, t1, t2, t3⟩)
    · exact ⟨n, .tup 2 (cl [.nils, .bool false]), h, n, Nat.le_refl _, Nat.le_refl _, by rw [ren_tup2]; rfl, by simp only [go_sem], impH.base1 hok (Nat.le_refl _) (Nat.le_refl n) hx, hK0 ha⟩
    · exact ⟨b, .tup 2 (cl [.sl n 0 (opF P O x y).length cap, .bool (decide (0 < (opF P O x y).length))]), (n, ⟨(opF P O x y).length * 2, spotsC (opF P O x y), true, none⟩) :: h, n + 1, by omega, by omega, by rw [ren_tup2, ren_sl, sig_hit]; rfl, by simp only [go_sem]; omega,
        impH.cons1 ht (Nat.lt_succ_self n) (SegLe.flat (by rw [t1]; exact Nat.le_refl _) (fun _ => t2) (.inl rfl) fun k hk => ⟨t3 k hk, spotsC_flat _ _⟩) (impH.base1 hok (by simp) (Nat.le_refl n) hx), hK1 ha cap⟩
  have hM5 := covL_len5 P.wide P.high x y
  have hmem := fun j => covL_mem (W := P.wide) (H := P.high) (x := x) (y := y) (j := j)
  have hs8 := hP.1
  have hn65' := hG.1
  have hn65 : 1 ≤ s.n := by omega
  have hp0 := hG.2.1
  have hk1 := wu8 (n := k + 1) (by omega)
  refine callE_of_T (P := Tryz.prog) hti (nt := 53) (rs := [.tmp 4, .tmp 5]) rfl rfl Tryz.call29 Tryz.func29 rfl _ (by simp only [go_sem, and_self]) (Nat.le_of_ble_eq_true rfl) _ fun hok => ?_
  simp only [go_sem, Nat.reduceLT, Nat.reduceMul]
  refine T_drawG hti 9 [] (.b 0 0 (.b 0 1 (.b 0 2 (.b 0 3 (.b 0 4 (.b 0 5 (.b 0 8 (.b 2 6 (.b 0 7 (.f) .o) .o) .o) .o) .o) .o) .o) .o) .o) _ _ (by kernel_rfl) (by kernel_rfl) ?_
  simp only [go_sem, Nat.reduceLT, Nat.reduceLeDiff, reduceCtorEq, hg, hgn, hp0, hn65]
  refine callA_false (covered_E _ _ _ i P x y (by first | (simp only [go_sem, hs, hi]; done) | (simp only [go_sem, Nat.reduceBEq, Nat.reduceLT, Nat.reduceLeDiff, Nat.reduceAdd, Nat.reduceMul, Nat.reduceSub, Nat.reduceMod, Nat.reduceDiv, Nat.reduceEqDiff, Int.reduceToNat, reduceIte, reduceCtorEq, Int.reduceLE, Int.reduceLT, Int.reduceEq, Int.reduceNeg, Int.reduceAdd, Int.reduceSub, Int.reduceMul, hs, hi]; rfl)) (by omega) hR hP hx hx1 hy hy1 _ fun cap => ?_)
  unfold okAll opF
  generalize hMM : covL P.wide P.high x y = M at *
  simp only [go_sem, Nat.reduceLeDiff]
  refine T_lp (ι := { q : Nat × Nat // q.1 ≤ M.length ∧ (∀ j, j < q.1 → okP P O k (M.getD j (0, 0)) = true) ∧ ((M.take q.1).filter (opP O)).length ≤ q.2 ∧ q.2 ≤ maxLen })
    (fun q => ([(0, .ptr g 0), (3, .ptr n 0), (4, .nils), (5, .bool false), (6, .sl (n + 1) 0 ((M.take q.1.1).filter (opP O)).length q.1.2), (16, .sl (n + 2) 0 M.length cap), (17, .int .i64 M.length), (18, .int .i64 q.1.1)],
      (n + 2, ⟨M.length * 2, spotsC M, true, none⟩) :: (n + 1, ⟨((M.take q.1.1).filter (opP O)).length * 2, spotsC ((M.take q.1.1).filter (opP O)), true, some (46, q.1.2 * 2)⟩) :: (n, ⟨3, cl [.int .i8 x, .int .i8 y, .int .u8 k], true, none⟩) :: h, n + 3)) (fun q => M.length - q.1.1) ⟨(0, 0), by simp⟩ ?_ ?_
  · refine Imp.id (by simp) ?_ ?_
    · simp only [go_sem, Nat.reduceLT]
      (repeat' apply And.intro) <;> first | omega | rfl | trivial | assumption | skip
    · refine impH.cons0 (by first | (simp only [go_sem]; done) | (simp only [go_sem, Nat.reduceBEq, Nat.reduceLT, Nat.reduceLeDiff, Nat.reduceAdd, Nat.reduceMul, Nat.reduceSub, Nat.reduceMod, Nat.reduceDiv, Nat.reduceEqDiff, Int.reduceToNat, reduceIte, reduceCtorEq, Int.reduceLE, Int.reduceLT, Int.reduceEq, Int.reduceNeg, Int.reduceAdd, Int.reduceSub, Int.reduceMul]; rfl)) (by simp) (SegLe.flat (Nat.le_refl _) id (.inr rfl) fun k hk => ⟨rfl, spotsC_flat _ _⟩) (impH.cons0 ((hget_miss _ _ _ _ (by simp)).trans (hget_hit _ _ _)) (by simp) (SegLe.flat (by simp) id (.inr (by simp)) fun k hk => by simp at hk) (impH.cons0 (by first | (simp only [go_sem]; done) | (simp only [go_sem, Nat.reduceBEq, Nat.reduceLT, Nat.reduceLeDiff, Nat.reduceAdd, Nat.reduceMul, Nat.reduceSub, Nat.reduceMod, Nat.reduceDiv, Nat.reduceEqDiff, Int.reduceToNat, reduceIte, reduceCtorEq, Int.reduceLE, Int.reduceLT, Int.reduceEq, Int.reduceNeg, Int.reduceAdd, Int.reduceSub, Int.reduceMul]; rfl)) (by simp) (SegLe.flat (Nat.le_refl _) id (.inr rfl) fun z hz => ⟨rfl, cl_flat (l := [_, _, _]) (by simp [SV.flat]) hz⟩) (impH.base0 hok (by simp) (by simp only [go_sem, HExt_cons]))))
  · rintro ⟨⟨q, cap1⟩, hq, hall, hcap, hm⟩
    simp only at hq hall hcap hm
    have hlen := filter_len (opP O) M q
    simp only [go_sem, Nat.reduceLT, reduceIte, decide_eq_true_eq, decide_eq_false_iff_not]
    refine ⟨fun h1 => ?_, fun h1 => ?_⟩
    · have hqM : q < M.length := by omega
      have r1 : (0 : Int) ≤ q ∧ (q : Int) < M.length := ⟨by omega, by omega⟩
      have b1 : q * 2 ≤ M.length * 2 - 2 := by omega
      have b2 : q * 2 + 2 ≤ M.length * 2 := by omega
      have b3 : 2 ≤ M.length * 2 := by omega
      obtain ⟨⟨c1, c2⟩, c3, c4⟩ := hmem q hqM
      have tf := take_filter (opP O) M q hqM
      have hnx : okP P O k (M.getD q (0, 0)) = true → ∀ j, j < q + 1 → okP P O k (M.getD j (0, 0)) = true := fun ho j hj => by
        rcases (by omega : j < q ∨ j = q) with e | rfl
        · exact hall j e
        · exact ho
      generalize hcc : M.getD q (0, 0) = c at *
      have c5 : c.1 < 8 := by omega
      have c6 : c.2 < 8 := by omega
      have hat := hG.at c3 c6 c1 c5
      have d1 : 1 + c.2.toNat * 8 + c.1.toNat ≤ s.n - 1 := by omega
      have d2 : 1 + c.2.toNat * 8 + c.1.toNat + 1 ≤ s.n := by omega
      simp only [go_sem, r1, b1, b2, b3, spotsC_x, spotsC_y, hcc]
      refine T_draw hti _ _ (by kernel_rfl) (by kernel_rfl) ?_
      simp only [go_sem, Nat.reduceLT, Nat.reduceLeDiff, reduceCtorEq, hg, hgn, c1, c3, c5, c6, hat, hn65, d1, d2]
      cases ho : O c.2 c.1
      rotate_left
      · have e1 : opP O c = false := by unfold opP; rw [ho]; rfl
        have e2 : okP P O k c = true := by unfold okP; rw [ho]; rfl
        rw [e1] at tf
        simp only [Bool.false_eq_true, if_false, List.append_nil] at tf
        simp only [go_sem, reduceCtorEq]
        refine ⟨⟨(q + 1, cap1), by omega, hnx e2, by simp only [tf]; exact hcap, hm⟩, by show M.length - (q + 1) < M.length - q; omega, ?_⟩
        refine Imp.id (by simp) ?_ ?_
        · simp only [go_sem, Nat.reduceLT, tf, w64 (n := (q : Int) + 1) (by omega), Int.natCast_add, Int.natCast_one]
          omega
        · simp only [tf]
          exact impH.cons0 (by first | (simp only [go_sem, Nat.reduceLT]; done) | (simp only [go_sem, Nat.reduceBEq, Nat.reduceLT, Nat.reduceLeDiff, Nat.reduceAdd, Nat.reduceMul, Nat.reduceSub, Nat.reduceMod, Nat.reduceDiv, Nat.reduceEqDiff, Int.reduceToNat, reduceIte, reduceCtorEq, Int.reduceLE, Int.reduceLT, Int.reduceEq, Int.reduceNeg, Int.reduceAdd, Int.reduceSub, Int.reduceMul]; rfl)) (by simp) (SegLe.flat (Nat.le_refl _) id (.inr rfl) fun k hk => ⟨rfl, spotsC_flat _ _⟩) (impH.cons0 (by first | (simp only [go_sem, Nat.reduceLT]; done) | (simp only [go_sem, Nat.reduceBEq, Nat.reduceLT, Nat.reduceLeDiff, Nat.reduceAdd, Nat.reduceMul, Nat.reduceSub, Nat.reduceMod, Nat.reduceDiv, Nat.reduceEqDiff, Int.reduceToNat, reduceIte, reduceCtorEq, Int.reduceLE, Int.reduceLT, Int.reduceEq, Int.reduceNeg, Int.reduceAdd, Int.reduceSub, Int.reduceMul]; rfl)) (by simp) (SegLe.flat (Nat.le_refl _) id (.inr rfl) fun k hk => ⟨rfl, spotsC_flat _ _⟩) (impH.cons0 (by first | (simp only [go_sem]; done) | (simp only [go_sem, Nat.reduceBEq, Nat.reduceLT, Nat.reduceLeDiff, Nat.reduceAdd, Nat.reduceMul, Nat.reduceSub, Nat.reduceMod, Nat.reduceDiv, Nat.reduceEqDiff, Int.reduceToNat, reduceIte, reduceCtorEq, Int.reduceLE, Int.reduceLT, Int.reduceEq, Int.reduceNeg, Int.reduceAdd, Int.reduceSub, Int.reduceMul]; rfl)) (by simp) (SegLe.flat (Nat.le_refl _) id (.inr rfl) fun z hz => ⟨rfl, cl_flat (l := [_, _, _]) (by simp [SV.flat]) hz⟩) (impH.base0 hok (by simp) (by simp only [go_sem, HExt_cons]))))
      · have e1 : opP O c = true := by unfold opP; rw [ho]; rfl
        rw [e1] at tf
        simp only [if_true] at tf
        simp only [go_sem]
        refine T_drawG hti 11 [] (.b 0 0 (.b 0 1 (.b 0 2 (.b 0 3 (.b 0 4 (.b 0 6 (.b 0 7 (.b 0 8 (.b 1 5 (.b 0 9 (.b 0 10 (.f) .o) .o) .o) .o) .o) .o) .o) .o) .o) .o) .o) _ _ (by kernel_rfl) (by kernel_rfl) ?_
        simp only [go_sem, Nat.reduceLT, reduceCtorEq, hg, hgn, hp0, hn65]
        refine CallQ.F _ (fun h' n' hn hx => shown_Q _ h' n' i P c.1 c.2 (hx _ (by omega) _ (by first | (simp only [go_sem, hs, hi]; done) | (simp only [go_sem, Nat.reduceBEq, Nat.reduceLT, Nat.reduceLeDiff, Nat.reduceAdd, Nat.reduceMul, Nat.reduceSub, Nat.reduceMod, Nat.reduceDiv, Nat.reduceEqDiff, Int.reduceToNat, reduceIte, reduceCtorEq, Int.reduceLE, Int.reduceLT, Int.reduceEq, Int.reduceNeg, Int.reduceAdd, Int.reduceSub, Int.reduceMul, hs, hi]; rfl))) (by omega) c1 c5 c3 c6) ?_
        simp only [go_sem, Nat.reduceLT, Nat.reduceLeDiff, Nat.reduceMul, Nat.reduceSub, Nat.reduceMod, reduceIte, hk1]
        by_cases he : P.ink c.2 c.1 = k + 1
        · have e2 : okP P O k c = true := by unfold okP; rw [he]; simp
          have hd2 : hdel h (n + 1) = h := hok.del (by omega)
          simp only [go_sem, reduceCtorEq, he, hd2]
          refine ⟨⟨hcap, hm, by omega⟩, fun cap' h3 h4 => ⟨⟨(q + 1, cap'), by omega, hnx e2, by simp only [tf, List.length_append, List.length_singleton]; exact h3, h4⟩, by show M.length - (q + 1) < M.length - q; omega, ?_⟩⟩
          refine Imp.of1 (n + 1) (n + 5) (by simp) (by omega) (by simp) ?_ ?_
          · simp only [go_sem, Nat.reduceLT, hgn, tf, List.length_append, List.length_singleton, w64 (n := (q : Int) + 1) (by omega), Int.natCast_add, Int.natCast_one]
            (repeat' apply And.intro) <;> first | omega | rfl | trivial | assumption | skip
          · simp only [tf]
            refine impH.cons2 (by first | (simp only [go_sem, Nat.reduceLT]; done) | (simp only [go_sem, Nat.reduceBEq, Nat.reduceLT, Nat.reduceLeDiff, Nat.reduceAdd, Nat.reduceMul, Nat.reduceSub, Nat.reduceMod, Nat.reduceDiv, Nat.reduceEqDiff, Int.reduceToNat, reduceIte, reduceCtorEq, Int.reduceLE, Int.reduceLT, Int.reduceEq, Int.reduceNeg, Int.reduceAdd, Int.reduceSub, Int.reduceMul]; rfl)) (by simp) (by omega) (SegLe.flat (Nat.le_refl _) id (.inr rfl) fun z hz => ⟨rfl, spotsC_flat _ _⟩) (impH.cons1 (hget_hit _ _ _) (by simp) (SegLe.flat (by simp) id (.inr rfl) fun z hz => ⟨?_, spotsC_flat _ _⟩) (impH.cons2 (by first | (simp only [go_sem]; done) | (simp only [go_sem, Nat.reduceBEq, Nat.reduceLT, Nat.reduceLeDiff, Nat.reduceAdd, Nat.reduceMul, Nat.reduceSub, Nat.reduceMod, Nat.reduceDiv, Nat.reduceEqDiff, Int.reduceToNat, reduceIte, reduceCtorEq, Int.reduceLE, Int.reduceLT, Int.reduceEq, Int.reduceNeg, Int.reduceAdd, Int.reduceSub, Int.reduceMul]; rfl)) (by simp) (by omega) (SegLe.flat (Nat.le_refl _) id (.inr rfl) fun z hz => ⟨rfl, cl_flat (l := [_, _, _]) (by simp [SV.flat]) hz⟩) (impH.base1 hok (by simp) (by simp) (by simp only [go_sem, HExt_cons]))))
            have hz : z < ((M.take q).filter (opP O) ++ [c]).length * 2 := hz
            rw [List.length_append, List.length_singleton] at hz
            exact both_snoc _ _ _ rfl rfl hz
        · have e2 : okP P O k c = false := by unfold okP; rw [ho]; simp [he]
          have e4 : M.all (okP P O k) = false := all_not hqM (by rw [hcc]; exact e2)
          simp only [go_sem, he]

          exact .inl e4
    · have hq2 : q = M.length := by omega
      subst hq2
      have e4 : M.all (okP P O k) = true := all_getD hall
      rw [List.take_length] at hcap
      simp only [go_sem, List.take_length]

      simp only [Int.natCast_pos]
      exact .inr ⟨e4, n + 1, cap1, by omega, rfl, _, (by first | (simp only [go_sem, Nat.reduceLT]; done) | (simp only [go_sem, Nat.reduceLT]; rfl)), rfl, rfl, fun _ _ => rfl⟩
end
end Go.Proofs.YtcjgpkhdlobbbaaGreat.V

/- CanBeLast of both codes; its law: the walk. -/
namespace Go.Proofs.YtcjgpkhdlobbbaaGreat.V
def off : Gr := fun _ _ => false
theorem peelsB_eq (P : Pc) (O : Gr) (x y k : Int) : peelsB P O x y k = (okAll P O x y k && decide (0 < (opF P O x y).length)) := rfl
theorem pelAt_new {s : Seg} {v : SV} (hn : s.n = 65) (h0 : s.c 0 = v) (h1 : ∀ j, s.c (1 + j) = .bool false) : PelAt s v off := ⟨by omega, h0, fun j _ => (h1 j).trans rfl⟩
theorem opF_off' (P : Pc) (x y : Int) : opF P off x y = covL P.wide P.high x y := opF_off P x y
@[go_sem] theorem mkAgg_65 (F : Nat → SV) : mkAgg 65 F = .agg 65 F := rfl
section
variable (cx : Cx) (h : List (Nat × Seg)) (n : Nat)
theorem canBeLast_Q (i : Nat) (P : Pc) (x y k : Int) (hs : hget h i = some (pcS P)) (hi : i < n) (hR : PcR P) (hP : PcOk P) (hx : 0 ≤ x) (hx1 : x < P.wide) (hy : 0 ≤ y) (hy1 : y < P.high) (hk : 0 ≤ k ∧ k < 3) :
    CallQ Tryz.prog cx 51 [.ptr i 0, dropV x y k] h n (.bool (peelsB P off x y k)) := by
  rw [peelsB_eq]
  refine callQ_of_T (P := Tryz.prog) hti (nt := 26) (rs := [.tmp 4]) rfl rfl Tryz.call51 Tryz.func51 rfl _ (by simp only [go_sem, and_self]) (Nat.le_of_ble_eq_true rfl) _ (by first | exact trivial | (refine lt_flat rfl ?_; simp [SV.flat]; done) | simp only [go_sem]) fun hok => ?_
  simp only [go_sem, Nat.reduceLT, Nat.reduceLeDiff]
  refine callA_false (can_E _ _ _ i (n + 1) P off x y k _ (by first | (simp only [go_sem, hs, hi]; done) | (simp only [go_sem, Nat.reduceBEq, Nat.reduceLT, Nat.reduceLeDiff, Nat.reduceAdd, Nat.reduceMul, Nat.reduceSub, Nat.reduceMod, Nat.reduceDiv, Nat.reduceEqDiff, Int.reduceToNat, reduceIte, reduceCtorEq, Int.reduceLE, Int.reduceLT, Int.reduceEq, Int.reduceNeg, Int.reduceAdd, Int.reduceSub, Int.reduceMul, hs, hi]; rfl)) (by omega) (by first | (simp only [go_sem]; done) | (simp only [go_sem]; rfl)) (by omega) (pelAt_new rfl rfl fun j => by simp only [go_sem, reduceIte, upd_far (show 1 + j ≠ 0 by omega), show ¬ (1 + j < 1) by omega]) hR hP hx hx1 hy hy1 hk _ (fun ha => ?_) (fun ha cap => ?_))
  · simp only [go_sem, Nat.reduceLT, ha, Bool.false_and]
  · rw [ha]
    by_cases h0 : 0 < (opF P off x y).length
    · simp only [go_sem, Nat.reduceLT, Nat.reduceLeDiff, reduceCtorEq, h0, decide_true, Bool.and_true]
      refine callA_false (covered_E _ _ _ i P x y (by first | (simp only [go_sem, hs, hi]; done) | (simp only [go_sem, Nat.reduceBEq, Nat.reduceLT, Nat.reduceLeDiff, Nat.reduceAdd, Nat.reduceMul, Nat.reduceSub, Nat.reduceMod, Nat.reduceDiv, Nat.reduceEqDiff, Int.reduceToNat, reduceIte, reduceCtorEq, Int.reduceLE, Int.reduceLT, Int.reduceEq, Int.reduceNeg, Int.reduceAdd, Int.reduceSub, Int.reduceMul, hs, hi]; rfl)) (by omega) hR hP hx hx1 hy hy1 _ fun cap => ?_)
      simp only [go_sem, Nat.reduceLT, opF_off', decide_true]
    · simp only [go_sem, Nat.reduceLT, h0, decide_false, Bool.and_false]
theorem lastR_1 {P : Pc} {d : Dr} (h : ¬ pcokB P = true) : lastR P d = (false, 1) := by unfold lastR codePc; simp [h]
theorem lastR_2 {P : Pc} {d : Dr} (h : pcokB P = true) (hc : canD P d = false) : lastR P d = (false, 2) := by unfold lastR codePc; simp [h, hc]
theorem lastR_0 {P : Pc} {d : Dr} (h : pcokB P = true) (hc : canD P d = true) : lastR P d = (peelsB P off d.1 d.2.1 d.2.2, 0) := by unfold lastR codePc; simp [h, hc]; rfl
theorem canBeLast1_Q (P : Pc) (d : Dr) (hR : PcR P) (hx : -128 ≤ d.1 ∧ d.1 < 128) (hy : -128 ≤ d.2.1 ∧ d.2.1 < 128) (hk0 : 0 ≤ d.2.2 ∧ d.2.2 < 256) :
    CallQ Tryz.prog cx 17 [.agg 66 (pcC P), dropV d.1 d.2.1 d.2.2] h n (.tup 2 (cl [.bool (lastR P d).1, .int .i64 (lastR P d).2])) := by
  refine callQ_of_T (P := Tryz.prog) hti (nt := 15) (rs := [.tmp 4, .tmp 5]) rfl rfl Tryz.call17 Tryz.func17 rfl _ (by simp only [go_sem, and_self]) (Nat.le_of_ble_eq_true rfl) _ (by first | exact trivial | (refine lt_flat rfl ?_; simp [SV.flat]; done) | simp only [go_sem]) fun hok => ?_
  simp only [go_sem, Nat.reduceLT]
  refine (isDrop7_Q _ _ _ n P d.1 d.2.1 d.2.2 (by first | (simp only [go_sem]; done) | (simp only [go_sem, Nat.reduceBEq, Nat.reduceLT, Nat.reduceLeDiff, Nat.reduceAdd, Nat.reduceMul, Nat.reduceSub, Nat.reduceMod, Nat.reduceDiv, Nat.reduceEqDiff, Int.reduceToNat, reduceIte, reduceCtorEq, Int.reduceLE, Int.reduceLT, Int.reduceEq, Int.reduceNeg, Int.reduceAdd, Int.reduceSub, Int.reduceMul]; rfl)) (by omega) hR).A ?_
  simp only [go_sem, Nat.reduceLT]
  refine (codePc_Q _ _ _ n P (by first | (simp only [go_sem]; done) | (simp only [go_sem, Nat.reduceBEq, Nat.reduceLT, Nat.reduceLeDiff, Nat.reduceAdd, Nat.reduceMul, Nat.reduceSub, Nat.reduceMod, Nat.reduceDiv, Nat.reduceEqDiff, Int.reduceToNat, reduceIte, reduceCtorEq, Int.reduceLE, Int.reduceLT, Int.reduceEq, Int.reduceNeg, Int.reduceAdd, Int.reduceSub, Int.reduceMul]; rfl)) (by omega) hR (canD P d)).A ?_
  by_cases hk : pcokB P = true
  rotate_left
  · rw [lastR_1 hk, show codePc P (canD P d) = 1 by unfold codePc; simp [hk]]
    simp only [go_sem, Nat.reduceLT, Int.reduceEq]
  have hP : PcOk P := by simpa [pcokB] using hk
  cases hc : canD P d
  · rw [lastR_2 hk hc, show codePc P false = 2 by unfold codePc; simp [hk]]
    simp only [go_sem, Nat.reduceLT, Int.reduceEq]
  · rw [lastR_0 hk hc, show codePc P true = 0 by unfold codePc; simp [hk]]
    obtain ⟨k1, k2, k3⟩ := canD_in hP hc
    simp only [go_sem, Nat.reduceLT]
    refine (canBeLast_Q _ _ _ n P d.1 d.2.1 d.2.2 (by first | (simp only [go_sem]; done) | (simp only [go_sem, Nat.reduceBEq, Nat.reduceLT, Nat.reduceLeDiff, Nat.reduceAdd, Nat.reduceMul, Nat.reduceSub, Nat.reduceMod, Nat.reduceDiv, Nat.reduceEqDiff, Int.reduceToNat, reduceIte, reduceCtorEq, Int.reduceLE, Int.reduceLT, Int.reduceEq, Int.reduceNeg, Int.reduceAdd, Int.reduceSub, Int.reduceMul]; rfl)) (by omega) hR hP k1.1 k1.2 k2.1 k2.2 (by omega)).A ?_
    simp only [go_sem, Nat.reduceLT]
end
end Go.Proofs.YtcjgpkhdlobbbaaGreat.V

/- The law's lists of spots: copied, compared, marked. -/
namespace Go.Proofs.YtcjgpkhdlobbbaaGreat.V

/-- An argument that is a list of spots. -/
def SpsArg (h : List (Nat × Seg)) (n : Nat) (A : SV) (L : List (Int × Int)) : Prop :=
  (A = .nils ∧ L = []) ∨ ∃ i cap s, A = .sl i 0 L.length cap ∧ i < n ∧ hget h i = some s ∧ SpsAt s L
theorem SpsArg.ext {h h' : List (Nat × Seg)} {n n' : Nat} {A : SV} {L : List (Int × Int)} (hA : SpsArg h n A L) (hn : n ≤ n') (hx : HExt n h h') : SpsArg h' n' A L := by
  rcases hA with h1 | ⟨i, cap, s, h1, hi, hs, hL⟩
  · exact .inl h1
  · exact .inr ⟨i, cap, s, h1, by omega, hx i hi s hs, hL⟩
theorem SpsArg.ok {h : List (Nat × Seg)} {n : Nat} {A : SV} {L : List (Int × Int)} (hA : SpsArg h n A L) : A.ok = True := by
  rcases hA with ⟨rfl, rfl⟩ | ⟨i, cap, s, rfl, hi, hs, hL⟩ <;> rfl
theorem SpsArg.lt {h : List (Nat × Seg)} {n : Nat} {A : SV} {L : List (Int × Int)} (hA : SpsArg h n A L) : A.lt n := by
  rcases hA with ⟨rfl, rfl⟩ | ⟨i, cap, s, rfl, hi, hs, hL⟩
  · trivial
  · exact hi
theorem SpsArg.ren {h : List (Nat × Seg)} {n : Nat} {A : SV} {L : List (Int × Int)} (hA : SpsArg h n A L) {σ : Nat → Nat} (hσ : ∀ i, i < n → σ i = i) : V.ren σ A = A := by
  rcases hA with ⟨rfl, rfl⟩ | ⟨i, cap, s, rfl, hi, hs, hL⟩
  · rfl
  · simp only [ren_sl, hσ i hi]
/-- A list of spots, as it was made. -/
def spsS (L : List (Int × Int)) : Seg := ⟨L.length * 2, spotsC L, true, some (46, L.length * 2)⟩
@[go_sem] theorem spsS_eq (L : List (Int × Int)) : spsS L = ⟨L.length * 2, spotsC L, true, some (46, L.length * 2)⟩ := rfl
section
variable (cx : Cx) (h : List (Nat × Seg)) (n : Nat)
end
end Go.Proofs.YtcjgpkhdlobbbaaGreat.V

/- The law's lists of drops: measured, copied, compared. -/
namespace Go.Proofs.YtcjgpkhdlobbbaaGreat.V

/-- An argument that is a list of drops. -/
def DrArg (h : List (Nat × Seg)) (n : Nat) (A : SV) (L : List Dr) : Prop :=
  (A = .nils ∧ L = []) ∨ ∃ i cap s, A = .sl i 0 L.length cap ∧ i < n ∧ hget h i = some s ∧ DrAt s L
theorem DrArg.ext {h h' : List (Nat × Seg)} {n n' : Nat} {A : SV} {L : List Dr} (hA : DrArg h n A L) (hn : n ≤ n') (hx : HExt n h h') : DrArg h' n' A L := by
  rcases hA with h1 | ⟨i, cap, s, h1, hi, hs, hL⟩
  · exact .inl h1
  · exact .inr ⟨i, cap, s, h1, by omega, hx i hi s hs, hL⟩
theorem DrArg.ok {h : List (Nat × Seg)} {n : Nat} {A : SV} {L : List Dr} (hA : DrArg h n A L) : A.ok = True := by
  rcases hA with ⟨rfl, rfl⟩ | ⟨i, cap, s, rfl, hi, hs, hL⟩ <;> rfl
theorem DrArg.lt {h : List (Nat × Seg)} {n : Nat} {A : SV} {L : List Dr} (hA : DrArg h n A L) : A.lt n := by
  rcases hA with ⟨rfl, rfl⟩ | ⟨i, cap, s, rfl, hi, hs, hL⟩
  · trivial
  · exact hi
theorem DrArg.ren {h : List (Nat × Seg)} {n : Nat} {A : SV} {L : List Dr} (hA : DrArg h n A L) {σ : Nat → Nat} (hσ : ∀ i, i < n → σ i = i) : V.ren σ A = A := by
  rcases hA with ⟨rfl, rfl⟩ | ⟨i, cap, s, rfl, hi, hs, hL⟩
  · rfl
  · simp only [ren_sl, hσ i hi]
/-- A list of drops, as it was made. -/
def drS (L : List Dr) : Seg := ⟨L.length * 3, dropsC L, true, some (48, L.length * 3)⟩
@[go_sem] theorem drS_eq (L : List Dr) : drS L = ⟨L.length * 3, dropsC L, true, some (48, L.length * 3)⟩ := rfl
section
variable (cx : Cx) (h : List (Nat × Seg)) (n : Nat)
end
end Go.Proofs.YtcjgpkhdlobbbaaGreat.V

/- Lists of drops: filtered in place; the cells of a picture. -/
namespace Go.Proofs.YtcjgpkhdlobbbaaGreat.V
theorem dropsC_take {a b : List Dr} {k : Nat} (h : k < a.length * 3) : dropsC (a ++ b) k = dropsC a k := by
  unfold dropsC
  have : (a ++ b).getD (k / 3) (0, 0, 0) = a.getD (k / 3) (0, 0, 0) := by
    rw [List.getD_eq_getElem?_getD, List.getD_eq_getElem?_getD, List.getElem?_append_left (by omega)]
  rw [this]
theorem dropsC_take2 (L : List Dr) (j k : Nat) (h : k < j * 3) : dropsC (L.take j) k = dropsC L k := by
  unfold dropsC
  have : (L.take j).getD (k / 3) (0, 0, 0) = L.getD (k / 3) (0, 0, 0) := by
    rw [List.getD_eq_getElem?_getD, List.getD_eq_getElem?_getD, List.getElem?_take_of_lt (by omega)]
  rw [this]
theorem dropsC_last (A : List Dr) (x : Dr) : dropsC (A ++ [x]) (A.length * 3) = .int .i8 x.1 ∧ dropsC (A ++ [x]) (A.length * 3 + 1) = .int .i8 x.2.1 ∧ dropsC (A ++ [x]) (A.length * 3 + 2) = .int .u8 x.2.2 := by
  rw [dropsC_0, dropsC_1, dropsC_2]
  simp [List.getD_eq_getElem?_getD]
theorem takeD_filter (P : Dr → Bool) (L : List Dr) (j : Nat) (hj : j < L.length) : (L.take (j + 1)).filter P = (L.take j).filter P ++ (if P (L.getD j (0, 0, 0)) then [L.getD j (0, 0, 0)] else []) := by
  rw [List.take_succ, List.getElem?_eq_getElem hj, List.filter_append]
  congr 1
  simp [List.getD_eq_getElem?_getD, hj, List.filter_cons]
theorem filterD_len (P : Dr → Bool) (L : List Dr) (j : Nat) : ((L.take j).filter P).length ≤ j := Nat.le_trans (List.length_filter_le _ _) (by simp; omega)
theorem filterD_all {P : Dr → Bool} {L : List Dr} (j : Nat) (hj : j ≤ L.length) (hall : ∀ k, k < j → P (L.getD k (0, 0, 0)) = true) : (L.take j).filter P = L.take j := by
  rw [List.filter_eq_self]
  intro a ha
  obtain ⟨k, hk, rfl⟩ := List.mem_iff_getElem.1 ha
  simp only [List.length_take] at hk
  have := hall k (by omega)
  rw [List.getD_eq_getElem?_getD, List.getElem?_eq_getElem (by omega)] at this
  simpa using this
/-- One drop written behind k others. -/
def putD (k : Nat) (x : Dr) (c : Nat → SV) : Nat → SV := fun z => if k * 3 ≤ z ∧ z < k * 3 + 3 then cl [.int .i8 x.1, .int .i8 x.2.1, .int .u8 x.2.2] (z - k * 3) else c z
theorem putD_in (k : Nat) (x : Dr) (c : Nat → SV) (j : Nat) (h : j < 3) : putD k x c (k * 3 + j) = cl [.int .i8 x.1, .int .i8 x.2.1, .int .u8 x.2.2] j := by unfold putD; rw [if_pos (by omega), Nat.add_sub_cancel_left]
theorem putD_o (k : Nat) (x : Dr) (c : Nat → SV) (z : Nat) (h : z < k * 3 ∨ k * 3 + 3 ≤ z) : putD k x c z = c z := by unfold putD; rw [if_neg (by omega)]
theorem putD_flat (k : Nat) (x : Dr) {c : Nat → SV} {z : Nat} (h : (c z).flat) : (putD k x c z).flat := by
  by_cases h' : k * 3 ≤ z ∧ z < k * 3 + 3
  · obtain ⟨j, rfl⟩ : ∃ j, z = k * 3 + j := ⟨z - k * 3, by omega⟩
    rw [putD_in _ _ _ _ (by omega)]
    exact cl_flat (l := [.int .i8 x.1, .int .i8 x.2.1, .int .u8 x.2.2]) (by simp [SV.flat]) (show j < 3 by omega)
  · rw [putD_o _ _ _ _ (by omega)]; exact h
section
variable (cx : Cx) (h : List (Nat × Seg)) (n : Nat)
set_option maxHeartbeats 800000 in
theorem deleteDr_E (i m cap : Nat) (L : List Dr) (s : Seg) (f a b : Nat) (G F : Nat → SV) (p : Dr → Bool) (r : Int)
    (hs : hget h i = some s) (hi : i < n) (hm : L.length = m) (hm9 : m ≤ 10000000) (hcap : m ≤ cap) (hn : s.n = m * 3) (hrw : s.rw = true) (hc : ∀ k, k < m * 3 → s.c k = dropsC L k) (hF : (SV.fn f a G b F).lt n)
    (hr0 : r = -1 → ∀ j, j < m → p (L.getD j (0, 0, 0)) = false) (hr1 : r ≠ -1 → 0 ≤ r ∧ r < m ∧ p (L.getD r.toNat (0, 0, 0)) = true ∧ ∀ j : Nat, (j : Int) < r → p (L.getD j (0, 0, 0)) = false)
    (hp : ∀ j, j < m → ∀ nt n0 h' n', n ≤ n' → HBut i n h h' → CallQ Tryz.prog ⟨cx.w0, cx.W, nt, n0⟩ f (lst a G ++ [dropV (L.getD j (0, 0, 0)).1 (L.getD j (0, 0, 0)).2.1 (L.getD j (0, 0, 0)).2.2] ++ lst b F) h' n' (.bool (p (L.getD j (0, 0, 0)))))
    (K : HK) (hK : ∀ own, K (.sl i 0 (L.filter fun a => !p a).length cap) (hset h i ⟨(L.filter fun a => !p a).length * 3, dropsC (L.filter fun a => !p a), true, own⟩) n) :
    CallE Tryz.prog cx 49 [.sl i 0 m cap, .fn f a G b F] h n K := by
  generalize hP : (fun a : Dr => !p a) = P at *
  have hPj : ∀ j, P (L.getD j (0, 0, 0)) = !p (L.getD j (0, 0, 0)) := fun j => by rw [← hP]
  obtain ⟨sn, sc, sr, so⟩ := s
  simp only at hn hrw hc
  subst hn hrw
  have hgi : ∀ t, hget (hset h i t) i = some t := fun t => by rw [hget_hset, if_pos rfl, hs]; rfl
  have hbut : ∀ t, HBut i n h (hset h i t) := fun t j hj hji u hu => by rw [hget_hset, if_neg (Ne.symm hji)]; exact hu
  refine CallE.imp0 (K := fun r h' n' => n ≤ n' ∧ r = .sl i 0 (L.filter P).length cap ∧ HBut i n h h' ∧ ∃ t, hget h' i = some t ∧ (L.filter P).length * 3 ≤ t.n ∧ t.rw = true ∧ t.own = so ∧ ∀ k, k < (L.filter P).length * 3 → t.c k = dropsC (L.filter P) k) ?_ ?_
  · refine callE_of_T (P := Tryz.prog) hti (nt := 42) (rs := [.tmp 4]) rfl rfl Tryz.call49 Tryz.func49 rfl _ (by simp only [go_sem, and_self]) (Nat.le_of_ble_eq_true rfl) _ fun hok => ?_
    simp only [go_sem, Nat.reduceLT, Int.reduceNeg]
    refine (show CallQ Tryz.prog ⟨cx.w0, cx.W, 42, n⟩ 26 [.sl i 0 m cap, .fn f a G b F] h n (.int .i64 r) by
      subst hm
      exact indexDr_Q ⟨cx.w0, cx.W, 42, n⟩ h n i cap L _ f a b G F (fun j => p (L.getD j (0, 0, 0))) r hs hi hm9 ⟨Nat.le_refl _, hc⟩ hF hr0 hr1 (fun j hj nt n0 => hp j hj nt n0 h n (Nat.le_refl _) (fun _ _ _ _ h => h))).A ?_
    simp only [go_sem, Nat.reduceLT, Int.reduceNeg, decide_eq_true_eq, decide_eq_false_iff_not]
    refine ⟨fun h1 => ?_, fun h1 => ?_⟩
    · have hall : L.filter P = L := by
        have := filterD_all (P := P) L.length (Nat.le_refl _) fun k hk => by rw [hPj, hr0 h1 k (by omega)]; rfl
        rwa [List.take_length] at this
      rw [hall, hm]
      exact ⟨rfl, fun _ _ _ _ h => h, _, hs, Nat.le_refl _, rfl, rfl, hc⟩
    · obtain ⟨r0, r1, r2, r3⟩ := hr1 h1
      refine T_lp (ι := { q : Nat × (Nat → SV) // q.1 ≤ m ∧ (∀ z, z < ((L.take q.1).filter P).length * 3 → q.2 z = dropsC ((L.take q.1).filter P) z) ∧ (∀ z, q.1 * 3 ≤ z → z < m * 3 → q.2 z = dropsC L z) ∧ ∀ z, z < m * 3 → (q.2 z).flat })
        (fun q => ([(0, .sl i 0 m cap), (1, .fn f a G b F), (5, .int .i64 ((L.take q.1.1).filter P).length), (6, .int .i64 q.1.1)], hset h i ⟨m * 3, q.1.2, true, so⟩, n)) (fun q => m - q.1.1)
        ⟨(r.toNat + 1, sc), by
          have hf : ((L.take (r.toNat + 1)).filter P) = L.take r.toNat := by
            rw [takeD_filter P L r.toNat (by omega), filterD_all r.toNat (by omega) (fun k hk => by rw [hPj, r3 k (by omega)]; rfl), hPj, r2]
            simp
          refine ⟨by omega, fun z hz => ?_, fun z _ hz => hc z hz, fun z hz => by show (sc z).flat; rw [hc z hz]; exact dropsC_flat _ _⟩
          simp only [hf, List.length_take] at hz ⊢
          rw [hc z (by omega), dropsC_take2 L r.toNat z (by omega)]⟩ ?_ ?_
      · have hf : ((L.take (r.toNat + 1)).filter P) = L.take r.toNat := by
          rw [takeD_filter P L r.toNat (by omega), filterD_all r.toNat (by omega) (fun k hk => by rw [hPj, r3 k (by omega)]; rfl), hPj, r2]
          simp
        refine Imp.id (by simp) ?_ ?_
        · simp only [go_sem, Nat.reduceLT, Int.reduceNeg, w64 (n := r + 1) (by omega), hf, List.length_take]
          refine ⟨hi, hF, ?_, ?_⟩
          · congr 1; omega
          · congr 1; omega
        · show impH h (sig []) n (hset h i ⟨m * 3, sc, true, so⟩)
          rw [hset_self hs]
          exact impH.base0 hok (by simp) (by simp only [go_sem])
      · rintro ⟨⟨j, c'⟩, hj, hk, hrest, hflat⟩
        simp only at hj hk hrest hflat
        have hlen := filterD_len P L j
        have hne : (n == i) = false := by simp; omega
        simp only [go_sem, Nat.reduceLT, Nat.reduceMul, Int.reduceToNat, reduceIte, Int.reduceLE, hgi, hne, decide_eq_true_eq, decide_eq_false_iff_not]
        refine ⟨fun h2 => ?_, fun h2 => ?_⟩
        · have r1' : (0 : Int) ≤ j ∧ (j : Int) < m := ⟨by omega, h2⟩
          have b1 : j * 3 ≤ m * 3 - 3 := by omega
          have b3 : 3 ≤ m * 3 := by omega
          have b6 : j * 3 + 3 ≤ m * 3 := by omega
          have q0 := (hrest (j * 3) (Nat.le_refl _) (by omega)).trans (dropsC_0 L j)
          have q1 := (hrest (j * 3 + 1) (by omega) (by omega)).trans (dropsC_1 L j)
          have q2 := (hrest (j * 3 + 2) (by omega) (by omega)).trans (dropsC_2 L j)
          simp only [go_sem, hgi, hne, r1', b1, b3, b6, q0, q1, q2]
          refine (hp j (by omega) _ _ _ _ (by simp) ((hbut _).cons (Nat.le_refl n))).A ?_
          cases h3 : p (L.getD j (0, 0, 0))
          · have hf : (L.take (j + 1)).filter P = (L.take j).filter P ++ [L.getD j (0, 0, 0)] := by
              rw [takeD_filter P L j (by omega), hPj, h3]; rfl
            have r2' : (0 : Int) ≤ (((L.take j).filter P).length : Int) ∧ (((L.take j).filter P).length : Int) < m := ⟨by omega, by omega⟩
            have b2 : ((L.take j).filter P).length * 3 ≤ m * 3 - 3 := by omega
            have b5 : ((L.take j).filter P).length * 3 + 3 ≤ m * 3 := by omega
            simp only [go_sem, Nat.reduceLT, hgi, hne, hset_hset, r2', b2, b3, b5]
            refine ⟨⟨(j + 1, putD ((L.take j).filter P).length (L.getD j (0, 0, 0)) c'), by omega, fun z hz => ?_, fun z hz hz2 => ?_, fun z hz => putD_flat _ _ (hflat z hz)⟩, by show m - (j + 1) < m - j; omega, ?_⟩
            · simp only [hf] at hz ⊢
              rw [List.length_append, List.length_singleton] at hz
              by_cases h : z < ((L.take j).filter P).length * 3
              · rw [putD_o _ _ _ _ (.inl h), hk z h, dropsC_take (b := [L.getD j (0, 0, 0)]) h]
              · obtain ⟨e, rfl⟩ : ∃ e, z = ((L.take j).filter P).length * 3 + e := ⟨z - ((L.take j).filter P).length * 3, by omega⟩
                rw [putD_in _ _ _ _ (by omega)]
                obtain ⟨l0, l1, l2⟩ := dropsC_last ((L.take j).filter P) (L.getD j (0, 0, 0))
                rcases (by omega : e = 0 ∨ e = 1 ∨ e = 2) with rfl | rfl | rfl
                · exact l0.symm
                · exact l1.symm
                · exact l2.symm
            · have hz : (j + 1) * 3 ≤ z := hz
              show putD _ _ _ _ = _
              rw [putD_o _ _ _ _ (.inr (by omega))]
              exact hrest z (by omega) hz2
            · refine Imp.id (by simp) ?_ ?_
              · simp only [go_sem, Nat.reduceLT, w64 (n := (j : Int) + 1) (by omega), w64 (n := (((L.take j).filter P).length : Int) + 1) (by omega), Int.natCast_add, Int.natCast_one, hf, List.length_append, List.length_singleton]
                exact ⟨hi, hF⟩
              · refine impH.set0 hok (Nat.le_refl n) hs ((hbut _).cons (Nat.le_refl n)) ((hget_miss _ _ _ _ hne).trans (hgi _)) (SegLe.flat (Nat.le_refl _) id (.inr rfl) fun z hz => ⟨?_, putD_flat _ _ (hflat z hz)⟩)
                have hz : z < m * 3 := hz
                simp only [putD]
                split
                · rename_i e
                  rw [if_pos (by omega), e.1, Nat.sub_zero]
                · rfl
          · have hf : (L.take (j + 1)).filter P = (L.take j).filter P := by
              rw [takeD_filter P L j (by omega), hPj, h3]; simp
            simp only [go_sem, Nat.reduceLT]
            refine ⟨⟨(j + 1, c'), by omega, by simp only [hf]; exact hk, fun z hz hz2 => hrest z (by have hz : (j + 1) * 3 ≤ z := hz; omega) hz2, hflat⟩, by show m - (j + 1) < m - j; omega, ?_⟩
            refine Imp.id (by simp) ?_ ?_
            · simp only [go_sem, Nat.reduceLT, w64 (n := (j : Int) + 1) (by omega), Int.natCast_add, Int.natCast_one, hf]
              exact ⟨hi, hF⟩
            · refine impH.base0 (h0 := hset h i ⟨m * 3, c', true, so⟩) (hok.hset fun z hz => ?_) (Nat.le_refl n) (by simp only [go_sem, HExt_cons])
              exact (hflat z hz).below n
        · have hjm : j = m := by omega
          subst hjm
          have hft : (L.take j).filter P = L.filter P := by rw [← hm, List.take_length]
          simp only [hft] at *
          have hll : (L.filter P).length ≤ j := by omega
          refine ⟨⟨by omega, by omega, by omega⟩, ?_, ⟨by omega, by omega⟩, ?_, ?_, ?_⟩
          · split <;> omega
          · simp
          · exact hbut _
          · skip
            refine ⟨_, rfl, by show _ ≤ j * 3; omega, rfl, rfl, fun z hz => ?_⟩
            show clrC _ _ _ _ _ = _
            unfold clrC
            rw [if_neg]
            · exact hk z hz
            · split <;> omega
  · rintro hok r h' n' ⟨h0, rfl, hx, t, ht, h1, h2, h3, h4⟩
    exact ⟨.sl i 0 (L.filter P).length cap, _, n, Nat.le_refl _, by simp only [ren_nil], hi, impH.set0 hok (Nat.le_refl n) hs hx ht (SegLe.flat h1 (fun _ => h2) (.inl rfl) fun k hk => ⟨h4 k hk, dropsC_flat _ _⟩), hK none⟩
end
end Go.Proofs.YtcjgpkhdlobbbaaGreat.V

/- The drops of a picture; those that can be the last: both walks. -/
namespace Go.Proofs.YtcjgpkhdlobbbaaGreat.V
/-- Every drop of a picture, in order. -/
def dropsL (W H : Nat) : List Dr := (List.range (H * W * 3)).map fun j => (((j / 3 % W : Nat) : Int), ((j / 3 / W : Nat) : Int), ((j % 3 : Nat) : Int))
theorem dropsL_len (W H : Nat) : (dropsL W H).length = H * W * 3 := by simp [dropsL]
theorem dropsL_get (W H j : Nat) (h : j < H * W * 3) : (dropsL W H).getD j (0, 0, 0) = (((j / 3 % W : Nat) : Int), ((j / 3 / W : Nat) : Int), ((j % 3 : Nat) : Int)) := by simp [dropsL, List.getD_eq_getElem?_getD, h]
theorem dropsL_in {W H j : Nat} (h : j < H * W * 3) (hW8 : W ≤ 8) (hH8 : H ≤ 8) : (0 ≤ ((dropsL W H).getD j (0, 0, 0)).1 ∧ ((dropsL W H).getD j (0, 0, 0)).1 < W) ∧ (0 ≤ ((dropsL W H).getD j (0, 0, 0)).2.1 ∧ ((dropsL W H).getD j (0, 0, 0)).2.1 < H) ∧ 0 ≤ ((dropsL W H).getD j (0, 0, 0)).2.2 ∧ ((dropsL W H).getD j (0, 0, 0)).2.2 < 3 := by
  rw [dropsL_get W H j h]
  have hq : j / 3 < H * W := by omega
  have hW0 : 0 < W := Nat.pos_of_ne_zero fun e => by rw [e, Nat.mul_zero] at hq; omega
  have h1 : j / 3 % W < W := Nat.mod_lt _ hW0
  have h2 : j / 3 / W < H := (Nat.div_lt_iff_lt_mul hW0).2 hq
  have h3 : j % 3 < 3 := Nat.mod_lt _ (by omega)
  generalize j / 3 % W = u at *
  generalize j / 3 / W = v at *
  generalize j % 3 = w at *
  simp only
  omega
theorem both_drop (A : List Dr) (a : Dr) (c : Nat → SV) (h0 : c 0 = .int .i8 a.1) (h1 : c 1 = .int .i8 a.2.1) (h2 : c 2 = .int .u8 a.2.2) {z : Nat} (hz : z < (A.length + 1) * 3) : both (A.length * 3) (dropsC A) (news c 0) z = dropsC (A ++ [a]) z := by
  unfold both news
  obtain ⟨l0, l1, l2⟩ := dropsC_last A a
  split
  · rename_i h5; rw [dropsC_take (b := [a]) h5]
  · rename_i h5
    obtain ⟨e, rfl⟩ : ∃ e, z = A.length * 3 + e := ⟨z - A.length * 3, by omega⟩
    rw [Nat.add_sub_cancel_left, Nat.zero_add]
    rcases (by omega : e = 0 ∨ e = 1 ∨ e = 2) with rfl | rfl | rfl
    · exact h0.trans l0.symm
    · exact h1.trans l1.symm
    · exact h2.trans l2.symm
section
variable (cx : Cx) (h : List (Nat × Seg)) (n : Nat)
theorem spots7_E (i : Nat) (P : Pc) (W H : Nat) (hs : hget h i = some (pcS P)) (hi : i < n) (hW : P.wide = W) (hH : P.high = H) (hW8 : W ≤ 8) (hH8 : H ≤ 8) (K : HK)
    (hK : ∀ cap, H * W ≤ cap → cap ≤ maxLen → K (.sl n 0 (H * W) cap) ((n, ⟨H * W * 2, cellC W, true, some (46, cap * 2)⟩) :: h) (n + 1)) :
    CallE Tryz.prog cx 67 [.ptr i 0] h n K := by
  have hne : (n == i) = false := by simp; omega
  refine callE_of_T (P := Tryz.prog) hti (nt := 30) (rs := [.tmp 2]) rfl rfl Tryz.call67 Tryz.func67 rfl _ (by simp only [go_sem, and_self]) (Nat.le_of_ble_eq_true rfl) _ fun hok => ?_
  simp only [go_sem, Nat.reduceLT, Nat.reduceMul, hne, hs, hi]
  refine T_lp (ι := { p : Nat × Nat // p.1 ≤ H ∧ p.1 * W ≤ p.2 ∧ p.2 ≤ maxLen })
    (fun p => ([(0, .ptr i 0), (3, .sl n 0 (p.1.1 * W) p.1.2), (4, .int .i8 p.1.1)], (n, ⟨p.1.1 * W * 2, cellC W, true, some (46, p.1.2 * 2)⟩) :: h, n + 1)) (fun p => H - p.1.1) ⟨(0, 0), by simp⟩ ?_ ?_
  · refine Imp.id (by simp) ?_ ?_
    · simp only [go_sem, Nat.reduceLT, hH]
      exact ⟨by omega, by simp, by omega⟩
    · refine impH.cons (Nat.lt_succ_self n) (hget_hit _ _ _) (SegLe.flat (by simp) id (.inr (by simp)) fun k hk => by simp at hk) (impH.base hok (by simp) (fun _ _ => rfl) ?_)
      simp only [go_sem, HExt_cons]
  · rintro ⟨⟨y, cap⟩, hy, hcap, hm⟩
    simp only at hy hcap hm
    simp only [go_sem, Nat.reduceLT, Nat.reduceLeDiff, reduceCtorEq, hne, hs, hH, hi, decide_eq_true_eq, decide_eq_false_iff_not]
    refine ⟨fun h1 => ?_, fun h1 => ?_⟩
    · refine T_lp (ι := { p : Nat × Nat // p.1 ≤ W ∧ y * W + p.1 ≤ p.2 ∧ p.2 ≤ maxLen })
        (fun p => ([(0, .ptr i 0), (3, .sl n 0 (y * W + p.1.1) p.1.2), (4, .int .i8 y), (5, .int .i8 p.1.1)], (n, ⟨(y * W + p.1.1) * 2, cellC W, true, some (46, p.1.2 * 2)⟩) :: h, n + 1)) (fun p => W - p.1.1) ⟨(0, cap), by simp; omega⟩ ?_ ?_
      · refine Imp.id (by simp) ?_ ?_
        · simp only [go_sem, Nat.reduceLT]
          omega
        · refine impH.cons (Nat.lt_succ_self n) (hget_hit _ _ _) (SegLe.flat (by simp) id (.inr rfl) fun k hk => ⟨rfl, cellC_flat W k⟩) (impH.base hok (by simp) (fun _ _ => rfl) ?_)
          simp only [go_sem, HExt_cons]
      · rintro ⟨⟨x, cap⟩, hx, hcap, hm⟩
        simp only at hx hcap hm
        simp only [go_sem, Nat.reduceLT, Nat.reduceLeDiff, Nat.reduceMul, Nat.reduceSub, Nat.reduceMod, reduceIte, reduceCtorEq, hne, hs, hi, hW, ↓hok.del (Nat.le_refl n), decide_eq_true_eq, decide_eq_false_iff_not]
        have hyW : y * W ≤ 7 * 8 := Nat.mul_le_mul (by omega) hW8
        refine ⟨fun h2 => ⟨⟨by omega, by omega, by omega⟩, fun cap' h3 h4 => ⟨⟨(x + 1, cap'), by omega, h3, h4⟩, (by show W - (x + 1) < W - x; omega), ?_⟩⟩, fun h2 => ?_⟩
        · refine Imp.of1 n (n + 2) (by simp) (by omega) (by simp) ?_ ?_
          · simp only [go_sem, Nat.reduceLT, hne, w8 (n := (x : Int) + 1) (by omega), Int.natCast_add, Int.natCast_one, Nat.add_assoc]
            omega
          · refine impH.cons1 (hget_hit _ _ _) (Nat.lt_succ_self n) (SegLe.flat (Nat.le_refl _) id (.inr rfl) fun k hk => ⟨?_, cellC_flat W k⟩) (impH.base1 hok (by simp) (Nat.le_refl n) ?_)
            · have hk : k < (y * W + (x + 1)) * 2 := hk
              show both ((y * W + x) * 2) (cellC W) _ k = _
              unfold both news
              split
              · rfl
              · rename_i hk2
                have h5 : (y * W + x) % W = x := by rw [Nat.mul_comm, Nat.mul_add_mod, Nat.mod_eq_of_lt (by omega)]
                have h6 : (y * W + x) / W = y := by rw [Nat.mul_comm, Nat.mul_add_div (by omega), Nat.div_eq_of_lt (by omega), Nat.add_zero]
                rcases (by omega : k = (y * W + x) * 2 ∨ k = (y * W + x) * 2 + 1) with rfl | rfl
                · simp [cellC, h5, cl]
                · have : ((y * W + x) * 2 + 1) / 2 = y * W + x := by omega
                  simp [cellC, this, h6, cl]
            · simp only [go_sem, HExt_cons]
        · refine ⟨⟨(y + 1, cap), by omega, by rw [Nat.succ_mul]; omega, hm⟩, (by show H - (y + 1) < H - y; omega), ?_⟩
          have hx2 : x = W := by omega
          subst hx2
          refine Imp.id (by simp) ?_ ?_
          · simp only [go_sem, Nat.reduceLT, hne, w8 (n := (y : Int) + 1) (by omega), Int.natCast_add, Int.natCast_one, Nat.succ_mul]
            omega
          · exact impH.cons0 (hget_hit _ _ _) (Nat.lt_succ_self n) (SegLe.flat (by show (y + 1) * x * 2 ≤ _; rw [Nat.succ_mul]; exact Nat.le_refl _) id (.inr rfl) fun k hk => ⟨rfl, cellC_flat x k⟩) (impH.base0 hok (by simp) (by simp only [go_sem, HExt_cons]))
    · have hy2 : y = H := by omega
      subst hy2
      exact hK cap hcap hm
end
end Go.Proofs.YtcjgpkhdlobbbaaGreat.V

/- The drops that can be the last, listed: both walks. -/
namespace Go.Proofs.YtcjgpkhdlobbbaaGreat.V
theorem CallE.dropsE {P : Program} {cx : Cx} {h : List (Nat × Seg)} {n f : Nat} {args : List SV} {K : HK} (M : List Dr) (hK : ∀ cap, K (.sl n 0 M.length cap) ((n, ⟨M.length * 3, dropsC M, true, none⟩) :: h) (n + 1))
    (hc : CallE P cx f args h n fun r h1 n1 => ∃ b cap, n ≤ b ∧ r = .sl b 0 M.length cap ∧ HExt n h h1 ∧ ∃ t, hget h1 b = some t ∧ t.n = M.length * 3 ∧ t.rw = true ∧ ∀ k, k < M.length * 3 → t.c k = dropsC M k) : CallE P cx f args h n K :=
  hc.imp fun hok r h1 n1 ⟨b, cap, hb, hr, hx, t, ht, t1, t2, t3⟩ => by
    subst hr
    have le : ∀ σ, SegLe σ (n + 1) t ⟨M.length * 3, dropsC M, true, none⟩ := fun σ => SegLe.flat (by rw [t1]; exact Nat.le_refl _) (fun _ => t2) (.inl rfl) fun k hk => ⟨t3 k hk, dropsC_flat _ _⟩
    rcases Nat.eq_or_lt_of_le hb with rfl | hb'
    · exact ⟨[], .sl n 0 M.length cap, (n, ⟨M.length * 3, dropsC M, true, none⟩) :: h, n + 1, fun _ _ => rfl, by omega, by simp only [ren_nil], Nat.lt_succ_self n,
        impH.cons0 ht (Nat.lt_succ_self n) (le _) (impH.base0 hok (by simp) hx), fun i j _ _ _ _ hij => hij, hK cap⟩
    · have a4 : impH h1 (sig [(n, b)]) (n + 1) ((n, ⟨M.length * 3, dropsC M, true, none⟩) :: h) := impH.cons1 ht (Nat.lt_succ_self n) (le _) (impH.base1 hok (by simp) (Nat.le_refl n) hx)
      refine ⟨[(n, b)], .sl n 0 M.length cap, (n, ⟨M.length * 3, dropsC M, true, none⟩) :: h, n + 1, fun i hi => sig_miss _ _ _ _ (by simp; omega), by omega, by simp only [ren_sl, sig_hit], Nat.lt_succ_self n, a4, fun i j s t hi hj hij => ?_, hK cap⟩
      have h1 := (a4 i s hi).1
      have h2 := (a4 j t hj).1
      simp only [sig]
      split <;> split <;> omega
def lastP (P : Pc) (O : Gr) (d : Dr) : Bool := peelsB P O d.1 d.2.1 d.2.2
theorem cellC_0 (W q : Nat) : cellC W (q * 2) = .int .i8 ((q % W : Nat) : Int) := by unfold cellC; rw [if_pos (by omega), show q * 2 / 2 = q by omega]
theorem cellC_1 (W q : Nat) : cellC W (q * 2 + 1) = .int .i8 ((q / W : Nat) : Int) := by unfold cellC; rw [if_neg (by omega), show (q * 2 + 1) / 2 = q by omega]
theorem dropsL_at {W H q k : Nat} (hq : q < H * W) (hk : k < 3) : (dropsL W H).getD (q * 3 + k) (0, 0, 0) = (((q % W : Nat) : Int), ((q / W : Nat) : Int), (k : Int)) := by
  rw [dropsL_get W H _ (by omega), show (q * 3 + k) / 3 = q by omega, show (q * 3 + k) % 3 = k by omega]
section
variable (cx : Cx) (h : List (Nat × Seg)) (n : Nat)
set_option maxHeartbeats 800000 in
theorem next7_E (i g : Nat) (P : Pc) (O : Gr) (s : Seg) (W H : Nat) (hs : hget h i = some (pcS P)) (hi : i < n) (hg : hget h g = some s) (hgn : g < n) (hG : GrAt s O) (hR : PcR P) (hP : PcOk P) (hW : P.wide = W) (hH : P.high = H) (K : HK)
    (hK : ∀ cap, K (.sl n 0 ((dropsL W H).filter (lastP P O)).length cap) ((n, ⟨((dropsL W H).filter (lastP P O)).length * 3, dropsC ((dropsL W H).filter (lastP P O)), true, none⟩) :: h) (n + 1)) :
    CallE Tryz.prog cx 34 [.ptr i 0, .ptr g 0] h n K := by
  refine CallE.dropsE ((dropsL W H).filter (lastP P O)) hK ?_
  have hs8 := hP.1
  have hW8 : W ≤ 8 := by omega
  have hH8 : H ≤ 8 := by omega
  have hm : H * W ≤ 8 * 8 := Nat.mul_le_mul hH8 hW8
  have hDl := dropsL_len W H
  refine callE_of_T (P := Tryz.prog) hti (nt := 38) (rs := [.tmp 4]) rfl rfl Tryz.call34 Tryz.func34 rfl _ (by simp only [go_sem, and_self]) (Nat.le_of_ble_eq_true rfl) _ fun hok => ?_
  simp only [go_sem, Nat.reduceLT, Nat.reduceMul]
  refine callA_false (spots7_E _ _ _ i P W H (by first | (simp only [go_sem, hs, hi]; done) | (simp only [go_sem, Nat.reduceBEq, Nat.reduceLT, Nat.reduceLeDiff, Nat.reduceAdd, Nat.reduceMul, Nat.reduceSub, Nat.reduceMod, Nat.reduceDiv, Nat.reduceEqDiff, Int.reduceToNat, reduceIte, reduceCtorEq, Int.reduceLE, Int.reduceLT, Int.reduceEq, Int.reduceNeg, Int.reduceAdd, Int.reduceSub, Int.reduceMul, hs, hi]; rfl)) (by omega) hW hH hW8 hH8 _ fun capM hc1 hc2 => ?_)
  generalize hMM : H * W = m at *
  simp only [go_sem, Nat.reduceLT]
  refine T_lp (ι := { q : Nat × Nat // q.1 ≤ m ∧ (((dropsL W H).take (q.1 * 3)).filter (lastP P O)).length ≤ q.2 ∧ q.2 ≤ maxLen })
    (fun q => ([(0, .ptr i 0), (1, .ptr g 0), (5, .sl n 0 (((dropsL W H).take (q.1.1 * 3)).filter (lastP P O)).length q.1.2), (6, .sl (n + 1) 0 m capM), (7, .int .i64 q.1.1)],
      (n + 1, ⟨m * 2, cellC W, true, none⟩) :: (n, ⟨(((dropsL W H).take (q.1.1 * 3)).filter (lastP P O)).length * 3, dropsC (((dropsL W H).take (q.1.1 * 3)).filter (lastP P O)), true, some (48, q.1.2 * 3)⟩) :: h, n + 2)) (fun q => m - q.1.1) ⟨(0, 0), by simp⟩ ?_ ?_
  · refine Imp.id (by simp) ?_ ?_
    · simp only [go_sem, Nat.reduceLT, Nat.reduceMul]
      (repeat' apply And.intro) <;> first | omega | rfl | trivial | assumption | skip
    · exact impH.cons0 (hget_hit _ _ _) (by simp) (SegLe.flat (Nat.le_refl _) id (.inl rfl) fun k hk => ⟨rfl, cellC_flat _ _⟩) (impH.cons0 ((hget_miss _ _ _ _ (by simp)).trans (hget_hit _ _ _)) (by simp) (SegLe.flat (by simp) id (.inr (by simp)) fun k hk => by simp at hk) (impH.base0 hok (by simp) (by simp only [go_sem, HExt_cons])))
  · rintro ⟨⟨q, cap1⟩, hq, hcap, hmx⟩
    simp only at hq hcap hmx
    simp only [go_sem, Nat.reduceLT, decide_eq_true_eq, decide_eq_false_iff_not]
    refine ⟨fun h1 => ?_, fun h1 => ?_⟩
    rotate_left
    · have hq2 : q = m := by omega
      subst hq2
      have e : ((dropsL W H).take (q * 3)) = dropsL W H := by rw [← hDl, List.take_length]
      rw [e] at hcap ⊢
      exact ⟨n, cap1, Nat.le_refl _, rfl, _, (by first | (simp only [go_sem]; done) | (simp only [go_sem]; rfl)), rfl, rfl, fun _ _ => rfl⟩
    have hqm : q < m := by omega
    refine T_lp (ι := { q' : Nat × Nat // q'.1 ≤ 3 ∧ (((dropsL W H).take (q * 3 + q'.1)).filter (lastP P O)).length ≤ q'.2 ∧ q'.2 ≤ maxLen })
      (fun q' => ([(0, .ptr i 0), (1, .ptr g 0), (5, .sl n 0 (((dropsL W H).take (q * 3 + q'.1.1)).filter (lastP P O)).length q'.1.2), (6, .sl (n + 1) 0 m capM), (7, .int .i64 q), (8, .int .u8 q'.1.1)],
        (n + 1, ⟨m * 2, cellC W, true, none⟩) :: (n, ⟨(((dropsL W H).take (q * 3 + q'.1.1)).filter (lastP P O)).length * 3, dropsC (((dropsL W H).take (q * 3 + q'.1.1)).filter (lastP P O)), true, some (48, q'.1.2 * 3)⟩) :: h, n + 2)) (fun q' => 3 - q'.1.1) ⟨(0, cap1), by simp; exact ⟨hcap, hmx⟩⟩ ?_ ?_
    · refine Imp.id (by simp) ?_ ?_
      · simp only [go_sem, Nat.reduceLT]
        (repeat' apply And.intro) <;> first | omega | rfl | trivial | assumption | skip
      · exact impH.cons0 (by first | (simp only [go_sem]; done) | (simp only [go_sem, Nat.reduceBEq, Nat.reduceLT, Nat.reduceLeDiff, Nat.reduceAdd, Nat.reduceMul, Nat.reduceSub, Nat.reduceMod, Nat.reduceDiv, Nat.reduceEqDiff, Int.reduceToNat, reduceIte, reduceCtorEq, Int.reduceLE, Int.reduceLT, Int.reduceEq, Int.reduceNeg, Int.reduceAdd, Int.reduceSub, Int.reduceMul]; rfl)) (by simp) (SegLe.flat (Nat.le_refl _) id (.inr rfl) fun k hk => ⟨rfl, cellC_flat _ _⟩) (impH.cons0 (by first | (simp only [go_sem]; done) | (simp only [go_sem, Nat.reduceBEq, Nat.reduceLT, Nat.reduceLeDiff, Nat.reduceAdd, Nat.reduceMul, Nat.reduceSub, Nat.reduceMod, Nat.reduceDiv, Nat.reduceEqDiff, Int.reduceToNat, reduceIte, reduceCtorEq, Int.reduceLE, Int.reduceLT, Int.reduceEq, Int.reduceNeg, Int.reduceAdd, Int.reduceSub, Int.reduceMul]; rfl)) (by simp) (SegLe.flat (Nat.le_refl _) id (.inr rfl) fun k hk => ⟨rfl, dropsC_flat _ _⟩) (impH.base0 hok (by simp) (by simp only [go_sem, HExt_cons])))
    · rintro ⟨⟨k, cap2⟩, hk, hcap2, hmx2⟩
      simp only at hk hcap2 hmx2
      have hlen := filterD_len (lastP P O) (dropsL W H) (q * 3 + k)
      simp only [go_sem, Nat.reduceLT, Nat.reduceLeDiff, Nat.reduceSub, reduceIte, decide_eq_true_eq, decide_eq_false_iff_not]
      refine ⟨fun h2 => ?_, fun h2 => ?_⟩
      · have hk3 : k < 3 := by omega
        have hj : q * 3 + k < (dropsL W H).length := by omega
        have tf := takeD_filter (lastP P O) (dropsL W H) (q * 3 + k) hj
        have hin := dropsL_in (W := W) (H := H) (j := q * 3 + k) (by omega) hW8 hH8
        have hat := dropsL_at (W := W) (H := H) (q := q) (k := k) (by omega) hk3
        rw [hat] at tf hin
        simp only at hin
        have r1 : (0 : Int) ≤ q ∧ (q : Int) < m := ⟨by omega, h1⟩
        have b1 : q * 2 ≤ m * 2 - 2 := by omega
        have b2 : q * 2 + 2 ≤ m * 2 := by omega
        have b3 : 2 ≤ m * 2 := by omega
        simp only [go_sem, r1, b1, b2, b3, cellC_0, cellC_1]
        refine (peels2_Q _ _ _ i g P O _ _ _ s (by first | (simp only [go_sem, hs, hi]; done) | (simp only [go_sem, Nat.reduceBEq, Nat.reduceLT, Nat.reduceLeDiff, Nat.reduceAdd, Nat.reduceMul, Nat.reduceSub, Nat.reduceMod, Nat.reduceDiv, Nat.reduceEqDiff, Int.reduceToNat, reduceIte, reduceCtorEq, Int.reduceLE, Int.reduceLT, Int.reduceEq, Int.reduceNeg, Int.reduceAdd, Int.reduceSub, Int.reduceMul, hs, hi]; rfl)) (by omega) (by first | (simp only [go_sem, hg, hgn]; done) | (simp only [go_sem, Nat.reduceBEq, Nat.reduceLT, Nat.reduceLeDiff, Nat.reduceAdd, Nat.reduceMul, Nat.reduceSub, Nat.reduceMod, Nat.reduceDiv, Nat.reduceEqDiff, Int.reduceToNat, reduceIte, reduceCtorEq, Int.reduceLE, Int.reduceLT, Int.reduceEq, Int.reduceNeg, Int.reduceAdd, Int.reduceSub, Int.reduceMul, hg, hgn]; rfl)) (by omega) hG hR hP (by omega) (by omega) (by omega)).A ?_
        cases hb : peelsB P O ((q % W : Nat) : Int) ((q / W : Nat) : Int) (k : Int)
        · have e : lastP P O (((q % W : Nat) : Int), ((q / W : Nat) : Int), (k : Int)) = false := hb
          rw [e] at tf
          simp only [Bool.false_eq_true, if_false, List.append_nil] at tf
          simp only [go_sem, Nat.reduceLT]
          refine ⟨⟨(k + 1, cap2), by omega, by show ((List.take (q * 3 + (k + 1)) _).filter _).length ≤ _; rw [← Nat.add_assoc, tf]; exact hcap2, hmx2⟩, by show 3 - (k + 1) < 3 - k; omega, ?_⟩
          refine Imp.id (by simp) ?_ ?_
          · simp only [go_sem, Nat.reduceLT, ← Nat.add_assoc, tf, wu8 (n := (k : Int) + 1) (by omega), Int.natCast_add, Int.natCast_one]
            (repeat' apply And.intro) <;> first | omega | rfl | trivial | assumption | skip
          · simp only [← Nat.add_assoc, tf]
            exact impH.cons0 (by first | (simp only [go_sem, Nat.reduceLT]; done) | (simp only [go_sem, Nat.reduceBEq, Nat.reduceLT, Nat.reduceLeDiff, Nat.reduceAdd, Nat.reduceMul, Nat.reduceSub, Nat.reduceMod, Nat.reduceDiv, Nat.reduceEqDiff, Int.reduceToNat, reduceIte, reduceCtorEq, Int.reduceLE, Int.reduceLT, Int.reduceEq, Int.reduceNeg, Int.reduceAdd, Int.reduceSub, Int.reduceMul]; rfl)) (by simp) (SegLe.flat (Nat.le_refl _) id (.inr rfl) fun k hk => ⟨rfl, cellC_flat _ _⟩) (impH.cons0 (by first | (simp only [go_sem]; done) | (simp only [go_sem, Nat.reduceBEq, Nat.reduceLT, Nat.reduceLeDiff, Nat.reduceAdd, Nat.reduceMul, Nat.reduceSub, Nat.reduceMod, Nat.reduceDiv, Nat.reduceEqDiff, Int.reduceToNat, reduceIte, reduceCtorEq, Int.reduceLE, Int.reduceLT, Int.reduceEq, Int.reduceNeg, Int.reduceAdd, Int.reduceSub, Int.reduceMul]; rfl)) (by simp) (SegLe.flat (Nat.le_refl _) id (.inr rfl) fun k hk => ⟨rfl, dropsC_flat _ _⟩) (impH.base0 hok (by simp) (by simp only [go_sem, HExt_cons])))
        · have e : lastP P O (((q % W : Nat) : Int), ((q / W : Nat) : Int), (k : Int)) = true := hb
          rw [e] at tf
          simp only [if_true] at tf
          have hd2 : hdel h n = h := hok.del (by omega)
          simp only [go_sem, Nat.reduceLT, Nat.reduceLeDiff, Nat.reduceMul, Nat.reduceSub, Nat.reduceMod, reduceIte, hd2]
          refine ⟨⟨hcap2, hmx2, by omega⟩, fun cap' h3 h4 => ⟨⟨(k + 1, cap'), by omega, by show ((List.take (q * 3 + (k + 1)) _).filter _).length ≤ _; rw [← Nat.add_assoc, tf, List.length_append, List.length_singleton]; exact h3, h4⟩, by show 3 - (k + 1) < 3 - k; omega, ?_⟩⟩
          refine Imp.of1 n (n + 4) (by simp) (by omega) (by simp) ?_ ?_
          · simp only [go_sem, Nat.reduceLT, ← Nat.add_assoc, hi, hgn, tf, List.length_append, List.length_singleton, wu8 (n := (k : Int) + 1) (by omega), Int.natCast_add, Int.natCast_one]
            (repeat' apply And.intro) <;> first | omega | rfl | trivial | assumption | skip
          · simp only [← Nat.add_assoc, tf]
            refine impH.cons2 (by first | (simp only [go_sem, Nat.reduceLT]; done) | (simp only [go_sem, Nat.reduceBEq, Nat.reduceLT, Nat.reduceLeDiff, Nat.reduceAdd, Nat.reduceMul, Nat.reduceSub, Nat.reduceMod, Nat.reduceDiv, Nat.reduceEqDiff, Int.reduceToNat, reduceIte, reduceCtorEq, Int.reduceLE, Int.reduceLT, Int.reduceEq, Int.reduceNeg, Int.reduceAdd, Int.reduceSub, Int.reduceMul]; rfl)) (by simp) (by omega) (SegLe.flat (Nat.le_refl _) id (.inr rfl) fun z hz => ⟨rfl, cellC_flat _ _⟩) (impH.cons1 (hget_hit _ _ _) (by simp) (SegLe.flat (by simp) id (.inr rfl) fun z hz => ⟨?_, dropsC_flat _ _⟩) (impH.base1 hok (by simp) (Nat.le_refl n) (by simp only [go_sem, HExt_cons])))
            have hz : z < (((dropsL W H).take (q * 3 + k)).filter (lastP P O) ++ [(((q % W : Nat) : Int), ((q / W : Nat) : Int), (k : Int))]).length * 3 := hz
            rw [List.length_append, List.length_singleton] at hz
            exact both_drop _ _ _ rfl rfl rfl hz
      · have hk3 : k = 3 := by omega
        subst hk3
        refine ⟨⟨(q + 1, cap2), by omega, by show ((List.take ((q + 1) * 3) _).filter _).length ≤ _; rw [Nat.succ_mul]; exact hcap2, hmx2⟩, by show m - (q + 1) < m - q; omega, ?_⟩
        refine Imp.id (by simp) ?_ ?_
        · simp only [go_sem, Nat.reduceLT, Nat.succ_mul, w64 (n := (q : Int) + 1) (by omega), Int.natCast_add, Int.natCast_one]
          (repeat' apply And.intro) <;> first | omega | rfl | trivial | assumption | skip
        · simp only [Nat.succ_mul]
          exact impH.cons0 (by first | (simp only [go_sem]; done) | (simp only [go_sem, Nat.reduceBEq, Nat.reduceLT, Nat.reduceLeDiff, Nat.reduceAdd, Nat.reduceMul, Nat.reduceSub, Nat.reduceMod, Nat.reduceDiv, Nat.reduceEqDiff, Int.reduceToNat, reduceIte, reduceCtorEq, Int.reduceLE, Int.reduceLT, Int.reduceEq, Int.reduceNeg, Int.reduceAdd, Int.reduceSub, Int.reduceMul]; rfl)) (by simp) (SegLe.flat (Nat.le_refl _) id (.inr rfl) fun k hk => ⟨rfl, cellC_flat _ _⟩) (impH.cons0 (by first | (simp only [go_sem]; done) | (simp only [go_sem, Nat.reduceBEq, Nat.reduceLT, Nat.reduceLeDiff, Nat.reduceAdd, Nat.reduceMul, Nat.reduceSub, Nat.reduceMod, Nat.reduceDiv, Nat.reduceEqDiff, Int.reduceToNat, reduceIte, reduceCtorEq, Int.reduceLE, Int.reduceLT, Int.reduceEq, Int.reduceNeg, Int.reduceAdd, Int.reduceSub, Int.reduceMul]; rfl)) (by simp) (SegLe.flat (Nat.le_refl _) id (.inr rfl) fun k hk => ⟨rfl, dropsC_flat _ _⟩) (impH.base0 hok (by simp) (by simp only [go_sem, HExt_cons])))
end
end Go.Proofs.YtcjgpkhdlobbbaaGreat.V

/- LastDrops of both codes. -/
namespace Go.Proofs.YtcjgpkhdlobbbaaGreat.V
/-- A list of drops that a call has made. -/
def DrOut (h : List (Nat × Seg)) (lo n : Nat) (V : SV) (L : List Dr) : Prop :=
  (V = .nils ∧ L = []) ∨ ∃ i cap s, V = .sl i 0 L.length cap ∧ lo ≤ i ∧ i < n ∧ hget h i = some s ∧ s.rw = true ∧ s.n = L.length * 3 ∧ ∀ k, k < L.length * 3 → s.c k = dropsC L k
/-- A list of drops that is not nil. -/
def DrSl (h : List (Nat × Seg)) (lo n : Nat) (V : SV) (L : List Dr) : Prop :=
  ∃ i cap s, V = .sl i 0 L.length cap ∧ lo ≤ i ∧ i < n ∧ hget h i = some s ∧ s.rw = true ∧ s.n = L.length * 3 ∧ ∀ k, k < L.length * 3 → s.c k = dropsC L k
theorem DrSl.out {h : List (Nat × Seg)} {lo n : Nat} {V : SV} {L : List Dr} (hA : DrSl h lo n V L) : DrOut h lo n V L := .inr hA
theorem DrOut.ok {h : List (Nat × Seg)} {lo n : Nat} {V : SV} {L : List Dr} (hA : DrOut h lo n V L) : V.ok = True := by
  rcases hA with ⟨rfl, rfl⟩ | ⟨i, cap, s, rfl, _⟩ <;> rfl
theorem DrOut.mono {h h' : List (Nat × Seg)} {lo n n' : Nat} {V : SV} {L : List Dr} (hA : DrOut h lo n V L) (hn : n ≤ n') (hx : ∀ i, lo ≤ i → i < n → ∀ t, hget h i = some t → hget h' i = some t) : DrOut h' lo n' V L := by
  rcases hA with h1 | ⟨i, cap, s, rfl, h1, h2, h3, h4⟩
  · exact .inl h1
  · exact .inr ⟨i, cap, s, rfl, h1, by omega, hx i h1 h2 s h3, h4⟩
theorem DrOut.ext {h h' : List (Nat × Seg)} {lo n n' : Nat} {V : SV} {L : List Dr} (hA : DrOut h lo n V L) (hn : n ≤ n') (hx : HExt n h h') : DrOut h' lo n' V L := hA.mono hn fun i _ hi => hx i hi
def lastL (P : Pc) : List Dr := (dropsL P.wide.toNat P.high.toNat).filter (lastP P off)
noncomputable def lastDR (P : Pc) : List Dr × Int := haveI := Classical.propDecidable; if pcokB P then (lastL P, 0) else ([], 1)
theorem lastDR_0 {P : Pc} (h : pcokB P = true) : lastDR P = (lastL P, 0) := by unfold lastDR; rw [if_pos h]
theorem lastDR_1 {P : Pc} (h : ¬ pcokB P = true) : lastDR P = ([], 1) := by unfold lastDR; rw [if_neg h]
theorem dropsL_le {P : Pc} (hP : PcOk P) : (dropsL P.wide.toNat P.high.toNat).length ≤ 192 := by
  rw [dropsL_len]
  have := hP.1
  have : P.high.toNat * P.wide.toNat ≤ 8 * 8 := Nat.mul_le_mul (by omega) (by omega)
  omega
section
variable (cx : Cx) (h : List (Nat × Seg)) (n : Nat)
set_option maxHeartbeats 800000 in
theorem drops7_E (i : Nat) (P : Pc) (W H : Nat) (hs : hget h i = some (pcS P)) (hi : i < n) (hR : PcR P) (hP : PcOk P) (hW : P.wide = W) (hH : P.high = H) (K : HK)
    (hK : ∀ cap, (dropsL W H).length ≤ cap → K (.sl n 0 (dropsL W H).length cap) ((n, ⟨(dropsL W H).length * 3, dropsC (dropsL W H), true, none⟩) :: h) (n + 1)) :
    CallE Tryz.prog cx 27 [.ptr i 0] h n K := by
  refine CallE.hokE ?_
  have hs8 := hP.1
  have hW8 : W ≤ 8 := by omega
  have hH8 : H ≤ 8 := by omega
  have hm : H * W ≤ 8 * 8 := Nat.mul_le_mul hH8 hW8
  have hDl := dropsL_len W H
  refine CallE.imp (K := fun r h1 n1 => ∃ b cap, n ≤ b ∧ (dropsL W H).length ≤ cap ∧ r = .sl b 0 (dropsL W H).length cap ∧ HExt n h h1 ∧ ∃ t, hget h1 b = some t ∧ t.n = (dropsL W H).length * 3 ∧ t.rw = true ∧ ∀ k, k < (dropsL W H).length * 3 → t.c k = dropsC (dropsL W H) k) ?_ ?_
  rotate_left
  · rintro hok r h1 n1 ⟨b, cap, hb, hcap, rfl, hx, t, ht, t1, t2, t3⟩
    have le : ∀ σ, SegLe σ (n + 1) t ⟨(dropsL W H).length * 3, dropsC (dropsL W H), true, none⟩ := fun σ => SegLe.flat (by rw [t1]; exact Nat.le_refl _) (fun _ => t2) (.inl rfl) fun k hk => ⟨t3 k hk, dropsC_flat _ _⟩
    rcases Nat.eq_or_lt_of_le hb with rfl | hb'
    · exact ⟨[], .sl n 0 (dropsL W H).length cap, (n, ⟨(dropsL W H).length * 3, dropsC (dropsL W H), true, none⟩) :: h, n + 1, fun _ _ => rfl, by omega, by simp only [ren_nil], Nat.lt_succ_self n,
        impH.cons0 ht (Nat.lt_succ_self n) (le _) (impH.base0 hok (by simp) hx), fun i j _ _ _ _ hij => hij, fun _ => hK cap hcap⟩
    · have a4 : impH h1 (sig [(n, b)]) (n + 1) ((n, ⟨(dropsL W H).length * 3, dropsC (dropsL W H), true, none⟩) :: h) := impH.cons1 ht (Nat.lt_succ_self n) (le _) (impH.base1 hok (by simp) (Nat.le_refl n) hx)
      refine ⟨[(n, b)], .sl n 0 (dropsL W H).length cap, (n, ⟨(dropsL W H).length * 3, dropsC (dropsL W H), true, none⟩) :: h, n + 1, fun i hi => sig_miss _ _ _ _ (by simp; omega), by omega, by simp only [ren_sl, sig_hit], Nat.lt_succ_self n, a4, fun i j s t hi hj hij => ?_, fun _ => hK cap hcap⟩
      have h1 := (a4 i s hi).1
      have h2 := (a4 j t hj).1
      simp only [sig]
      split <;> split <;> omega
  refine callE_of_T (P := Tryz.prog) hti (nt := 28) (rs := [.tmp 2]) rfl rfl Tryz.call27 Tryz.func27 rfl _ (by simp only [go_sem, and_self]) (Nat.le_of_ble_eq_true rfl) _ fun hok => ?_
  simp only [go_sem, Nat.reduceLT, Nat.reduceMul]
  refine callA_false (sheet_E _ _ _ i P (by first | (simp only [go_sem, hs, hi]; done) | (simp only [go_sem, Nat.reduceBEq, Nat.reduceLT, Nat.reduceLeDiff, Nat.reduceAdd, Nat.reduceMul, Nat.reduceSub, Nat.reduceMod, Nat.reduceDiv, Nat.reduceEqDiff, Int.reduceToNat, reduceIte, reduceCtorEq, Int.reduceLE, Int.reduceLT, Int.reduceEq, Int.reduceNeg, Int.reduceAdd, Int.reduceSub, Int.reduceMul, hs, hi]; rfl)) (by omega) _ ?_)
  simp only [go_sem, Nat.reduceLT]
  refine callA_false (cells_E _ _ _ (n + 1) 0 (shS (psh P)) (psh P) W H (by first | (simp only [go_sem]; done) | (simp only [go_sem, Nat.reduceBEq, Nat.reduceLT, Nat.reduceLeDiff, Nat.reduceAdd, Nat.reduceMul, Nat.reduceSub, Nat.reduceMod, Nat.reduceDiv, Nat.reduceEqDiff, Int.reduceToNat, reduceIte, reduceCtorEq, Int.reduceLE, Int.reduceLT, Int.reduceEq, Int.reduceNeg, Int.reduceAdd, Int.reduceSub, Int.reduceMul]; rfl)) (by omega) (shAt_shC (psh_R hR)) hW hH hW8 hH8 _ fun capM hc1 hc2 => ?_)
  generalize hMM : H * W = m at *
  simp only [go_sem, Nat.reduceLT]
  refine T_lp (ι := { q : Nat × Nat // q.1 ≤ m ∧ q.1 * 3 ≤ q.2 ∧ q.2 ≤ maxLen })
    (fun q => ([(3, .sl n 0 (q.1.1 * 3) q.1.2), (10, .sl (n + 2) 0 m capM), (11, .int .i64 m), (12, .int .i64 q.1.1)],
      (n + 2, ⟨m * 2, cellC W, true, none⟩) :: (n, ⟨q.1.1 * 3 * 3, dropsC (dropsL W H), true, some (48, q.1.2 * 3)⟩) :: h, n + 3)) (fun q => m - q.1.1) ⟨(0, 0), by simp⟩ ?_ ?_
  · refine Imp.id (by simp) ?_ ?_
    · simp only [go_sem, Nat.reduceLT, Nat.reduceMul]
      (repeat' apply And.intro) <;> first | omega | rfl | trivial | assumption | skip
    · exact impH.cons0 (hget_hit _ _ _) (by simp) (SegLe.flat (Nat.le_refl _) id (.inl rfl) fun k hk => ⟨rfl, cellC_flat _ _⟩) (impH.cons0 (s := ⟨0, zrow (ti 48), true, some (48, 0)⟩) (by first | (simp only [go_sem]; done) | (simp only [go_sem, Nat.reduceBEq, Nat.reduceLT, Nat.reduceLeDiff, Nat.reduceAdd, Nat.reduceMul, Nat.reduceSub, Nat.reduceMod, Nat.reduceDiv, Nat.reduceEqDiff, Int.reduceToNat, reduceIte, reduceCtorEq, Int.reduceLE, Int.reduceLT, Int.reduceEq, Int.reduceNeg, Int.reduceAdd, Int.reduceSub, Int.reduceMul]; rfl)) (by simp) (SegLe.flat (by simp) id (.inr (by simp)) fun k hk => by simp at hk) (impH.base0 hok (by simp) (by simp only [go_sem, HExt_cons])))
  · rintro ⟨⟨q, cap1⟩, hq, hcap, hmx⟩
    simp only at hq hcap hmx
    simp only [go_sem, Nat.reduceLT, reduceIte, decide_eq_true_eq, decide_eq_false_iff_not]
    refine ⟨fun h1 => ?_, fun h1 => ?_⟩
    rotate_left
    · have hq2 : q = m := by omega
      subst hq2
      rw [hDl]
      exact ⟨n, cap1, Nat.le_refl _, hcap, rfl, _, (by first | (simp only [go_sem]; done) | (simp only [go_sem]; rfl)), rfl, rfl, fun _ _ => rfl⟩
    have hqm : q < m := by omega
    have r1 : (0 : Int) ≤ q ∧ (q : Int) < m := ⟨by omega, by omega⟩
    have b1 : q * 2 ≤ m * 2 - 2 := by omega
    have b2 : q * 2 + 2 ≤ m * 2 := by omega
    have b3 : 2 ≤ m * 2 := by omega
    simp only [go_sem, r1, b1, b2, b3, cellC_0, cellC_1]
    refine T_lp (ι := { q' : Nat × Nat // q'.1 ≤ 3 ∧ q * 3 + q'.1 ≤ q'.2 ∧ q'.2 ≤ maxLen })
      (fun q' => ([(3, .sl n 0 (q * 3 + q'.1.1) q'.1.2), (5, .ptr (n + 3) 0), (10, .sl (n + 2) 0 m capM), (11, .int .i64 m), (12, .int .i64 q), (16, .int .u8 q'.1.1)],
        (n + 3, ⟨2, cl [.int .i8 ((q % W : Nat) : Int), .int .i8 ((q / W : Nat) : Int)], true, none⟩) :: (n + 2, ⟨m * 2, cellC W, true, none⟩) :: (n, ⟨(q * 3 + q'.1.1) * 3, dropsC (dropsL W H), true, some (48, q'.1.2 * 3)⟩) :: h, n + 4)) (fun q' => 3 - q'.1.1) ⟨(0, cap1), by simp; exact ⟨hcap, hmx⟩⟩ ?_ ?_
    · refine Imp.id (by simp) ?_ ?_
      · simp only [go_sem, Nat.reduceLT]
        (repeat' apply And.intro) <;> first | omega | rfl | trivial | assumption | skip
      · exact impH.cons0 (by first | (simp only [go_sem]; done) | (simp only [go_sem, Nat.reduceBEq, Nat.reduceLT, Nat.reduceLeDiff, Nat.reduceAdd, Nat.reduceMul, Nat.reduceSub, Nat.reduceMod, Nat.reduceDiv, Nat.reduceEqDiff, Int.reduceToNat, reduceIte, reduceCtorEq, Int.reduceLE, Int.reduceLT, Int.reduceEq, Int.reduceNeg, Int.reduceAdd, Int.reduceSub, Int.reduceMul]; rfl)) (by simp) (SegLe.flat (Nat.le_refl _) id (.inr rfl) fun z hz => ⟨rfl, pair_flat _ _ hz⟩) (impH.cons0 (by first | (simp only [go_sem, Nat.reduceLT]; done) | (simp only [go_sem, Nat.reduceBEq, Nat.reduceLT, Nat.reduceLeDiff, Nat.reduceAdd, Nat.reduceMul, Nat.reduceSub, Nat.reduceMod, Nat.reduceDiv, Nat.reduceEqDiff, Int.reduceToNat, reduceIte, reduceCtorEq, Int.reduceLE, Int.reduceLT, Int.reduceEq, Int.reduceNeg, Int.reduceAdd, Int.reduceSub, Int.reduceMul]; rfl)) (by simp) (SegLe.flat (Nat.le_refl _) id (.inr rfl) fun k hk => ⟨rfl, cellC_flat _ _⟩) (impH.cons0 (by first | (simp only [go_sem]; done) | (simp only [go_sem, Nat.reduceBEq, Nat.reduceLT, Nat.reduceLeDiff, Nat.reduceAdd, Nat.reduceMul, Nat.reduceSub, Nat.reduceMod, Nat.reduceDiv, Nat.reduceEqDiff, Int.reduceToNat, reduceIte, reduceCtorEq, Int.reduceLE, Int.reduceLT, Int.reduceEq, Int.reduceNeg, Int.reduceAdd, Int.reduceSub, Int.reduceMul]; rfl)) (by simp) (SegLe.flat (Nat.le_refl _) id (.inr rfl) fun k hk => ⟨rfl, dropsC_flat _ _⟩) (impH.base0 hok (by simp) (by simp only [go_sem, HExt_cons]))))
    · rintro ⟨⟨k, cap2⟩, hk, hcap2, hmx2⟩
      simp only at hk hcap2 hmx2
      simp only [go_sem, Nat.reduceLT, Nat.reduceLeDiff, Nat.reduceMul, Nat.reduceSub, Nat.reduceMod, reduceIte, decide_eq_true_eq, decide_eq_false_iff_not]
      refine ⟨fun h2 => ?_, fun h2 => ?_⟩
      · have hk3 : k < 3 := by omega
        have hat := dropsL_at (W := W) (H := H) (q := q) (k := k) (by omega) hk3
        have hd2 : hdel h n = h := hok.del (by omega)
        simp only [go_sem, hd2]
        refine ⟨⟨hcap2, hmx2, by omega⟩, fun cap' h3 h4 => ⟨⟨(k + 1, cap'), by omega, h3, h4⟩, by show 3 - (k + 1) < 3 - k; omega, ?_⟩⟩
        refine Imp.of1 n (n + 5) (by simp) (by omega) (by simp) ?_ ?_
        · simp only [go_sem, Nat.reduceLT, ← Nat.add_assoc, wu8 (n := (k : Int) + 1) (by omega), Int.natCast_add, Int.natCast_one]
          (repeat' apply And.intro) <;> first | omega | rfl | trivial | assumption | skip
        · refine impH.cons2 (by first | (simp only [go_sem, Nat.reduceLT]; done) | (simp only [go_sem, Nat.reduceBEq, Nat.reduceLT, Nat.reduceLeDiff, Nat.reduceAdd, Nat.reduceMul, Nat.reduceSub, Nat.reduceMod, Nat.reduceDiv, Nat.reduceEqDiff, Int.reduceToNat, reduceIte, reduceCtorEq, Int.reduceLE, Int.reduceLT, Int.reduceEq, Int.reduceNeg, Int.reduceAdd, Int.reduceSub, Int.reduceMul]; rfl)) (by simp) (by omega) (SegLe.flat (Nat.le_refl _) id (.inr rfl) fun z hz => ⟨rfl, pair_flat _ _ hz⟩) (impH.cons2 (by first | (simp only [go_sem, Nat.reduceLT]; done) | (simp only [go_sem, Nat.reduceBEq, Nat.reduceLT, Nat.reduceLeDiff, Nat.reduceAdd, Nat.reduceMul, Nat.reduceSub, Nat.reduceMod, Nat.reduceDiv, Nat.reduceEqDiff, Int.reduceToNat, reduceIte, reduceCtorEq, Int.reduceLE, Int.reduceLT, Int.reduceEq, Int.reduceNeg, Int.reduceAdd, Int.reduceSub, Int.reduceMul]; rfl)) (by simp) (by omega) (SegLe.flat (Nat.le_refl _) id (.inr rfl) fun z hz => ⟨rfl, cellC_flat _ _⟩) (impH.cons1 (hget_hit _ _ _) (by simp) (SegLe.flat (Nat.le_refl _) id (.inr rfl) fun z hz => ⟨?_, dropsC_flat _ _⟩) (impH.base1 hok (by simp) (Nat.le_refl n) (by simp only [go_sem, HExt_cons]))))
          have hz : z < (q * 3 + (k + 1)) * 3 := hz
          show both ((q * 3 + k) * 3) (dropsC (dropsL W H)) (news _ 0) z = dropsC (dropsL W H) z
          unfold both news
          split
          · rfl
          · rename_i h5
            obtain ⟨e, rfl⟩ : ∃ e, z = (q * 3 + k) * 3 + e := ⟨z - (q * 3 + k) * 3, by omega⟩
            rw [Nat.add_sub_cancel_left, Nat.zero_add]
            rcases (by omega : e = 0 ∨ e = 1 ∨ e = 2) with rfl | rfl | rfl
            · rw [Nat.add_zero, dropsC_0, hat]; rfl
            · rw [dropsC_1, hat]; rfl
            · rw [dropsC_2, hat]; rfl
      · have hk3 : k = 3 := by omega
        subst hk3
        refine ⟨⟨(q + 1, cap2), by omega, by show (q + 1) * 3 ≤ _; omega, hmx2⟩, by show m - (q + 1) < m - q; omega, ?_⟩
        refine Imp.id (by simp) ?_ ?_
        · simp only [go_sem, Nat.reduceLT, Nat.succ_mul, w64 (n := (q : Int) + 1) (by omega), Int.natCast_add, Int.natCast_one]
          (repeat' apply And.intro) <;> first | omega | rfl | trivial | assumption | skip
        · simp only [Nat.succ_mul]
          exact impH.cons0 (by first | (simp only [go_sem, Nat.reduceLT]; done) | (simp only [go_sem, Nat.reduceBEq, Nat.reduceLT, Nat.reduceLeDiff, Nat.reduceAdd, Nat.reduceMul, Nat.reduceSub, Nat.reduceMod, Nat.reduceDiv, Nat.reduceEqDiff, Int.reduceToNat, reduceIte, reduceCtorEq, Int.reduceLE, Int.reduceLT, Int.reduceEq, Int.reduceNeg, Int.reduceAdd, Int.reduceSub, Int.reduceMul]; rfl)) (by simp) (SegLe.flat (Nat.le_refl _) id (.inr rfl) fun k hk => ⟨rfl, cellC_flat _ _⟩) (impH.cons0 (by first | (simp only [go_sem]; done) | (simp only [go_sem, Nat.reduceBEq, Nat.reduceLT, Nat.reduceLeDiff, Nat.reduceAdd, Nat.reduceMul, Nat.reduceSub, Nat.reduceMod, Nat.reduceDiv, Nat.reduceEqDiff, Int.reduceToNat, reduceIte, reduceCtorEq, Int.reduceLE, Int.reduceLT, Int.reduceEq, Int.reduceNeg, Int.reduceAdd, Int.reduceSub, Int.reduceMul]; rfl)) (by simp) (SegLe.flat (Nat.le_refl _) id (.inr rfl) fun k hk => ⟨rfl, dropsC_flat _ _⟩) (impH.base0 hok (by simp) (by simp only [go_sem, HExt_cons])))
theorem lastDrops1_Q (iv : Nat) (P : Pc) (x y k : Int) (hv : hget h iv = some (pcS P)) (hvi : iv < n) (hR : PcR P) (hP : PcOk P) (hx : 0 ≤ x) (hx1 : x < P.wide) (hy : 0 ≤ y) (hy1 : y < P.high) (hk : 0 ≤ k ∧ k < 3) :
    CallQ Tryz.prog cx 50 [dropV x y k, .ptr iv 0] h n (.bool (!lastP P off (x, y, k))) := by
  refine callQ_of_T (P := Tryz.prog) hti (nt := 7) (rs := [.tmp 3]) rfl rfl Tryz.call50 Tryz.func50 rfl _ (by simp only [go_sem, and_self]) (Nat.le_of_ble_eq_true rfl) _ (by first | exact trivial | (refine lt_flat rfl ?_; simp [SV.flat]; done) | simp only [go_sem]) fun hok => ?_
  simp only [go_sem, Nat.reduceLT]
  refine (canBeLast_Q _ _ _ iv P x y k (by first | (simp only [go_sem, hv, hvi]; done) | (simp only [go_sem, Nat.reduceBEq, Nat.reduceLT, Nat.reduceLeDiff, Nat.reduceAdd, Nat.reduceMul, Nat.reduceSub, Nat.reduceMod, Nat.reduceDiv, Nat.reduceEqDiff, Int.reduceToNat, reduceIte, reduceCtorEq, Int.reduceLE, Int.reduceLT, Int.reduceEq, Int.reduceNeg, Int.reduceAdd, Int.reduceSub, Int.reduceMul, hv, hvi]; rfl)) (by omega) hR hP hx hx1 hy hy1 hk).A ?_
  simp only [go_sem, Nat.reduceLT]
  rfl
theorem lastDrops2_S (P : Pc) (hR : PcR P) (K : HK)
    (hK : ∀ V h' n', n ≤ n' → HExt n h h' → HOk n' h' → DrSl h' n n' V (lastDR P).1 → K (.tup 2 (cl [V, .int .i64 (lastDR P).2])) h' n') :
    CallE Tryz.prog cx 16 [.agg 66 (pcC P)] h n K := by
  refine CallE.hokE ?_
  refine callE_of_T (P := Tryz.prog) hti (nt := 10) (rs := [.tmp 2, .tmp 3]) rfl rfl Tryz.call16 Tryz.func16 rfl _ (by simp only [go_sem, and_self]) (Nat.le_of_ble_eq_true rfl) _ fun hok => ?_
  simp only [go_sem, Nat.reduceLT]
  refine (ok7_Q _ _ _ n P (by first | (simp only [go_sem]; done) | (simp only [go_sem, Nat.reduceBEq, Nat.reduceLT, Nat.reduceLeDiff, Nat.reduceAdd, Nat.reduceMul, Nat.reduceSub, Nat.reduceMod, Nat.reduceDiv, Nat.reduceEqDiff, Int.reduceToNat, reduceIte, reduceCtorEq, Int.reduceLE, Int.reduceLT, Int.reduceEq, Int.reduceNeg, Int.reduceAdd, Int.reduceSub, Int.reduceMul]; rfl)) (by omega) hR).A ?_
  by_cases hk : pcokB P = true
  rotate_left
  · rw [lastDR_1 hk] at hK
    simp only [go_sem, Nat.reduceLT, Nat.reduceMul, hk]
    exact fun hok' => hK _ _ _ (by omega) (by simp only [go_sem, HExt_cons]) hok' (⟨n + 1, 0, _, rfl, by omega, by omega, (by first | (simp only [go_sem]; done) | (simp only [go_sem]; rfl)), rfl, rfl, fun k hk => by simp at hk⟩)
  have hP : PcOk P := by simpa [pcokB] using hk
  have hs8 := hP.1
  rw [lastDR_0 hk] at hK
  simp only [go_sem, Nat.reduceLT, hk]
  refine callA_false (next7_E _ _ _ n (n + 1) P off _ P.wide.toNat P.high.toNat (by first | (simp only [go_sem]; done) | (simp only [go_sem, Nat.reduceBEq, Nat.reduceLT, Nat.reduceLeDiff, Nat.reduceAdd, Nat.reduceMul, Nat.reduceSub, Nat.reduceMod, Nat.reduceDiv, Nat.reduceEqDiff, Int.reduceToNat, reduceIte, reduceCtorEq, Int.reduceLE, Int.reduceLT, Int.reduceEq, Int.reduceNeg, Int.reduceAdd, Int.reduceSub, Int.reduceMul]; rfl)) (by omega) (by first | (simp only [go_sem]; done) | (simp only [go_sem]; rfl)) (by omega) ⟨rfl, fun j hj => rfl⟩ hR hP (by omega) (by omega) _ fun cap => ?_)
  simp only [go_sem, Nat.reduceLT]
  exact fun hok' => hK _ _ _ (by omega) (by simp only [go_sem, HExt_cons]) hok' (⟨n + 2, cap, _, rfl, by omega, by omega, (by first | (simp only [go_sem]; done) | (simp only [go_sem]; rfl)), rfl, rfl, fun _ _ => rfl⟩)
theorem lastDrops_E (P : Pc) (hR : PcR P) (K : HK)
    (hK : ∀ V h' n', n ≤ n' → HExt n h h' → HOk n' h' → DrOut h' n n' V (lastDR P).1 → K (.tup 2 (cl [V, .int .i64 (lastDR P).2])) h' n') :
    CallE Tryz.prog cx 15 [.agg 66 (pcC P)] h n K := by
  refine CallE.hokE ?_
  refine callE_of_T (P := Tryz.prog) hti (nt := 12) (rs := [.tmp 2, .tmp 3]) rfl rfl Tryz.call15 Tryz.func15 rfl _ (by simp only [go_sem, and_self]) (Nat.le_of_ble_eq_true rfl) _ fun hok => ?_
  simp only [go_sem, Nat.reduceLT]
  refine (codePc_Q _ _ _ n P (by first | (simp only [go_sem]; done) | (simp only [go_sem, Nat.reduceBEq, Nat.reduceLT, Nat.reduceLeDiff, Nat.reduceAdd, Nat.reduceMul, Nat.reduceSub, Nat.reduceMod, Nat.reduceDiv, Nat.reduceEqDiff, Int.reduceToNat, reduceIte, reduceCtorEq, Int.reduceLE, Int.reduceLT, Int.reduceEq, Int.reduceNeg, Int.reduceAdd, Int.reduceSub, Int.reduceMul]; rfl)) (by omega) hR true).A ?_
  by_cases hk : pcokB P = true
  rotate_left
  · rw [lastDR_1 hk] at hK
    have e : codePc P true = 1 := by unfold codePc; simp [hk]
    simp only [go_sem, Nat.reduceLT, Int.reduceEq, e]
    exact fun hok' => hK _ _ _ (by omega) (by simp only [go_sem, HExt_cons]) hok' (.inl ⟨rfl, rfl⟩)
  have e : codePc P true = 0 := by unfold codePc; simp [hk]
  have hP : PcOk P := by simpa [pcokB] using hk
  have hs8 := hP.1
  rw [lastDR_0 hk] at hK
  simp only [go_sem, Nat.reduceLT, e]
  have hle := dropsL_le hP
  have hDl := dropsL_len P.wide.toNat P.high.toNat
  have hfl : (dropsL P.wide.toNat P.high.toNat).filter (fun a => !!lastP P off a) = lastL P := by simp only [Bool.not_not]; rfl
  refine callA_false (drops7_E _ _ _ n P P.wide.toNat P.high.toNat (by first | (simp only [go_sem]; done) | (simp only [go_sem, Nat.reduceBEq, Nat.reduceLT, Nat.reduceLeDiff, Nat.reduceAdd, Nat.reduceMul, Nat.reduceSub, Nat.reduceMod, Nat.reduceDiv, Nat.reduceEqDiff, Int.reduceToNat, reduceIte, reduceCtorEq, Int.reduceLE, Int.reduceLT, Int.reduceEq, Int.reduceNeg, Int.reduceAdd, Int.reduceSub, Int.reduceMul]; rfl)) (by omega) hR hP (by omega) (by omega) _ fun cap hcap => ?_)
  obtain ⟨r, hr0, hr1⟩ := fst_ex (fun q => !lastP P off ((dropsL P.wide.toNat P.high.toNat).getD q (0, 0, 0))) (dropsL P.wide.toNat P.high.toNat).length
  have hin := fun j => dropsL_in (W := P.wide.toNat) (H := P.high.toNat) (j := j)
  simp only [go_sem, Nat.reduceLT]
  generalize hLL : dropsL P.wide.toNat P.high.toNat = L at *
  refine callA_false (deleteDr_E _ _ _ (n + 1) L.length cap L _ _ 0 1 (cl []) (cl [.ptr n 0]) (fun d => !lastP P off d) r (by first | (simp only [go_sem]; done) | (simp only [go_sem]; rfl)) (by omega) rfl (by omega) hcap rfl rfl (fun k hk => rfl)
    (fn_lt (xs := []) (ys := [.ptr n 0]) (fun v hv => by cases hv) (fun v hv => by simp at hv; subst hv; show n < _; omega)) hr0 hr1
    (fun j hj nt n0 h' n' hn hb => by
      obtain ⟨a1, a2, a3⟩ := hin j (by omega) (by omega) (by omega)
      exact lastDrops1_Q _ h' n' n P _ _ _ (hb n (by omega) (by omega) _ (by first | (simp only [go_sem]; done) | (simp only [go_sem, Nat.reduceBEq, Nat.reduceLT, Nat.reduceLeDiff, Nat.reduceAdd, Nat.reduceMul, Nat.reduceSub, Nat.reduceMod, Nat.reduceDiv, Nat.reduceEqDiff, Int.reduceToNat, reduceIte, reduceCtorEq, Int.reduceLE, Int.reduceLT, Int.reduceEq, Int.reduceNeg, Int.reduceAdd, Int.reduceSub, Int.reduceMul]; rfl))) (by omega) hR hP a1.1 (by omega) a2.1 (by omega) a3) _ fun own => ?_)
  simp only [go_sem, Nat.reduceLT, hfl]
  exact fun hok' => hK _ _ _ (by omega) (by simp only [go_sem, HExt_cons]) hok' (.inr ⟨n + 1, cap, _, rfl, by omega, by omega, (by first | (simp only [go_sem]; done) | (simp only [go_sem]; rfl)), rfl, rfl, fun _ _ => rfl⟩)
end
end Go.Proofs.YtcjgpkhdlobbbaaGreat.V

/- The law's lists of drops: compared, marked, looked at again. The law of LastDrops: the walk. -/
namespace Go.Proofs.YtcjgpkhdlobbbaaGreat.V
/-- Drops that were marked. -/
def DrHeld (h : List (Nat × Seg)) (lo n : Nat) (V : SV) (len : Nat) : Prop :=
  (V = .nils ∧ len = 0) ∨ ∃ i cap s, V = .sl i 0 len cap ∧ lo ≤ i ∧ i < n ∧ hget h i = some s ∧ s.n = len * 3 ∧ ∀ k : Nat, k < len → s.c (k * 3) = .int .i8 (IntKind.i8.wrap (3 * (k : Int) + 1)) ∧ s.c (k * 3 + 1) = .int .i8 (IntKind.i8.wrap (3 * (k : Int) + 1 + 1)) ∧ s.c (k * 3 + 2) = .int .u8 (IntKind.u8.wrap (3 * (k : Int) + 1 + 1 + 1))
theorem DrHeld.ext {h h' : List (Nat × Seg)} {lo n n' : Nat} {V : SV} {len : Nat} (hA : DrHeld h lo n V len) (hn : n ≤ n') (hx : HExt n h h') : DrHeld h' lo n' V len := by
  rcases hA with h1 | ⟨i, cap, s, rfl, h1, h2, h3, h4⟩
  · exact .inl h1
  · exact .inr ⟨i, cap, s, rfl, h1, by omega, hx i h2 s h3, h4⟩
section
variable (cx : Cx) (h : List (Nat × Seg)) (n : Nat)
end
end Go.Proofs.YtcjgpkhdlobbbaaGreat.V

/- Cells opened; cells left: both walks. -/
namespace Go.Proofs.YtcjgpkhdlobbbaaGreat.V
def setO (O : Gr) (y x : Int) : Gr := fun y' x' => O y' x' || decide (y' = y ∧ x' = x)
def opn (O : Gr) (M : List (Int × Int)) : Nat → Gr
  | 0 => O
  | j + 1 => setO (opn O M j) (M.getD j (0, 0)).2 (M.getD j (0, 0)).1
def openBy (O : Gr) (M : List (Int × Int)) : Gr := fun y x => O y x || decide ((x, y) ∈ M)
theorem opn_take (O : Gr) (M : List (Int × Int)) : ∀ j, j ≤ M.length → opn O M j = openBy O (M.take j)
  | 0, _ => by funext y x; simp [opn, openBy]
  | j + 1, hj => by
    have hj' : j < M.length := hj
    funext y x
    show setO (opn O M j) _ _ y x = _
    rw [opn_take O M j (by omega)]
    unfold setO openBy
    rw [List.take_succ, List.getElem?_eq_getElem hj', List.getD_eq_getElem?_getD, List.getElem?_eq_getElem hj', Bool.eq_iff_iff]
    simp only [Option.getD_some, Option.toList_some, List.mem_append, List.mem_singleton, Bool.or_eq_true, decide_eq_true_eq, Prod.ext_iff]
    constructor
    · rintro ((h | h) | ⟨h1, h2⟩)
      · exact .inl h
      · exact .inr (.inl h)
      · exact .inr (.inr ⟨h2, h1⟩)
    · rintro (h | h | ⟨h1, h2⟩)
      · exact .inl (.inl h)
      · exact .inl (.inr h)
      · exact .inr ⟨h2, h1⟩
theorem opn_all (O : Gr) (M : List (Int × Int)) : opn O M M.length = openBy O M := by rw [opn_take O M _ (Nat.le_refl _), List.take_length]
theorem openBy_filter (O : Gr) (M : List (Int × Int)) : openBy O (M.filter (opP O)) = openBy O M := by
  funext y x
  unfold openBy
  cases h : O y x
  · rw [Bool.eq_iff_iff]
    simp only [Bool.false_or, decide_eq_true_eq, List.mem_filter]
    exact ⟨fun h => h.1, fun hm => ⟨hm, by unfold opP; simp [h]⟩⟩
  · simp
theorem gridC_flat (O : Gr) (k : Nat) : (gridC O k).flat := trivial
theorem gridC_set (O : Gr) {y x : Int} (h1 : 0 ≤ y) (h3 : 0 ≤ x) (h4 : x < 8) : upd (gridC O) (y.toNat * 8 + x.toNat) (.bool true) = gridC (setO O y x) := by
  funext z
  unfold upd gridC setO
  split
  · rename_i h; subst h
    rw [decide_eq_true (by omega), Bool.or_true]
  · rw [decide_eq_false (by omega), Bool.or_false]
def pelC (v : SV) (O : Gr) : Nat → SV := fun j => if j < 1 then v else gridC O (j - 1)
theorem pelC_set (v : SV) (O : Gr) {y x : Int} (h1 : 0 ≤ y) (h3 : 0 ≤ x) (h4 : x < 8) : upd (pelC v O) (1 + y.toNat * 8 + x.toNat) (.bool true) = pelC v (setO O y x) := by
  have e := gridC_set O h1 h3 h4
  funext z
  have ez := congrFun e (z - 1)
  unfold upd at ez ⊢
  unfold pelC
  by_cases h : z < 1
  · rw [if_neg (by omega), if_pos h, if_pos h]
  · rw [if_neg h, if_neg h]
    by_cases h' : z = 1 + y.toNat * 8 + x.toNat
    · rw [if_pos h', ← ez, if_pos (by omega)]
    · rw [if_neg h', ← ez, if_neg (by omega)]
def pelS (i : Nat) (O : Gr) : Seg := ⟨65, pelC (.ptr i 0) O, true, none⟩
def grS (O : Gr) : Seg := ⟨64, gridC O, true, none⟩
@[go_sem] theorem grS_eq (O : Gr) : grS O = ⟨64, gridC O, true, none⟩ := rfl
@[go_sem] theorem pelS_eq (i : Nat) (O : Gr) : pelS i O = ⟨65, pelC (.ptr i 0) O, true, none⟩ := rfl
theorem pelC_lt {i n : Nat} (O : Gr) (hi : i < n) (k : Nat) : (pelC (.ptr i 0) O k).lt n := by
  unfold pelC; split
  · exact hi
  · trivial
theorem pelAt_pelS (i : Nat) (O : Gr) : PelAt (pelS i O) (.ptr i 0) O := ⟨Nat.le_refl _, rfl, fun j hj => by
  show pelC _ _ (1 + j) = _
  unfold pelC; rw [if_neg (by omega), Nat.add_sub_cancel_left]⟩
theorem grAt_grS (O : Gr) : GrAt (grS O) O := ⟨rfl, fun _ _ => rfl⟩
theorem pel_le {σ : Nat → Nat} {i n' : Nat} {s : Seg} {O : Gr} (hn : s.n = 65) (hrw : s.rw = true) (hc : ∀ k, k < 65 → s.c k = pelC (.ptr i 0) O k) (hσ : σ i = i) (hi : i < n') : SegLe σ n' s (pelS i O) :=
  SegLe.mk' (by rw [hn]; exact Nat.le_refl _) (fun _ => hrw) (.inl rfl) (fun k hk => by
    rw [hc k hk]
    show _ = ren σ (pelC (.ptr i 0) O k)
    unfold pelC
    split
    · rw [ren_ptr, hσ]
    · rfl) fun k _ => pelC_lt O hi k
/-- The cells that are left. -/
def leftB (P : Pc) (O : Gr) (W q : Nat) : Bool := decide (0 < P.ink ((q / W : Nat) : Int) ((q % W : Nat) : Int)) && !O ((q / W : Nat) : Int) ((q % W : Nat) : Int)
def leftN (P : Pc) (O : Gr) (W j : Nat) : Nat := ((List.range j).filter (leftB P O W)).length
theorem leftN_succ (P : Pc) (O : Gr) (W j : Nat) : leftN P O W (j + 1) = leftN P O W j + (if leftB P O W j then 1 else 0) := by
  unfold leftN
  rw [List.range_succ, List.filter_append, List.length_append]
  congr 1
  rw [List.filter_cons]
  split <;> rfl
theorem leftN_le (P : Pc) (O : Gr) (W j : Nat) : leftN P O W j ≤ j := Nat.le_trans (List.length_filter_le _ _) (by simp)
section
variable (cx : Cx) (h : List (Nat × Seg)) (n : Nat)
theorem peel7_E (i g : Nat) (P : Pc) (O : Gr) (x y : Int) (hs : hget h i = some (pcS P)) (hi : i < n) (hg : hget h g = some (grS O)) (hgn : g < n) (hig : i ≠ g) (hR : PcR P) (hP : PcOk P) (hx : 0 ≤ x ∧ x < 8) (hy : 0 ≤ y ∧ y < 8) (K : HK)
    (hK : K (.tup 0 (cl [])) (hset h g (grS (openBy O (covL P.wide P.high x y)))) n) : CallE Tryz.prog cx 35 [.ptr i 0, .ptr g 0, spot x y] h n K := by
  have hM5 := covL_len5 P.wide P.high x y
  have hmem := fun j => covL_mem (W := P.wide) (H := P.high) (x := x) (y := y) (j := j)
  have hs8 := hP.1
  refine CallE.to _ _ (by simp only [go_sem]) (fun hok => hok_set hok fun k hk => gridC_flat _ _) hK ?_
  have hgi : ∀ t, hget (hset h g t) g = some t := hget_hset_self hg
  refine callE_of_T (P := Tryz.prog) hti (nt := 31) (rs := []) rfl rfl Tryz.call35 Tryz.func35 rfl _ (by simp only [go_sem, and_self]) (Nat.le_of_ble_eq_true rfl) _ fun hok => ?_
  simp only [go_sem, Nat.reduceLT]
  refine callA_false (covered2_E _ _ _ i P x y (by first | (simp only [go_sem, hs, hi]; done) | (simp only [go_sem, Nat.reduceBEq, Nat.reduceLT, Nat.reduceLeDiff, Nat.reduceAdd, Nat.reduceMul, Nat.reduceSub, Nat.reduceMod, Nat.reduceDiv, Nat.reduceEqDiff, Int.reduceToNat, reduceIte, reduceCtorEq, Int.reduceLE, Int.reduceLT, Int.reduceEq, Int.reduceNeg, Int.reduceAdd, Int.reduceSub, Int.reduceMul, hs, hi]; rfl)) (by omega) hR hx hy _ fun cap => ?_)
  rw [← opn_all]
  generalize hMM : covL P.wide P.high x y = M at *
  simp only [go_sem, Nat.reduceLT]
  refine T_lp (ι := { j : Nat // j ≤ M.length })
    (fun j => ([(1, .ptr g 0), (6, .sl (n + 1) 0 M.length cap), (7, .int .i64 j.1)],
      (n + 1, ⟨M.length * 2, spotsC M, true, none⟩) :: (n, ⟨2, cl [.int .i8 x, .int .i8 y], true, none⟩) :: hset h g (grS (opn O M j.1)), n + 2)) (fun j => M.length - j.1) ⟨0, Nat.zero_le _⟩ ?_ ?_
  · refine Imp.id (by simp) ?_ ?_
    · simp only [go_sem, Nat.reduceLT]
      omega
    · simp only [go_sem, opn]
      rw [← grS_eq, hset_self hg]
      exact impH.cons0 (by first | (simp only [go_sem]; done) | (simp only [go_sem, Nat.reduceBEq, Nat.reduceLT, Nat.reduceLeDiff, Nat.reduceAdd, Nat.reduceMul, Nat.reduceSub, Nat.reduceMod, Nat.reduceDiv, Nat.reduceEqDiff, Int.reduceToNat, reduceIte, reduceCtorEq, Int.reduceLE, Int.reduceLT, Int.reduceEq, Int.reduceNeg, Int.reduceAdd, Int.reduceSub, Int.reduceMul]; rfl)) (by simp) (SegLe.flat (Nat.le_refl _) id (.inr rfl) fun k hk => ⟨rfl, spotsC_flat _ _⟩) (impH.cons0 (by first | (simp only [go_sem]; done) | (simp only [go_sem, Nat.reduceBEq, Nat.reduceLT, Nat.reduceLeDiff, Nat.reduceAdd, Nat.reduceMul, Nat.reduceSub, Nat.reduceMod, Nat.reduceDiv, Nat.reduceEqDiff, Int.reduceToNat, reduceIte, reduceCtorEq, Int.reduceLE, Int.reduceLT, Int.reduceEq, Int.reduceNeg, Int.reduceAdd, Int.reduceSub, Int.reduceMul]; rfl)) (by simp) (SegLe.flat (Nat.le_refl _) id (.inr rfl) fun z hz => ⟨rfl, pair_flat _ _ hz⟩) (impH.base0 hok (by simp) (by simp only [go_sem, HExt_cons])))
  · rintro ⟨j, hj⟩
    simp only [go_sem, Nat.reduceLT, decide_eq_true_eq, decide_eq_false_iff_not]
    refine ⟨fun h1 => ?_, fun h1 => ?_⟩
    · have r1 : (0 : Int) ≤ j ∧ (j : Int) < M.length := ⟨by omega, h1⟩
      have b1 : j * 2 ≤ M.length * 2 - 2 := by omega
      have b2 : j * 2 + 2 ≤ M.length * 2 := by omega
      have b3 : 2 ≤ M.length * 2 := by omega
      have b4 : j * 2 ≤ M.length * 2 - 1 := by omega
      have b5 : j * 2 + 1 ≤ M.length * 2 - 1 := by omega
      have b6 : j * 2 + 1 ≤ M.length * 2 := by omega
      have b7 : 1 ≤ M.length * 2 := by omega
      obtain ⟨⟨c1, c2⟩, c3, c4⟩ := hmem j (by omega)
      have c5 : (M.getD j (0, 0)).1 < 8 := by omega
      have c6 : (M.getD j (0, 0)).2 < 8 := by omega
      have d1 : (M.getD j (0, 0)).2.toNat * 8 + (M.getD j (0, 0)).1.toNat ≤ 63 := by omega
      have d2 : (M.getD j (0, 0)).2.toNat * 8 + (M.getD j (0, 0)).1.toNat + 1 ≤ 64 := by omega
      refine T_drawT hti 14 _ _ (by kernel_rfl) (by kernel_rfl) ?_
      simp only [go_sem, Nat.reduceLT, Nat.reduceEqDiff, reduceIte, reduceCtorEq, hgi, hgn, r1, b1, b2, b3, b4, b5, b6, b7, spotsC_x, spotsC_y, c1, c3, c5, c6, d1, d2, gridC_set _ c3 c1 c5]
      refine ⟨⟨j + 1, by omega⟩, by show M.length - (j + 1) < M.length - j; omega, ?_⟩
      refine Imp.id (by simp) ?_ ?_
      · simp only [go_sem, Nat.reduceLT, w64 (n := (j : Int) + 1) (by omega), Int.natCast_add, Int.natCast_one]
        omega
      · exact impH.cons0 (by first | (simp only [go_sem]; done) | (simp only [go_sem, Nat.reduceBEq, Nat.reduceLT, Nat.reduceLeDiff, Nat.reduceAdd, Nat.reduceMul, Nat.reduceSub, Nat.reduceMod, Nat.reduceDiv, Nat.reduceEqDiff, Int.reduceToNat, reduceIte, reduceCtorEq, Int.reduceLE, Int.reduceLT, Int.reduceEq, Int.reduceNeg, Int.reduceAdd, Int.reduceSub, Int.reduceMul]; rfl)) (by simp) (SegLe.flat (Nat.le_refl _) id (.inr rfl) fun k hk => ⟨rfl, spotsC_flat _ _⟩) (impH.cons0 (by first | (simp only [go_sem]; done) | (simp only [go_sem, Nat.reduceBEq, Nat.reduceLT, Nat.reduceLeDiff, Nat.reduceAdd, Nat.reduceMul, Nat.reduceSub, Nat.reduceMod, Nat.reduceDiv, Nat.reduceEqDiff, Int.reduceToNat, reduceIte, reduceCtorEq, Int.reduceLE, Int.reduceLT, Int.reduceEq, Int.reduceNeg, Int.reduceAdd, Int.reduceSub, Int.reduceMul]; rfl)) (by simp) (SegLe.flat (Nat.le_refl _) id (.inr rfl) fun z hz => ⟨rfl, pair_flat _ _ hz⟩) (impH.base0 (hok_set hok fun k hk => gridC_flat _ _) (by simp) (by first | (simp only [go_sem, HExt_cons]; done) | (simp only [go_sem, HExt_cons]; exact HExt.rfl))))
    · have hj2 : j = M.length := by omega
      subst hj2
      simp only [go_sem]
theorem mark7_E (i g f cap : Nat) (O : Gr) (M : List (Int × Int)) (s : Seg) (hi : i < n) (hg : hget h g = some (pelS i O)) (hgn : g < n) (hf : hget h f = some s) (hfn : f < n) (hfg : f ≠ g) (hM : SpsAt s M) (hm9 : M.length ≤ 1000) (hin : ∀ j, j < M.length → (0 ≤ (M.getD j (0, 0)).1 ∧ (M.getD j (0, 0)).1 < 8) ∧ 0 ≤ (M.getD j (0, 0)).2 ∧ (M.getD j (0, 0)).2 < 8) (K : HK)
    (hK : K (.tup 0 (cl [])) (hset h g (pelS i (openBy O M))) n) : CallE Tryz.prog cx 30 [.ptr g 0, .sl f 0 M.length cap, .bool true] h n K := by
  have hn := hM.1
  refine CallE.to _ _ (by simp only [go_sem]) (fun hok => HOk.hset hok fun k hk => pelC_lt _ hi _) hK ?_
  have hgi : ∀ t, hget (hset h g t) g = some t := hget_hset_self hg
  have hgf : ∀ t, hget (hset h g t) f = some s := fun t => by rw [hget_hset, if_neg (by omega)]; exact hf
  rw [← opn_all]
  refine callE_of_T (P := Tryz.prog) hti (nt := 25) (rs := []) rfl rfl Tryz.call30 Tryz.func30 rfl _ (by simp only [go_sem, and_self]) (Nat.le_of_ble_eq_true rfl) _ fun hok => ?_
  simp only [go_sem, Nat.reduceLT]
  refine T_lp (ι := { j : Nat // j ≤ M.length })
    (fun j => ([(0, .ptr g 0), (2, .bool true), (8, .sl f 0 M.length cap), (9, .int .i64 M.length), (10, .int .i64 j.1)], hset h g (pelS i (opn O M j.1)), n)) (fun j => M.length - j.1) ⟨0, Nat.zero_le _⟩ ?_ ?_
  · refine Imp.id (by simp) ?_ ?_
    · simp only [go_sem, Nat.reduceLT]
      omega
    · show impH h (sig []) n (hset h g (pelS i O))
      rw [hset_self hg]
      exact impH.base0 hok (by simp) HExt.rfl
  · rintro ⟨j, hj⟩
    simp only [go_sem, Nat.reduceLT, decide_eq_true_eq, decide_eq_false_iff_not]
    refine ⟨fun h1 => ?_, fun h1 => ?_⟩
    · have r1 : (0 : Int) ≤ j ∧ (j : Int) < M.length := ⟨by omega, by omega⟩
      have b1 : j * 2 ≤ s.n - 2 := by omega
      have b2 : j * 2 + 2 ≤ s.n := by omega
      have b3 : 2 ≤ s.n := by omega
      obtain ⟨⟨c1, c5⟩, c3, c6⟩ := hin j (by omega)
      have d1 : 1 + (M.getD j (0, 0)).2.toNat * 8 + (M.getD j (0, 0)).1.toNat ≤ 64 := by omega
      have d2 : 1 + (M.getD j (0, 0)).2.toNat * 8 + (M.getD j (0, 0)).1.toNat + 1 ≤ 65 := by omega
      simp only [go_sem, Nat.reduceLT, reduceIte, hgf, hfn, r1, b1, b2, b3, hM.x (j := j) (by omega), hM.y (j := j) (by omega)]
      refine T_drawT hti 10 _ _ (by kernel_rfl) (by kernel_rfl) ?_
      simp only [go_sem, Nat.reduceLT, Nat.reduceLeDiff, Nat.reduceEqDiff, reduceIte, reduceCtorEq, hgi, hgn, c1, c3, c5, c6, d1, d2, pelC_set _ _ c3 c1 c5]
      refine ⟨⟨j + 1, by omega⟩, by show M.length - (j + 1) < M.length - j; omega, ?_⟩
      refine Imp.id (by simp) ?_ ?_
      · simp only [go_sem, Nat.reduceLT, w64 (n := (j : Int) + 1) (by omega), Int.natCast_add, Int.natCast_one]
        omega
      · exact impH.base0 (HOk.hset hok fun k hk => pelC_lt _ hi _) (by simp) (by first | (simp only [go_sem, HExt_cons]; done) | (simp only [go_sem, HExt_cons]; exact HExt.rfl))
    · have hj2 : j = M.length := by omega
      subst hj2
      simp only [go_sem]
theorem left7_Q (i g : Nat) (P : Pc) (O : Gr) (s : Seg) (W H : Nat) (hs : hget h i = some (pcS P)) (hi : i < n) (hg : hget h g = some s) (hgn : g < n) (hG : GrAt s O) (hR : PcR P) (hP : PcOk P) (hW : P.wide = W) (hH : P.high = H) :
    CallQ Tryz.prog cx 36 [.ptr i 0, .ptr g 0] h n (.int .i64 (leftN P O W (H * W))) := by
  have hs8 := hP.1
  have hW8 : W ≤ 8 := by omega
  have hH8 : H ≤ 8 := by omega
  have hm : H * W ≤ 8 * 8 := Nat.mul_le_mul hH8 hW8
  have hn64 := hG.1
  refine callQ_of_T (P := Tryz.prog) hti (nt := 54) (rs := [.tmp 4]) rfl rfl Tryz.call36 Tryz.func36 rfl _ (by simp only [go_sem, and_self]) (Nat.le_of_ble_eq_true rfl) _ (by first | exact trivial | (refine lt_flat rfl ?_; simp [SV.flat]; done) | simp only [go_sem]) fun hok => ?_
  simp only [go_sem, Nat.reduceLT]
  refine callA_false (spots7_E _ _ _ i P W H (by first | (simp only [go_sem, hs, hi]; done) | (simp only [go_sem, Nat.reduceBEq, Nat.reduceLT, Nat.reduceLeDiff, Nat.reduceAdd, Nat.reduceMul, Nat.reduceSub, Nat.reduceMod, Nat.reduceDiv, Nat.reduceEqDiff, Int.reduceToNat, reduceIte, reduceCtorEq, Int.reduceLE, Int.reduceLT, Int.reduceEq, Int.reduceNeg, Int.reduceAdd, Int.reduceSub, Int.reduceMul, hs, hi]; rfl)) (by omega) hW hH hW8 hH8 _ fun capM hc1 hc2 => ?_)
  have hdm : ∀ q, q < H * W → q % W < 8 ∧ q / W < 8 := fun q hq => by
    have hW0 : 0 < W := Nat.pos_of_ne_zero fun e => by rw [e, Nat.mul_zero] at hq; omega
    have h1 := Nat.mod_lt q hW0
    have h2 := (Nat.div_lt_iff_lt_mul hW0).2 hq
    exact ⟨by omega, by omega⟩
  generalize hMM : H * W = m at *
  simp only [go_sem, Nat.reduceLT]
  refine T_lp (ι := { q : Nat // q ≤ m })
    (fun q => ([(0, .ptr i 0), (1, .ptr g 0), (5, .int .i64 (leftN P O W q.1)), (6, .sl n 0 m capM), (7, .int .i64 q.1)],
      (n, ⟨m * 2, cellC W, true, none⟩) :: h, n + 1)) (fun q => m - q.1) ⟨0, by omega⟩ ?_ ?_
  · refine Imp.id (by simp) ?_ ?_
    · simp only [go_sem, Nat.reduceLT]
      (repeat' apply And.intro) <;> first | omega | rfl | trivial | assumption | skip
    · exact impH.cons0 (hget_hit _ _ _) (by simp) (SegLe.flat (Nat.le_refl _) id (.inl rfl) fun k hk => ⟨rfl, cellC_flat _ _⟩) (impH.base0 hok (by simp) (by simp only [go_sem, HExt_cons]))
  · rintro ⟨q, hq⟩
    have hle := leftN_le P O W q
    simp only [go_sem, Nat.reduceLT, decide_eq_true_eq, decide_eq_false_iff_not]
    refine ⟨fun h1 => ?_, fun h1 => ?_⟩
    · have hqm : q < m := by omega
      have r1 : (0 : Int) ≤ q ∧ (q : Int) < m := ⟨by omega, by omega⟩
      have b1 : q * 2 ≤ m * 2 - 2 := by omega
      have b2 : q * 2 + 2 ≤ m * 2 := by omega
      have b3 : 2 ≤ m * 2 := by omega
      have b4 : q * 2 ≤ m * 2 - 1 := by omega
      have b5 : q * 2 + 1 ≤ m * 2 - 1 := by omega
      have b6 : q * 2 + 1 ≤ m * 2 := by omega
      have b7 : 1 ≤ m * 2 := by omega
      obtain ⟨hx8, hy8⟩ := hdm q hqm
      have e0 := cellC_0 W q
      have e1 := cellC_1 W q
      have hsu := leftN_succ P O W q
      have hbB : leftB P O W q = (decide (0 < P.ink ((q / W : Nat) : Int) ((q % W : Nat) : Int)) && !O ((q / W : Nat) : Int) ((q % W : Nat) : Int)) := rfl
      generalize hyy : q / W = y at *
      generalize hxx : q % W = x at *
      have c1 : (0 : Int) ≤ (x : Int) ∧ (x : Int) < 8 := ⟨by omega, by omega⟩
      have c3 : (0 : Int) ≤ (y : Int) ∧ (y : Int) < 8 := ⟨by omega, by omega⟩
      have hat := hG.at c3.1 c3.2 c1.1 c1.2
      have hin := pcC_ink P (y : Int) (x : Int) c3.1 c3.2 c1.1 c1.2
      simp only [Int.toNat_natCast] at hat hin
      have d1 : y * 8 + x ≤ 63 := by omega
      have d2 : y * 8 + x + 1 ≤ 64 := by omega
      have d3 : 2 + y * 8 + x ≤ 65 := by omega
      have d4 : 2 + y * 8 + x + 1 ≤ 66 := by omega
      by_cases hp : 0 < P.ink (y : Int) (x : Int)
      rotate_left
      · have hbF : leftB P O W q = false := by rw [hbB]; simp [hp]
        rw [hbF, if_neg (by simp), Nat.add_zero] at hsu
        refine T_draw hti _ _ (by kernel_rfl) (by kernel_rfl) ?_
        simp only [go_sem, Nat.reduceLT, reduceCtorEq, hs, hi, hg, hgn, r1, b1, b2, b3, b4, b5, b6, b7, e0, e1, c1, c3, hat, hin, hn64, d1, d2, d3, d4, hp]
        refine ⟨⟨q + 1, by omega⟩, by show m - (q + 1) < m - q; omega, ?_⟩
        refine Imp.id (by simp) ?_ (impH.cons0 (hget_hit _ _ _) (by simp) (SegLe.flat (Nat.le_refl _) id (.inr rfl) fun k hk => ⟨rfl, cellC_flat _ _⟩) (impH.base0 hok (by simp) (by simp only [go_sem, HExt_cons])))
        simp only [go_sem, Nat.reduceLT, hsu, w64 (n := (q : Int) + 1) (by omega), w64 (n := (leftN P O W q : Int) + 1) (by omega), Int.natCast_add, Int.natCast_one]
        (repeat' apply And.intro) <;> first | omega | rfl | trivial | assumption | skip
      cases ho : O (y : Int) (x : Int)
      · have hbF : leftB P O W q = true := by rw [hbB, ho]; simp [hp]
        rw [hbF, if_pos rfl] at hsu
        rw [ho] at hat
        refine T_draw hti _ _ (by kernel_rfl) (by kernel_rfl) ?_
        simp only [go_sem, Nat.reduceLT, reduceCtorEq, hs, hi, hg, hgn, r1, b1, b2, b3, b4, b5, b6, b7, e0, e1, c1, c3, hat, hin, hn64, d1, d2, d3, d4, hp]
        refine ⟨⟨q + 1, by omega⟩, by show m - (q + 1) < m - q; omega, ?_⟩
        refine Imp.id (by simp) ?_ (impH.cons0 (hget_hit _ _ _) (by simp) (SegLe.flat (Nat.le_refl _) id (.inr rfl) fun k hk => ⟨rfl, cellC_flat _ _⟩) (impH.base0 hok (by simp) (by simp only [go_sem, HExt_cons])))
        simp only [go_sem, Nat.reduceLT, hsu, w64 (n := (q : Int) + 1) (by omega), w64 (n := (leftN P O W q : Int) + 1) (by omega), Int.natCast_add, Int.natCast_one]
        (repeat' apply And.intro) <;> first | omega | rfl | trivial | assumption | skip
      · have hbF : leftB P O W q = false := by rw [hbB, ho]; simp
        rw [hbF, if_neg (by simp), Nat.add_zero] at hsu
        rw [ho] at hat
        refine T_draw hti _ _ (by kernel_rfl) (by kernel_rfl) ?_
        simp only [go_sem, Nat.reduceLT, reduceCtorEq, hs, hi, hg, hgn, r1, b1, b2, b3, b4, b5, b6, b7, e0, e1, c1, c3, hat, hin, hn64, d1, d2, d3, d4, hp]
        refine ⟨⟨q + 1, by omega⟩, by show m - (q + 1) < m - q; omega, ?_⟩
        refine Imp.id (by simp) ?_ (impH.cons0 (hget_hit _ _ _) (by simp) (SegLe.flat (Nat.le_refl _) id (.inr rfl) fun k hk => ⟨rfl, cellC_flat _ _⟩) (impH.base0 hok (by simp) (by simp only [go_sem, HExt_cons])))
        simp only [go_sem, Nat.reduceLT, hsu, w64 (n := (q : Int) + 1) (by omega), w64 (n := (leftN P O W q : Int) + 1) (by omega), Int.natCast_add, Int.natCast_one]
        (repeat' apply And.intro) <;> first | omega | rfl | trivial | assumption | skip
    · have hq2 : q = m := by omega
      subst hq2
      simp only [go_sem]
end
end Go.Proofs.YtcjgpkhdlobbbaaGreat.V

/- Cells left: the program's walk. -/
namespace Go.Proofs.YtcjgpkhdlobbbaaGreat.V
section
variable (cx : Cx) (h : List (Nat × Seg)) (n : Nat)
theorem leftP_Q (i g : Nat) (P : Pc) (O : Gr) (s : Seg) (W H : Nat) (hs : hget h i = some (pcS P)) (hi : i < n) (hg : hget h g = some s) (hgn : g < n) (hG : PelAt s (.ptr i 0) O) (hR : PcR P) (hP : PcOk P) (hW : P.wide = W) (hH : P.high = H) :
    CallQ Tryz.prog cx 31 [.ptr g 0] h n (.int .i64 (leftN P O W (H * W))) := by
  have hs8 := hP.1
  have hW8 : W ≤ 8 := by omega
  have hH8 : H ≤ 8 := by omega
  have hm : H * W ≤ 8 * 8 := Nat.mul_le_mul hH8 hW8
  have hn65' := hG.1
  have hn65 : 1 ≤ s.n := by omega
  have hp0 := hG.2.1
  refine callQ_of_T (P := Tryz.prog) hti (nt := 41) (rs := [.tmp 2]) rfl rfl Tryz.call31 Tryz.func31 rfl _ (by simp only [go_sem, and_self]) (Nat.le_of_ble_eq_true rfl) _ (by first | exact trivial | (refine lt_flat rfl ?_; simp [SV.flat]; done) | simp only [go_sem]) fun hok => ?_
  simp only [go_sem, Nat.reduceLT, reduceCtorEq, hg, hgn, hp0, hn65]
  refine callA_false (sheet_E _ _ _ i P (by first | (simp only [go_sem, hs, hi]; done) | (simp only [go_sem, Nat.reduceBEq, Nat.reduceLT, Nat.reduceLeDiff, Nat.reduceAdd, Nat.reduceMul, Nat.reduceSub, Nat.reduceMod, Nat.reduceDiv, Nat.reduceEqDiff, Int.reduceToNat, reduceIte, reduceCtorEq, Int.reduceLE, Int.reduceLT, Int.reduceEq, Int.reduceNeg, Int.reduceAdd, Int.reduceSub, Int.reduceMul, hs, hi]; rfl)) (by omega) _ ?_)
  simp only [go_sem, Nat.reduceLT]
  refine callA_false (cells_E _ _ _ n 0 (shS (psh P)) (psh P) W H (by first | (simp only [go_sem]; done) | (simp only [go_sem, Nat.reduceBEq, Nat.reduceLT, Nat.reduceLeDiff, Nat.reduceAdd, Nat.reduceMul, Nat.reduceSub, Nat.reduceMod, Nat.reduceDiv, Nat.reduceEqDiff, Int.reduceToNat, reduceIte, reduceCtorEq, Int.reduceLE, Int.reduceLT, Int.reduceEq, Int.reduceNeg, Int.reduceAdd, Int.reduceSub, Int.reduceMul]; rfl)) (by omega) (shAt_shC (psh_R hR)) hW hH hW8 hH8 _ fun capM hc1 hc2 => ?_)
  have hdm : ∀ q, q < H * W → q % W < 8 ∧ q / W < 8 := fun q hq => by
    have hW0 : 0 < W := Nat.pos_of_ne_zero fun e => by rw [e, Nat.mul_zero] at hq; omega
    have h1 := Nat.mod_lt q hW0
    have h2 := (Nat.div_lt_iff_lt_mul hW0).2 hq
    exact ⟨by omega, by omega⟩
  generalize hMM : H * W = m at *
  simp only [go_sem, Nat.reduceLT]
  refine T_lp (ι := { q : Nat // q ≤ m })
    (fun q => ([(0, .ptr g 0), (3, .int .i64 (leftN P O W q.1)), (11, .sl (n + 1) 0 m capM), (12, .int .i64 m), (13, .int .i64 q.1)],
      (n + 1, ⟨m * 2, cellC W, true, none⟩) :: h, n + 2)) (fun q => m - q.1) ⟨0, by omega⟩ ?_ ?_
  · refine Imp.id (by simp) ?_ ?_
    · simp only [go_sem, Nat.reduceLT]
      (repeat' apply And.intro) <;> first | omega | rfl | trivial | assumption | skip
    · exact impH.cons0 (hget_hit _ _ _) (by simp) (SegLe.flat (Nat.le_refl _) id (.inl rfl) fun k hk => ⟨rfl, cellC_flat _ _⟩) (impH.base0 hok (by simp) (by simp only [go_sem, HExt_cons]))
  · rintro ⟨q, hq⟩
    have hle := leftN_le P O W q
    simp only [go_sem, Nat.reduceLT, reduceIte, decide_eq_true_eq, decide_eq_false_iff_not]
    refine ⟨fun h1 => ?_, fun h1 => ?_⟩
    · have hqm : q < m := by omega
      have r1 : (0 : Int) ≤ q ∧ (q : Int) < m := ⟨by omega, by omega⟩
      have b1 : q * 2 ≤ m * 2 - 2 := by omega
      have b2 : q * 2 + 2 ≤ m * 2 := by omega
      have b3 : 2 ≤ m * 2 := by omega
      have b4 : q * 2 ≤ m * 2 - 1 := by omega
      have b5 : q * 2 + 1 ≤ m * 2 - 1 := by omega
      have b6 : q * 2 + 1 ≤ m * 2 := by omega
      have b7 : 1 ≤ m * 2 := by omega
      obtain ⟨hx8, hy8⟩ := hdm q hqm
      have e0 := cellC_0 W q
      have e1 := cellC_1 W q
      have hsu := leftN_succ P O W q
      have hbB : leftB P O W q = (decide (0 < P.ink ((q / W : Nat) : Int) ((q % W : Nat) : Int)) && !O ((q / W : Nat) : Int) ((q % W : Nat) : Int)) := rfl
      generalize hyy : q / W = y at *
      generalize hxx : q % W = x at *
      have c1 : (0 : Int) ≤ (x : Int) ∧ (x : Int) < 8 := ⟨by omega, by omega⟩
      have c3 : (0 : Int) ≤ (y : Int) ∧ (y : Int) < 8 := ⟨by omega, by omega⟩
      have hat := hG.at c3.1 c3.2 c1.1 c1.2
      simp only [Int.toNat_natCast] at hat
      have d1 : 1 + y * 8 + x ≤ s.n - 1 := by omega
      have d2 : 1 + y * 8 + x + 1 ≤ s.n := by omega
      simp only [go_sem, r1, b1, b2, b3, b4, b5, b6, b7, e0, e1]
      refine T_drawG hti 20 [] (.b 0 0 (.b 0 1 (.b 0 2 (.b 0 3 (.b 0 4 (.b 1 5 (.b 0 6 (.b 0 7 (.b 0 8 (.b 0 9 (.b 0 10 (.b 0 11 (.b 0 12 (.b 0 13 (.b 0 14 (.b 0 15 (.b 0 16 (.b 0 17 (.b 0 18 (.b 0 19 (.f) .o) .o) .o) .o) .o) .o) .o) .o) .o) .o) .o) .o) .o) .o) .o) .o) .o) .o) .o) .o) _ _ (by kernel_rfl) (by kernel_rfl) ?_
      simp only [go_sem, Nat.reduceLT, reduceCtorEq, hg, hgn, hp0, hn65]
      refine CallQ.F _ (fun h' n' hn hx => shown_Q _ h' n' i P x y (hx _ (by omega) _ (by first | (simp only [go_sem, hs, hi]; done) | (simp only [go_sem, Nat.reduceBEq, Nat.reduceLT, Nat.reduceLeDiff, Nat.reduceAdd, Nat.reduceMul, Nat.reduceSub, Nat.reduceMod, Nat.reduceDiv, Nat.reduceEqDiff, Int.reduceToNat, reduceIte, reduceCtorEq, Int.reduceLE, Int.reduceLT, Int.reduceEq, Int.reduceNeg, Int.reduceAdd, Int.reduceSub, Int.reduceMul, hs, hi]; rfl))) (by omega) c1.1 c1.2 c3.1 c3.2) ?_
      by_cases hp : 0 < P.ink (y : Int) (x : Int)
      rotate_left
      · have hbF : leftB P O W q = false := by rw [hbB]; simp [hp]
        rw [hbF, if_neg (by simp), Nat.add_zero] at hsu
        simp only [go_sem, Nat.reduceLT, hg, hgn, hn65, c1, c3, hat, d1, d2, hp]
        refine ⟨⟨q + 1, by omega⟩, by show m - (q + 1) < m - q; omega, ?_⟩
        refine Imp.id (by simp) ?_ (impH.cons0 (by first | (simp only [go_sem, Nat.reduceLT]; done) | (simp only [go_sem, Nat.reduceBEq, Nat.reduceLT, Nat.reduceLeDiff, Nat.reduceAdd, Nat.reduceMul, Nat.reduceSub, Nat.reduceMod, Nat.reduceDiv, Nat.reduceEqDiff, Int.reduceToNat, reduceIte, reduceCtorEq, Int.reduceLE, Int.reduceLT, Int.reduceEq, Int.reduceNeg, Int.reduceAdd, Int.reduceSub, Int.reduceMul]; rfl)) (by simp) (SegLe.flat (Nat.le_refl _) id (.inr rfl) fun k hk => ⟨rfl, cellC_flat _ _⟩) (impH.base0 hok (by simp) (by simp only [go_sem, HExt_cons])))
        simp only [go_sem, Nat.reduceLT, hsu, w64 (n := (q : Int) + 1) (by omega), w64 (n := (leftN P O W q : Int) + 1) (by omega), Int.natCast_add, Int.natCast_one]
        (repeat' apply And.intro) <;> first | omega | rfl | trivial | assumption | skip
      cases ho : O (y : Int) (x : Int)
      · have hbF : leftB P O W q = true := by rw [hbB, ho]; simp [hp]
        rw [hbF, if_pos rfl] at hsu
        rw [ho] at hat
        simp only [go_sem, Nat.reduceLT, Nat.reduceLeDiff, reduceCtorEq, hg, hgn, hn65, c1, c3, hat, d1, d2, hp]
        refine ⟨⟨q + 1, by omega⟩, by show m - (q + 1) < m - q; omega, ?_⟩
        refine Imp.id (by simp) ?_ (impH.cons0 (by first | (simp only [go_sem, Nat.reduceLT]; done) | (simp only [go_sem, Nat.reduceBEq, Nat.reduceLT, Nat.reduceLeDiff, Nat.reduceAdd, Nat.reduceMul, Nat.reduceSub, Nat.reduceMod, Nat.reduceDiv, Nat.reduceEqDiff, Int.reduceToNat, reduceIte, reduceCtorEq, Int.reduceLE, Int.reduceLT, Int.reduceEq, Int.reduceNeg, Int.reduceAdd, Int.reduceSub, Int.reduceMul]; rfl)) (by simp) (SegLe.flat (Nat.le_refl _) id (.inr rfl) fun k hk => ⟨rfl, cellC_flat _ _⟩) (impH.base0 hok (by simp) (by simp only [go_sem, HExt_cons])))
        simp only [go_sem, Nat.reduceLT, hsu, w64 (n := (q : Int) + 1) (by omega), w64 (n := (leftN P O W q : Int) + 1) (by omega), Int.natCast_add, Int.natCast_one]
        (repeat' apply And.intro) <;> first | omega | rfl | trivial | assumption | skip
      · have hbF : leftB P O W q = false := by rw [hbB, ho]; simp
        rw [hbF, if_neg (by simp), Nat.add_zero] at hsu
        rw [ho] at hat
        simp only [go_sem, Nat.reduceLT, Nat.reduceLeDiff, reduceCtorEq, hg, hgn, hn65, c1, c3, hat, d1, d2, hp]
        refine ⟨⟨q + 1, by omega⟩, by show m - (q + 1) < m - q; omega, ?_⟩
        refine Imp.id (by simp) ?_ (impH.cons0 (by first | (simp only [go_sem, Nat.reduceLT]; done) | (simp only [go_sem, Nat.reduceBEq, Nat.reduceLT, Nat.reduceLeDiff, Nat.reduceAdd, Nat.reduceMul, Nat.reduceSub, Nat.reduceMod, Nat.reduceDiv, Nat.reduceEqDiff, Int.reduceToNat, reduceIte, reduceCtorEq, Int.reduceLE, Int.reduceLT, Int.reduceEq, Int.reduceNeg, Int.reduceAdd, Int.reduceSub, Int.reduceMul]; rfl)) (by simp) (SegLe.flat (Nat.le_refl _) id (.inr rfl) fun k hk => ⟨rfl, cellC_flat _ _⟩) (impH.base0 hok (by simp) (by simp only [go_sem, HExt_cons])))
        simp only [go_sem, Nat.reduceLT, hsu, w64 (n := (q : Int) + 1) (by omega), w64 (n := (leftN P O W q : Int) + 1) (by omega), Int.natCast_add, Int.natCast_one]
        (repeat' apply And.intro) <;> first | omega | rfl | trivial | assumption | skip
    · have hq2 : q = m := by omega
      subst hq2
      simp only [go_sem]
end
end Go.Proofs.YtcjgpkhdlobbbaaGreat.V

/- Peeling, as plain data; lists of drops turned round: both walks. -/
namespace Go.Proofs.YtcjgpkhdlobbbaaGreat.V
/-- The drops that can be the last. -/
def frontL (P : Pc) (W H : Nat) (O : Gr) : List Dr := (dropsL W H).filter (lastP P O)
def peelIt (P : Pc) (W H : Nat) : Nat → Gr × List Dr
  | 0 => (off, [])
  | j + 1 => match (frontL P W H (peelIt P W H j).1).head? with
    | none => peelIt P W H j
    | some d => (openBy (peelIt P W H j).1 (covL P.wide P.high d.1 d.2.1), (peelIt P W H j).2 ++ [d])
theorem peel_some {P : Pc} {W H j : Nat} {d : Dr} {R : List Dr} (h : frontL P W H (peelIt P W H j).1 = d :: R) : peelIt P W H (j + 1) = (openBy (peelIt P W H j).1 (covL P.wide P.high d.1 d.2.1), (peelIt P W H j).2 ++ [d]) := by
  rw [peelIt, h]; rfl
theorem peel_stop {P : Pc} {W H j : Nat} (h : frontL P W H (peelIt P W H j).1 = []) : ∀ k, peelIt P W H (j + k) = peelIt P W H j
  | 0 => rfl
  | k + 1 => by
    have e := peel_stop h k
    rw [← Nat.add_assoc, peelIt, e, h]; rfl
theorem filt_le {l : List Nat} {p q : Nat → Bool} (h : ∀ a, p a = true → q a = true) : (l.filter p).length ≤ (l.filter q).length := by
  induction l with
  | nil => simp
  | cons x l ih =>
    rw [List.filter_cons, List.filter_cons]
    split
    · rename_i hp; rw [if_pos (h x hp)]; simpa using ih
    · split
      · simp only [List.length_cons]; omega
      · exact ih
theorem filt_lt {l : List Nat} {p q : Nat → Bool} (h : ∀ a, p a = true → q a = true) {a : Nat} (ha : a ∈ l) (hq : q a = true) (hp : p a = false) : (l.filter p).length < (l.filter q).length := by
  induction l with
  | nil => cases ha
  | cons x l ih =>
    rw [List.filter_cons, List.filter_cons]
    rcases List.mem_cons.1 ha with rfl | hm
    · rw [if_neg (by rw [hp]; simp), if_pos hq]
      have := filt_le (l := l) h
      simp only [List.length_cons]; omega
    · have := ih hm
      split
      · rename_i hp; rw [if_pos (h x hp)]; simpa using this
      · split
        · simp only [List.length_cons]; omega
        · exact this
/-- How many cells are closed. -/
def cntO (O : Gr) : Nat := ((List.range 64).filter fun j => !O ((j / 8 : Nat) : Int) ((j % 8 : Nat) : Int)).length
theorem cntO_le (O : Gr) : cntO O ≤ 64 := Nat.le_trans (List.length_filter_le _ _) (by simp)
theorem covL_in {W H x y : Int} {c : Int × Int} (hm : c ∈ covL W H x y) : (0 ≤ c.1 ∧ c.1 < W) ∧ 0 ≤ c.2 ∧ c.2 < H := by
  have := (List.mem_filter.1 hm).2
  simp only [Bool.and_eq_true, decide_eq_true_eq] at this
  omega
theorem cnt_peel {P : Pc} (hP : PcOk P) {O : Gr} {d : Dr} (h : lastP P O d = true) : cntO (openBy O (covL P.wide P.high d.1 d.2.1)) < cntO O := by
  have hs8 := hP.1
  unfold lastP peelsB at h
  simp only [Bool.and_eq_true, decide_eq_true_eq] at h
  obtain ⟨c, hc⟩ := List.exists_mem_of_length_pos h.2
  obtain ⟨hc1, hc2⟩ := List.mem_filter.1 hc
  obtain ⟨⟨x0, x1⟩, y0, y1⟩ := covL_in hc1
  have ey : ((c.2.toNat * 8 + c.1.toNat) / 8 : Nat) = c.2.toNat := by omega
  have ex : ((c.2.toNat * 8 + c.1.toNat) % 8 : Nat) = c.1.toNat := by omega
  unfold cntO
  refine filt_lt (a := c.2.toNat * 8 + c.1.toNat) (fun a ha => ?_) (List.mem_range.2 (by omega)) ?_ ?_
  · unfold openBy at ha
    simp only [Bool.not_or, Bool.and_eq_true] at ha
    exact ha.1
  · rw [ey, ex, nat_of _ y0, nat_of _ x0]; exact hc2
  · rw [ey, ex, nat_of _ y0, nat_of _ x0]
    unfold openBy
    rw [decide_eq_true hc1, Bool.or_true]; rfl
def PeelInv (P : Pc) (W H j : Nat) : Prop := j + cntO (peelIt P W H j).1 ≤ 64 ∧ (peelIt P W H j).2.length = j
theorem inv_0 (P : Pc) (W H : Nat) : PeelInv P W H 0 := ⟨by rw [Nat.zero_add]; exact cntO_le _, rfl⟩
theorem inv_succ {P : Pc} (hP : PcOk P) {W H j : Nat} {d : Dr} {R : List Dr} (h : frontL P W H (peelIt P W H j).1 = d :: R) (hi : PeelInv P W H j) : PeelInv P W H (j + 1) := by
  have hl : lastP P (peelIt P W H j).1 d = true := (List.mem_filter.1 (show d ∈ frontL P W H (peelIt P W H j).1 by rw [h]; exact List.mem_cons_self)).2
  have := cnt_peel hP hl
  unfold PeelInv
  rw [peel_some h, List.length_append, hi.2]
  have := hi.1
  exact ⟨by simp only; omega, rfl⟩
def peelF (P : Pc) (W H : Nat) : Gr × List Dr := peelIt P W H 64
theorem inv_stop {P : Pc} {W H j : Nat} (h : frontL P W H (peelIt P W H j).1 = []) (hi : PeelInv P W H j) : peelIt P W H j = peelF P W H := by
  have := hi.1
  have e := peel_stop h (64 - j)
  rw [show j + (64 - j) = 64 by omega] at e
  exact e.symm
theorem front_at {P : Pc} {W H : Nat} {O : Gr} {r : Nat} (hr : r < (dropsL W H).length) (h1 : lastP P O ((dropsL W H).getD r (0, 0, 0)) = true) (h0 : ∀ j, j < r → lastP P O ((dropsL W H).getD j (0, 0, 0)) = false) : ∃ R, frontL P W H O = (dropsL W H).getD r (0, 0, 0) :: R := by
  refine ⟨((dropsL W H).drop (r + 1)).filter (lastP P O), ?_⟩
  unfold frontL
  have e1 : (dropsL W H) = (dropsL W H).take r ++ (dropsL W H).getD r (0, 0, 0) :: (dropsL W H).drop (r + 1) := by
    rw [List.getD_eq_getElem?_getD, List.getElem?_eq_getElem hr, Option.getD_some, ← List.drop_eq_getElem_cons hr, List.take_append_drop]
  have e2 : ((dropsL W H).take r).filter (lastP P O) = [] := by
    rw [List.filter_eq_nil_iff]
    intro a ha
    obtain ⟨k, hk, rfl⟩ := List.mem_iff_getElem.1 ha
    simp only [List.length_take] at hk
    have := h0 k (by omega)
    rw [List.getD_eq_getElem?_getD, List.getElem?_eq_getElem (by omega)] at this
    simpa using this
  conv => lhs; rw [e1]
  rw [List.filter_append, e2, List.nil_append, List.filter_cons, if_pos h1]
theorem front_none {P : Pc} {W H : Nat} {O : Gr} (h : ∀ j, j < (dropsL W H).length → lastP P O ((dropsL W H).getD j (0, 0, 0)) = false) : frontL P W H O = [] := by
  unfold frontL
  rw [List.filter_eq_nil_iff]
  intro a ha
  obtain ⟨k, hk, rfl⟩ := List.mem_iff_getElem.1 ha
  have := h k hk
  rw [List.getD_eq_getElem?_getD, List.getElem?_eq_getElem hk] at this
  simpa using this
theorem rev_getD (D : List Dr) {q : Nat} (h : q < D.length) : D.reverse.getD q (0, 0, 0) = D.getD (D.length - 1 - q) (0, 0, 0) := by
  rw [List.getD_eq_getElem?_getD, List.getD_eq_getElem?_getD, List.getElem?_reverse h]
theorem dropsC_z (D : List Dr) (q e : Nat) (he : e < 3) : dropsC D (q * 3 + e) = cl [.int .i8 (D.getD q (0, 0, 0)).1, .int .i8 (D.getD q (0, 0, 0)).2.1, .int .u8 (D.getD q (0, 0, 0)).2.2] e := by
  rcases (by omega : e = 0 ∨ e = 1 ∨ e = 2) with rfl | rfl | rfl
  · exact dropsC_0 D q
  · exact dropsC_1 D q
  · exact dropsC_2 D q
section
variable (cx : Cx) (h : List (Nat × Seg)) (n : Nat)
theorem back7_E (j cap : Nat) (D : List Dr) (s : Seg) (hs : hget h j = some s) (hj : j < n) (hD : DrAt s D) (hm9 : D.length ≤ 1000) (K : HK)
    (hK : ∀ cap, K (.sl n 0 D.reverse.length cap) ((n, ⟨D.reverse.length * 3, dropsC D.reverse, true, none⟩) :: h) (n + 1)) :
    CallE Tryz.prog cx 37 [.sl j 0 D.length cap] h n K := by
  refine CallE.dropsE D.reverse hK ?_
  have hn := hD.1
  have hRl : D.reverse.length = D.length := List.length_reverse
  refine callE_of_T (P := Tryz.prog) hti (nt := 21) (rs := [.tmp 2]) rfl rfl Tryz.call37 Tryz.func37 rfl _ (by simp only [go_sem, and_self]) (Nat.le_of_ble_eq_true rfl) _ fun hok => ?_
  simp only [go_sem, Nat.reduceLT, Nat.reduceMul]
  refine T_lp (ι := { p : Nat × Nat // p.1 ≤ D.length ∧ p.1 ≤ p.2 ∧ p.2 ≤ maxLen })
    (fun p => ([(0, .sl j 0 D.length cap), (3, .sl n 0 p.1.1 p.1.2), (4, .int .i64 ((D.length : Int) - 1 - p.1.1))], (n, ⟨p.1.1 * 3, dropsC D.reverse, true, some (48, p.1.2 * 3)⟩) :: h, n + 1)) (fun p => D.length - p.1.1) ⟨(0, 0), by simp⟩ ?_ ?_
  · refine Imp.id (by simp) ?_ ?_
    · simp only [go_sem, Nat.reduceLT, w64 (n := (D.length : Int) - 1) (by omega), Int.natCast_zero, Int.sub_zero]
      (repeat' apply And.intro) <;> first | omega | rfl | trivial | assumption | skip
    · exact impH.cons0 (hget_hit _ _ _) (by simp) (SegLe.flat (by simp) id (.inr (by simp)) fun k hk => by simp at hk) (impH.base0 hok (by simp) (by simp only [go_sem, HExt_cons]))
  · rintro ⟨⟨q, cap1⟩, hq, hcap, hmx⟩
    simp only at hq hcap hmx
    simp only [go_sem, Nat.reduceLT, decide_eq_true_eq, decide_eq_false_iff_not]
    refine ⟨fun h1 => ?_, fun h1 => ?_⟩
    · obtain ⟨m, hm⟩ : ∃ m : Nat, D.length = q + 1 + m := ⟨D.length - q - 1, by omega⟩
      have hv : (D.length : Int) - 1 - q = (m : Int) := by omega
      have r1 : (0 : Int) ≤ m ∧ (m : Int) < D.length := ⟨by omega, by omega⟩
      have b1 : m * 3 ≤ s.n - 3 := by omega
      have b3 : 3 ≤ s.n := by omega
      have b6 : m * 3 + 3 ≤ s.n := by omega
      have hd2 : hdel h n = h := hok.del (by omega)
      simp only [go_sem, Nat.reduceLT, Nat.reduceLeDiff, Nat.reduceMul, Nat.reduceSub, Nat.reduceMod, reduceIte, hv, hs, hj, r1, b1, b3, b6, hD.c0 (j := m) (by omega), hD.c1 (j := m) (by omega), hD.c2 (j := m) (by omega), hd2]
      refine ⟨⟨hcap, hmx, by omega⟩, fun cap' h3 h4 => ⟨⟨(q + 1, cap'), by omega, h3, h4⟩, by show D.length - (q + 1) < D.length - q; omega, ?_⟩⟩
      refine Imp.of1 n (n + 2) (by simp) (by omega) (by simp) ?_ ?_
      · simp only [go_sem, Nat.reduceLT, hj, w64 (n := (m : Int) - 1) (by omega), show ((D.length : Int) - 1 - ((q + 1 : Nat) : Int)) = (m : Int) - 1 by omega]
        (repeat' apply And.intro) <;> first | omega | rfl | trivial | assumption | skip
      · refine impH.cons1 (hget_hit _ _ _) (by simp) (SegLe.flat (Nat.le_refl _) id (.inr rfl) fun z hz => ⟨?_, dropsC_flat _ _⟩) (impH.base1 hok (by simp) (Nat.le_refl n) (by simp only [go_sem, HExt_cons]))
        have hz : z < (q + 1) * 3 := hz
        show both (q * 3) (dropsC D.reverse) (news _ 0) z = dropsC D.reverse z
        unfold both news
        split
        · rfl
        · obtain ⟨e, rfl⟩ : ∃ e, z = q * 3 + e := ⟨z - q * 3, by omega⟩
          rw [Nat.add_sub_cancel_left, Nat.zero_add, dropsC_z _ _ _ (by omega), rev_getD D (by omega), show D.length - 1 - q = m by omega]
          rcases (by omega : e = 0 ∨ e = 1 ∨ e = 2) with rfl | rfl | rfl <;> rfl
    · have hq2 : q = D.length := by omega
      subst hq2
      rw [hRl]
      exact ⟨n, cap1, Nat.le_refl _, rfl, _, (by first | (simp only [go_sem]; done) | (simp only [go_sem]; rfl)), rfl, rfl, fun _ _ => rfl⟩
/-- A list with its first and last q turned round. -/
def revL (D : List Dr) (q : Nat) : List Dr := (List.range D.length).map fun z => if z < q ∨ D.length ≤ z + q then D.getD (D.length - 1 - z) (0, 0, 0) else D.getD z (0, 0, 0)
theorem revL_get (D : List Dr) (q z : Nat) (h : z < D.length) : (revL D q).getD z (0, 0, 0) = if z < q ∨ D.length ≤ z + q then D.getD (D.length - 1 - z) (0, 0, 0) else D.getD z (0, 0, 0) := by simp [revL, List.getD_eq_getElem?_getD, h]
end
end Go.Proofs.YtcjgpkhdlobbbaaGreat.V

/- The search for the fewest drops, as plain data. -/
namespace Go.Proofs.YtcjgpkhdlobbbaaGreat.V
abbrev Sr := Option (List Dr) × Nat × Bool
def goL (f : Gr → Nat → Sr) (P : Pc) (most : Nat) (O : Gr) : List Dr → Nat → Sr
  | [], t => (none, t, false)
  | d :: R, t => if t = most then (none, t, true) else
    match f (openBy O (covL P.wide P.high d.1 d.2.1)) (t + 1) with
    | (some X, t', s') => (some (d :: X), t', s')
    | (none, t', true) => (none, t', true)
    | (none, t', false) => goL f P most O R t'
def srch (P : Pc) (W H most : Nat) : Nat → Gr → Nat → Sr
  | 0, O, t => if leftN P O W (H * W) = 0 then (some [], t, false) else (none, t, false)
  | m + 1, O, t => if leftN P O W (H * W) = 0 then (some [], t, false) else if 5 * (m + 1) < leftN P O W (H * W) then (none, t, false) else goL (srch P W H most m) P most O (frontL P W H O) t
theorem goL_stop {f : Gr → Nat → Sr} {P : Pc} {most : Nat} {O : Gr} {d : Dr} {R : List Dr} : goL f P most O (d :: R) most = (none, most, true) := by rw [goL, if_pos rfl]
theorem goL_some {f : Gr → Nat → Sr} {P : Pc} {most : Nat} {O : Gr} {d : Dr} {R X : List Dr} {t t' : Nat} {s' : Bool} (h : t ≠ most) (hf : f (openBy O (covL P.wide P.high d.1 d.2.1)) (t + 1) = (some X, t', s')) : goL f P most O (d :: R) t = (some (d :: X), t', s') := by rw [goL, if_neg h, hf]
theorem goL_halt {f : Gr → Nat → Sr} {P : Pc} {most : Nat} {O : Gr} {d : Dr} {R : List Dr} {t t' : Nat} (h : t ≠ most) (hf : f (openBy O (covL P.wide P.high d.1 d.2.1)) (t + 1) = (none, t', true)) : goL f P most O (d :: R) t = (none, t', true) := by rw [goL, if_neg h, hf]
theorem goL_next {f : Gr → Nat → Sr} {P : Pc} {most : Nat} {O : Gr} {d : Dr} {R : List Dr} {t t' : Nat} (h : t ≠ most) (hf : f (openBy O (covL P.wide P.high d.1 d.2.1)) (t + 1) = (none, t', false)) : goL f P most O (d :: R) t = goL f P most O R t' := by rw [goL, if_neg h, hf]
/-- What a search gives: no more tries than allowed, a list no longer than asked, never both found and stopped. -/
def SrOk (most m : Nat) (r : Sr) : Prop := r.2.1 ≤ most ∧ (∀ X, r.1 = some X → X.length ≤ m ∧ r.2.2 = false)
theorem goL_ok {f : Gr → Nat → Sr} {P : Pc} {most m : Nat} (hf : ∀ O t, t ≤ most → SrOk most m (f O t)) (O : Gr) : ∀ (L : List Dr) (t : Nat), t ≤ most → SrOk most (m + 1) (goL f P most O L t)
  | [], t, ht => ⟨ht, fun X h => by cases h⟩
  | d :: R, t, ht => by
    by_cases e : t = most
    · subst e; rw [goL_stop]; exact ⟨Nat.le_refl _, fun X h => by cases h⟩
    · have hr := hf (openBy O (covL P.wide P.high d.1 d.2.1)) (t + 1) (by omega)
      match hfe : f (openBy O (covL P.wide P.high d.1 d.2.1)) (t + 1), hr with
      | (some X, t', s'), hr =>
        rw [goL_some e hfe]
        exact ⟨hr.1, fun Y hY => by cases hY; exact ⟨by have := (hr.2 X rfl).1; simp only [List.length_cons]; omega, (hr.2 X rfl).2⟩⟩
      | (none, t', true), hr => rw [goL_halt e hfe]; exact ⟨hr.1, fun X h => by cases h⟩
      | (none, t', false), hr => rw [goL_next e hfe]; exact goL_ok hf O R t' hr.1
theorem srch_ok (P : Pc) (W H most : Nat) : ∀ (m : Nat) (O : Gr) (t : Nat), t ≤ most → SrOk most m (srch P W H most m O t)
  | 0, O, t, ht => by
    rw [srch]
    split
    · exact ⟨ht, fun X h => by cases h; exact ⟨Nat.le_refl _, rfl⟩⟩
    · exact ⟨ht, fun X h => by cases h⟩
  | m + 1, O, t, ht => by
    rw [srch]
    split
    · exact ⟨ht, fun X h => by cases h; exact ⟨Nat.zero_le _, rfl⟩⟩
    · split
      · exact ⟨ht, fun X h => by cases h⟩
      · exact goL_ok (fun O t ht => srch_ok P W H most m O t ht) O _ t ht
theorem srch_0 {P : Pc} {W H most m : Nat} {O : Gr} {t : Nat} (h : leftN P O W (H * W) = 0) : srch P W H most m O t = (some [], t, false) := by
  cases m <;> rw [srch, if_pos h]
theorem srch_far {P : Pc} {W H most m : Nat} {O : Gr} {t : Nat} (h : leftN P O W (H * W) ≠ 0) (h5 : 5 * m < leftN P O W (H * W)) : srch P W H most m O t = (none, t, false) := by
  cases m
  · rw [srch, if_neg h]
  · rw [srch, if_neg h, if_pos h5]
theorem srch_go {P : Pc} {W H most m : Nat} {O : Gr} {t : Nat} (h : leftN P O W (H * W) ≠ 0) (h5 : ¬ 5 * (m + 1) < leftN P O W (H * W)) : srch P W H most (m + 1) O t = goL (srch P W H most m) P most O (frontL P W H O) t := by
  rw [srch, if_neg h, if_neg h5]
abbrev Fr := List Dr × Int × Int
def fewL (P : Pc) (W H most : Nat) : Nat → Nat → Nat → Fr
  | 0, _, _ => ([], 0, 6)
  | k + 1, m, t => match srch P W H most m off t with
    | (some X, t', _) => (X.reverse, t', 0)
    | (none, _, true) => ([], 0, 7)
    | (none, t', false) => fewL P W H most k (m + 1) t'
theorem fewL_some {P : Pc} {W H most k m t t' : Nat} {s : Bool} {X : List Dr} (h : srch P W H most m off t = (some X, t', s)) : fewL P W H most (k + 1) m t = (X.reverse, (t' : Int), 0) := by rw [fewL, h]
theorem fewL_stop {P : Pc} {W H most k m t t' : Nat} (h : srch P W H most m off t = (none, t', true)) : fewL P W H most (k + 1) m t = ([], 0, 7) := by rw [fewL, h]
theorem fewL_next {P : Pc} {W H most k m t t' : Nat} (h : srch P W H most m off t = (none, t', false)) : fewL P W H most (k + 1) m t = fewL P W H most k (m + 1) t' := by rw [fewL, h]
theorem fewL_len (P : Pc) (W H most : Nat) : ∀ k m t, t ≤ most → k + m ≤ 9 → (fewL P W H most k m t).1.length ≤ 9
  | 0, _, _, _, _ => by simp [fewL]
  | k + 1, m, t, ht, hk => by
    have ho := srch_ok P W H most m off t ht
    rcases hr : srch P W H most m off t with ⟨_ | X, t', s⟩
    · cases s
      · rw [fewL_next hr]; rw [hr] at ho; exact fewL_len P W H most k (m + 1) t' ho.1 (by omega)
      · rw [fewL_stop hr]; simp
    · rw [fewL_some hr]; rw [hr] at ho
      have := (ho.2 X rfl).1
      simp only [List.length_reverse]; omega
noncomputable def fewR (P : Pc) (b : Int) : Fr := haveI := Classical.propDecidable
  if pcokB P then (if 0 ≤ b ∧ b ≤ 20000 then fewL P P.wide.toNat P.high.toNat b.toNat 9 0 0 else ([], 0, 2)) else ([], 0, 1)
theorem fewR_1 {P : Pc} {b : Int} (h : ¬ pcokB P = true) : fewR P b = ([], 0, 1) := by unfold fewR; rw [if_neg h]
theorem fewR_2 {P : Pc} {b : Int} (h : pcokB P = true) (hb : ¬ (0 ≤ b ∧ b ≤ 20000)) : fewR P b = ([], 0, 2) := by unfold fewR; rw [if_pos h, if_neg hb]
theorem fewR_0 {P : Pc} {b : Int} (h : pcokB P = true) (hb : 0 ≤ b ∧ b ≤ 20000) : fewR P b = fewL P P.wide.toNat P.high.toNat b.toNat 9 0 0 := by unfold fewR; rw [if_pos h, if_pos hb]
theorem fewR_len (P : Pc) (b : Int) : (fewR P b).1.length ≤ 9 := by
  by_cases h : pcokB P = true
  · by_cases hb : 0 ≤ b ∧ b ≤ 20000
    · rw [fewR_0 h hb]; exact fewL_len _ _ _ _ _ _ _ (Nat.zero_le _) (by omega)
    · rw [fewR_2 h hb]; simp
  · rw [fewR_1 h]; simp
end Go.Proofs.YtcjgpkhdlobbbaaGreat.V
