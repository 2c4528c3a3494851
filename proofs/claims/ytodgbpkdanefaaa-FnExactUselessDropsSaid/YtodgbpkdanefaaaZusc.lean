/- Part 3 of the texts that this proof stands on: a symbolic walk over the program, what its functions and the reference's do, plain laws. -/
import Derived.Test.YtodgbpkdanefaaaZusa
import Derived.Test.YtodgbpkdanefaaaV17
import Derived.Test.YtodgbpkdanefaaaZusb
set_option linter.all false

/- Comparing spots; the library's small functions. -/
namespace Go.Proofs.Ytodgbpkdanefaaa.V
def cmp8 (a b : Int) : Int := if a < b then -1 else if b < a then 1 else 0
def cmpSp (a b : Int × Int) : Int := if cmp8 a.2 b.2 ≠ 0 then cmp8 a.2 b.2 else cmp8 a.1 b.1
theorem cmpSp_lt (a b : Int × Int) : decide (cmpSp a b < 0) = ltSp a b := by
  unfold cmpSp cmp8 ltSp
  by_cases h1 : a.2 < b.2
  · simp [h1]
  · by_cases h2 : b.2 < a.2
    · have : ¬ a.2 = b.2 := by omega
      simp [h1, h2, this]
    · have : a.2 = b.2 := by omega
      by_cases h3 : a.1 < b.1
      · simp [h1, h2, h3, this]
      · by_cases h4 : b.1 < a.1 <;> simp [h1, h2, h3, h4, this]
theorem bt_in (s : ByteArray) (j : Int) : 0 ≤ bt s j ∧ bt s j < 256 := by
  unfold bt
  have := ((s[j.toNat]?).getD 0).toNat_lt
  omega
section
variable (cx : Cx) (h : List (Nat × Seg)) (n : Nat)
theorem isNaN8_Q (a : Int) : CallQ Try.prog cx 118 [.int .i8 a] h n (.bool false) := by
  refine callQ_of_T (P := Try.prog) hti (nt := 6) (rs := [.tmp 2]) rfl rfl Try.call118 Try.func118 rfl _ (by simp only [go_sem, and_self]) (Nat.le_of_ble_eq_true rfl) _ (by first | exact trivial | (refine lt_flat rfl ?_; simp [SV.flat]; done) | simp only [go_sem]) fun hok => ?_
  simp only [go_sem, Nat.reduceBEq, Nat.reduceLT, Nat.reduceLeDiff, Nat.reduceAdd, Nat.reduceMul, Nat.reduceSub, Nat.reduceMod, Nat.reduceDiv, Nat.reduceEqDiff, Int.reduceToNat, reduceIte, reduceCtorEq, Int.reduceLE, Int.reduceLT, Int.reduceEq, Int.reduceNeg, Int.reduceAdd, Int.reduceSub, Int.reduceMul]
theorem compare8_Q (a b : Int) : CallQ Try.prog cx 106 [.int .i8 a, .int .i8 b] h n (.int .i64 (cmp8 a b)) := by
  refine callQ_of_T (P := Try.prog) hti (nt := 20) (rs := [.tmp 4]) rfl rfl Try.call106 Try.func106 rfl _ (by simp only [go_sem, and_self]) (Nat.le_of_ble_eq_true rfl) _ (by first | exact trivial | (refine lt_flat rfl ?_; simp [SV.flat]; done) | simp only [go_sem]) fun hok => ?_
  simp only [go_sem, Nat.reduceBEq, Nat.reduceLT, Nat.reduceLeDiff, Nat.reduceAdd, Nat.reduceMul, Nat.reduceSub, Nat.reduceMod, Nat.reduceDiv, Nat.reduceEqDiff, Int.reduceToNat, reduceIte, reduceCtorEq, Int.reduceLE, Int.reduceLT, Int.reduceEq, Int.reduceNeg, Int.reduceAdd, Int.reduceSub, Int.reduceMul]
  refine (isNaN8_Q _ _ _ a).A ?_
  simp only [go_sem, Nat.reduceBEq, Nat.reduceLT, Nat.reduceLeDiff, Nat.reduceAdd, Nat.reduceMul, Nat.reduceSub, Nat.reduceMod, Nat.reduceDiv, Nat.reduceEqDiff, Int.reduceToNat, reduceIte, reduceCtorEq, Int.reduceLE, Int.reduceLT, Int.reduceEq, Int.reduceNeg, Int.reduceAdd, Int.reduceSub, Int.reduceMul]
  refine (isNaN8_Q _ _ _ b).A ?_
  simp only [go_sem, Nat.reduceBEq, Nat.reduceLT, Nat.reduceLeDiff, Nat.reduceAdd, Nat.reduceMul, Nat.reduceSub, Nat.reduceMod, Nat.reduceDiv, Nat.reduceEqDiff, Int.reduceToNat, reduceIte, reduceCtorEq, Int.reduceLE, Int.reduceLT, Int.reduceEq, Int.reduceNeg, Int.reduceAdd, Int.reduceSub, Int.reduceMul]
  unfold cmp8
  by_cases h1 : a < b
  · simp only [go_sem, Nat.reduceBEq, Nat.reduceLT, Nat.reduceLeDiff, Nat.reduceAdd, Nat.reduceMul, Nat.reduceSub, Nat.reduceMod, Nat.reduceDiv, Nat.reduceEqDiff, Int.reduceToNat, reduceIte, reduceCtorEq, Int.reduceLE, Int.reduceLT, Int.reduceEq, Int.reduceNeg, Int.reduceAdd, Int.reduceSub, Int.reduceMul, h1]
  · by_cases h2 : b < a
    · simp only [go_sem, Nat.reduceBEq, Nat.reduceLT, Nat.reduceLeDiff, Nat.reduceAdd, Nat.reduceMul, Nat.reduceSub, Nat.reduceMod, Nat.reduceDiv, Nat.reduceEqDiff, Int.reduceToNat, reduceIte, reduceCtorEq, Int.reduceLE, Int.reduceLT, Int.reduceEq, Int.reduceNeg, Int.reduceAdd, Int.reduceSub, Int.reduceMul, h1, h2]
    · simp only [go_sem, Nat.reduceBEq, Nat.reduceLT, Nat.reduceLeDiff, Nat.reduceAdd, Nat.reduceMul, Nat.reduceSub, Nat.reduceMod, Nat.reduceDiv, Nat.reduceEqDiff, Int.reduceToNat, reduceIte, reduceCtorEq, Int.reduceLE, Int.reduceLT, Int.reduceEq, Int.reduceNeg, Int.reduceAdd, Int.reduceSub, Int.reduceMul, h1, h2]
theorem orI_Q (i cap : Nat) (s : Seg) (a b : Int) (hs : hget h i = some s) (hi : i < n) (hn : s.n = 2) (h0 : s.c 0 = .int .i64 a) (h1 : s.c 1 = .int .i64 b) : CallQ Try.prog cx 105 [.sl i 0 2 cap] h n (.int .i64 (if a ≠ 0 then a else b)) := by
  refine callQ_of_T (P := Try.prog) hti (nt := 18) (rs := [.tmp 2]) rfl rfl Try.call105 Try.func105 rfl _ (by simp only [go_sem, and_self]) (Nat.le_of_ble_eq_true rfl) _ (by first | exact trivial | (refine lt_flat rfl ?_; simp [SV.flat]; done) | simp only [go_sem]) fun hok => ?_
  simp only [go_sem, Nat.reduceBEq, Nat.reduceLT, Nat.reduceLeDiff, Nat.reduceAdd, Nat.reduceMul, Nat.reduceSub, Nat.reduceMod, Nat.reduceDiv, Nat.reduceEqDiff, Int.reduceToNat, reduceIte, reduceCtorEq, Int.reduceLE, Int.reduceLT, Int.reduceEq, Int.reduceNeg, Int.reduceAdd, Int.reduceSub, Int.reduceMul]
  refine T_unroll 2 ?_
  simp only [go_sem, Nat.reduceBEq, Nat.reduceLT, Nat.reduceLeDiff, Nat.reduceAdd, Nat.reduceMul, Nat.reduceSub, Nat.reduceMod, Nat.reduceDiv, Nat.reduceEqDiff, Int.reduceToNat, reduceIte, reduceCtorEq, Int.reduceLE, Int.reduceLT, Int.reduceEq, Int.reduceNeg, Int.reduceAdd, Int.reduceSub, Int.reduceMul, hs, hi, hn, h0]
  by_cases ha : a = 0
  · simp only [go_sem, Nat.reduceBEq, Nat.reduceLT, Nat.reduceLeDiff, Nat.reduceAdd, Nat.reduceMul, Nat.reduceSub, Nat.reduceMod, Nat.reduceDiv, Nat.reduceEqDiff, Int.reduceToNat, reduceIte, reduceCtorEq, Int.reduceLE, Int.reduceLT, Int.reduceEq, Int.reduceNeg, Int.reduceAdd, Int.reduceSub, Int.reduceMul, ha]
    refine U_step ?_
    simp only [go_sem, Nat.reduceBEq, Nat.reduceLT, Nat.reduceLeDiff, Nat.reduceAdd, Nat.reduceMul, Nat.reduceSub, Nat.reduceMod, Nat.reduceDiv, Nat.reduceEqDiff, Int.reduceToNat, reduceIte, reduceCtorEq, Int.reduceLE, Int.reduceLT, Int.reduceEq, Int.reduceNeg, Int.reduceAdd, Int.reduceSub, Int.reduceMul, hs, hi, hn, h1]
    by_cases hb : b = 0
    · simp only [go_sem, Nat.reduceBEq, Nat.reduceLT, Nat.reduceLeDiff, Nat.reduceAdd, Nat.reduceMul, Nat.reduceSub, Nat.reduceMod, Nat.reduceDiv, Nat.reduceEqDiff, Int.reduceToNat, reduceIte, reduceCtorEq, Int.reduceLE, Int.reduceLT, Int.reduceEq, Int.reduceNeg, Int.reduceAdd, Int.reduceSub, Int.reduceMul, hb]
      refine U_step ?_
      simp only [go_sem, Nat.reduceBEq, Nat.reduceLT, Nat.reduceLeDiff, Nat.reduceAdd, Nat.reduceMul, Nat.reduceSub, Nat.reduceMod, Nat.reduceDiv, Nat.reduceEqDiff, Int.reduceToNat, reduceIte, reduceCtorEq, Int.reduceLE, Int.reduceLT, Int.reduceEq, Int.reduceNeg, Int.reduceAdd, Int.reduceSub, Int.reduceMul, not_true, if_false]
    · simp only [go_sem, Nat.reduceBEq, Nat.reduceLT, Nat.reduceLeDiff, Nat.reduceAdd, Nat.reduceMul, Nat.reduceSub, Nat.reduceMod, Nat.reduceDiv, Nat.reduceEqDiff, Int.reduceToNat, reduceIte, reduceCtorEq, Int.reduceLE, Int.reduceLT, Int.reduceEq, Int.reduceNeg, Int.reduceAdd, Int.reduceSub, Int.reduceMul, hb, not_true, if_false]
  · simp only [go_sem, Nat.reduceBEq, Nat.reduceLT, Nat.reduceLeDiff, Nat.reduceAdd, Nat.reduceMul, Nat.reduceSub, Nat.reduceMod, Nat.reduceDiv, Nat.reduceEqDiff, Int.reduceToNat, reduceIte, reduceCtorEq, Int.reduceLE, Int.reduceLT, Int.reduceEq, Int.reduceNeg, Int.reduceAdd, Int.reduceSub, Int.reduceMul, ha, not_false_eq_true, if_true]
theorem inOrder_Q (a b : Int × Int) : CallQ Try.prog cx 97 [spot a.1 a.2, spot b.1 b.2] h n (.int .i64 (cmpSp a b)) := by
  refine callQ_of_T (P := Try.prog) hti (nt := 17) (rs := [.tmp 4]) rfl rfl Try.call97 Try.func97 rfl _ (by simp only [go_sem, and_self]) (Nat.le_of_ble_eq_true rfl) _ (by first | exact trivial | (refine lt_flat rfl ?_; simp [SV.flat]; done) | simp only [go_sem]) fun hok => ?_
  simp only [go_sem, Nat.reduceBEq, Nat.reduceLT, Nat.reduceLeDiff, Nat.reduceAdd, Nat.reduceMul, Nat.reduceSub, Nat.reduceMod, Nat.reduceDiv, Nat.reduceEqDiff, Int.reduceToNat, reduceIte, reduceCtorEq, Int.reduceLE, Int.reduceLT, Int.reduceEq, Int.reduceNeg, Int.reduceAdd, Int.reduceSub, Int.reduceMul]
  refine T_drawG hti 13 [] (.b 0 0 (.b 0 1 (.b 0 2 (.b 0 3 (.b 0 5 (.b 0 6 (.b 0 7 (.b 0 8 (.b 1 4 (.b 1 9 (.b 2 10 (.b 1 11 (.b 0 12 (.f) .o) .o) .o) .o) .o) .o) .o) .o) .o) .o) .o) .o) .o) _ _ (by kernel_rfl) (by kernel_rfl) ?_
  simp only [go_sem, Nat.reduceBEq, Nat.reduceLT, Nat.reduceLeDiff, Nat.reduceAdd, Nat.reduceMul, Nat.reduceSub, Nat.reduceMod, Nat.reduceDiv, Nat.reduceEqDiff, Int.reduceToNat, reduceIte, reduceCtorEq, Int.reduceLE, Int.reduceLT, Int.reduceEq, Int.reduceNeg, Int.reduceAdd, Int.reduceSub, Int.reduceMul]
  refine CallQ.F _ (fun h' n' hn hx => compare8_Q _ h' n' a.2 b.2) ?_
  simp only [go_sem, Nat.reduceBEq, Nat.reduceLT, Nat.reduceLeDiff, Nat.reduceAdd, Nat.reduceMul, Nat.reduceSub, Nat.reduceMod, Nat.reduceDiv, Nat.reduceEqDiff, Int.reduceToNat, reduceIte, reduceCtorEq, Int.reduceLE, Int.reduceLT, Int.reduceEq, Int.reduceNeg, Int.reduceAdd, Int.reduceSub, Int.reduceMul]
  refine CallQ.F _ (fun h' n' hn hx => compare8_Q _ h' n' a.1 b.1) ?_
  simp only [go_sem, Nat.reduceBEq, Nat.reduceLT, Nat.reduceLeDiff, Nat.reduceAdd, Nat.reduceMul, Nat.reduceSub, Nat.reduceMod, Nat.reduceDiv, Nat.reduceEqDiff, Int.reduceToNat, reduceIte, reduceCtorEq, Int.reduceLE, Int.reduceLT, Int.reduceEq, Int.reduceNeg, Int.reduceAdd, Int.reduceSub, Int.reduceMul]
  refine CallQ.F _ (fun h' n' hn hx => orI_Q _ h' n' (n + 2) 2 _ _ _ (hx (n + 2) (by omega) _ (by simp only [go_sem, Nat.reduceBEq, Nat.reduceLT, Nat.reduceLeDiff, Nat.reduceAdd, Nat.reduceMul, Nat.reduceSub, Nat.reduceMod, Nat.reduceDiv, Nat.reduceEqDiff, Int.reduceToNat, reduceIte, reduceCtorEq, Int.reduceLE, Int.reduceLT, Int.reduceEq, Int.reduceNeg, Int.reduceAdd, Int.reduceSub, Int.reduceMul]; rfl)) (by omega) rfl rfl rfl) ?_
  simp only [go_sem, Nat.reduceBEq, Nat.reduceLT, Nat.reduceLeDiff, Nat.reduceAdd, Nat.reduceMul, Nat.reduceSub, Nat.reduceMod, Nat.reduceDiv, Nat.reduceEqDiff, Int.reduceToNat, reduceIte, reduceCtorEq, Int.reduceLE, Int.reduceLT, Int.reduceEq, Int.reduceNeg, Int.reduceAdd, Int.reduceSub, Int.reduceMul]
  rfl
theorem lenR_in (tab : ByteArray) (z k : Int) (hk : 0 ≤ k ∧ k ≤ 100) : 0 ≤ IntKind.i64.wrap (k + IntKind.i64.wrap (bt tab z)) ∧ IntKind.i64.wrap (k + IntKind.i64.wrap (bt tab z)) < 1000 := by
  have := bt_in tab z
  rw [w64 (n := bt tab z) (by omega), w64 (by omega)]
  omega
theorem u8_in (x : Int) : 0 ≤ IntKind.u8.wrap x ∧ IntKind.u8.wrap x < 256 := by
  simp [IntKind.wrap, IntKind.bits, IntKind.signed]; omega
set_option maxRecDepth 100000 in
theorem len64_E (x : Int) (K : HK) (hK : ∀ r : Int, 0 ≤ r ∧ r < 1000 → K (.int .i64 r) h n) : CallE Try.prog cx 117 [.int .u64 x] h n K := by
  by_cases h1 : 4294967296 ≤ x
  · by_cases h2 : 65536 ≤ shrI .u64 (x) 32
    · by_cases h3 : 256 ≤ shrI .u64 (shrI .u64 (x) 32) 16
      · refine callE_of_T (P := Try.prog) hti (nt := 25) (rs := [.tmp 2]) rfl rfl Try.call117 Try.func117 rfl _ (by simp only [go_sem, and_self]) (Nat.le_of_ble_eq_true rfl) _ fun hok => ?_
        simp only [go_sem, Nat.reduceBEq, Nat.reduceLT, Nat.reduceLeDiff, Nat.reduceAdd, Nat.reduceMul, Nat.reduceSub, Nat.reduceMod, Nat.reduceDiv, Nat.reduceEqDiff, Int.reduceToNat, reduceIte, reduceCtorEq, Int.reduceLE, Int.reduceLT, Int.reduceEq, Int.reduceNeg, Int.reduceAdd, Int.reduceSub, Int.reduceMul, h1, h2, h3]
        exact ⟨(u8_in (shrI .u64 (shrI .u64 (shrI .u64 (x) 32) 16) 8)).2, hK _ (lenR_in _ _ 56 (by omega))⟩
      · refine callE_of_T (P := Try.prog) hti (nt := 25) (rs := [.tmp 2]) rfl rfl Try.call117 Try.func117 rfl _ (by simp only [go_sem, and_self]) (Nat.le_of_ble_eq_true rfl) _ fun hok => ?_
        simp only [go_sem, Nat.reduceBEq, Nat.reduceLT, Nat.reduceLeDiff, Nat.reduceAdd, Nat.reduceMul, Nat.reduceSub, Nat.reduceMod, Nat.reduceDiv, Nat.reduceEqDiff, Int.reduceToNat, reduceIte, reduceCtorEq, Int.reduceLE, Int.reduceLT, Int.reduceEq, Int.reduceNeg, Int.reduceAdd, Int.reduceSub, Int.reduceMul, h1, h2, h3]
        exact ⟨(u8_in (shrI .u64 (shrI .u64 (x) 32) 16)).2, hK _ (lenR_in _ _ 48 (by omega))⟩
    · by_cases h3 : 256 ≤ shrI .u64 (x) 32
      · refine callE_of_T (P := Try.prog) hti (nt := 25) (rs := [.tmp 2]) rfl rfl Try.call117 Try.func117 rfl _ (by simp only [go_sem, and_self]) (Nat.le_of_ble_eq_true rfl) _ fun hok => ?_
        simp only [go_sem, Nat.reduceBEq, Nat.reduceLT, Nat.reduceLeDiff, Nat.reduceAdd, Nat.reduceMul, Nat.reduceSub, Nat.reduceMod, Nat.reduceDiv, Nat.reduceEqDiff, Int.reduceToNat, reduceIte, reduceCtorEq, Int.reduceLE, Int.reduceLT, Int.reduceEq, Int.reduceNeg, Int.reduceAdd, Int.reduceSub, Int.reduceMul, h1, h2, h3]
        exact ⟨(u8_in (shrI .u64 (shrI .u64 (x) 32) 8)).2, hK _ (lenR_in _ _ 40 (by omega))⟩
      · refine callE_of_T (P := Try.prog) hti (nt := 25) (rs := [.tmp 2]) rfl rfl Try.call117 Try.func117 rfl _ (by simp only [go_sem, and_self]) (Nat.le_of_ble_eq_true rfl) _ fun hok => ?_
        simp only [go_sem, Nat.reduceBEq, Nat.reduceLT, Nat.reduceLeDiff, Nat.reduceAdd, Nat.reduceMul, Nat.reduceSub, Nat.reduceMod, Nat.reduceDiv, Nat.reduceEqDiff, Int.reduceToNat, reduceIte, reduceCtorEq, Int.reduceLE, Int.reduceLT, Int.reduceEq, Int.reduceNeg, Int.reduceAdd, Int.reduceSub, Int.reduceMul, h1, h2, h3]
        exact ⟨(u8_in (shrI .u64 (x) 32)).2, hK _ (lenR_in _ _ 32 (by omega))⟩
  · by_cases h2 : 65536 ≤ x
    · by_cases h3 : 256 ≤ shrI .u64 (x) 16
      · refine callE_of_T (P := Try.prog) hti (nt := 25) (rs := [.tmp 2]) rfl rfl Try.call117 Try.func117 rfl _ (by simp only [go_sem, and_self]) (Nat.le_of_ble_eq_true rfl) _ fun hok => ?_
        simp only [go_sem, Nat.reduceBEq, Nat.reduceLT, Nat.reduceLeDiff, Nat.reduceAdd, Nat.reduceMul, Nat.reduceSub, Nat.reduceMod, Nat.reduceDiv, Nat.reduceEqDiff, Int.reduceToNat, reduceIte, reduceCtorEq, Int.reduceLE, Int.reduceLT, Int.reduceEq, Int.reduceNeg, Int.reduceAdd, Int.reduceSub, Int.reduceMul, h1, h2, h3]
        exact ⟨(u8_in (shrI .u64 (shrI .u64 (x) 16) 8)).2, hK _ (lenR_in _ _ 24 (by omega))⟩
      · refine callE_of_T (P := Try.prog) hti (nt := 25) (rs := [.tmp 2]) rfl rfl Try.call117 Try.func117 rfl _ (by simp only [go_sem, and_self]) (Nat.le_of_ble_eq_true rfl) _ fun hok => ?_
        simp only [go_sem, Nat.reduceBEq, Nat.reduceLT, Nat.reduceLeDiff, Nat.reduceAdd, Nat.reduceMul, Nat.reduceSub, Nat.reduceMod, Nat.reduceDiv, Nat.reduceEqDiff, Int.reduceToNat, reduceIte, reduceCtorEq, Int.reduceLE, Int.reduceLT, Int.reduceEq, Int.reduceNeg, Int.reduceAdd, Int.reduceSub, Int.reduceMul, h1, h2, h3]
        exact ⟨(u8_in (shrI .u64 (x) 16)).2, hK _ (lenR_in _ _ 16 (by omega))⟩
    · by_cases h3 : 256 ≤ x
      · refine callE_of_T (P := Try.prog) hti (nt := 25) (rs := [.tmp 2]) rfl rfl Try.call117 Try.func117 rfl _ (by simp only [go_sem, and_self]) (Nat.le_of_ble_eq_true rfl) _ fun hok => ?_
        simp only [go_sem, Nat.reduceBEq, Nat.reduceLT, Nat.reduceLeDiff, Nat.reduceAdd, Nat.reduceMul, Nat.reduceSub, Nat.reduceMod, Nat.reduceDiv, Nat.reduceEqDiff, Int.reduceToNat, reduceIte, reduceCtorEq, Int.reduceLE, Int.reduceLT, Int.reduceEq, Int.reduceNeg, Int.reduceAdd, Int.reduceSub, Int.reduceMul, h1, h2, h3]
        exact ⟨(u8_in (shrI .u64 (x) 8)).2, hK _ (lenR_in _ _ 8 (by omega))⟩
      · refine callE_of_T (P := Try.prog) hti (nt := 25) (rs := [.tmp 2]) rfl rfl Try.call117 Try.func117 rfl _ (by simp only [go_sem, and_self]) (Nat.le_of_ble_eq_true rfl) _ fun hok => ?_
        simp only [go_sem, Nat.reduceBEq, Nat.reduceLT, Nat.reduceLeDiff, Nat.reduceAdd, Nat.reduceMul, Nat.reduceSub, Nat.reduceMod, Nat.reduceDiv, Nat.reduceEqDiff, Int.reduceToNat, reduceIte, reduceCtorEq, Int.reduceLE, Int.reduceLT, Int.reduceEq, Int.reduceNeg, Int.reduceAdd, Int.reduceSub, Int.reduceMul, h1, h2, h3]
        exact ⟨(u8_in (x)).2, hK _ (lenR_in _ _ 0 (by omega))⟩
theorem len_E (x : Int) (K : HK) (hK : ∀ r : Int, 0 ≤ r ∧ r < 1000 → K (.int .i64 r) h n) : CallE Try.prog cx 104 [.int .u64 x] h n K := by
  refine callE_of_T (P := Try.prog) hti (nt := 8) (rs := [.tmp 2]) rfl rfl Try.call104 Try.func104 rfl _ (by simp only [go_sem, and_self]) (Nat.le_of_ble_eq_true rfl) _ fun hok => ?_
  simp only [go_sem, Nat.reduceBEq, Nat.reduceLT, Nat.reduceLeDiff, Nat.reduceAdd, Nat.reduceMul, Nat.reduceSub, Nat.reduceMod, Nat.reduceDiv, Nat.reduceEqDiff, Int.reduceToNat, reduceIte, reduceCtorEq, Int.reduceLE, Int.reduceLT, Int.reduceEq, Int.reduceNeg, Int.reduceAdd, Int.reduceSub, Int.reduceMul]
  refine callA_false (len64_E _ _ _ x _ fun r hr => ?_)
  simp only [go_sem, Nat.reduceBEq, Nat.reduceLT, Nat.reduceLeDiff, Nat.reduceAdd, Nat.reduceMul, Nat.reduceSub, Nat.reduceMod, Nat.reduceDiv, Nat.reduceEqDiff, Int.reduceToNat, reduceIte, reduceCtorEq, Int.reduceLE, Int.reduceLT, Int.reduceEq, Int.reduceNeg, Int.reduceAdd, Int.reduceSub, Int.reduceMul]
  exact hK r hr
end
end Go.Proofs.Ytodgbpkdanefaaa.V

/- The library's insertion sort over spots. -/
namespace Go.Proofs.Ytodgbpkdanefaaa.V
open Go.Sort (swp insInner insOuter insertionSort)

theorem bang_getD (d : Array (Int × Int)) (j : Nat) : d[j]! = d.toList.getD j (0, 0) := by
  rw [List.getD_eq_getElem?_getD, Array.getElem?_toList, getElem!_def]
  cases d[j]? <;> rfl
theorem swp_toList (d : Array (Int × Int)) (i j : Nat) : (swp d i j).toList = (d.toList.set i (d.toList.getD j (0, 0))).set j (d.toList.getD i (0, 0)) := by
  unfold swp
  rw [Array.toList_setIfInBounds, Array.toList_setIfInBounds, bang_getD, bang_getD]
theorem swp_size (d : Array (Int × Int)) (i j : Nat) : (swp d i j).size = d.size := by unfold swp; simp
/-- A spot stored. -/
theorem spots_store (L : List (Int × Int)) (k : Nat) (x : Int × Int) (hk : k < L.length) : (fun j => if k * 2 ≤ j ∧ j < k * 2 + 2 then cl [.int .i8 x.1, .int .i8 x.2] (j - k * 2) else spotsC L j) = spotsC (L.set k x) := by
  funext j
  by_cases h : k * 2 ≤ j ∧ j < k * 2 + 2
  · rw [if_pos h]
    have hg : (L.set k x).getD k (0, 0) = x := by simp [List.getD_eq_getElem?_getD, hk]
    rcases (by omega : j = k * 2 ∨ j = k * 2 + 1) with rfl | rfl
    · rw [spotsC_x, hg, Nat.sub_self]; rfl
    · rw [spotsC_y, hg, show k * 2 + 1 - k * 2 = 1 by omega]; rfl
  · rw [if_neg h]
    have hg : (L.set k x).getD (j / 2) (0, 0) = L.getD (j / 2) (0, 0) := by
      simp only [List.getD_eq_getElem?_getD, List.getElem?_set]; rw [if_neg (by omega)]
    unfold spotsC
    rw [hg]
/-- A function that compares spots. -/
def Cmps (cx : Cx) (h : List (Nat × Seg)) (n i f p q : Nat) (G F : Nat → SV) (cI : Int × Int → Int × Int → Int) : Prop :=
  ∀ (a b : Int × Int) nt n0 h' n', n ≤ n' → HBut i n h h' → CallQ Try.prog ⟨cx.w0, cx.W, nt, n0⟩ f (lst p G ++ [spot a.1 a.2, spot b.1 b.2] ++ lst q F) h' n' (.int .i64 (cI a b))
section
variable (cx : Cx) (h : List (Nat × Seg)) (n : Nat)
set_option maxRecDepth 100000 in
theorem insSort_E (i cap : Nat) (d : Array (Int × Int)) (own : Option (Nat × Nat)) (a b : Nat) (f p q : Nat) (G F : Nat → SV) (cI : Int × Int → Int × Int → Int) (lt : Int × Int → Int × Int → Bool) (hlt : ∀ x y, decide (cI x y < 0) = lt x y)
    (hs : hget h i = some ⟨d.size * 2, spotsC d.toList, true, own⟩) (hi : i < n) (hb : b ≤ d.size) (hab : a ≤ b) (hm9 : d.size ≤ 1000000000) (hF : (SV.fn f p G q F).lt n) (hcmp : Cmps cx h n i f p q G F cI) (K : HK)
    (hK : K (.tup 0 (cl [])) (hset h i ⟨d.size * 2, spotsC (insertionSort lt d a b).toList, true, own⟩) n) :
    CallE Try.prog cx 108 [.sl i 0 d.size cap, .int .i64 a, .int .i64 b, .fn f p G q F] h n K := by
  refine CallE.to _ _ (by simp only [go_sem, Nat.reduceBEq, Nat.reduceLT, Nat.reduceLeDiff, Nat.reduceAdd, Nat.reduceMul, Nat.reduceSub, Nat.reduceMod, Nat.reduceDiv, Nat.reduceEqDiff, Int.reduceToNat, reduceIte, reduceCtorEq, Int.reduceLE, Int.reduceLT, Int.reduceEq, Int.reduceNeg, Int.reduceAdd, Int.reduceSub, Int.reduceMul]) (fun hok => hok_set hok fun k hk => spotsC_flat _ _) hK ?_
  have hgi : ∀ t, hget (hset h i t) i = some t := hget_hset_self hs
  have hFl : (SV.fn f p G q F).lt n = True := eq_true hF
  refine callE_of_T (P := Try.prog) hti (nt := 53) (rs := []) rfl rfl Try.call108 Try.func108 rfl _ (by simp only [go_sem, and_self]) (Nat.le_of_ble_eq_true rfl) _ fun hok => ?_
  have ha9 : a ≤ 1000000000 := by omega
  simp only [go_sem, Nat.reduceBEq, Nat.reduceLT, Nat.reduceLeDiff, Nat.reduceAdd, Nat.reduceMul, Nat.reduceSub, Nat.reduceMod, Nat.reduceDiv, Nat.reduceEqDiff, Int.reduceToNat, reduceIte, reduceCtorEq, Int.reduceLE, Int.reduceLT, Int.reduceEq, Int.reduceNeg, Int.reduceAdd, Int.reduceSub, Int.reduceMul, w64 (n := (a : Int) + 1) (by omega)]
  refine T_lp (ι := { p : Nat × Array (Int × Int) // p.1 ≤ b + 1 ∧ a + 1 ≤ p.1 ∧ p.2.size = d.size ∧ insOuter lt a b p.1 p.2 = insertionSort lt d a b })
    (fun w => ([(0, .sl i 0 d.size cap), (1, .int .i64 a), (2, .int .i64 b), (3, .fn f p G q F), (8, .int .i64 w.1.1)], hset h i ⟨d.size * 2, spotsC w.1.2.toList, true, own⟩, n)) (fun w => b + 1 - w.1.1) ⟨(a + 1, d), by omega, Nat.le_refl _, rfl, rfl⟩ ?_ ?_
  · refine Imp.id (by simp) ?_ ?_
    · simp only [go_sem, Nat.reduceBEq, Nat.reduceLT, Nat.reduceLeDiff, Nat.reduceAdd, Nat.reduceMul, Nat.reduceSub, Nat.reduceMod, Nat.reduceDiv, Nat.reduceEqDiff, Int.reduceToNat, reduceIte, reduceCtorEq, Int.reduceLE, Int.reduceLT, Int.reduceEq, Int.reduceNeg, Int.reduceAdd, Int.reduceSub, Int.reduceMul, hFl, Int.natCast_add, Int.natCast_one]
      exact hi
    · rw [hset_self hs]; exact impH.base0 hok (by simp) HExt.rfl
  · rintro ⟨⟨k, D⟩, hk, hak, hD, hO⟩
    simp only at hk hak hD hO
    simp only [go_sem, Nat.reduceBEq, Nat.reduceLT, Nat.reduceLeDiff, Nat.reduceAdd, Nat.reduceMul, Nat.reduceSub, Nat.reduceMod, Nat.reduceDiv, Nat.reduceEqDiff, Int.reduceToNat, reduceIte, reduceCtorEq, Int.reduceLE, Int.reduceLT, Int.reduceEq, Int.reduceNeg, Int.reduceAdd, Int.reduceSub, Int.reduceMul, decide_eq_true_eq, decide_eq_false_iff_not]
    refine ⟨fun h1 => ?_, fun h1 => ?_⟩
    · have hkb : k < b := by omega
      refine T_lp (ι := { p : Nat × Array (Int × Int) // p.1 ≤ k ∧ a ≤ p.1 ∧ p.2.size = d.size ∧ insInner lt a p.1 p.2 = insInner lt a k D })
        (fun w => ([(0, .sl i 0 d.size cap), (1, .int .i64 a), (2, .int .i64 b), (3, .fn f p G q F), (8, .int .i64 k), (9, .int .i64 w.1.1)], hset h i ⟨d.size * 2, spotsC w.1.2.toList, true, own⟩, n)) (fun w => w.1.1) ⟨(k, D), Nat.le_refl _, by omega, hD, rfl⟩ ?_ ?_
      · refine Imp.id (by simp) ?_ ?_
        · simp only [go_sem, Nat.reduceBEq, Nat.reduceLT, Nat.reduceLeDiff, Nat.reduceAdd, Nat.reduceMul, Nat.reduceSub, Nat.reduceMod, Nat.reduceDiv, Nat.reduceEqDiff, Int.reduceToNat, reduceIte, reduceCtorEq, Int.reduceLE, Int.reduceLT, Int.reduceEq, Int.reduceNeg, Int.reduceAdd, Int.reduceSub, Int.reduceMul, hFl]
          exact hi
        · exact impH.base0 (hok_set hok fun k hk => spotsC_flat _ _) (by simp) HExt.rfl
      · rintro ⟨⟨j, E⟩, hj, haj, hE, hI⟩
        simp only at hj haj hE hI
        have hEl : E.toList.length = d.size := by rw [Array.length_toList]; exact hE
        simp only [go_sem, Nat.reduceBEq, Nat.reduceLT, Nat.reduceLeDiff, Nat.reduceAdd, Nat.reduceMul, Nat.reduceSub, Nat.reduceMod, Nat.reduceDiv, Nat.reduceEqDiff, Int.reduceToNat, reduceIte, reduceCtorEq, Int.reduceLE, Int.reduceLT, Int.reduceEq, Int.reduceNeg, Int.reduceAdd, Int.reduceSub, Int.reduceMul]
        by_cases hja : a < j
        rotate_left
        · have e1 : ((a : Int) < j) = False := eq_false (by omega)
          refine T_draw hti _ _ (by kernel_rfl) (by kernel_rfl) ?_
          simp only [go_sem, Nat.reduceBEq, Nat.reduceLT, Nat.reduceLeDiff, Nat.reduceAdd, Nat.reduceMul, Nat.reduceSub, Nat.reduceMod, Nat.reduceDiv, Nat.reduceEqDiff, Int.reduceToNat, reduceIte, reduceCtorEq, Int.reduceLE, Int.reduceLT, Int.reduceEq, Int.reduceNeg, Int.reduceAdd, Int.reduceSub, Int.reduceMul, e1]
          have e2 : insInner lt a j E = E := by
            cases j with
            | zero => rfl
            | succ j => unfold insInner; rw [if_neg (by simp; omega)]
          rw [e2] at hI
          refine ⟨⟨(k + 1, E), by show k + 1 ≤ b + 1; omega, by show a + 1 ≤ k + 1; omega, hE, ?_⟩, by show b + 1 - (k + 1) < b + 1 - k; omega, ?_⟩
          · rw [← hO]
            show insOuter lt a b (k + 1) E = _
            rw [insOuter.eq_1 lt a b k D, if_pos hkb, hI]
          · refine Imp.id (by simp) ?_ ?_
            · simp only [go_sem, Nat.reduceBEq, Nat.reduceLT, Nat.reduceLeDiff, Nat.reduceAdd, Nat.reduceMul, Nat.reduceSub, Nat.reduceMod, Nat.reduceDiv, Nat.reduceEqDiff, Int.reduceToNat, reduceIte, reduceCtorEq, Int.reduceLE, Int.reduceLT, Int.reduceEq, Int.reduceNeg, Int.reduceAdd, Int.reduceSub, Int.reduceMul, hFl, w64 (n := (k : Int) + 1) (by omega), Int.natCast_add, Int.natCast_one]
              exact hi
            · exact impH.base0 (hok_set hok fun k hk => spotsC_flat _ _) (by simp) HExt.rfl
        obtain ⟨j, rfl⟩ : ∃ j', j = j' + 1 := ⟨j - 1, by omega⟩
        have e1 : ((a : Int) < ((j + 1 : Nat) : Int)) = True := eq_true (by omega)
        have r1 : (0 : Int) ≤ (j : Int) + 1 ∧ (j : Int) + 1 < d.size := ⟨by omega, by omega⟩
        have r2 : (0 : Int) ≤ (j : Int) ∧ (j : Int) < d.size := ⟨by omega, by omega⟩
        have e2 : ((j : Int) + 1).toNat = j + 1 := by omega
        have b1 : (j + 1) * 2 ≤ d.size * 2 - 2 := by omega
        have b2 : (j + 1) * 2 + 2 ≤ d.size * 2 := by omega
        have b3 : j * 2 ≤ d.size * 2 - 2 := by omega
        have b4 : j * 2 + 2 ≤ d.size * 2 := by omega
        have b5 : 2 ≤ d.size * 2 := by omega
        have b6 : (2 = d.size * 2) = False := eq_false (by omega)
        have e1' : ((a : Int) < (j : Int) + 1) = True := eq_true (by omega)
        refine T_draw hti _ _ (by kernel_rfl) (by kernel_rfl) ?_
        simp only [go_sem, Nat.reduceBEq, Nat.reduceLT, Nat.reduceLeDiff, Nat.reduceAdd, Nat.reduceMul, Nat.reduceSub, Nat.reduceMod, Nat.reduceDiv, Nat.reduceEqDiff, Int.reduceToNat, reduceIte, reduceCtorEq, Int.reduceLE, Int.reduceLT, Int.reduceEq, Int.reduceNeg, Int.reduceAdd, Int.reduceSub, Int.reduceMul, hgi, hi, e1, e1', r1, r2, e2, b1, b2, b3, b4, b5, spotsC_x, spotsC_y, Int.natCast_add, Int.natCast_one, Int.add_sub_cancel, w64 (n := (j : Int)) (by omega)]
        refine (hcmp (E.toList.getD (j + 1) (0, 0)) (E.toList.getD j (0, 0)) _ _ _ _ (Nat.le_refl n) (HBut.set i n h _)).A ?_
        have hl := hlt (E.toList.getD (j + 1) (0, 0)) (E.toList.getD j (0, 0))
        by_cases hc : cI (E.toList.getD (j + 1) (0, 0)) (E.toList.getD j (0, 0)) < 0
        rotate_left
        · have e3 : insInner lt a (j + 1) E = E := by
            unfold insInner
            rw [bang_getD, bang_getD, ← hl, decide_eq_false hc, Bool.and_false]
            rfl
          rw [e3] at hI
          simp only [go_sem, Nat.reduceBEq, Nat.reduceLT, Nat.reduceLeDiff, Nat.reduceAdd, Nat.reduceMul, Nat.reduceSub, Nat.reduceMod, Nat.reduceDiv, Nat.reduceEqDiff, Int.reduceToNat, reduceIte, reduceCtorEq, Int.reduceLE, Int.reduceLT, Int.reduceEq, Int.reduceNeg, Int.reduceAdd, Int.reduceSub, Int.reduceMul, hc]
          refine ⟨⟨(k + 1, E), by show k + 1 ≤ b + 1; omega, by show a + 1 ≤ k + 1; omega, hE, ?_⟩, by show b + 1 - (k + 1) < b + 1 - k; omega, ?_⟩
          · rw [← hO]
            show insOuter lt a b (k + 1) E = _
            rw [insOuter.eq_1 lt a b k D, if_pos hkb, hI]
          · refine Imp.id (by simp) ?_ ?_
            · simp only [go_sem, Nat.reduceBEq, Nat.reduceLT, Nat.reduceLeDiff, Nat.reduceAdd, Nat.reduceMul, Nat.reduceSub, Nat.reduceMod, Nat.reduceDiv, Nat.reduceEqDiff, Int.reduceToNat, reduceIte, reduceCtorEq, Int.reduceLE, Int.reduceLT, Int.reduceEq, Int.reduceNeg, Int.reduceAdd, Int.reduceSub, Int.reduceMul, hFl, w64 (n := (k : Int) + 1) (by omega), Int.natCast_add, Int.natCast_one]
              exact hi
            · exact impH.base0 (hok_set hok fun k hk => spotsC_flat _ _) (by simp) HExt.rfl
        · have e3 : insInner lt a (j + 1) E = insInner lt a j (swp E (j + 1) j) := by
            show (if decide (j + 1 > a) && lt E[j + 1]! E[j]! then insInner lt a j (swp E (j + 1) j) else E) = _
            rw [bang_getD, bang_getD, ← hl, decide_eq_true hc]
            simp only [gt_iff_lt, hja, decide_true, Bool.and_true, if_true]
          rw [e3] at hI
          simp only [go_sem, Nat.reduceBEq, Nat.reduceLT, Nat.reduceLeDiff, Nat.reduceAdd, Nat.reduceMul, Nat.reduceSub, Nat.reduceMod, Nat.reduceDiv, Nat.reduceEqDiff, Int.reduceToNat, reduceIte, reduceCtorEq, Int.reduceLE, Int.reduceLT, Int.reduceEq, Int.reduceNeg, Int.reduceAdd, Int.reduceSub, Int.reduceMul, hc]
          refine T_drawG hti 18 [15, 17] (.b 0 0 (.b 0 1 (.b 0 2 (.b 0 3 (.b 0 4 (.b 0 5 (.b 0 6 (.b 0 7 (.b 0 8 (.b 0 9 (.b 0 10 (.b 0 11 (.b 0 12 (.b 0 13 (.b 0 14 (.b 4 15 (.b 0 16 (.b 4 17 (.f) .o) .o) .o) .o) .o) .o) .o) .o) .o) .o) .o) .o) .o) .o) .o) .o) .o) .o) _ _ (by kernel_rfl) (by kernel_rfl) ?_
          simp only [go_sem, Nat.reduceBEq, Nat.reduceLT, Nat.reduceLeDiff, Nat.reduceAdd, Nat.reduceMul, Nat.reduceSub, Nat.reduceMod, Nat.reduceDiv, Nat.reduceEqDiff, Int.reduceToNat, reduceIte, reduceCtorEq, Int.reduceLE, Int.reduceLT, Int.reduceEq, Int.reduceNeg, Int.reduceAdd, Int.reduceSub, Int.reduceMul, hgi, hi, r1, r2, e2, b1, b2, b3, b4, b5, b6, and_false, if_false, spotsC_x, spotsC_y, spots_store E.toList (j + 1) (E.toList.getD j (0, 0)) (by omega), Int.add_sub_cancel, w64 (n := (j : Int)) (by omega)]
          rw [spots_store (E.toList.set (j + 1) (E.toList.getD j (0, 0))) j (E.toList.getD (j + 1) (0, 0)) (by rw [List.length_set]; omega), ← swp_toList]
          refine ⟨⟨(j, swp E (j + 1) j), by show j ≤ k; omega, by show a ≤ j; omega, (swp_size _ _ _).trans hE, hI⟩, by show j < j + 1; omega, ?_⟩
          refine Imp.id (by simp) ?_ ?_
          · simp only [go_sem, Nat.reduceBEq, Nat.reduceLT, Nat.reduceLeDiff, Nat.reduceAdd, Nat.reduceMul, Nat.reduceSub, Nat.reduceMod, Nat.reduceDiv, Nat.reduceEqDiff, Int.reduceToNat, reduceIte, reduceCtorEq, Int.reduceLE, Int.reduceLT, Int.reduceEq, Int.reduceNeg, Int.reduceAdd, Int.reduceSub, Int.reduceMul, hFl]
            exact hi
          · exact impH.base0 (hok_set hok fun k hk => spotsC_flat _ _) (by simp) HExt.rfl
    · have hkb : ¬ k < b := by omega
      have e : D = insertionSort lt d a b := by rw [← hO]; unfold insOuter; rw [if_neg hkb]
      rw [e]
      exact HExt.rfl
theorem pdqFew_E (i cap : Nat) (L : List (Int × Int)) (own : Option (Nat × Nat)) (r : Int) (f p q : Nat) (G F : Nat → SV) (cI : Int × Int → Int × Int → Int) (hlt : ∀ x y, decide (cI x y < 0) = ltSp x y)
    (hs : hget h i = some ⟨L.length * 2, spotsC L, true, own⟩) (hi : i < n) (hm : L.length ≤ 12) (hF : (SV.fn f p G q F).lt n) (hcmp : Cmps cx h n i f p q G F cI) (K : HK)
    (hK : K (.tup 0 (cl [])) (hset h i ⟨L.length * 2, spotsC (srtS L), true, own⟩) n) :
    CallE Try.prog cx 103 [.sl i 0 L.length cap, .int .i64 0, .int .i64 L.length, .int .i64 r, .fn f p G q F] h n K := by
  have hsort : (insertionSort ltSp L.toArray 0 L.length).toList = srtS L := by
    have h1 := Go.Sort.insertionSort_holds ltSp_swo L.toArray 0 L.length (Nat.zero_le _) (by simp)
    have := sorted_srtS (d := L.toArray) (d' := insertionSort ltSp L.toArray 0 L.length) (by simpa using h1.1) (by simpa using h1.2)
    simpa using this
  refine CallE.to _ _ (by simp only [go_sem, Nat.reduceBEq, Nat.reduceLT, Nat.reduceLeDiff, Nat.reduceAdd, Nat.reduceMul, Nat.reduceSub, Nat.reduceMod, Nat.reduceDiv, Nat.reduceEqDiff, Int.reduceToNat, reduceIte, reduceCtorEq, Int.reduceLE, Int.reduceLT, Int.reduceEq, Int.reduceNeg, Int.reduceAdd, Int.reduceSub, Int.reduceMul]) (fun hok => hok_set hok fun k hk => spotsC_flat _ _) hK ?_
  have e1 : ((L.length : Int) ≤ 12) = True := eq_true (by omega)
  refine callE_of_T (P := Try.prog) hti (nt := 148) (rs := []) rfl rfl Try.call103 Try.func103 rfl _ (by simp only [go_sem, and_self]) (Nat.le_of_ble_eq_true rfl) _ fun hok => ?_
  simp only [go_sem, Nat.reduceBEq, Nat.reduceLT, Nat.reduceLeDiff, Nat.reduceAdd, Nat.reduceMul, Nat.reduceSub, Nat.reduceMod, Nat.reduceDiv, Nat.reduceEqDiff, Int.reduceToNat, reduceIte, reduceCtorEq, Int.reduceLE, Int.reduceLT, Int.reduceEq, Int.reduceNeg, Int.reduceAdd, Int.reduceSub, Int.reduceMul]
  refine T_unroll 0 ?_
  simp only [go_sem, Nat.reduceBEq, Nat.reduceLT, Nat.reduceLeDiff, Nat.reduceAdd, Nat.reduceMul, Nat.reduceSub, Nat.reduceMod, Nat.reduceDiv, Nat.reduceEqDiff, Int.reduceToNat, reduceIte, reduceCtorEq, Int.reduceLE, Int.reduceLT, Int.reduceEq, Int.reduceNeg, Int.reduceAdd, Int.reduceSub, Int.reduceMul, w64 (n := (L.length : Int) - 0) (by omega), Int.sub_zero, e1, w64 (n := (L.length : Int)) (by omega)]
  refine callA_false (insSort_E _ _ _ i cap L.toArray own 0 L.length f p q G F cI ltSp hlt hs hi (Nat.le_refl _) (Nat.zero_le _) (by simp; omega) hF (by intro a b nt n0 h' n' hn hb; exact hcmp a b nt n0 h' n' hn hb) _ ?_)
  rw [hsort]
  simp only [go_sem, Nat.reduceBEq, Nat.reduceLT, Nat.reduceLeDiff, Nat.reduceAdd, Nat.reduceMul, Nat.reduceSub, Nat.reduceMod, Nat.reduceDiv, Nat.reduceEqDiff, Int.reduceToNat, reduceIte, reduceCtorEq, Int.reduceLE, Int.reduceLT, Int.reduceEq, Int.reduceNeg, Int.reduceAdd, Int.reduceSub, Int.reduceMul]
  (try exact HExt.rfl)
/-- The library's sort, of few spots. -/
theorem sortFunc_E (i cap : Nat) (L : List (Int × Int)) (own : Option (Nat × Nat)) (f p q : Nat) (G F : Nat → SV) (cI : Int × Int → Int × Int → Int) (hlt : ∀ x y, decide (cI x y < 0) = ltSp x y)
    (hs : hget h i = some ⟨L.length * 2, spotsC L, true, own⟩) (hi : i < n) (hm : L.length ≤ 12) (hF : (SV.fn f p G q F).lt n) (hcmp : Cmps cx h n i f p q G F cI) (K : HK)
    (hK : K (.tup 0 (cl [])) (hset h i ⟨L.length * 2, spotsC (srtS L), true, own⟩) n) :
    CallE Try.prog cx 96 [.sl i 0 L.length cap, .fn f p G q F] h n K := by
  refine CallE.to _ _ (by simp only [go_sem, Nat.reduceBEq, Nat.reduceLT, Nat.reduceLeDiff, Nat.reduceAdd, Nat.reduceMul, Nat.reduceSub, Nat.reduceMod, Nat.reduceDiv, Nat.reduceEqDiff, Int.reduceToNat, reduceIte, reduceCtorEq, Int.reduceLE, Int.reduceLT, Int.reduceEq, Int.reduceNeg, Int.reduceAdd, Int.reduceSub, Int.reduceMul]) (fun hok => hok_set hok fun k hk => spotsC_flat _ _) hK ?_
  refine callE_of_T (P := Try.prog) hti (nt := 14) (rs := []) rfl rfl Try.call96 Try.func96 rfl _ (by simp only [go_sem, and_self]) (Nat.le_of_ble_eq_true rfl) _ fun hok => ?_
  simp only [go_sem, Nat.reduceBEq, Nat.reduceLT, Nat.reduceLeDiff, Nat.reduceAdd, Nat.reduceMul, Nat.reduceSub, Nat.reduceMod, Nat.reduceDiv, Nat.reduceEqDiff, Int.reduceToNat, reduceIte, reduceCtorEq, Int.reduceLE, Int.reduceLT, Int.reduceEq, Int.reduceNeg, Int.reduceAdd, Int.reduceSub, Int.reduceMul]
  refine callA_false (len_E _ _ _ _ _ fun r hr => ?_)
  simp only [go_sem, Nat.reduceBEq, Nat.reduceLT, Nat.reduceLeDiff, Nat.reduceAdd, Nat.reduceMul, Nat.reduceSub, Nat.reduceMod, Nat.reduceDiv, Nat.reduceEqDiff, Int.reduceToNat, reduceIte, reduceCtorEq, Int.reduceLE, Int.reduceLT, Int.reduceEq, Int.reduceNeg, Int.reduceAdd, Int.reduceSub, Int.reduceMul]
  refine callA_false (pdqFew_E _ _ _ i cap L own r f p q G F cI hlt hs hi hm hF (by intro a b nt n0 h' n' hn hb; exact hcmp a b nt n0 h' n' hn hb) _ ?_)
  simp only [go_sem, Nat.reduceBEq, Nat.reduceLT, Nat.reduceLeDiff, Nat.reduceAdd, Nat.reduceMul, Nat.reduceSub, Nat.reduceMod, Nat.reduceDiv, Nat.reduceEqDiff, Int.reduceToNat, reduceIte, reduceCtorEq, Int.reduceLE, Int.reduceLT, Int.reduceEq, Int.reduceNeg, Int.reduceAdd, Int.reduceSub, Int.reduceMul]
end
end Go.Proofs.Ytodgbpkdanefaaa.V

/- Sets of few cells: the program's own walk. -/
namespace Go.Proofs.Ytodgbpkdanefaaa.V
theorem srtS_nodup {L : List (Int × Int)} (h : L.Nodup) : (srtS L).Pairwise fun a b => ltSp a b = true := by
  have h1 := srtS_sorted L
  have h2 : (srtS L).Nodup := (srtS_perm L).nodup_iff.2 h
  refine (h1.and h2).imp fun {a b} ⟨h3, h4⟩ => ?_
  cases hlt : ltSp a b with
  | true => rfl
  | false => exact absurd (ltSp_tri hlt h3) h4
theorem setL_nodup {L : List (Int × Int)} (h : L.Nodup) : setL L = srtS L := setL_eq (srtS_nodup h) fun a => (srtS_perm L).mem_iff
theorem strict_ne {L : List (Int × Int)} (h : L.Pairwise fun a b => ltSp a b = true) {k : Nat} (hk : k + 1 < L.length) : L.getD (k + 1) (0, 0) ≠ L.getD k (0, 0) := by
  have := List.pairwise_iff_getElem.1 h k (k + 1) (by omega) hk (by omega)
  intro e
  simp only [List.getD_eq_getElem?_getD, List.getElem?_eq_getElem hk, List.getElem?_eq_getElem (show k < L.length by omega), Option.getD_some] at e
  rw [e, ltSp_iff] at this
  omega
/-- A list of spots, made anew, under the next name. -/
theorem CallE.spots {P : Program} {cx : Cx} {h : List (Nat × Seg)} {n f : Nat} {args : List SV} {K : HK} (M : List (Int × Int)) (hK : ∀ cap, K (.sl n 0 M.length cap) ((n, ⟨M.length * 2, spotsC M, true, none⟩) :: h) (n + 1))
    (hc : CallE P cx f args h n fun r h1 n1 => ∃ b cap, n + 1 ≤ b ∧ r = .sl b 0 M.length cap ∧ HExt n h h1 ∧ ∃ t, hget h1 b = some t ∧ t.n = M.length * 2 ∧ t.rw = true ∧ ∀ k, k < M.length * 2 → t.c k = spotsC M k) : CallE P cx f args h n K :=
  CallE.imp1 hc fun hok r h1 n1 ⟨b, cap, hb, hr, hx, t, ht, t1, t2, t3⟩ => by
    subst hr
    exact ⟨b, .sl n 0 M.length cap, (n, ⟨M.length * 2, spotsC M, true, none⟩) :: h, n + 1, by omega, by omega, by simp only [ren_sl, sig_hit], Nat.lt_succ_self n,
      impH.cons1 ht (Nat.lt_succ_self n) (SegLe.flat (by rw [t1]; exact Nat.le_refl _) (fun _ => t2) (.inl rfl) fun k hk => ⟨t3 k hk, spotsC_flat _ _⟩) (impH.base1 hok (by simp) (Nat.le_refl n) hx), hK cap⟩
theorem both_cons (a : Int × Int) (L : List (Int × Int)) (c : Nat → SV) (h0 : c 0 = .int .i8 a.1) (h1 : c 1 = .int .i8 a.2) (k : Nat) : both 2 c (news (spotsC L) 0) k = spotsC (a :: L) k := by
  unfold both news
  by_cases hk : k < 2
  · rw [if_pos hk]
    rcases (by omega : k = 0 ∨ k = 1) with rfl | rfl
    · exact h0
    · exact h1
  · rw [if_neg hk]
    obtain ⟨j, rfl⟩ : ∃ j, k = j + 2 := ⟨k - 2, by omega⟩
    unfold spotsC
    rw [show (0 + (j + 2 - 2)) % 2 = (j + 2) % 2 by omega, show (j + 2) / 2 = j / 2 + 1 by omega, show (0 + (j + 2 - 2)) / 2 = j / 2 by omega, List.getD_cons_succ]
section
variable (cx : Cx) (h : List (Nat × Seg)) (n : Nat)
theorem cloneSp_E (i cap : Nat) (L : List (Int × Int)) (s : Seg) (hs : hget h i = some s) (hi : i < n) (hn : L.length * 2 ≤ s.n) (hc : ∀ k, k < L.length * 2 → s.c k = spotsC L k) (hm9 : L.length ≤ 10000000) (K : HK)
    (hK : ∀ cap', L.length ≤ cap' → cap' ≤ maxLen → K (.sl n 0 L.length cap') ((n, ⟨L.length * 2, spotsC L, true, none⟩) :: h) (n + 1)) :
    CallE Try.prog cx 95 [.sl i 0 L.length cap] h n K := by
  refine CallE.imp1 (K := fun r h1 n1 => ∃ cap', L.length ≤ cap' ∧ cap' ≤ maxLen ∧ r = .sl (n + 1) 0 L.length cap' ∧ n1 = n + 2 ∧ HExt n h h1 ∧ ∃ t, hget h1 (n + 1) = some t ∧ t.n = L.length * 2 ∧ t.rw = true ∧ ∀ k, k < L.length * 2 → t.c k = spotsC L k) ?_ ?_
  · refine callE_of_T (P := Try.prog) hti (nt := 8) (rs := [.tmp 2]) rfl rfl Try.call95 Try.func95 rfl _ (by simp only [go_sem, and_self]) (Nat.le_of_ble_eq_true rfl) _ fun hok => ?_
    simp only [go_sem, Nat.reduceBEq, Nat.reduceLT, Nat.reduceLeDiff, Nat.reduceAdd, Nat.reduceMul, Nat.reduceSub, Nat.reduceMod, Nat.reduceDiv, Nat.reduceEqDiff, Int.reduceToNat, reduceIte, reduceCtorEq, Int.reduceLE, Int.reduceLT, Int.reduceEq, Int.reduceNeg, Int.reduceAdd, Int.reduceSub, Int.reduceMul, hs, hi, ↓hok.del (Nat.le_refl n)]
    refine ⟨⟨⟨trivial, Nat.succ_pos 1, ?_, ?_⟩, by omega⟩, fun cap' c1 c2 => ?_⟩
    · show 0 + L.length * 2 ≤ s.n
      omega
    · refine allP_iff.2 fun j hj => ?_
      have hj : j < L.length * 2 := hj
      show (s.c (0 + j)).one
      rw [Nat.zero_add, hc j hj]
      exact (spotsC_flat L j).one
    · refine ⟨cap', c1, c2, rfl, _, rfl, rfl, rfl, fun k hk => ?_⟩
      refine Eq.trans ?_ (hc k hk)
      simp only [both, news, Nat.not_lt_zero, if_false, Nat.sub_zero, Nat.zero_add]
  · rintro hok r h1 n1 ⟨cap', c1, c2, rfl, rfl, hx, t, ht, t1, t2, t3⟩
    exact ⟨n + 1, .sl n 0 L.length cap', (n, ⟨L.length * 2, spotsC L, true, none⟩) :: h, n + 1, by omega, by omega, by simp only [ren_sl, sig_hit], Nat.lt_succ_self n,
      impH.cons1 ht (Nat.lt_succ_self n) (SegLe.flat (by rw [t1]; exact Nat.le_refl _) (fun _ => t2) (.inl rfl) fun k hk => ⟨t3 k hk, spotsC_flat _ _⟩) (impH.base1 hok (by simp) (Nat.le_refl n) hx), hK cap' c1 c2⟩
/-- No two that stand together are equal: nothing to do. -/
theorem compactD_Q (i cap : Nat) (L : List (Int × Int)) (own : Option (Nat × Nat)) (hs : hget h i = some ⟨L.length * 2, spotsC L, true, own⟩) (hi : i < n) (hne : ∀ k, k + 1 < L.length → L.getD (k + 1) (0, 0) ≠ L.getD k (0, 0)) (hm9 : L.length ≤ 10000000) :
    CallQ Try.prog cx 98 [.sl i 0 L.length cap] h n (.sl i 0 L.length cap) := by
  refine callQ_of_T (P := Try.prog) hti (nt := 61) (rs := [.tmp 2]) rfl rfl Try.call98 Try.func98 rfl _ (by simp only [go_sem]) (Nat.le_of_ble_eq_true rfl) _ (by exact hi) fun hok => ?_
  by_cases h2 : L.length < 2
  · simp only [go_sem, Nat.reduceBEq, Nat.reduceLT, Nat.reduceLeDiff, Nat.reduceAdd, Nat.reduceMul, Nat.reduceSub, Nat.reduceMod, Nat.reduceDiv, Nat.reduceEqDiff, Int.reduceToNat, reduceIte, reduceCtorEq, Int.reduceLE, Int.reduceLT, Int.reduceEq, Int.reduceNeg, Int.reduceAdd, Int.reduceSub, Int.reduceMul, show (L.length : Int) < 2 by omega]
  have e0 : ((L.length : Int) < 2) = False := eq_false (by omega)
  simp only [go_sem, Nat.reduceBEq, Nat.reduceLT, Nat.reduceLeDiff, Nat.reduceAdd, Nat.reduceMul, Nat.reduceSub, Nat.reduceMod, Nat.reduceDiv, Nat.reduceEqDiff, Int.reduceToNat, reduceIte, reduceCtorEq, Int.reduceLE, Int.reduceLT, Int.reduceEq, Int.reduceNeg, Int.reduceAdd, Int.reduceSub, Int.reduceMul, e0]
  refine T_lp (ι := { k : Nat // k ≤ L.length ∧ 1 ≤ k }) (fun k => ([(0, .sl i 0 L.length cap), (3, .int .i64 k.1)], h, n)) (fun k => L.length - k.1) ⟨1, by omega⟩ ?_ ?_
  · refine Imp.id (by simp) ?_ (impH.base0 hok (by simp) HExt.rfl)
    simp only [go_sem, Nat.reduceBEq, Nat.reduceLT, Nat.reduceLeDiff, Nat.reduceAdd, Nat.reduceMul, Nat.reduceSub, Nat.reduceMod, Nat.reduceDiv, Nat.reduceEqDiff, Int.reduceToNat, reduceIte, reduceCtorEq, Int.reduceLE, Int.reduceLT, Int.reduceEq, Int.reduceNeg, Int.reduceAdd, Int.reduceSub, Int.reduceMul]
    exact hi
  · rintro ⟨k, hk, hk1⟩
    simp only [go_sem, Nat.reduceBEq, Nat.reduceLT, Nat.reduceLeDiff, Nat.reduceAdd, Nat.reduceMul, Nat.reduceSub, Nat.reduceMod, Nat.reduceDiv, Nat.reduceEqDiff, Int.reduceToNat, reduceIte, reduceCtorEq, Int.reduceLE, Int.reduceLT, Int.reduceEq, Int.reduceNeg, Int.reduceAdd, Int.reduceSub, Int.reduceMul, decide_eq_true_eq, decide_eq_false_iff_not]
    refine ⟨fun h1 => ?_, fun h1 => ?_⟩
    · obtain ⟨k, rfl⟩ : ∃ k', k = k' + 1 := ⟨k - 1, by omega⟩
      have r1 : (0 : Int) ≤ (k : Int) + 1 ∧ (k : Int) + 1 < L.length := ⟨by omega, by omega⟩
      have r2 : (0 : Int) ≤ (k : Int) ∧ (k : Int) < L.length := ⟨by omega, by omega⟩
      have e2 : ((k : Int) + 1).toNat = k + 1 := by omega
      have b1 : (k + 1) * 2 ≤ L.length * 2 - 2 := by omega
      have b2 : (k + 1) * 2 + 2 ≤ L.length * 2 := by omega
      have b3 : k * 2 ≤ L.length * 2 - 2 := by omega
      have b4 : k * 2 + 2 ≤ L.length * 2 := by omega
      have b5 : 2 ≤ L.length * 2 := by omega
      have hn := hne k (by omega)
      have hd : (decide ((L.getD (k + 1) (0, 0)).1 = (L.getD k (0, 0)).1) && decide ((L.getD (k + 1) (0, 0)).2 = (L.getD k (0, 0)).2)) = false := by
        rw [Bool.and_eq_false_iff, decide_eq_false_iff_not, decide_eq_false_iff_not]
        by_cases e1 : (L.getD (k + 1) (0, 0)).1 = (L.getD k (0, 0)).1
        · exact .inr fun e2 => hn (Prod.ext e1 e2)
        · exact .inl e1
      refine T_draw hti _ _ (by kernel_rfl) (by kernel_rfl) ?_
      simp only [go_sem, Nat.reduceBEq, Nat.reduceLT, Nat.reduceLeDiff, Nat.reduceAdd, Nat.reduceMul, Nat.reduceSub, Nat.reduceMod, Nat.reduceDiv, Nat.reduceEqDiff, Int.reduceToNat, reduceIte, reduceCtorEq, Int.reduceLE, Int.reduceLT, Int.reduceEq, Int.reduceNeg, Int.reduceAdd, Int.reduceSub, Int.reduceMul, hs, hi, r1, r2, e2, b1, b2, b3, b4, b5, spotsC_x, spotsC_y, Int.natCast_add, Int.natCast_one, Int.add_sub_cancel, w64 (n := (k : Int)) (by omega), hd]
      refine ⟨⟨k + 1 + 1, by omega, by omega⟩, by show L.length - (k + 1 + 1) < L.length - (k + 1); omega, ?_⟩
      refine Imp.id (by simp) ?_ (impH.base0 hok (by simp) HExt.rfl)
      simp only [go_sem, Nat.reduceBEq, Nat.reduceLT, Nat.reduceLeDiff, Nat.reduceAdd, Nat.reduceMul, Nat.reduceSub, Nat.reduceMod, Nat.reduceDiv, Nat.reduceEqDiff, Int.reduceToNat, reduceIte, reduceCtorEq, Int.reduceLE, Int.reduceLT, Int.reduceEq, Int.reduceNeg, Int.reduceAdd, Int.reduceSub, Int.reduceMul, w64 (n := (k : Int) + 1 + 1) (by omega), Int.natCast_add, Int.natCast_one]
      exact ⟨hi, congrArg (SV.int IntKind.i64) (by omega)⟩
    · simp only [go_sem, Nat.reduceBEq, Nat.reduceLT, Nat.reduceLeDiff, Nat.reduceAdd, Nat.reduceMul, Nat.reduceSub, Nat.reduceMod, Nat.reduceDiv, Nat.reduceEqDiff, Int.reduceToNat, reduceIte, reduceCtorEq, Int.reduceLE, Int.reduceLT, Int.reduceEq, Int.reduceNeg, Int.reduceAdd, Int.reduceSub, Int.reduceMul]
/-- A set of few cells, no two of them equal. -/
theorem setFew_E (i cap : Nat) (L : List (Int × Int)) (s : Seg) (hs : hget h i = some s) (hi : i < n) (hn : L.length * 2 ≤ s.n) (hc : ∀ k, k < L.length * 2 → s.c k = spotsC L k) (hm : L.length ≤ 12) (hnd : L.Nodup) (K : HK)
    (hK : ∀ cap', K (.sl n 0 (setL L).length cap') ((n, ⟨(setL L).length * 2, spotsC (setL L), true, none⟩) :: h) (n + 1)) :
    CallE Try.prog cx 87 [.sl i 0 L.length cap] h n K := by
  have hsl := srtS_len L
  have hst := srtS_nodup hnd
  rw [setL_nodup hnd, hsl] at hK
  refine callE_of_T (P := Try.prog) hti (nt := 10) (rs := [.tmp 2]) rfl rfl Try.call87 Try.func87 rfl _ (by simp only [go_sem, and_self]) (Nat.le_of_ble_eq_true rfl) _ fun hok => ?_
  simp only [go_sem, Nat.reduceBEq, Nat.reduceLT, Nat.reduceLeDiff, Nat.reduceAdd, Nat.reduceMul, Nat.reduceSub, Nat.reduceMod, Nat.reduceDiv, Nat.reduceEqDiff, Int.reduceToNat, reduceIte, reduceCtorEq, Int.reduceLE, Int.reduceLT, Int.reduceEq, Int.reduceNeg, Int.reduceAdd, Int.reduceSub, Int.reduceMul]
  refine callA_false (cloneSp_E _ _ _ i cap L s hs hi hn hc (by omega) _ fun cap' c1 c2 => ?_)
  simp only [go_sem, Nat.reduceBEq, Nat.reduceLT, Nat.reduceLeDiff, Nat.reduceAdd, Nat.reduceMul, Nat.reduceSub, Nat.reduceMod, Nat.reduceDiv, Nat.reduceEqDiff, Int.reduceToNat, reduceIte, reduceCtorEq, Int.reduceLE, Int.reduceLT, Int.reduceEq, Int.reduceNeg, Int.reduceAdd, Int.reduceSub, Int.reduceMul]
  refine callA_false (sortFunc_E _ _ _ n cap' L none _ _ _ _ _ cmpSp cmpSp_lt (by simp only [go_sem, Nat.reduceBEq, Nat.reduceLT, Nat.reduceLeDiff, Nat.reduceAdd, Nat.reduceMul, Nat.reduceSub, Nat.reduceMod, Nat.reduceDiv, Nat.reduceEqDiff, Int.reduceToNat, reduceIte, reduceCtorEq, Int.reduceLE, Int.reduceLT, Int.reduceEq, Int.reduceNeg, Int.reduceAdd, Int.reduceSub, Int.reduceMul]) (by omega) hm (fn_lt (xs := []) (ys := []) (fun v hv => by cases hv) (fun v hv => by cases hv)) (by intro a b nt n0 h' n' hn hb; exact inOrder_Q _ h' n' a b) _ ?_)
  simp only [go_sem, Nat.reduceBEq, Nat.reduceLT, Nat.reduceLeDiff, Nat.reduceAdd, Nat.reduceMul, Nat.reduceSub, Nat.reduceMod, Nat.reduceDiv, Nat.reduceEqDiff, Int.reduceToNat, reduceIte, reduceCtorEq, Int.reduceLE, Int.reduceLT, Int.reduceEq, Int.reduceNeg, Int.reduceAdd, Int.reduceSub, Int.reduceMul]
  have := compactD_Q ⟨cx.w0, cx.W, 10, n⟩ ((n, ⟨L.length * 2, spotsC (srtS L), true, none⟩) :: h) (n + 1) n cap' (srtS L) none (by simp only [go_sem, Nat.reduceBEq, Nat.reduceLT, Nat.reduceLeDiff, Nat.reduceAdd, Nat.reduceMul, Nat.reduceSub, Nat.reduceMod, Nat.reduceDiv, Nat.reduceEqDiff, Int.reduceToNat, reduceIte, reduceCtorEq, Int.reduceLE, Int.reduceLT, Int.reduceEq, Int.reduceNeg, Int.reduceAdd, Int.reduceSub, Int.reduceMul, hsl]) (by omega) (fun k hk => strict_ne hst hk) (by omega)
  rw [hsl] at this
  refine this.A ?_
  simp only [go_sem, Nat.reduceBEq, Nat.reduceLT, Nat.reduceLeDiff, Nat.reduceAdd, Nat.reduceMul, Nat.reduceSub, Nat.reduceMod, Nat.reduceDiv, Nat.reduceEqDiff, Int.reduceToNat, reduceIte, reduceCtorEq, Int.reduceLE, Int.reduceLT, Int.reduceEq, Int.reduceNeg, Int.reduceAdd, Int.reduceSub, Int.reduceMul]
  exact hK cap'
end
end Go.Proofs.Ytodgbpkdanefaaa.V

/- Pictures: validity, covered cells: the program's own walk. -/
namespace Go.Proofs.Ytodgbpkdanefaaa.V
theorem pcC_ofNat (P : Pc) (y x : Nat) (hy : y < 8) (hx : x < 8) : pcC P (2 + y * 8 + x) = .int .u8 (P.ink y x) := by
  have := pcC_ink P (y : Int) (x : Int) (by omega) (by omega) (by omega) (by omega)
  simpa using this
theorem cov_nodup {W H x y : Int} (hW : W ≤ 8) (hH : H ≤ 8) (x0 : 0 ≤ x) (x1 : x < W) (y0 : 0 ≤ y) (y1 : y < H) (S : Sh) : ((x, y) :: nb S x y).Nodup := by
  have e1 : IntKind.i8.wrap (y - 1) = y - 1 := w8 (by omega)
  have e2 : IntKind.i8.wrap (x + 1) = x + 1 := w8 (by omega)
  have e3 : IntKind.i8.wrap (y + 1) = y + 1 := w8 (by omega)
  have e4 : IntKind.i8.wrap (x - 1) = x - 1 := w8 (by omega)
  refine List.nodup_cons.2 ⟨fun hm => ?_, ?_⟩
  · have := (List.mem_filter.1 hm).1
    simp only [besideL, e1, e2, e3, e4, List.mem_cons, List.not_mem_nil, or_false, Prod.mk.injEq] at this
    omega
  · refine List.Pairwise.filter _ ?_
    simp [besideL, e1, e2, e3, e4]
    (try omega)
section
variable (cx : Cx) (h : List (Nat × Seg)) (n : Nat)
theorem sheet_E (i : Nat) (P : Pc) (hs : hget h i = some (pcS P)) (hi : i < n) (K : HK) (hK : K (.ptr n 0) ((n, shS (psh P)) :: h) (n + 1)) :
    CallE Try.prog cx 50 [.ptr i 0] h n K := by
  refine callE_of_T (P := Try.prog) hti (nt := 13) (rs := [.tmp 2]) rfl rfl Try.call50 Try.func50 rfl _ (by simp only [go_sem, and_self]) (Nat.le_of_ble_eq_true rfl) _ fun hok => ?_
  simp only [go_sem, Nat.reduceBEq, Nat.reduceLT, Nat.reduceLeDiff, Nat.reduceAdd, Nat.reduceMul, Nat.reduceSub, Nat.reduceMod, Nat.reduceDiv, Nat.reduceEqDiff, Int.reduceToNat, reduceIte, reduceCtorEq, Int.reduceLE, Int.reduceLT, Int.reduceEq, Int.reduceNeg, Int.reduceAdd, Int.reduceSub, Int.reduceMul]
  refine T_drawG hti 11 [] (.b 0 0 (.b 0 1 (.b 0 2 (.b 0 3 (.b 0 4 (.b 0 5 (.b 0 6 (.b 0 7 (.b 0 8 (.b 2 9 (.b 0 10 (.f) .o) .o) .o) .o) .o) .o) .o) .o) .o) .o) .o) _ _ (by kernel_rfl) (by kernel_rfl) ?_
  simp only [go_sem, Nat.reduceBEq, Nat.reduceLT, Nat.reduceLeDiff, Nat.reduceAdd, Nat.reduceMul, Nat.reduceSub, Nat.reduceMod, Nat.reduceDiv, Nat.reduceEqDiff, Int.reduceToNat, reduceIte, reduceCtorEq, Int.reduceLE, Int.reduceLT, Int.reduceEq, Int.reduceNeg, Int.reduceAdd, Int.reduceSub, Int.reduceMul, hs, hi]
  exact hK
theorem validPc_Q (P : Pc) (hR : PcR P) : CallQ Try.prog cx 86 [.agg 66 (pcC P)] h n (.bool (pcokB P)) := by
  have wW := w64 (n := P.wide) (by have := hR.wide; omega)
  have wH := w64 (n := P.high) (by have := hR.high; omega)
  have bad : ∀ y x : Int, 0 ≤ y → y < 8 → 0 ≤ x → x < 8 → ¬ (P.ink y x ≤ 3 ∧ (0 < P.ink y x → x < P.wide ∧ y < P.high)) → pcokB P = false := fun y x a b c d hn => pcokB_f fun hk => hn (hk.2 y x a b c d)
  refine callQ_of_T (P := Try.prog) hti (nt := 52) (rs := [.tmp 2]) rfl rfl Try.call86 Try.func86 rfl _ (by simp only [go_sem, and_self]) (Nat.le_of_ble_eq_true rfl) _ (by first | exact trivial | (refine lt_flat rfl ?_; simp [SV.flat]; done) | simp only [go_sem]) fun hok => ?_
  simp only [go_sem, Nat.reduceBEq, Nat.reduceLT, Nat.reduceLeDiff, Nat.reduceAdd, Nat.reduceMul, Nat.reduceSub, Nat.reduceMod, Nat.reduceDiv, Nat.reduceEqDiff, Int.reduceToNat, reduceIte, reduceCtorEq, Int.reduceLE, Int.reduceLT, Int.reduceEq, Int.reduceNeg, Int.reduceAdd, Int.reduceSub, Int.reduceMul, wW, wH]
  refine (within_Q _ _ _ P.wide 1 8).A ?_
  by_cases hw : 1 ≤ P.wide ∧ P.wide ≤ 8
  rotate_left
  · simp only [go_sem, Nat.reduceBEq, Nat.reduceLT, Nat.reduceLeDiff, Nat.reduceAdd, Nat.reduceMul, Nat.reduceSub, Nat.reduceMod, Nat.reduceDiv, Nat.reduceEqDiff, Int.reduceToNat, reduceIte, reduceCtorEq, Int.reduceLE, Int.reduceLT, Int.reduceEq, Int.reduceNeg, Int.reduceAdd, Int.reduceSub, Int.reduceMul, hw]
    rw [pcokB_f fun hv => hw ⟨hv.1.1, hv.1.2.1⟩]
  simp only [go_sem, Nat.reduceBEq, Nat.reduceLT, Nat.reduceLeDiff, Nat.reduceAdd, Nat.reduceMul, Nat.reduceSub, Nat.reduceMod, Nat.reduceDiv, Nat.reduceEqDiff, Int.reduceToNat, reduceIte, reduceCtorEq, Int.reduceLE, Int.reduceLT, Int.reduceEq, Int.reduceNeg, Int.reduceAdd, Int.reduceSub, Int.reduceMul, wW, wH, hw]
  refine (within_Q _ _ _ P.high 1 8).A ?_
  by_cases hh : 1 ≤ P.high ∧ P.high ≤ 8
  rotate_left
  · simp only [go_sem, Nat.reduceBEq, Nat.reduceLT, Nat.reduceLeDiff, Nat.reduceAdd, Nat.reduceMul, Nat.reduceSub, Nat.reduceMod, Nat.reduceDiv, Nat.reduceEqDiff, Int.reduceToNat, reduceIte, reduceCtorEq, Int.reduceLE, Int.reduceLT, Int.reduceEq, Int.reduceNeg, Int.reduceAdd, Int.reduceSub, Int.reduceMul, hh]
    rw [pcokB_f fun hv => hh ⟨hv.1.2.2.1, hv.1.2.2.2⟩]
  simp only [go_sem, Nat.reduceBEq, Nat.reduceLT, Nat.reduceLeDiff, Nat.reduceAdd, Nat.reduceMul, Nat.reduceSub, Nat.reduceMod, Nat.reduceDiv, Nat.reduceEqDiff, Int.reduceToNat, reduceIte, reduceCtorEq, Int.reduceLE, Int.reduceLT, Int.reduceEq, Int.reduceNeg, Int.reduceAdd, Int.reduceSub, Int.reduceMul, hh]
  have ok1 : ∀ (t20 : Nat → SV), (SV.agg 64 fun j => pcC P (2 + j)).lt (n + 1) = True := fun _ => eq_true (lt_aggF fun j _ => pcC_flat P _)
  have lt20 := ok1 fun _ => .bad
  refine T_lp (ι := { y : Nat // y ≤ 8 ∧ ∀ y' x' : Int, 0 ≤ y' → y' < y → 0 ≤ x' → x' < 8 → P.ink y' x' ≤ 3 ∧ (0 < P.ink y' x' → x' < P.wide ∧ y' < P.high) })
    (fun y => ([(1, .ptr n 0), (20, .agg 64 fun j => pcC P (2 + j)), (21, .int .i64 y.1)], (n, ⟨66, pcC P, true, none⟩) :: h, n + 1)) (fun y => 8 - y.1) ⟨0, by omega, fun _ _ _ _ => by omega⟩ ?_ ?_
  · refine Imp.id (by simp) ?_ ?_
    · simp only [go_sem, Nat.reduceBEq, Nat.reduceLT, Nat.reduceLeDiff, Nat.reduceAdd, Nat.reduceMul, Nat.reduceSub, Nat.reduceMod, Nat.reduceDiv, Nat.reduceEqDiff, Int.reduceToNat, reduceIte, reduceCtorEq, Int.reduceLE, Int.reduceLT, Int.reduceEq, Int.reduceNeg, Int.reduceAdd, Int.reduceSub, Int.reduceMul, lt20]
      omega
    · refine impH.cons0 (hget_hit _ _ _) (by simp) (SegLe.flat (Nat.le_refl _) id (.inr rfl) fun z hz => ⟨rfl, pcC_flat _ _⟩) (impH.base0 hok (by simp) (HExt.rfl.cons (Nat.le_refl n)))
  · rintro ⟨y, hy, hall⟩
    simp only [go_sem, Nat.reduceBEq, Nat.reduceLT, Nat.reduceLeDiff, Nat.reduceAdd, Nat.reduceMul, Nat.reduceSub, Nat.reduceMod, Nat.reduceDiv, Nat.reduceEqDiff, Int.reduceToNat, reduceIte, reduceCtorEq, Int.reduceLE, Int.reduceLT, Int.reduceEq, Int.reduceNeg, Int.reduceAdd, Int.reduceSub, Int.reduceMul, decide_eq_true_eq, decide_eq_false_iff_not]
    refine ⟨fun h1 => ?_, fun h1 => ?_⟩
    rotate_left
    · have hy8 : y = 8 := by omega
      subst hy8
      rw [pcokB_t ⟨⟨hw.1, hw.2, hh.1, hh.2⟩, fun y x a b c d => hall y x a b c d⟩]
    have ry : (0 : Int) ≤ y ∧ (y : Int) < 8 := ⟨by omega, h1⟩
    have by1 : y * 8 + 8 ≤ 64 := by omega
    have lt25 : (SV.agg 8 fun j => pcC P (2 + (y * 8 + j))).lt (n + 1) = True := eq_true (lt_aggF fun j _ => pcC_flat P _)
    have on25 : ones (.agg 8 fun j => pcC P (2 + (y * 8 + j))) = True := eq_true fun j _ => (pcC_flat P _).one
    have by2 : y * 8 ≤ 56 := by omega
    simp only [go_sem, Nat.reduceBEq, Nat.reduceLT, Nat.reduceLeDiff, Nat.reduceAdd, Nat.reduceMul, Nat.reduceSub, Nat.reduceMod, Nat.reduceDiv, Nat.reduceEqDiff, Int.reduceToNat, reduceIte, reduceCtorEq, Int.reduceLE, Int.reduceLT, Int.reduceEq, Int.reduceNeg, Int.reduceAdd, Int.reduceSub, Int.reduceMul, ry, by1, by2, on25]
    refine T_lp (ι := { x : Nat // x ≤ 8 ∧ ∀ x' : Int, 0 ≤ x' → x' < x → P.ink y x' ≤ 3 ∧ (0 < P.ink y x' → x' < P.wide ∧ (y : Int) < P.high) })
      (fun x => ([(1, .ptr n 0), (3, .int .i64 y), (20, .agg 64 fun j => pcC P (2 + j)), (21, .int .i64 y), (25, .agg 8 fun j => pcC P (2 + (y * 8 + j))), (26, .int .i64 x.1)], (n, ⟨66, pcC P, true, none⟩) :: h, n + 1)) (fun x => 8 - x.1) ⟨0, by omega, fun _ _ _ => by omega⟩ ?_ ?_
    · refine Imp.id (by simp) ?_ ?_
      · simp only [go_sem, Nat.reduceBEq, Nat.reduceLT, Nat.reduceLeDiff, Nat.reduceAdd, Nat.reduceMul, Nat.reduceSub, Nat.reduceMod, Nat.reduceDiv, Nat.reduceEqDiff, Int.reduceToNat, reduceIte, reduceCtorEq, Int.reduceLE, Int.reduceLT, Int.reduceEq, Int.reduceNeg, Int.reduceAdd, Int.reduceSub, Int.reduceMul, lt20, lt25]
        omega
      · refine impH.cons0 (by simp only [go_sem, Nat.reduceBEq, Nat.reduceLT, Nat.reduceLeDiff, Nat.reduceAdd, Nat.reduceMul, Nat.reduceSub, Nat.reduceMod, Nat.reduceDiv, Nat.reduceEqDiff, Int.reduceToNat, reduceIte, reduceCtorEq, Int.reduceLE, Int.reduceLT, Int.reduceEq, Int.reduceNeg, Int.reduceAdd, Int.reduceSub, Int.reduceMul]) (by simp) (SegLe.flat (Nat.le_refl _) id (.inr rfl) fun z hz => ⟨rfl, pcC_flat _ _⟩) (impH.base0 hok (by simp) (by simp only [go_sem, Nat.reduceBEq, Nat.reduceLT, Nat.reduceLeDiff, Nat.reduceAdd, Nat.reduceMul, Nat.reduceSub, Nat.reduceMod, Nat.reduceDiv, Nat.reduceEqDiff, Int.reduceToNat, reduceIte, reduceCtorEq, Int.reduceLE, Int.reduceLT, Int.reduceEq, Int.reduceNeg, Int.reduceAdd, Int.reduceSub, Int.reduceMul, HExt_cons]))
    · rintro ⟨x, hx, hax⟩
      simp only [go_sem, Nat.reduceBEq, Nat.reduceLT, Nat.reduceLeDiff, Nat.reduceAdd, Nat.reduceMul, Nat.reduceSub, Nat.reduceMod, Nat.reduceDiv, Nat.reduceEqDiff, Int.reduceToNat, reduceIte, reduceCtorEq, Int.reduceLE, Int.reduceLT, Int.reduceEq, Int.reduceNeg, Int.reduceAdd, Int.reduceSub, Int.reduceMul, decide_eq_true_eq, decide_eq_false_iff_not]
      refine ⟨fun h2 => ?_, fun h2 => ?_⟩
      rotate_left
      · have hx8 : x = 8 := by omega
        subst hx8
        refine ⟨⟨y + 1, by omega, fun y' x' a b c d => ?_⟩, by show 8 - (y + 1) < 8 - y; omega, ?_⟩
        · rcases (by omega : y' < y ∨ y' = y) with e | rfl
          · exact hall y' x' a e c d
          · exact hax x' c d
        · refine Imp.id (by simp) ?_ ?_
          · simp only [go_sem, Nat.reduceBEq, Nat.reduceLT, Nat.reduceLeDiff, Nat.reduceAdd, Nat.reduceMul, Nat.reduceSub, Nat.reduceMod, Nat.reduceDiv, Nat.reduceEqDiff, Int.reduceToNat, reduceIte, reduceCtorEq, Int.reduceLE, Int.reduceLT, Int.reduceEq, Int.reduceNeg, Int.reduceAdd, Int.reduceSub, Int.reduceMul, lt20, w64 (n := (y : Int) + 1) (by omega), Int.natCast_add, Int.natCast_one]
            omega
          · refine impH.cons0 (by simp only [go_sem, Nat.reduceBEq, Nat.reduceLT, Nat.reduceLeDiff, Nat.reduceAdd, Nat.reduceMul, Nat.reduceSub, Nat.reduceMod, Nat.reduceDiv, Nat.reduceEqDiff, Int.reduceToNat, reduceIte, reduceCtorEq, Int.reduceLE, Int.reduceLT, Int.reduceEq, Int.reduceNeg, Int.reduceAdd, Int.reduceSub, Int.reduceMul]) (by simp) (SegLe.flat (Nat.le_refl _) id (.inr rfl) fun z hz => ⟨rfl, pcC_flat _ _⟩) (impH.base0 hok (by simp) (by simp only [go_sem, Nat.reduceBEq, Nat.reduceLT, Nat.reduceLeDiff, Nat.reduceAdd, Nat.reduceMul, Nat.reduceSub, Nat.reduceMod, Nat.reduceDiv, Nat.reduceEqDiff, Int.reduceToNat, reduceIte, reduceCtorEq, Int.reduceLE, Int.reduceLT, Int.reduceEq, Int.reduceNeg, Int.reduceAdd, Int.reduceSub, Int.reduceMul, HExt_cons]))
      have rx : (0 : Int) ≤ x ∧ (x : Int) < 8 := ⟨by omega, h2⟩
      have hv : pcC P (2 + (y * 8 + x)) = .int .u8 (P.ink y x) := by
        rw [← Nat.add_assoc]; exact pcC_ofNat P y x (by omega) (by omega)
      have next : (P.ink y x ≤ 3 ∧ (0 < P.ink y x → (x : Int) < P.wide ∧ (y : Int) < P.high)) → ∀ x' : Int, 0 ≤ x' → x' < ((x + 1 : Nat) : Int) → P.ink y x' ≤ 3 ∧ (0 < P.ink y x' → x' < P.wide ∧ (y : Int) < P.high) := fun hc x' a b => by
        rcases (by omega : x' < x ∨ x' = x) with e | rfl
        · exact hax x' a e
        · exact hc
      have w1 := w8 (n := (x : Int)) (by omega)
      have w2 := w8 (n := (y : Int)) (by omega)
      have bd := bad y x (by omega) (by omega) (by omega) (by omega)
      have bx : (x < 8) = True := eq_true (by omega)
      by_cases i3 : 3 < P.ink y x
      · simp only [go_sem, Nat.reduceBEq, Nat.reduceLT, Nat.reduceLeDiff, Nat.reduceAdd, Nat.reduceMul, Nat.reduceSub, Nat.reduceMod, Nat.reduceDiv, Nat.reduceEqDiff, Int.reduceToNat, reduceIte, reduceCtorEq, Int.reduceLE, Int.reduceLT, Int.reduceEq, Int.reduceNeg, Int.reduceAdd, Int.reduceSub, Int.reduceMul, rx, bx, hv, i3]
        rw [bd (by omega)]
      by_cases i0 : 0 < P.ink y x
      · by_cases iw : P.wide ≤ x
        · simp only [go_sem, Nat.reduceBEq, Nat.reduceLT, Nat.reduceLeDiff, Nat.reduceAdd, Nat.reduceMul, Nat.reduceSub, Nat.reduceMod, Nat.reduceDiv, Nat.reduceEqDiff, Int.reduceToNat, reduceIte, reduceCtorEq, Int.reduceLE, Int.reduceLT, Int.reduceEq, Int.reduceNeg, Int.reduceAdd, Int.reduceSub, Int.reduceMul, rx, bx, hv, i3, i0, w1, iw]
          rw [bd (by omega)]
        by_cases ih : P.high ≤ y
        · simp only [go_sem, Nat.reduceBEq, Nat.reduceLT, Nat.reduceLeDiff, Nat.reduceAdd, Nat.reduceMul, Nat.reduceSub, Nat.reduceMod, Nat.reduceDiv, Nat.reduceEqDiff, Int.reduceToNat, reduceIte, reduceCtorEq, Int.reduceLE, Int.reduceLT, Int.reduceEq, Int.reduceNeg, Int.reduceAdd, Int.reduceSub, Int.reduceMul, rx, bx, hv, i3, i0, w1, w2, iw, ih]
          rw [bd (by omega)]
        simp only [go_sem, Nat.reduceBEq, Nat.reduceLT, Nat.reduceLeDiff, Nat.reduceAdd, Nat.reduceMul, Nat.reduceSub, Nat.reduceMod, Nat.reduceDiv, Nat.reduceEqDiff, Int.reduceToNat, reduceIte, reduceCtorEq, Int.reduceLE, Int.reduceLT, Int.reduceEq, Int.reduceNeg, Int.reduceAdd, Int.reduceSub, Int.reduceMul, rx, bx, hv, i3, i0, w1, w2, iw, ih]
        refine ⟨⟨x + 1, by omega, next (by omega)⟩, by show 8 - (x + 1) < 8 - x; omega, ?_⟩
        refine Imp.id (by simp) ?_ ?_
        · simp only [go_sem, Nat.reduceBEq, Nat.reduceLT, Nat.reduceLeDiff, Nat.reduceAdd, Nat.reduceMul, Nat.reduceSub, Nat.reduceMod, Nat.reduceDiv, Nat.reduceEqDiff, Int.reduceToNat, reduceIte, reduceCtorEq, Int.reduceLE, Int.reduceLT, Int.reduceEq, Int.reduceNeg, Int.reduceAdd, Int.reduceSub, Int.reduceMul, lt20, lt25, w64 (n := (x : Int) + 1) (by omega), Int.natCast_add, Int.natCast_one]
          omega
        · refine impH.cons0 (by simp only [go_sem, Nat.reduceBEq, Nat.reduceLT, Nat.reduceLeDiff, Nat.reduceAdd, Nat.reduceMul, Nat.reduceSub, Nat.reduceMod, Nat.reduceDiv, Nat.reduceEqDiff, Int.reduceToNat, reduceIte, reduceCtorEq, Int.reduceLE, Int.reduceLT, Int.reduceEq, Int.reduceNeg, Int.reduceAdd, Int.reduceSub, Int.reduceMul]) (by simp) (SegLe.flat (Nat.le_refl _) id (.inr rfl) fun z hz => ⟨rfl, pcC_flat _ _⟩) (impH.base0 hok (by simp) (by simp only [go_sem, Nat.reduceBEq, Nat.reduceLT, Nat.reduceLeDiff, Nat.reduceAdd, Nat.reduceMul, Nat.reduceSub, Nat.reduceMod, Nat.reduceDiv, Nat.reduceEqDiff, Int.reduceToNat, reduceIte, reduceCtorEq, Int.reduceLE, Int.reduceLT, Int.reduceEq, Int.reduceNeg, Int.reduceAdd, Int.reduceSub, Int.reduceMul, HExt_cons]))
      · simp only [go_sem, Nat.reduceBEq, Nat.reduceLT, Nat.reduceLeDiff, Nat.reduceAdd, Nat.reduceMul, Nat.reduceSub, Nat.reduceMod, Nat.reduceDiv, Nat.reduceEqDiff, Int.reduceToNat, reduceIte, reduceCtorEq, Int.reduceLE, Int.reduceLT, Int.reduceEq, Int.reduceNeg, Int.reduceAdd, Int.reduceSub, Int.reduceMul, rx, bx, hv, i3, i0]
        refine ⟨⟨x + 1, by omega, next (by omega)⟩, by show 8 - (x + 1) < 8 - x; omega, ?_⟩
        refine Imp.id (by simp) ?_ ?_
        · simp only [go_sem, Nat.reduceBEq, Nat.reduceLT, Nat.reduceLeDiff, Nat.reduceAdd, Nat.reduceMul, Nat.reduceSub, Nat.reduceMod, Nat.reduceDiv, Nat.reduceEqDiff, Int.reduceToNat, reduceIte, reduceCtorEq, Int.reduceLE, Int.reduceLT, Int.reduceEq, Int.reduceNeg, Int.reduceAdd, Int.reduceSub, Int.reduceMul, lt20, lt25, w64 (n := (x : Int) + 1) (by omega), Int.natCast_add, Int.natCast_one]
          omega
        · refine impH.cons0 (by simp only [go_sem, Nat.reduceBEq, Nat.reduceLT, Nat.reduceLeDiff, Nat.reduceAdd, Nat.reduceMul, Nat.reduceSub, Nat.reduceMod, Nat.reduceDiv, Nat.reduceEqDiff, Int.reduceToNat, reduceIte, reduceCtorEq, Int.reduceLE, Int.reduceLT, Int.reduceEq, Int.reduceNeg, Int.reduceAdd, Int.reduceSub, Int.reduceMul]) (by simp) (SegLe.flat (Nat.le_refl _) id (.inr rfl) fun z hz => ⟨rfl, pcC_flat _ _⟩) (impH.base0 hok (by simp) (by simp only [go_sem, Nat.reduceBEq, Nat.reduceLT, Nat.reduceLeDiff, Nat.reduceAdd, Nat.reduceMul, Nat.reduceSub, Nat.reduceMod, Nat.reduceDiv, Nat.reduceEqDiff, Int.reduceToNat, reduceIte, reduceCtorEq, Int.reduceLE, Int.reduceLT, Int.reduceEq, Int.reduceNeg, Int.reduceAdd, Int.reduceSub, Int.reduceMul, HExt_cons]))
theorem covered_E (i : Nat) (P : Pc) (x y : Int) (hs : hget h i = some (pcS P)) (hi : i < n) (hR : PcR P) (hP : PcOk P) (hx : 0 ≤ x) (hx1 : x < P.wide) (hy : 0 ≤ y) (hy1 : y < P.high) (K : HK)
    (hK : ∀ cap, K (.sl n 0 (covL P.wide P.high x y).length cap) ((n, ⟨(covL P.wide P.high x y).length * 2, spotsC (covL P.wide P.high x y), true, none⟩) :: h) (n + 1)) :
    CallE Try.prog cx 52 [.ptr i 0, spot x y] h n K := by
  have hnb := nb_len (psh P) x y
  have hnd := cov_nodup hP.1.2.1 hP.1.2.2.2 hx hx1 hy hy1 (psh P)
  have hst := covL_set hP.1.2.1 hP.1.2.2.2 hx hx1 hy hy1 (psh P) rfl rfl (psh_wax P)
  have hln : ∀ k : Nat, 1 + (nb (psh P) x y).length = ((x, y) :: nb (psh P) x y).length := fun _ => by simp [Nat.add_comm]
  refine CallE.spots (covL P.wide P.high x y) hK ?_
  refine callE_of_T (P := Try.prog) hti (nt := 13) (rs := [.tmp 4]) rfl rfl Try.call52 Try.func52 rfl _ (by simp only [go_sem, and_self]) (Nat.le_of_ble_eq_true rfl) _ fun hok => ?_
  have hd1 : hdel h (n + 1) = h := hok.del (by omega)
  have hd2 : hdel h (n + 2) = h := hok.del (by omega)
  have hd3 : hdel h (n + 3) = h := hok.del (by omega)
  simp only [go_sem, Nat.reduceBEq, Nat.reduceLT, Nat.reduceLeDiff, Nat.reduceAdd, Nat.reduceMul, Nat.reduceSub, Nat.reduceMod, Nat.reduceDiv, Nat.reduceEqDiff, Int.reduceToNat, reduceIte, reduceCtorEq, Int.reduceLE, Int.reduceLT, Int.reduceEq, Int.reduceNeg, Int.reduceAdd, Int.reduceSub, Int.reduceMul]
  refine T_drawG hti 9 [6] (.b 0 0 (.b 0 2 (.b 0 4 (.b 2 1 (.b 2 3 (.b 2 5 (.b 4 6 (.b 2 7 (.b 0 8 (.f) .o) .o) .o) .o) .o) (.b 2 3 (.b 2 1 (.b 2 5 (.b 4 6 (.b 2 7 (.b 0 8 (.f) .o) .o) .o) .o) (.b 2 5 (.b 2 1 (.b 4 6 (.b 2 7 (.b 0 8 (.f) .o) .o) .o) .o) .o)) .o)) .o) .o) .o) _ _ (by kernel_rfl) (by kernel_rfl) ?_
  simp only [go_sem, Nat.reduceBEq, Nat.reduceLT, Nat.reduceLeDiff, Nat.reduceAdd, Nat.reduceMul, Nat.reduceSub, Nat.reduceMod, Nat.reduceDiv, Nat.reduceEqDiff, Int.reduceToNat, reduceIte, reduceCtorEq, Int.reduceLE, Int.reduceLT, Int.reduceEq, Int.reduceNeg, Int.reduceAdd, Int.reduceSub, Int.reduceMul, hs, hi]
  refine ⟨callA_false (sheet_E _ _ _ i P (by first | (simp only [go_sem, Nat.reduceBEq, Nat.reduceLT, Nat.reduceLeDiff, Nat.reduceAdd, Nat.reduceMul, Nat.reduceSub, Nat.reduceMod, Nat.reduceDiv, Nat.reduceEqDiff, Int.reduceToNat, reduceIte, reduceCtorEq, Int.reduceLE, Int.reduceLT, Int.reduceEq, Int.reduceNeg, Int.reduceAdd, Int.reduceSub, Int.reduceMul, hs, hi]; done) | (simp only [go_sem, Nat.reduceBEq, Nat.reduceLT, Nat.reduceLeDiff, Nat.reduceAdd, Nat.reduceMul, Nat.reduceSub, Nat.reduceMod, Nat.reduceDiv, Nat.reduceEqDiff, Int.reduceToNat, reduceIte, reduceCtorEq, Int.reduceLE, Int.reduceLT, Int.reduceEq, Int.reduceNeg, Int.reduceAdd, Int.reduceSub, Int.reduceMul, hs, hi]; rfl)) (by omega) _ ?_), callA_false (sheet_E _ _ _ i P (by first | (simp only [go_sem, Nat.reduceBEq, Nat.reduceLT, Nat.reduceLeDiff, Nat.reduceAdd, Nat.reduceMul, Nat.reduceSub, Nat.reduceMod, Nat.reduceDiv, Nat.reduceEqDiff, Int.reduceToNat, reduceIte, reduceCtorEq, Int.reduceLE, Int.reduceLT, Int.reduceEq, Int.reduceNeg, Int.reduceAdd, Int.reduceSub, Int.reduceMul, hs, hi]; done) | (simp only [go_sem, Nat.reduceBEq, Nat.reduceLT, Nat.reduceLeDiff, Nat.reduceAdd, Nat.reduceMul, Nat.reduceSub, Nat.reduceMod, Nat.reduceDiv, Nat.reduceEqDiff, Int.reduceToNat, reduceIte, reduceCtorEq, Int.reduceLE, Int.reduceLT, Int.reduceEq, Int.reduceNeg, Int.reduceAdd, Int.reduceSub, Int.reduceMul, hs, hi]; rfl)) (by omega) _ ?_)⟩
  · simp only [go_sem, Nat.reduceBEq, Nat.reduceLT, Nat.reduceLeDiff, Nat.reduceAdd, Nat.reduceMul, Nat.reduceSub, Nat.reduceMod, Nat.reduceDiv, Nat.reduceEqDiff, Int.reduceToNat, reduceIte, reduceCtorEq, Int.reduceLE, Int.reduceLT, Int.reduceEq, Int.reduceNeg, Int.reduceAdd, Int.reduceSub, Int.reduceMul, hs, hi]
    refine callA_false (neighbours_E _ _ _ _ 0 (shS (psh P)) (psh P) x y (by first | (simp only [go_sem, Nat.reduceBEq, Nat.reduceLT, Nat.reduceLeDiff, Nat.reduceAdd, Nat.reduceMul, Nat.reduceSub, Nat.reduceMod, Nat.reduceDiv, Nat.reduceEqDiff, Int.reduceToNat, reduceIte, reduceCtorEq, Int.reduceLE, Int.reduceLT, Int.reduceEq, Int.reduceNeg, Int.reduceAdd, Int.reduceSub, Int.reduceMul]; done) | (simp only [go_sem, Nat.reduceBEq, Nat.reduceLT, Nat.reduceLeDiff, Nat.reduceAdd, Nat.reduceMul, Nat.reduceSub, Nat.reduceMod, Nat.reduceDiv, Nat.reduceEqDiff, Int.reduceToNat, reduceIte, reduceCtorEq, Int.reduceLE, Int.reduceLT, Int.reduceEq, Int.reduceNeg, Int.reduceAdd, Int.reduceSub, Int.reduceMul]; rfl)) (by omega) (shAt_shC (psh_R hR)) (psh_small hP) _ fun cap2 => ?_)
    simp only [go_sem, Nat.reduceBEq, Nat.reduceLT, Nat.reduceLeDiff, Nat.reduceAdd, Nat.reduceMul, Nat.reduceSub, Nat.reduceMod, Nat.reduceDiv, Nat.reduceEqDiff, Int.reduceToNat, reduceIte, reduceCtorEq, Int.reduceLE, Int.reduceLT, Int.reduceEq, Int.reduceNeg, Int.reduceAdd, Int.reduceSub, Int.reduceMul, hs, hi]
    refine ⟨⟨allP_iff.2 fun j hj => (spotsC_flat _ j).one, by simp [Go.maxLen], by omega⟩, fun cap3 c1 c2 => ?_⟩
    rw [hln 0]
    refine callA_false (setFew_E _ _ _ _ _ ((x, y) :: nb (psh P) x y) _ (by first | (simp only [go_sem, Nat.reduceBEq, Nat.reduceLT, Nat.reduceLeDiff, Nat.reduceAdd, Nat.reduceMul, Nat.reduceSub, Nat.reduceMod, Nat.reduceDiv, Nat.reduceEqDiff, Int.reduceToNat, reduceIte, reduceCtorEq, Int.reduceLE, Int.reduceLT, Int.reduceEq, Int.reduceNeg, Int.reduceAdd, Int.reduceSub, Int.reduceMul]; done) | (simp only [go_sem, Nat.reduceBEq, Nat.reduceLT, Nat.reduceLeDiff, Nat.reduceAdd, Nat.reduceMul, Nat.reduceSub, Nat.reduceMod, Nat.reduceDiv, Nat.reduceEqDiff, Int.reduceToNat, reduceIte, reduceCtorEq, Int.reduceLE, Int.reduceLT, Int.reduceEq, Int.reduceNeg, Int.reduceAdd, Int.reduceSub, Int.reduceMul]; rfl)) (by omega) (Nat.le_refl _) (by intro k _; dsimp only; exact both_cons (x, y) _ _ rfl rfl k) (by simp; omega) hnd _ fun cap4 => ?_)
    rw [hst]
    simp only [go_sem, Nat.reduceBEq, Nat.reduceLT, Nat.reduceLeDiff, Nat.reduceAdd, Nat.reduceMul, Nat.reduceSub, Nat.reduceMod, Nat.reduceDiv, Nat.reduceEqDiff, Int.reduceToNat, reduceIte, reduceCtorEq, Int.reduceLE, Int.reduceLT, Int.reduceEq, Int.reduceNeg, Int.reduceAdd, Int.reduceSub, Int.reduceMul, HExt_cons, hd1, hd2, hd3]
    exact ⟨n + 5, cap4, by omega, rfl, _, (by first | (simp only [go_sem, Nat.reduceBEq, Nat.reduceLT, Nat.reduceLeDiff, Nat.reduceAdd, Nat.reduceMul, Nat.reduceSub, Nat.reduceMod, Nat.reduceDiv, Nat.reduceEqDiff, Int.reduceToNat, reduceIte, reduceCtorEq, Int.reduceLE, Int.reduceLT, Int.reduceEq, Int.reduceNeg, Int.reduceAdd, Int.reduceSub, Int.reduceMul]; done) | (simp only [go_sem, Nat.reduceBEq, Nat.reduceLT, Nat.reduceLeDiff, Nat.reduceAdd, Nat.reduceMul, Nat.reduceSub, Nat.reduceMod, Nat.reduceDiv, Nat.reduceEqDiff, Int.reduceToNat, reduceIte, reduceCtorEq, Int.reduceLE, Int.reduceLT, Int.reduceEq, Int.reduceNeg, Int.reduceAdd, Int.reduceSub, Int.reduceMul]; rfl)), rfl, rfl, fun _ _ => rfl⟩
  · simp only [go_sem, Nat.reduceBEq, Nat.reduceLT, Nat.reduceLeDiff, Nat.reduceAdd, Nat.reduceMul, Nat.reduceSub, Nat.reduceMod, Nat.reduceDiv, Nat.reduceEqDiff, Int.reduceToNat, reduceIte, reduceCtorEq, Int.reduceLE, Int.reduceLT, Int.reduceEq, Int.reduceNeg, Int.reduceAdd, Int.reduceSub, Int.reduceMul, hs, hi]
    refine ⟨callA_false (neighbours_E _ _ _ _ 0 (shS (psh P)) (psh P) x y (by first | (simp only [go_sem, Nat.reduceBEq, Nat.reduceLT, Nat.reduceLeDiff, Nat.reduceAdd, Nat.reduceMul, Nat.reduceSub, Nat.reduceMod, Nat.reduceDiv, Nat.reduceEqDiff, Int.reduceToNat, reduceIte, reduceCtorEq, Int.reduceLE, Int.reduceLT, Int.reduceEq, Int.reduceNeg, Int.reduceAdd, Int.reduceSub, Int.reduceMul]; done) | (simp only [go_sem, Nat.reduceBEq, Nat.reduceLT, Nat.reduceLeDiff, Nat.reduceAdd, Nat.reduceMul, Nat.reduceSub, Nat.reduceMod, Nat.reduceDiv, Nat.reduceEqDiff, Int.reduceToNat, reduceIte, reduceCtorEq, Int.reduceLE, Int.reduceLT, Int.reduceEq, Int.reduceNeg, Int.reduceAdd, Int.reduceSub, Int.reduceMul]; rfl)) (by omega) (shAt_shC (psh_R hR)) (psh_small hP) _ fun cap2 => ?_), callA_false (neighbours_E _ _ _ _ 0 (shS (psh P)) (psh P) x y (by first | (simp only [go_sem, Nat.reduceBEq, Nat.reduceLT, Nat.reduceLeDiff, Nat.reduceAdd, Nat.reduceMul, Nat.reduceSub, Nat.reduceMod, Nat.reduceDiv, Nat.reduceEqDiff, Int.reduceToNat, reduceIte, reduceCtorEq, Int.reduceLE, Int.reduceLT, Int.reduceEq, Int.reduceNeg, Int.reduceAdd, Int.reduceSub, Int.reduceMul]; done) | (simp only [go_sem, Nat.reduceBEq, Nat.reduceLT, Nat.reduceLeDiff, Nat.reduceAdd, Nat.reduceMul, Nat.reduceSub, Nat.reduceMod, Nat.reduceDiv, Nat.reduceEqDiff, Int.reduceToNat, reduceIte, reduceCtorEq, Int.reduceLE, Int.reduceLT, Int.reduceEq, Int.reduceNeg, Int.reduceAdd, Int.reduceSub, Int.reduceMul]; rfl)) (by omega) (shAt_shC (psh_R hR)) (psh_small hP) _ fun cap2 => ?_)⟩
    · simp only [go_sem, Nat.reduceBEq, Nat.reduceLT, Nat.reduceLeDiff, Nat.reduceAdd, Nat.reduceMul, Nat.reduceSub, Nat.reduceMod, Nat.reduceDiv, Nat.reduceEqDiff, Int.reduceToNat, reduceIte, reduceCtorEq, Int.reduceLE, Int.reduceLT, Int.reduceEq, Int.reduceNeg, Int.reduceAdd, Int.reduceSub, Int.reduceMul, hs, hi]
      refine ⟨⟨allP_iff.2 fun j hj => (spotsC_flat _ j).one, by simp [Go.maxLen], by omega⟩, fun cap3 c1 c2 => ?_⟩
      rw [hln 0]
      refine callA_false (setFew_E _ _ _ _ _ ((x, y) :: nb (psh P) x y) _ (by first | (simp only [go_sem, Nat.reduceBEq, Nat.reduceLT, Nat.reduceLeDiff, Nat.reduceAdd, Nat.reduceMul, Nat.reduceSub, Nat.reduceMod, Nat.reduceDiv, Nat.reduceEqDiff, Int.reduceToNat, reduceIte, reduceCtorEq, Int.reduceLE, Int.reduceLT, Int.reduceEq, Int.reduceNeg, Int.reduceAdd, Int.reduceSub, Int.reduceMul]; done) | (simp only [go_sem, Nat.reduceBEq, Nat.reduceLT, Nat.reduceLeDiff, Nat.reduceAdd, Nat.reduceMul, Nat.reduceSub, Nat.reduceMod, Nat.reduceDiv, Nat.reduceEqDiff, Int.reduceToNat, reduceIte, reduceCtorEq, Int.reduceLE, Int.reduceLT, Int.reduceEq, Int.reduceNeg, Int.reduceAdd, Int.reduceSub, Int.reduceMul]; rfl)) (by omega) (Nat.le_refl _) (by intro k _; dsimp only; exact both_cons (x, y) _ _ rfl rfl k) (by simp; omega) hnd _ fun cap4 => ?_)
      rw [hst]
      simp only [go_sem, Nat.reduceBEq, Nat.reduceLT, Nat.reduceLeDiff, Nat.reduceAdd, Nat.reduceMul, Nat.reduceSub, Nat.reduceMod, Nat.reduceDiv, Nat.reduceEqDiff, Int.reduceToNat, reduceIte, reduceCtorEq, Int.reduceLE, Int.reduceLT, Int.reduceEq, Int.reduceNeg, Int.reduceAdd, Int.reduceSub, Int.reduceMul, HExt_cons, hd1, hd2, hd3]
      exact ⟨n + 5, cap4, by omega, rfl, _, (by first | (simp only [go_sem, Nat.reduceBEq, Nat.reduceLT, Nat.reduceLeDiff, Nat.reduceAdd, Nat.reduceMul, Nat.reduceSub, Nat.reduceMod, Nat.reduceDiv, Nat.reduceEqDiff, Int.reduceToNat, reduceIte, reduceCtorEq, Int.reduceLE, Int.reduceLT, Int.reduceEq, Int.reduceNeg, Int.reduceAdd, Int.reduceSub, Int.reduceMul]; done) | (simp only [go_sem, Nat.reduceBEq, Nat.reduceLT, Nat.reduceLeDiff, Nat.reduceAdd, Nat.reduceMul, Nat.reduceSub, Nat.reduceMod, Nat.reduceDiv, Nat.reduceEqDiff, Int.reduceToNat, reduceIte, reduceCtorEq, Int.reduceLE, Int.reduceLT, Int.reduceEq, Int.reduceNeg, Int.reduceAdd, Int.reduceSub, Int.reduceMul]; rfl)), rfl, rfl, fun _ _ => rfl⟩
    · simp only [go_sem, Nat.reduceBEq, Nat.reduceLT, Nat.reduceLeDiff, Nat.reduceAdd, Nat.reduceMul, Nat.reduceSub, Nat.reduceMod, Nat.reduceDiv, Nat.reduceEqDiff, Int.reduceToNat, reduceIte, reduceCtorEq, Int.reduceLE, Int.reduceLT, Int.reduceEq, Int.reduceNeg, Int.reduceAdd, Int.reduceSub, Int.reduceMul, hs, hi]
      refine ⟨⟨allP_iff.2 fun j hj => (spotsC_flat _ j).one, by simp [Go.maxLen], by omega⟩, fun cap3 c1 c2 => ?_⟩
      rw [hln 0]
      refine callA_false (setFew_E _ _ _ _ _ ((x, y) :: nb (psh P) x y) _ (by first | (simp only [go_sem, Nat.reduceBEq, Nat.reduceLT, Nat.reduceLeDiff, Nat.reduceAdd, Nat.reduceMul, Nat.reduceSub, Nat.reduceMod, Nat.reduceDiv, Nat.reduceEqDiff, Int.reduceToNat, reduceIte, reduceCtorEq, Int.reduceLE, Int.reduceLT, Int.reduceEq, Int.reduceNeg, Int.reduceAdd, Int.reduceSub, Int.reduceMul]; done) | (simp only [go_sem, Nat.reduceBEq, Nat.reduceLT, Nat.reduceLeDiff, Nat.reduceAdd, Nat.reduceMul, Nat.reduceSub, Nat.reduceMod, Nat.reduceDiv, Nat.reduceEqDiff, Int.reduceToNat, reduceIte, reduceCtorEq, Int.reduceLE, Int.reduceLT, Int.reduceEq, Int.reduceNeg, Int.reduceAdd, Int.reduceSub, Int.reduceMul]; rfl)) (by omega) (Nat.le_refl _) (by intro k _; dsimp only; exact both_cons (x, y) _ _ rfl rfl k) (by simp; omega) hnd _ fun cap4 => ?_)
      rw [hst]
      simp only [go_sem, Nat.reduceBEq, Nat.reduceLT, Nat.reduceLeDiff, Nat.reduceAdd, Nat.reduceMul, Nat.reduceSub, Nat.reduceMod, Nat.reduceDiv, Nat.reduceEqDiff, Int.reduceToNat, reduceIte, reduceCtorEq, Int.reduceLE, Int.reduceLT, Int.reduceEq, Int.reduceNeg, Int.reduceAdd, Int.reduceSub, Int.reduceMul, HExt_cons, hd1, hd2, hd3]
      exact ⟨n + 5, cap4, by omega, rfl, _, (by first | (simp only [go_sem, Nat.reduceBEq, Nat.reduceLT, Nat.reduceLeDiff, Nat.reduceAdd, Nat.reduceMul, Nat.reduceSub, Nat.reduceMod, Nat.reduceDiv, Nat.reduceEqDiff, Int.reduceToNat, reduceIte, reduceCtorEq, Int.reduceLE, Int.reduceLT, Int.reduceEq, Int.reduceNeg, Int.reduceAdd, Int.reduceSub, Int.reduceMul]; done) | (simp only [go_sem, Nat.reduceBEq, Nat.reduceLT, Nat.reduceLeDiff, Nat.reduceAdd, Nat.reduceMul, Nat.reduceSub, Nat.reduceMod, Nat.reduceDiv, Nat.reduceEqDiff, Int.reduceToNat, reduceIte, reduceCtorEq, Int.reduceLE, Int.reduceLT, Int.reduceEq, Int.reduceNeg, Int.reduceAdd, Int.reduceSub, Int.reduceMul]; rfl)), rfl, rfl, fun _ _ => rfl⟩
end
end Go.Proofs.Ytodgbpkdanefaaa.V

/- Pictures: validity, covered cells: the reference's walk. -/
namespace Go.Proofs.Ytodgbpkdanefaaa.V
theorem both_snoc (A : List (Int × Int)) (a : Int × Int) (c : Nat → SV) (h0 : c 0 = .int .i8 a.1) (h1 : c 1 = .int .i8 a.2) {z : Nat} (hz : z < (A.length + 1) * 2) : both (A.length * 2) (spotsC A) (news c 0) z = spotsC (A ++ [a]) z := by
  unfold both news
  split
  · rename_i h5; rw [spotsC_take (b := [a]) h5]
  · rename_i h5
    rcases (by omega : z = A.length * 2 ∨ z = A.length * 2 + 1) with rfl | rfl
    · rw [(spotsC_last _ _).1, Nat.sub_self, Nat.zero_add, h0]
    · rw [(spotsC_last _ _).2, show 0 + (A.length * 2 + 1 - A.length * 2) = 1 by omega, h1]
section
variable (cx : Cx) (h : List (Nat × Seg)) (n : Nat)
theorem is7_Q (i : Nat) (P : Pc) (x y : Int) (hs : hget h i = some (pcS P)) (hi : i < n) (hR : PcR P) (hx : -128 ≤ x ∧ x < 128) (hy : -128 ≤ y ∧ y < 128) :
    CallQ Try.prog cx 46 [.ptr i 0, spot x y] h n (.bool (hasB (psh P) x y)) := by
  have wW := hR.wide; have wH := hR.high
  have e : hasB (psh P) x y = (decide (0 ≤ x ∧ x ≤ P.wide - 1) && decide (0 ≤ y ∧ y ≤ P.high - 1)) := by
    rw [psh_has, Bool.eq_iff_iff]
    simp only [Bool.and_eq_true, decide_eq_true_eq]
    omega
  rw [e]
  refine callQ_of_T (P := Try.prog) hti (nt := 27) (rs := [.tmp 4]) rfl rfl Try.call46 Try.func46 rfl _ (by simp only [go_sem, and_self]) (Nat.le_of_ble_eq_true rfl) _ (by first | exact trivial | (refine lt_flat rfl ?_; simp [SV.flat]; done) | simp only [go_sem]) fun hok => ?_
  simp only [go_sem, Nat.reduceBEq, Nat.reduceLT, Nat.reduceLeDiff, Nat.reduceAdd, Nat.reduceMul, Nat.reduceSub, Nat.reduceMod, Nat.reduceDiv, Nat.reduceEqDiff, Int.reduceToNat, reduceIte, reduceCtorEq, Int.reduceLE, Int.reduceLT, Int.reduceEq, Int.reduceNeg, Int.reduceAdd, Int.reduceSub, Int.reduceMul]
  refine T_draw hti _ _ (by kernel_rfl) (by kernel_rfl) ?_
  simp only [go_sem, Nat.reduceBEq, Nat.reduceLT, Nat.reduceLeDiff, Nat.reduceAdd, Nat.reduceMul, Nat.reduceSub, Nat.reduceMod, Nat.reduceDiv, Nat.reduceEqDiff, Int.reduceToNat, reduceIte, reduceCtorEq, Int.reduceLE, Int.reduceLT, Int.reduceEq, Int.reduceNeg, Int.reduceAdd, Int.reduceSub, Int.reduceMul, hs, hi, w64 (n := x) (by omega), w64 (n := P.wide) (by omega), w64 (n := P.wide - 1) (by omega)]
  refine (in_Q _ _ _ _ _ _).A ?_
  by_cases h1 : 0 ≤ x ∧ x ≤ P.wide - 1
  · simp only [go_sem, Nat.reduceBEq, Nat.reduceLT, Nat.reduceLeDiff, Nat.reduceAdd, Nat.reduceMul, Nat.reduceSub, Nat.reduceMod, Nat.reduceDiv, Nat.reduceEqDiff, Int.reduceToNat, reduceIte, reduceCtorEq, Int.reduceLE, Int.reduceLT, Int.reduceEq, Int.reduceNeg, Int.reduceAdd, Int.reduceSub, Int.reduceMul, h1, hs, hi, w64 (n := y) (by omega), w64 (n := P.high) (by omega), w64 (n := P.high - 1) (by omega)]
    refine (in_Q _ _ _ _ _ _).A ?_
    simp only [go_sem, Nat.reduceBEq, Nat.reduceLT, Nat.reduceLeDiff, Nat.reduceAdd, Nat.reduceMul, Nat.reduceSub, Nat.reduceMod, Nat.reduceDiv, Nat.reduceEqDiff, Int.reduceToNat, reduceIte, reduceCtorEq, Int.reduceLE, Int.reduceLT, Int.reduceEq, Int.reduceNeg, Int.reduceAdd, Int.reduceSub, Int.reduceMul]
  · simp only [go_sem, Nat.reduceBEq, Nat.reduceLT, Nat.reduceLeDiff, Nat.reduceAdd, Nat.reduceMul, Nat.reduceSub, Nat.reduceMod, Nat.reduceDiv, Nat.reduceEqDiff, Int.reduceToNat, reduceIte, reduceCtorEq, Int.reduceLE, Int.reduceLT, Int.reduceEq, Int.reduceNeg, Int.reduceAdd, Int.reduceSub, Int.reduceMul, h1]
theorem ok7_Q (i : Nat) (P : Pc) (hs : hget h i = some (pcS P)) (hi : i < n) (hR : PcR P) : CallQ Try.prog cx 45 [.ptr i 0] h n (.bool (pcokB P)) := by
  have wW := w64 (n := P.wide) (by have := hR.wide; omega)
  have wH := w64 (n := P.high) (by have := hR.high; omega)
  have bad : ∀ y x : Int, 0 ≤ y → y < 8 → 0 ≤ x → x < 8 → ¬ (P.ink y x ≤ 3 ∧ (0 < P.ink y x → x < P.wide ∧ y < P.high)) → pcokB P = false := fun y x a b c d hn => pcokB_f fun hk => hn (hk.2 y x a b c d)
  refine callQ_of_T (P := Try.prog) hti (nt := 57) (rs := [.tmp 2]) rfl rfl Try.call45 Try.func45 rfl _ (by simp only [go_sem, and_self]) (Nat.le_of_ble_eq_true rfl) _ (by first | exact trivial | (refine lt_flat rfl ?_; simp [SV.flat]; done) | simp only [go_sem]) fun hok => ?_
  simp only [go_sem, Nat.reduceBEq, Nat.reduceLT, Nat.reduceLeDiff, Nat.reduceAdd, Nat.reduceMul, Nat.reduceSub, Nat.reduceMod, Nat.reduceDiv, Nat.reduceEqDiff, Int.reduceToNat, reduceIte, reduceCtorEq, Int.reduceLE, Int.reduceLT, Int.reduceEq, Int.reduceNeg, Int.reduceAdd, Int.reduceSub, Int.reduceMul, hs, hi, wW, wH]
  refine (in_Q _ _ _ P.wide 1 8).A ?_
  by_cases hw : 1 ≤ P.wide ∧ P.wide ≤ 8
  rotate_left
  · simp only [go_sem, Nat.reduceBEq, Nat.reduceLT, Nat.reduceLeDiff, Nat.reduceAdd, Nat.reduceMul, Nat.reduceSub, Nat.reduceMod, Nat.reduceDiv, Nat.reduceEqDiff, Int.reduceToNat, reduceIte, reduceCtorEq, Int.reduceLE, Int.reduceLT, Int.reduceEq, Int.reduceNeg, Int.reduceAdd, Int.reduceSub, Int.reduceMul, hw]
    rw [pcokB_f fun hv => hw ⟨hv.1.1, hv.1.2.1⟩]
  simp only [go_sem, Nat.reduceBEq, Nat.reduceLT, Nat.reduceLeDiff, Nat.reduceAdd, Nat.reduceMul, Nat.reduceSub, Nat.reduceMod, Nat.reduceDiv, Nat.reduceEqDiff, Int.reduceToNat, reduceIte, reduceCtorEq, Int.reduceLE, Int.reduceLT, Int.reduceEq, Int.reduceNeg, Int.reduceAdd, Int.reduceSub, Int.reduceMul, hs, hi, wW, wH, hw]
  refine (in_Q _ _ _ P.high 1 8).A ?_
  by_cases hh : 1 ≤ P.high ∧ P.high ≤ 8
  rotate_left
  · simp only [go_sem, Nat.reduceBEq, Nat.reduceLT, Nat.reduceLeDiff, Nat.reduceAdd, Nat.reduceMul, Nat.reduceSub, Nat.reduceMod, Nat.reduceDiv, Nat.reduceEqDiff, Int.reduceToNat, reduceIte, reduceCtorEq, Int.reduceLE, Int.reduceLT, Int.reduceEq, Int.reduceNeg, Int.reduceAdd, Int.reduceSub, Int.reduceMul, hh]
    rw [pcokB_f fun hv => hh ⟨hv.1.2.2.1, hv.1.2.2.2⟩]
  simp only [go_sem, Nat.reduceBEq, Nat.reduceLT, Nat.reduceLeDiff, Nat.reduceAdd, Nat.reduceMul, Nat.reduceSub, Nat.reduceMod, Nat.reduceDiv, Nat.reduceEqDiff, Int.reduceToNat, reduceIte, reduceCtorEq, Int.reduceLE, Int.reduceLT, Int.reduceEq, Int.reduceNeg, Int.reduceAdd, Int.reduceSub, Int.reduceMul, hh]
  refine T_lp (ι := { y : Nat // y ≤ 8 ∧ ∀ y' x' : Int, 0 ≤ y' → y' < y → 0 ≤ x' → x' < 8 → P.ink y' x' ≤ 3 ∧ (0 < P.ink y' x' → x' < P.wide ∧ y' < P.high) })
    (fun y => ([(0, .ptr i 0), (3, .int .i8 y.1)], h, n)) (fun y => 8 - y.1) ⟨0, by omega, fun _ _ _ _ => by omega⟩ ?_ ?_
  · refine Imp.id (by simp) ?_ (impH.base0 hok (by simp) HExt.rfl)
    simp only [go_sem, Nat.reduceBEq, Nat.reduceLT, Nat.reduceLeDiff, Nat.reduceAdd, Nat.reduceMul, Nat.reduceSub, Nat.reduceMod, Nat.reduceDiv, Nat.reduceEqDiff, Int.reduceToNat, reduceIte, reduceCtorEq, Int.reduceLE, Int.reduceLT, Int.reduceEq, Int.reduceNeg, Int.reduceAdd, Int.reduceSub, Int.reduceMul]
    exact hi
  · rintro ⟨y, hy, hall⟩
    simp only [go_sem, Nat.reduceBEq, Nat.reduceLT, Nat.reduceLeDiff, Nat.reduceAdd, Nat.reduceMul, Nat.reduceSub, Nat.reduceMod, Nat.reduceDiv, Nat.reduceEqDiff, Int.reduceToNat, reduceIte, reduceCtorEq, Int.reduceLE, Int.reduceLT, Int.reduceEq, Int.reduceNeg, Int.reduceAdd, Int.reduceSub, Int.reduceMul, decide_eq_true_eq, decide_eq_false_iff_not]
    refine ⟨fun h1 => ?_, fun h1 => ?_⟩
    rotate_left
    · have hy8 : y = 8 := by omega
      subst hy8
      rw [pcokB_t ⟨⟨hw.1, hw.2, hh.1, hh.2⟩, fun y x a b c d => hall y x a b c d⟩]
    refine T_lp (ι := { x : Nat // x ≤ 8 ∧ ∀ x' : Int, 0 ≤ x' → x' < x → P.ink y x' ≤ 3 ∧ (0 < P.ink y x' → x' < P.wide ∧ (y : Int) < P.high) })
      (fun x => ([(0, .ptr i 0), (3, .int .i8 y), (4, .int .i8 x.1)], h, n)) (fun x => 8 - x.1) ⟨0, by omega, fun _ _ _ => by omega⟩ ?_ ?_
    · refine Imp.id (by simp) ?_ (impH.base0 hok (by simp) HExt.rfl)
      simp only [go_sem, Nat.reduceBEq, Nat.reduceLT, Nat.reduceLeDiff, Nat.reduceAdd, Nat.reduceMul, Nat.reduceSub, Nat.reduceMod, Nat.reduceDiv, Nat.reduceEqDiff, Int.reduceToNat, reduceIte, reduceCtorEq, Int.reduceLE, Int.reduceLT, Int.reduceEq, Int.reduceNeg, Int.reduceAdd, Int.reduceSub, Int.reduceMul]
      exact hi
    · rintro ⟨x, hx, hax⟩
      simp only [go_sem, Nat.reduceBEq, Nat.reduceLT, Nat.reduceLeDiff, Nat.reduceAdd, Nat.reduceMul, Nat.reduceSub, Nat.reduceMod, Nat.reduceDiv, Nat.reduceEqDiff, Int.reduceToNat, reduceIte, reduceCtorEq, Int.reduceLE, Int.reduceLT, Int.reduceEq, Int.reduceNeg, Int.reduceAdd, Int.reduceSub, Int.reduceMul, decide_eq_true_eq, decide_eq_false_iff_not]
      refine ⟨fun h2 => ?_, fun h2 => ?_⟩
      rotate_left
      · have hx8 : x = 8 := by omega
        subst hx8
        refine ⟨⟨y + 1, by omega, fun y' x' a b c d => ?_⟩, by show 8 - (y + 1) < 8 - y; omega, ?_⟩
        · rcases (by omega : y' < y ∨ y' = y) with e | rfl
          · exact hall y' x' a e c d
          · exact hax x' c d
        · refine Imp.id (by simp) ?_ (impH.base0 hok (by simp) HExt.rfl)
          simp only [go_sem, Nat.reduceBEq, Nat.reduceLT, Nat.reduceLeDiff, Nat.reduceAdd, Nat.reduceMul, Nat.reduceSub, Nat.reduceMod, Nat.reduceDiv, Nat.reduceEqDiff, Int.reduceToNat, reduceIte, reduceCtorEq, Int.reduceLE, Int.reduceLT, Int.reduceEq, Int.reduceNeg, Int.reduceAdd, Int.reduceSub, Int.reduceMul, w8 (n := (y : Int) + 1) (by omega), Int.natCast_add, Int.natCast_one]
          exact hi
      have next : (P.ink y x ≤ 3 ∧ (0 < P.ink y x → (x : Int) < P.wide ∧ (y : Int) < P.high)) → ∀ x' : Int, 0 ≤ x' → x' < ((x + 1 : Nat) : Int) → P.ink y x' ≤ 3 ∧ (0 < P.ink y x' → x' < P.wide ∧ (y : Int) < P.high) := fun hc x' a b => by
        rcases (by omega : x' < x ∨ x' = x) with e | rfl
        · exact hax x' a e
        · exact hc
      have ry : (0 : Int) ≤ y ∧ (y : Int) < 8 := ⟨by omega, h1⟩
      have rx : (0 : Int) ≤ x ∧ (x : Int) < 8 := ⟨by omega, h2⟩
      have bd := bad y x (by omega) (by omega) (by omega) (by omega)
      have hv := pcC_ofNat P y x (by omega) (by omega)
      have c1 : 2 + y * 8 + x ≤ 65 := by omega
      have c2 : 2 + y * 8 + x + 1 ≤ 66 := by omega
      by_cases i3 : 3 < P.ink y x
      · simp only [go_sem, Nat.reduceBEq, Nat.reduceLT, Nat.reduceLeDiff, Nat.reduceAdd, Nat.reduceMul, Nat.reduceSub, Nat.reduceMod, Nat.reduceDiv, Nat.reduceEqDiff, Int.reduceToNat, reduceIte, reduceCtorEq, Int.reduceLE, Int.reduceLT, Int.reduceEq, Int.reduceNeg, Int.reduceAdd, Int.reduceSub, Int.reduceMul, hs, hi, rx, ry, hv, c1, c2, i3]
        rw [bd (by omega)]
      by_cases i0 : 0 < P.ink y x
      · simp only [go_sem, Nat.reduceBEq, Nat.reduceLT, Nat.reduceLeDiff, Nat.reduceAdd, Nat.reduceMul, Nat.reduceSub, Nat.reduceMod, Nat.reduceDiv, Nat.reduceEqDiff, Int.reduceToNat, reduceIte, reduceCtorEq, Int.reduceLE, Int.reduceLT, Int.reduceEq, Int.reduceNeg, Int.reduceAdd, Int.reduceSub, Int.reduceMul, hs, hi, rx, ry, hv, c1, c2, i3, i0]
        refine (is7_Q _ _ _ i P x y (by simp only [go_sem, Nat.reduceBEq, Nat.reduceLT, Nat.reduceLeDiff, Nat.reduceAdd, Nat.reduceMul, Nat.reduceSub, Nat.reduceMod, Nat.reduceDiv, Nat.reduceEqDiff, Int.reduceToNat, reduceIte, reduceCtorEq, Int.reduceLE, Int.reduceLT, Int.reduceEq, Int.reduceNeg, Int.reduceAdd, Int.reduceSub, Int.reduceMul, hs, hi]) (by omega) hR (by omega) (by omega)).A ?_
        by_cases hb : hasB (psh P) x y = true
        · have hb' := hb
          simp only [psh_has, Bool.and_eq_true, decide_eq_true_eq] at hb'
          simp only [go_sem, Nat.reduceBEq, Nat.reduceLT, Nat.reduceLeDiff, Nat.reduceAdd, Nat.reduceMul, Nat.reduceSub, Nat.reduceMod, Nat.reduceDiv, Nat.reduceEqDiff, Int.reduceToNat, reduceIte, reduceCtorEq, Int.reduceLE, Int.reduceLT, Int.reduceEq, Int.reduceNeg, Int.reduceAdd, Int.reduceSub, Int.reduceMul, hb]
          refine ⟨⟨x + 1, by omega, next (by omega)⟩, by show 8 - (x + 1) < 8 - x; omega, ?_⟩
          refine Imp.id (by simp) ?_ (impH.base0 hok (by simp) HExt.rfl)
          simp only [go_sem, Nat.reduceBEq, Nat.reduceLT, Nat.reduceLeDiff, Nat.reduceAdd, Nat.reduceMul, Nat.reduceSub, Nat.reduceMod, Nat.reduceDiv, Nat.reduceEqDiff, Int.reduceToNat, reduceIte, reduceCtorEq, Int.reduceLE, Int.reduceLT, Int.reduceEq, Int.reduceNeg, Int.reduceAdd, Int.reduceSub, Int.reduceMul, w8 (n := (x : Int) + 1) (by omega), Int.natCast_add, Int.natCast_one]
          exact hi
        · have hb' := hb
          simp only [psh_has, Bool.and_eq_true, decide_eq_true_eq] at hb'
          simp only [go_sem, Nat.reduceBEq, Nat.reduceLT, Nat.reduceLeDiff, Nat.reduceAdd, Nat.reduceMul, Nat.reduceSub, Nat.reduceMod, Nat.reduceDiv, Nat.reduceEqDiff, Int.reduceToNat, reduceIte, reduceCtorEq, Int.reduceLE, Int.reduceLT, Int.reduceEq, Int.reduceNeg, Int.reduceAdd, Int.reduceSub, Int.reduceMul, hb]
          rw [bd (by omega)]
      · simp only [go_sem, Nat.reduceBEq, Nat.reduceLT, Nat.reduceLeDiff, Nat.reduceAdd, Nat.reduceMul, Nat.reduceSub, Nat.reduceMod, Nat.reduceDiv, Nat.reduceEqDiff, Int.reduceToNat, reduceIte, reduceCtorEq, Int.reduceLE, Int.reduceLT, Int.reduceEq, Int.reduceNeg, Int.reduceAdd, Int.reduceSub, Int.reduceMul, hs, hi, rx, ry, hv, c1, c2, i3, i0]
        refine ⟨⟨x + 1, by omega, next (by omega)⟩, by show 8 - (x + 1) < 8 - x; omega, ?_⟩
        refine Imp.id (by simp) ?_ (impH.base0 hok (by simp) HExt.rfl)
        simp only [go_sem, Nat.reduceBEq, Nat.reduceLT, Nat.reduceLeDiff, Nat.reduceAdd, Nat.reduceMul, Nat.reduceSub, Nat.reduceMod, Nat.reduceDiv, Nat.reduceEqDiff, Int.reduceToNat, reduceIte, reduceCtorEq, Int.reduceLE, Int.reduceLT, Int.reduceEq, Int.reduceNeg, Int.reduceAdd, Int.reduceSub, Int.reduceMul, w8 (n := (x : Int) + 1) (by omega), Int.natCast_add, Int.natCast_one]
        exact hi
def nearL (x y : Int) : List (Int × Int) := [(x, y - 1), (x - 1, y), (x, y), (x + 1, y), (x, y + 1)]
theorem nearL_in {x y : Int} (hx : 0 ≤ x ∧ x < 8) (hy : 0 ≤ y ∧ y < 8) (k : Nat) : (-128 ≤ ((nearL x y).getD k (0, 0)).1 ∧ ((nearL x y).getD k (0, 0)).1 < 128) ∧ (-128 ≤ ((nearL x y).getD k (0, 0)).2 ∧ ((nearL x y).getD k (0, 0)).2 < 128) := by
  rcases (by omega : k = 0 ∨ k = 1 ∨ k = 2 ∨ k = 3 ∨ k = 4 ∨ 5 ≤ k) with rfl | rfl | rfl | rfl | rfl | h
  · show (-128 ≤ x ∧ x < 128) ∧ (-128 ≤ y - 1 ∧ y - 1 < 128); omega
  · show (-128 ≤ x - 1 ∧ x - 1 < 128) ∧ (-128 ≤ y ∧ y < 128); omega
  · show (-128 ≤ x ∧ x < 128) ∧ (-128 ≤ y ∧ y < 128); omega
  · show (-128 ≤ x + 1 ∧ x + 1 < 128) ∧ (-128 ≤ y ∧ y < 128); omega
  · show (-128 ≤ x ∧ x < 128) ∧ (-128 ≤ y + 1 ∧ y + 1 < 128); omega
  · rw [List.getD_eq_getElem?_getD, List.getElem?_eq_none (by simpa [nearL] using h)]; simp
theorem covered2_E (i : Nat) (P : Pc) (x y : Int) (hs : hget h i = some (pcS P)) (hi : i < n) (hR : PcR P) (hx : 0 ≤ x ∧ x < 8) (hy : 0 ≤ y ∧ y < 8) (K : HK)
    (hK : ∀ cap, K (.sl n 0 (covL P.wide P.high x y).length cap) ((n, ⟨(covL P.wide P.high x y).length * 2, spotsC (covL P.wide P.high x y), true, none⟩) :: h) (n + 1)) :
    CallE Try.prog cx 47 [.ptr i 0, spot x y] h n K := by
  refine CallE.spots (covL P.wide P.high x y) hK ?_
  generalize hPr : (fun a : Int × Int => hasB (psh P) a.1 a.2) = Pr
  have hPj : ∀ a, Pr a = hasB (psh P) a.1 a.2 := fun a => by rw [← hPr]
  have hcov : covL P.wide P.high x y = (nearL x y).filter Pr := by rw [← hPr]; rfl
  have e0 : ((besideL x y).getD 0 (0, 0)) = (x, y - 1) := by show (x, IntKind.i8.wrap (y - 1)) = _; rw [w8 (by omega)]
  have e1 : ((besideL x y).getD 1 (0, 0)) = (x + 1, y) := by show (IntKind.i8.wrap (x + 1), y) = _; rw [w8 (by omega)]
  have e2 : ((besideL x y).getD 2 (0, 0)) = (x, y + 1) := by show (x, IntKind.i8.wrap (y + 1)) = _; rw [w8 (by omega)]
  have e3 : ((besideL x y).getD 3 (0, 0)) = (x - 1, y) := by show (IntKind.i8.wrap (x - 1), y) = _; rw [w8 (by omega)]
  refine callE_of_T (P := Try.prog) hti (nt := 39) (rs := [.tmp 4]) rfl rfl Try.call47 Try.func47 rfl _ (by simp only [go_sem, and_self]) (Nat.le_of_ble_eq_true rfl) _ fun hok => ?_
  simp only [go_sem, Nat.reduceBEq, Nat.reduceLT, Nat.reduceLeDiff, Nat.reduceAdd, Nat.reduceMul, Nat.reduceSub, Nat.reduceMod, Nat.reduceDiv, Nat.reduceEqDiff, Int.reduceToNat, reduceIte, reduceCtorEq, Int.reduceLE, Int.reduceLT, Int.reduceEq, Int.reduceNeg, Int.reduceAdd, Int.reduceSub, Int.reduceMul]
  refine T_drawT hti 9 _ _ (by kernel_rfl) (by kernel_rfl) ?_
  simp only [go_sem, Nat.reduceBEq, Nat.reduceLT, Nat.reduceLeDiff, Nat.reduceAdd, Nat.reduceMul, Nat.reduceSub, Nat.reduceMod, Nat.reduceDiv, Nat.reduceEqDiff, Int.reduceToNat, reduceIte, reduceCtorEq, Int.reduceLE, Int.reduceLT, Int.reduceEq, Int.reduceNeg, Int.reduceAdd, Int.reduceSub, Int.reduceMul]
  refine (next_Q _ _ _ x y 0 (by omega)).A ?_
  simp only [go_sem, Nat.reduceBEq, Nat.reduceLT, Nat.reduceLeDiff, Nat.reduceAdd, Nat.reduceMul, Nat.reduceSub, Nat.reduceMod, Nat.reduceDiv, Nat.reduceEqDiff, Int.reduceToNat, reduceIte, reduceCtorEq, Int.reduceLE, Int.reduceLT, Int.reduceEq, Int.reduceNeg, Int.reduceAdd, Int.reduceSub, Int.reduceMul, e0]
  refine (next_Q _ _ _ x y 3 (by omega)).A ?_
  simp only [go_sem, Nat.reduceBEq, Nat.reduceLT, Nat.reduceLeDiff, Nat.reduceAdd, Nat.reduceMul, Nat.reduceSub, Nat.reduceMod, Nat.reduceDiv, Nat.reduceEqDiff, Int.reduceToNat, reduceIte, reduceCtorEq, Int.reduceLE, Int.reduceLT, Int.reduceEq, Int.reduceNeg, Int.reduceAdd, Int.reduceSub, Int.reduceMul, e3]
  refine (next_Q _ _ _ x y 1 (by omega)).A ?_
  simp only [go_sem, Nat.reduceBEq, Nat.reduceLT, Nat.reduceLeDiff, Nat.reduceAdd, Nat.reduceMul, Nat.reduceSub, Nat.reduceMod, Nat.reduceDiv, Nat.reduceEqDiff, Int.reduceToNat, reduceIte, reduceCtorEq, Int.reduceLE, Int.reduceLT, Int.reduceEq, Int.reduceNeg, Int.reduceAdd, Int.reduceSub, Int.reduceMul, e1]
  refine (next_Q _ _ _ x y 2 (by omega)).A ?_
  simp only [go_sem, Nat.reduceBEq, Nat.reduceLT, Nat.reduceLeDiff, Nat.reduceAdd, Nat.reduceMul, Nat.reduceSub, Nat.reduceMod, Nat.reduceDiv, Nat.reduceEqDiff, Int.reduceToNat, reduceIte, reduceCtorEq, Int.reduceLE, Int.reduceLT, Int.reduceEq, Int.reduceNeg, Int.reduceAdd, Int.reduceSub, Int.reduceMul, e2]
  have hsp : (34 : Nat) = 34 := rfl
  refine T_lp (ι := { q : Nat × Nat // q.1 ≤ 5 ∧ (((nearL x y).take q.1).filter Pr).length ≤ q.2 ∧ q.2 ≤ maxLen })
    (fun q => ([(0, .ptr i 0), (5, .sl (n + 1) 0 5 5), (6, .sl (n + 2) 0 (((nearL x y).take q.1.1).filter Pr).length q.1.2), (7, .int .i64 q.1.1)],
      (n + 2, ⟨(((nearL x y).take q.1.1).filter Pr).length * 2, spotsC (((nearL x y).take q.1.1).filter Pr), true, some (34, q.1.2 * 2)⟩) :: (n + 1, ⟨10, spotsC (nearL x y), true, none⟩) :: h, n + 3)) (fun q => 5 - q.1.1) ⟨(0, 0), by simp⟩ ?_ ?_
  · refine Imp.id (by simp) ?_ ?_
    · simp only [go_sem, Nat.reduceBEq, Nat.reduceLT, Nat.reduceLeDiff, Nat.reduceAdd, Nat.reduceMul, Nat.reduceSub, Nat.reduceMod, Nat.reduceDiv, Nat.reduceEqDiff, Int.reduceToNat, reduceIte, reduceCtorEq, Int.reduceLE, Int.reduceLT, Int.reduceEq, Int.reduceNeg, Int.reduceAdd, Int.reduceSub, Int.reduceMul]
      exact ⟨by omega, by omega, rfl, by omega⟩
    · refine impH.cons0 (hget_hit _ _ _) (by simp) (SegLe.flat (by simp) id (.inr (by simp)) fun k hk => by simp at hk) ?_
      refine impH.cons0 (by simp only [go_sem, Nat.reduceBEq, Nat.reduceLT, Nat.reduceLeDiff, Nat.reduceAdd, Nat.reduceMul, Nat.reduceSub, Nat.reduceMod, Nat.reduceDiv, Nat.reduceEqDiff, Int.reduceToNat, reduceIte, reduceCtorEq, Int.reduceLE, Int.reduceLT, Int.reduceEq, Int.reduceNeg, Int.reduceAdd, Int.reduceSub, Int.reduceMul]; rfl) (by simp) ?_ (impH.base0 hok (by simp) (by simp only [go_sem, Nat.reduceBEq, Nat.reduceLT, Nat.reduceLeDiff, Nat.reduceAdd, Nat.reduceMul, Nat.reduceSub, Nat.reduceMod, Nat.reduceDiv, Nat.reduceEqDiff, Int.reduceToNat, reduceIte, reduceCtorEq, Int.reduceLE, Int.reduceLT, Int.reduceEq, Int.reduceNeg, Int.reduceAdd, Int.reduceSub, Int.reduceMul, HExt_cons]))
      refine SegLe.flat (Nat.le_refl _) id (.inl rfl) fun z hz => ⟨?_, spotsC_flat _ _⟩
      have hz : z < 10 := hz
      rcases (by omega : z = 0 ∨ z = 1 ∨ z = 2 ∨ z = 3 ∨ z = 4 ∨ z = 5 ∨ z = 6 ∨ z = 7 ∨ z = 8 ∨ z = 9) with rfl | rfl | rfl | rfl | rfl | rfl | rfl | rfl | rfl | rfl <;> rfl
  · rintro ⟨⟨k, cap⟩, hk, hcap, hm⟩
    simp only at hk hcap hm
    have hlen5 : ((nearL x y).take k |>.filter Pr).length ≤ k := filter_len Pr _ k
    simp only [go_sem, Nat.reduceBEq, Nat.reduceLT, Nat.reduceLeDiff, Nat.reduceAdd, Nat.reduceMul, Nat.reduceSub, Nat.reduceMod, Nat.reduceDiv, Nat.reduceEqDiff, Int.reduceToNat, reduceIte, reduceCtorEq, Int.reduceLE, Int.reduceLT, Int.reduceEq, Int.reduceNeg, Int.reduceAdd, Int.reduceSub, Int.reduceMul, decide_eq_true_eq, decide_eq_false_iff_not]
    refine ⟨fun h1 => ?_, fun h1 => ?_⟩
    · have hk5 : k < 5 := by omega
      have r1 : (0 : Int) ≤ k ∧ (k : Int) < 5 := ⟨by omega, h1⟩
      have b1 : k * 2 ≤ 8 := by omega
      have b2 : k * 2 + 2 ≤ 10 := by omega
      have hni := nearL_in hx hy k
      simp only [go_sem, Nat.reduceBEq, Nat.reduceLT, Nat.reduceLeDiff, Nat.reduceAdd, Nat.reduceMul, Nat.reduceSub, Nat.reduceMod, Nat.reduceDiv, Nat.reduceEqDiff, Int.reduceToNat, reduceIte, reduceCtorEq, Int.reduceLE, Int.reduceLT, Int.reduceEq, Int.reduceNeg, Int.reduceAdd, Int.reduceSub, Int.reduceMul, r1, b1, b2, spotsC_x, spotsC_y]
      refine (is7_Q _ _ _ i P _ _ (by first | (simp only [go_sem, Nat.reduceBEq, Nat.reduceLT, Nat.reduceLeDiff, Nat.reduceAdd, Nat.reduceMul, Nat.reduceSub, Nat.reduceMod, Nat.reduceDiv, Nat.reduceEqDiff, Int.reduceToNat, reduceIte, reduceCtorEq, Int.reduceLE, Int.reduceLT, Int.reduceEq, Int.reduceNeg, Int.reduceAdd, Int.reduceSub, Int.reduceMul, hs, hi]; done) | (simp only [go_sem, Nat.reduceBEq, Nat.reduceLT, Nat.reduceLeDiff, Nat.reduceAdd, Nat.reduceMul, Nat.reduceSub, Nat.reduceMod, Nat.reduceDiv, Nat.reduceEqDiff, Int.reduceToNat, reduceIte, reduceCtorEq, Int.reduceLE, Int.reduceLT, Int.reduceEq, Int.reduceNeg, Int.reduceAdd, Int.reduceSub, Int.reduceMul, hs, hi]; rfl)) (by omega) hR hni.1 hni.2).A ?_
      cases hb : hasB (psh P) ((nearL x y).getD k (0, 0)).1 ((nearL x y).getD k (0, 0)).2
      · have hf : ((nearL x y).take (k + 1)).filter Pr = ((nearL x y).take k).filter Pr := by
          rw [take_filter Pr _ k (by show k < 5; omega), hPj, hb]; simp
        simp only [go_sem, Nat.reduceBEq, Nat.reduceLT, Nat.reduceLeDiff, Nat.reduceAdd, Nat.reduceMul, Nat.reduceSub, Nat.reduceMod, Nat.reduceDiv, Nat.reduceEqDiff, Int.reduceToNat, reduceIte, reduceCtorEq, Int.reduceLE, Int.reduceLT, Int.reduceEq, Int.reduceNeg, Int.reduceAdd, Int.reduceSub, Int.reduceMul]
        refine ⟨⟨(k + 1, cap), by omega, by simp only [hf]; exact hcap, hm⟩, by show 5 - (k + 1) < 5 - k; omega, ?_⟩
        refine Imp.id (by simp) ?_ ?_
        · simp only [go_sem, Nat.reduceBEq, Nat.reduceLT, Nat.reduceLeDiff, Nat.reduceAdd, Nat.reduceMul, Nat.reduceSub, Nat.reduceMod, Nat.reduceDiv, Nat.reduceEqDiff, Int.reduceToNat, reduceIte, reduceCtorEq, Int.reduceLE, Int.reduceLT, Int.reduceEq, Int.reduceNeg, Int.reduceAdd, Int.reduceSub, Int.reduceMul, hf, w64 (n := (k : Int) + 1) (by omega), Int.natCast_add, Int.natCast_one]
          omega
        · simp only [hf]
          exact impH.cons0 (by first | (simp only [go_sem, Nat.reduceBEq, Nat.reduceLT, Nat.reduceLeDiff, Nat.reduceAdd, Nat.reduceMul, Nat.reduceSub, Nat.reduceMod, Nat.reduceDiv, Nat.reduceEqDiff, Int.reduceToNat, reduceIte, reduceCtorEq, Int.reduceLE, Int.reduceLT, Int.reduceEq, Int.reduceNeg, Int.reduceAdd, Int.reduceSub, Int.reduceMul]; done) | (simp only [go_sem, Nat.reduceBEq, Nat.reduceLT, Nat.reduceLeDiff, Nat.reduceAdd, Nat.reduceMul, Nat.reduceSub, Nat.reduceMod, Nat.reduceDiv, Nat.reduceEqDiff, Int.reduceToNat, reduceIte, reduceCtorEq, Int.reduceLE, Int.reduceLT, Int.reduceEq, Int.reduceNeg, Int.reduceAdd, Int.reduceSub, Int.reduceMul]; rfl)) (by simp) (SegLe.flat (Nat.le_refl _) id (.inr rfl) fun k hk => ⟨rfl, spotsC_flat _ _⟩) (impH.cons0 (by first | (simp only [go_sem, Nat.reduceBEq, Nat.reduceLT, Nat.reduceLeDiff, Nat.reduceAdd, Nat.reduceMul, Nat.reduceSub, Nat.reduceMod, Nat.reduceDiv, Nat.reduceEqDiff, Int.reduceToNat, reduceIte, reduceCtorEq, Int.reduceLE, Int.reduceLT, Int.reduceEq, Int.reduceNeg, Int.reduceAdd, Int.reduceSub, Int.reduceMul]; done) | (simp only [go_sem, Nat.reduceBEq, Nat.reduceLT, Nat.reduceLeDiff, Nat.reduceAdd, Nat.reduceMul, Nat.reduceSub, Nat.reduceMod, Nat.reduceDiv, Nat.reduceEqDiff, Int.reduceToNat, reduceIte, reduceCtorEq, Int.reduceLE, Int.reduceLT, Int.reduceEq, Int.reduceNeg, Int.reduceAdd, Int.reduceSub, Int.reduceMul]; rfl)) (by simp) (SegLe.flat (Nat.le_refl _) id (.inr rfl) fun z hz => ⟨rfl, spotsC_flat _ _⟩) (impH.base0 hok (by simp) (by simp only [go_sem, Nat.reduceBEq, Nat.reduceLT, Nat.reduceLeDiff, Nat.reduceAdd, Nat.reduceMul, Nat.reduceSub, Nat.reduceMod, Nat.reduceDiv, Nat.reduceEqDiff, Int.reduceToNat, reduceIte, reduceCtorEq, Int.reduceLE, Int.reduceLT, Int.reduceEq, Int.reduceNeg, Int.reduceAdd, Int.reduceSub, Int.reduceMul, HExt_cons])))
      · have hf : ((nearL x y).take (k + 1)).filter Pr = ((nearL x y).take k).filter Pr ++ [(nearL x y).getD k (0, 0)] := by
          rw [take_filter Pr _ k (by show k < 5; omega), hPj, hb]; rfl
        have hd2 : hdel h (n + 2) = h := hok.del (by omega)
        simp only [go_sem, Nat.reduceBEq, Nat.reduceLT, Nat.reduceLeDiff, Nat.reduceAdd, Nat.reduceMul, Nat.reduceSub, Nat.reduceMod, Nat.reduceDiv, Nat.reduceEqDiff, Int.reduceToNat, reduceIte, reduceCtorEq, Int.reduceLE, Int.reduceLT, Int.reduceEq, Int.reduceNeg, Int.reduceAdd, Int.reduceSub, Int.reduceMul, r1, b1, b2, spotsC_x, spotsC_y, hd2]
        refine ⟨⟨hcap, hm, by omega⟩, fun cap' h3 h4 => ⟨⟨(k + 1, cap'), by omega, by simp only [hf, List.length_append, List.length_singleton]; exact h3, h4⟩, by show 5 - (k + 1) < 5 - k; omega, ?_⟩⟩
        refine Imp.of1 (n + 2) (n + 4) (by simp) (by omega) (by simp) ?_ ?_
        · simp only [go_sem, Nat.reduceBEq, Nat.reduceLT, Nat.reduceLeDiff, Nat.reduceAdd, Nat.reduceMul, Nat.reduceSub, Nat.reduceMod, Nat.reduceDiv, Nat.reduceEqDiff, Int.reduceToNat, reduceIte, reduceCtorEq, Int.reduceLE, Int.reduceLT, Int.reduceEq, Int.reduceNeg, Int.reduceAdd, Int.reduceSub, Int.reduceMul, hi, hf, List.length_append, List.length_singleton, w64 (n := (k : Int) + 1) (by omega), Int.natCast_add, Int.natCast_one]
          omega
        · simp only [hf]
          refine impH.cons1 (hget_hit _ _ _) (by simp) (SegLe.flat (by simp) id (.inr rfl) fun z hz => ⟨?_, spotsC_flat _ _⟩) (impH.cons2 (by first | (simp only [go_sem, Nat.reduceBEq, Nat.reduceLT, Nat.reduceLeDiff, Nat.reduceAdd, Nat.reduceMul, Nat.reduceSub, Nat.reduceMod, Nat.reduceDiv, Nat.reduceEqDiff, Int.reduceToNat, reduceIte, reduceCtorEq, Int.reduceLE, Int.reduceLT, Int.reduceEq, Int.reduceNeg, Int.reduceAdd, Int.reduceSub, Int.reduceMul]; done) | (simp only [go_sem, Nat.reduceBEq, Nat.reduceLT, Nat.reduceLeDiff, Nat.reduceAdd, Nat.reduceMul, Nat.reduceSub, Nat.reduceMod, Nat.reduceDiv, Nat.reduceEqDiff, Int.reduceToNat, reduceIte, reduceCtorEq, Int.reduceLE, Int.reduceLT, Int.reduceEq, Int.reduceNeg, Int.reduceAdd, Int.reduceSub, Int.reduceMul]; rfl)) (by simp) (by omega) (SegLe.flat (Nat.le_refl _) id (.inr rfl) fun z hz => ⟨rfl, spotsC_flat _ _⟩) (impH.base1 hok (by simp) (by simp) (by simp only [go_sem, Nat.reduceBEq, Nat.reduceLT, Nat.reduceLeDiff, Nat.reduceAdd, Nat.reduceMul, Nat.reduceSub, Nat.reduceMod, Nat.reduceDiv, Nat.reduceEqDiff, Int.reduceToNat, reduceIte, reduceCtorEq, Int.reduceLE, Int.reduceLT, Int.reduceEq, Int.reduceNeg, Int.reduceAdd, Int.reduceSub, Int.reduceMul, HExt_cons])))
          have hz : z < (((nearL x y).take k).filter Pr ++ [(nearL x y).getD k (0, 0)]).length * 2 := hz
          rw [List.length_append, List.length_singleton] at hz
          exact both_snoc _ _ _ rfl rfl hz
    · have hk5 : k = 5 := by omega
      subst hk5
      rw [hcov]
      exact ⟨n + 2, cap, by omega, rfl, _, (by first | (simp only [go_sem, Nat.reduceBEq, Nat.reduceLT, Nat.reduceLeDiff, Nat.reduceAdd, Nat.reduceMul, Nat.reduceSub, Nat.reduceMod, Nat.reduceDiv, Nat.reduceEqDiff, Int.reduceToNat, reduceIte, reduceCtorEq, Int.reduceLE, Int.reduceLT, Int.reduceEq, Int.reduceNeg, Int.reduceAdd, Int.reduceSub, Int.reduceMul]; done) | (simp only [go_sem, Nat.reduceBEq, Nat.reduceLT, Nat.reduceLeDiff, Nat.reduceAdd, Nat.reduceMul, Nat.reduceSub, Nat.reduceMod, Nat.reduceDiv, Nat.reduceEqDiff, Int.reduceToNat, reduceIte, reduceCtorEq, Int.reduceLE, Int.reduceLT, Int.reduceEq, Int.reduceNeg, Int.reduceAdd, Int.reduceSub, Int.reduceMul]; rfl)), rfl, rfl, fun _ _ => rfl⟩
end
end Go.Proofs.Ytodgbpkdanefaaa.V

/- The law's spots, and lists of spots that are alike. -/
namespace Go.Proofs.Ytodgbpkdanefaaa.V
theorem wr_at {N o k : Nat} {v : SV} {c : Nat → SV} (hk : k < N) : (if o = 0 ∧ 1 = N then cl [v] else upd c o v) k = upd c o v k := by
  split
  · rename_i e
    obtain ⟨rfl, rfl⟩ := e
    obtain rfl : k = 0 := by omega
    rfl
  · rfl
theorem wr_flat {N o : Nat} {v : SV} {c : Nat → SV} (hv : v.flat) (hc : ∀ k, k < N → (c k).flat) : ∀ k, k < N → ((if o = 0 ∧ 1 = N then cl [v] else upd c o v) k).flat := fun k hk => by
  rw [wr_at hk]; unfold upd; split
  · exact hv
  · exact hc k hk
section
variable (cx : Cx) (h : List (Nat × Seg)) (n : Nat)
theorem toSpot_Q (x y : Int) : CallQ Try.prog cx 14 [spot x y] h n (spot x y) := by
  refine callQ_of_T (P := Try.prog) hti (nt := 11) (rs := [.cell 2 34]) rfl rfl Try.call14 Try.func14 rfl _ (by simp only [go_sem, and_self]) (Nat.le_of_ble_eq_true rfl) _ (by first | exact trivial | (refine lt_flat rfl ?_; simp [SV.flat]; done) | simp only [go_sem]) fun hok => ?_
  simp only [go_sem, Nat.reduceBEq, Nat.reduceLT, Nat.reduceLeDiff, Nat.reduceAdd, Nat.reduceMul, Nat.reduceSub, Nat.reduceMod, Nat.reduceDiv, Nat.reduceEqDiff, Int.reduceToNat, reduceIte, reduceCtorEq, Int.reduceLE, Int.reduceLT, Int.reduceEq, Int.reduceNeg, Int.reduceAdd, Int.reduceSub, Int.reduceMul]
theorem eqSpot_Q (x y x' y' : Int) : CallQ Try.prog cx 53 [spot x y, spot x' y'] h n (.bool (decide (x = x' ∧ y = y'))) := by
  refine callQ_of_T (P := Try.prog) hti (nt := 15) (rs := [.tmp 4]) rfl rfl Try.call53 Try.func53 rfl _ (by simp only [go_sem, and_self]) (Nat.le_of_ble_eq_true rfl) _ (by first | exact trivial | (refine lt_flat rfl ?_; simp [SV.flat]; done) | simp only [go_sem]) fun hok => ?_
  simp only [go_sem, Nat.reduceBEq, Nat.reduceLT, Nat.reduceLeDiff, Nat.reduceAdd, Nat.reduceMul, Nat.reduceSub, Nat.reduceMod, Nat.reduceDiv, Nat.reduceEqDiff, Int.reduceToNat, reduceIte, reduceCtorEq, Int.reduceLE, Int.reduceLT, Int.reduceEq, Int.reduceNeg, Int.reduceAdd, Int.reduceSub, Int.reduceMul]
  by_cases hx : x = x'
  · by_cases hy : y = y'
    · simp only [go_sem, Nat.reduceBEq, Nat.reduceLT, Nat.reduceLeDiff, Nat.reduceAdd, Nat.reduceMul, Nat.reduceSub, Nat.reduceMod, Nat.reduceDiv, Nat.reduceEqDiff, Int.reduceToNat, reduceIte, reduceCtorEq, Int.reduceLE, Int.reduceLT, Int.reduceEq, Int.reduceNeg, Int.reduceAdd, Int.reduceSub, Int.reduceMul, hx, hy]
    · simp only [go_sem, Nat.reduceBEq, Nat.reduceLT, Nat.reduceLeDiff, Nat.reduceAdd, Nat.reduceMul, Nat.reduceSub, Nat.reduceMod, Nat.reduceDiv, Nat.reduceEqDiff, Int.reduceToNat, reduceIte, reduceCtorEq, Int.reduceLE, Int.reduceLT, Int.reduceEq, Int.reduceNeg, Int.reduceAdd, Int.reduceSub, Int.reduceMul, hx, hy]
  · simp only [go_sem, Nat.reduceBEq, Nat.reduceLT, Nat.reduceLeDiff, Nat.reduceAdd, Nat.reduceMul, Nat.reduceSub, Nat.reduceMod, Nat.reduceDiv, Nat.reduceEqDiff, Int.reduceToNat, reduceIte, reduceCtorEq, Int.reduceLE, Int.reduceLT, Int.reduceEq, Int.reduceNeg, Int.reduceAdd, Int.reduceSub, Int.reduceMul, hx]
end
end Go.Proofs.Ytodgbpkdanefaaa.V

/- The law's pictures and drops: copied, compared. -/
namespace Go.Proofs.Ytodgbpkdanefaaa.V
section
variable (cx : Cx) (h : List (Nat × Seg)) (n : Nat)
theorem toByteA8A8_E (F : Nat → SV) (hF : ∀ j, j < 64 → ∃ v, F j = .int .u8 v) (K : HK) (hK : ∀ F', (∀ j, j < 64 → F' j = F j) → K (.agg 64 F') h n) : CallE Try.prog cx 48 [.agg 64 F] h n K := by
  have hfl : Flat 64 F := fun j hj => by obtain ⟨v, hv⟩ := hF j hj; rw [hv]; trivial
  refine CallE.imp0 (K := fun r h' n' => n ≤ n' ∧ HExt n h h' ∧ ∃ F', (∀ j, j < 64 → F' j = F j) ∧ r = .agg 64 F') ?_ ?_
  rotate_left
  · rintro hok r h' n' ⟨h0, hx, F', hF', rfl⟩
    exact ⟨.agg 64 F', h, n, Nat.le_refl _, by simp only [ren_nil], lt_aggF fun j hj => by rw [hF' j hj]; exact hfl j hj, impH.base0 hok (Nat.le_refl n) hx, hK F' hF'⟩
  refine callE_of_T (P := Try.prog) hti (nt := 16) (rs := [.cell 2 24]) rfl rfl Try.call48 Try.func48 rfl _ (by simp only [go_sem, and_self]) (Nat.le_of_ble_eq_true rfl) _ fun hok => ?_
  simp only [go_sem, Nat.reduceBEq, Nat.reduceLT, Nat.reduceLeDiff, Nat.reduceAdd, Nat.reduceMul, Nat.reduceSub, Nat.reduceMod, Nat.reduceDiv, Nat.reduceEqDiff, Int.reduceToNat, reduceIte, reduceCtorEq, Int.reduceLE, Int.reduceLT, Int.reduceEq, Int.reduceNeg, Int.reduceAdd, Int.reduceSub, Int.reduceMul]
  refine T_lp (ι := { q : Nat × (Nat → SV) // q.1 ≤ 8 ∧ (∀ j, j < q.1 * 8 → q.2 j = F j) ∧ Flat 64 q.2 })
    (fun q => ([(1, .ptr n 0), (2, .ptr (n + 1) 0), (3, .ptr (n + 2) 0), (4, .int .i64 q.1.1)], (n + 2, ⟨64, q.1.2, true, none⟩) :: (n + 1, ⟨64, (ti 24).z, true, none⟩) :: (n, ⟨64, F, true, none⟩) :: h, n + 3)) (fun q => 8 - q.1.1) ⟨(0, (ti 24).z), by omega, fun _ hj => by omega, fun _ _ => trivial⟩ ?_ ?_
  · refine Imp.id (by simp) ?_ ?_
    · simp only [go_sem, Nat.reduceBEq, Nat.reduceLT, Nat.reduceLeDiff, Nat.reduceAdd, Nat.reduceMul, Nat.reduceSub, Nat.reduceMod, Nat.reduceDiv, Nat.reduceEqDiff, Int.reduceToNat, reduceIte, reduceCtorEq, Int.reduceLE, Int.reduceLT, Int.reduceEq, Int.reduceNeg, Int.reduceAdd, Int.reduceSub, Int.reduceMul]
      omega
    · exact impH.cons0 (hget_hit _ _ _) (by simp) (SegLe.flat (Nat.le_refl _) id (.inr rfl) fun z hz => ⟨rfl, trivial⟩) (impH.cons0 ((hget_miss _ _ _ _ (by simp)).trans (hget_hit _ _ _)) (by simp) (SegLe.flat (Nat.le_refl _) id (.inr rfl) fun z hz => ⟨rfl, trivial⟩)
        (impH.cons0 (by simp only [go_sem, Nat.reduceBEq, Nat.reduceLT, Nat.reduceLeDiff, Nat.reduceAdd, Nat.reduceMul, Nat.reduceSub, Nat.reduceMod, Nat.reduceDiv, Nat.reduceEqDiff, Int.reduceToNat, reduceIte, reduceCtorEq, Int.reduceLE, Int.reduceLT, Int.reduceEq, Int.reduceNeg, Int.reduceAdd, Int.reduceSub, Int.reduceMul]) (by simp) (SegLe.flat (Nat.le_refl _) id (.inr rfl) fun z hz => ⟨rfl, hfl z hz⟩) (impH.base0 hok (by simp) (((HExt.rfl.cons (Nat.le_refl n)).cons (by simp)).cons (by simp)))))
  · rintro ⟨⟨k, c⟩, hk, hc, hcf⟩
    simp only at hk hc hcf
    simp only [go_sem, Nat.reduceBEq, Nat.reduceLT, Nat.reduceLeDiff, Nat.reduceAdd, Nat.reduceMul, Nat.reduceSub, Nat.reduceMod, Nat.reduceDiv, Nat.reduceEqDiff, Int.reduceToNat, reduceIte, reduceCtorEq, Int.reduceLE, Int.reduceLT, Int.reduceEq, Int.reduceNeg, Int.reduceAdd, Int.reduceSub, Int.reduceMul, decide_eq_true_eq, decide_eq_false_iff_not]
    refine ⟨fun h1 => ⟨⟨by omega, h1⟩, by omega, ?_⟩, fun h1 => ?_⟩
    · have hkr : (0 : Int) ≤ k ∧ (k : Int) < 8 := ⟨by omega, h1⟩
      refine callA_false (toByteA8_E _ _ _ (fun j => F (k * 8 + j)) (fun j hj => hF (k * 8 + j) (by omega)) _ fun F' hF' => ?_)
      have hfl' : Flat 8 F' := fun j hj => by rw [hF' j hj]; exact hfl _ (by omega)
      simp only [go_sem, Nat.reduceBEq, Nat.reduceLT, Nat.reduceLeDiff, Nat.reduceAdd, Nat.reduceMul, Nat.reduceSub, Nat.reduceMod, Nat.reduceDiv, Nat.reduceEqDiff, Int.reduceToNat, reduceIte, reduceCtorEq, Int.reduceLE, Int.reduceLT, Int.reduceEq, Int.reduceNeg, Int.reduceAdd, Int.reduceSub, Int.reduceMul, hkr, hfl'.ones]
      have hput : ∀ j, j < 64 → (if k * 8 ≤ j ∧ j < k * 8 + 8 then F' (j - k * 8) else c j).flat := fun j hj => by
        split
        · rename_i h; exact hfl' _ (by omega)
        · exact hcf j hj
      refine ⟨by omega, ⟨(k + 1, fun j => if k * 8 ≤ j ∧ j < k * 8 + 8 then F' (j - k * 8) else c j), by omega, fun j hj => ?_, hput⟩, by show 8 - (k + 1) < 8 - k; omega, ?_⟩
      · have hj : j < (k + 1) * 8 := hj
        show (if k * 8 ≤ j ∧ j < k * 8 + 8 then F' (j - k * 8) else c j) = F j
        split
        · rename_i h; rw [hF' _ (by omega), show k * 8 + (j - k * 8) = j by omega]
        · exact hc j (by omega)
      · refine Imp.id (by simp) ?_ ?_
        · simp only [go_sem, Nat.reduceBEq, Nat.reduceLT, Nat.reduceLeDiff, Nat.reduceAdd, Nat.reduceMul, Nat.reduceSub, Nat.reduceMod, Nat.reduceDiv, Nat.reduceEqDiff, Int.reduceToNat, reduceIte, reduceCtorEq, Int.reduceLE, Int.reduceLT, Int.reduceEq, Int.reduceNeg, Int.reduceAdd, Int.reduceSub, Int.reduceMul, w64 (n := (k : Int) + 1) (by omega), Int.natCast_add, Int.natCast_one]
          omega
        · exact impH.cons0 (hget_hit _ _ _) (by simp) (SegLe.flat (Nat.le_refl _) id (.inr rfl) fun z hz => ⟨rfl, hput z hz⟩) (impH.cons0 ((hget_miss _ _ _ _ (by simp)).trans (hget_hit _ _ _)) (by simp) (SegLe.flat (Nat.le_refl _) id (.inr rfl) fun z hz => ⟨rfl, trivial⟩)
            (impH.cons0 (by simp only [go_sem, Nat.reduceBEq, Nat.reduceLT, Nat.reduceLeDiff, Nat.reduceAdd, Nat.reduceMul, Nat.reduceSub, Nat.reduceMod, Nat.reduceDiv, Nat.reduceEqDiff, Int.reduceToNat, reduceIte, reduceCtorEq, Int.reduceLE, Int.reduceLT, Int.reduceEq, Int.reduceNeg, Int.reduceAdd, Int.reduceSub, Int.reduceMul]) (by simp) (SegLe.flat (Nat.le_refl _) id (.inr rfl) fun z hz => ⟨rfl, hfl z hz⟩) (impH.base0 hok (by simp) (((HExt.rfl.cons (Nat.le_refl n)).cons (by simp)).cons (by simp)))))
    · have hk8 : k = 8 := by omega
      subst hk8
      have hone : ones (.agg 64 fun j => c j) = True := hcf.ones
      simp only [go_sem, Nat.reduceBEq, Nat.reduceLT, Nat.reduceLeDiff, Nat.reduceAdd, Nat.reduceMul, Nat.reduceSub, Nat.reduceMod, Nat.reduceDiv, Nat.reduceEqDiff, Int.reduceToNat, reduceIte, reduceCtorEq, Int.reduceLE, Int.reduceLT, Int.reduceEq, Int.reduceNeg, Int.reduceAdd, Int.reduceSub, Int.reduceMul, hone]
      exact ⟨c, hc, rfl⟩
theorem pcC_u8 (P : Pc) (j : Nat) : ∃ v, pcC P (2 + j) = .int .u8 v := by
  unfold pcC; rw [if_neg (by omega)]; exact ⟨_, rfl⟩
theorem toPicture_Q (P : Pc) : CallQ Try.prog cx 13 [.agg 66 (pcC P)] h n (.agg 66 (pcC P)) := by
  refine CallE.toQ (pcC_lt P n) fun K hK => ?_
  refine CallE.imp0 (K := fun r h' n' => n ≤ n' ∧ HExt n h h' ∧ ∃ F', (∀ j, j < 66 → F' j = pcC P j) ∧ r = .agg 66 F') ?_ ?_
  rotate_left
  · rintro hok r h' n' ⟨h0, hx, F', hF', rfl⟩
    exact ⟨.agg 66 F', h, n, Nat.le_refl _, by simp only [ren_nil], lt_aggF fun j hj => by rw [hF' j hj]; exact pcC_flat P j, impH.base0 hok (Nat.le_refl n) hx, hK _ fun ρ => den_aggF hF' ρ⟩
  refine callE_of_T (P := Try.prog) hti (nt := 15) (rs := [.cell 2 32]) rfl rfl Try.call13 Try.func13 rfl _ (by simp only [go_sem, and_self]) (Nat.le_of_ble_eq_true rfl) _ fun hok => ?_
  simp only [go_sem, Nat.reduceBEq, Nat.reduceLT, Nat.reduceLeDiff, Nat.reduceAdd, Nat.reduceMul, Nat.reduceSub, Nat.reduceMod, Nat.reduceDiv, Nat.reduceEqDiff, Int.reduceToNat, reduceIte, reduceCtorEq, Int.reduceLE, Int.reduceLT, Int.reduceEq, Int.reduceNeg, Int.reduceAdd, Int.reduceSub, Int.reduceMul]
  refine callA_false (toByteA8A8_E _ _ _ (fun j => pcC P (2 + j)) (fun j hj => pcC_u8 P j) _ fun F1 hF1 => ?_)
  have f1 : Flat 64 F1 := fun j hj => by rw [hF1 j hj]; exact pcC_flat P _
  simp only [go_sem, Nat.reduceBEq, Nat.reduceLT, Nat.reduceLeDiff, Nat.reduceAdd, Nat.reduceMul, Nat.reduceSub, Nat.reduceMod, Nat.reduceDiv, Nat.reduceEqDiff, Int.reduceToNat, reduceIte, reduceCtorEq, Int.reduceLE, Int.reduceLT, Int.reduceEq, Int.reduceNeg, Int.reduceAdd, Int.reduceSub, Int.reduceMul, f1.ones]
  have hF : ∀ j, j < 66 → (fun j => if 2 ≤ j ∧ j < 66 then F1 (j - 2) else pcC { wide := P.wide, high := P.high, ink := pc0.ink } j) j = pcC P j := fun j hj => by
    show (if 2 ≤ j ∧ j < 66 then F1 (j - 2) else pcC { wide := P.wide, high := P.high, ink := pc0.ink } j) = _
    by_cases h2 : 2 ≤ j
    · rw [if_pos ⟨h2, hj⟩, hF1 _ (by omega), show 2 + (j - 2) = j by omega]
    · rw [if_neg (by omega)]
      rcases (by omega : j = 0 ∨ j = 1) with rfl | rfl <;> rfl
  exact ⟨fun j hj => by show ((fun j => if 2 ≤ j ∧ j < 66 then F1 (j - 2) else pcC { wide := P.wide, high := P.high, ink := pc0.ink } j) j).one; rw [hF j hj]; exact (pcC_flat P j).one, _, hF, rfl⟩
abbrev dropV (x y k : Int) : SV := .agg 3 (cl [.int .i8 x, .int .i8 y, .int .u8 k])
theorem toDrop_Q (x y k : Int) : CallQ Try.prog cx 20 [dropV x y k] h n (dropV x y k) := by
  refine callQ_of_T (P := Try.prog) hti (nt := 12) (rs := [.cell 2 44]) rfl rfl Try.call20 Try.func20 rfl _ (by simp only [go_sem, and_self]) (Nat.le_of_ble_eq_true rfl) _ (by first | exact trivial | (refine lt_flat rfl ?_; simp [SV.flat]; done) | simp only [go_sem]) fun hok => ?_
  simp only [go_sem, Nat.reduceBEq, Nat.reduceLT, Nat.reduceLeDiff, Nat.reduceAdd, Nat.reduceMul, Nat.reduceSub, Nat.reduceMod, Nat.reduceDiv, Nat.reduceEqDiff, Int.reduceToNat, reduceIte, reduceCtorEq, Int.reduceLE, Int.reduceLT, Int.reduceEq, Int.reduceNeg, Int.reduceAdd, Int.reduceSub, Int.reduceMul]
  refine (toSpot_Q _ _ _ x y).A ?_
  simp only [go_sem, Nat.reduceBEq, Nat.reduceLT, Nat.reduceLeDiff, Nat.reduceAdd, Nat.reduceMul, Nat.reduceSub, Nat.reduceMod, Nat.reduceDiv, Nat.reduceEqDiff, Int.reduceToNat, reduceIte, reduceCtorEq, Int.reduceLE, Int.reduceLT, Int.reduceEq, Int.reduceNeg, Int.reduceAdd, Int.reduceSub, Int.reduceMul]
end
end Go.Proofs.Ytodgbpkdanefaaa.V

/- A drop made upon a picture: both walks. -/
namespace Go.Proofs.Ytodgbpkdanefaaa.V
/-- Some cells show a number. -/
def dropN (P : Pc) (M : List (Int × Int)) (v : Int) : Nat → Pc
  | 0 => P
  | j + 1 => (dropN P M v j).setInk (M.getD j (0, 0)).2 (M.getD j (0, 0)).1 v
def dropS (P : Pc) (x y k : Int) : Pc := dropN P (covL P.wide P.high x y) (k + 1) (covL P.wide P.high x y).length
theorem dropN_sides (P : Pc) (M : List (Int × Int)) (v : Int) : ∀ j, (dropN P M v j).wide = P.wide ∧ (dropN P M v j).high = P.high
  | 0 => ⟨rfl, rfl⟩
  | j + 1 => dropN_sides P M v j
theorem covL_mem {W H x y : Int} {j : Nat} (hj : j < (covL W H x y).length) : (0 ≤ ((covL W H x y).getD j (0, 0)).1 ∧ ((covL W H x y).getD j (0, 0)).1 < W) ∧ 0 ≤ ((covL W H x y).getD j (0, 0)).2 ∧ ((covL W H x y).getD j (0, 0)).2 < H := by
  have hm : (covL W H x y).getD j (0, 0) ∈ covL W H x y := by rw [List.getD_eq_getElem?_getD, List.getElem?_eq_getElem hj]; exact List.getElem_mem hj
  have := (List.mem_filter.1 hm).2
  simp only [Bool.and_eq_true, decide_eq_true_eq] at this
  omega
theorem PcR.setInk {P : Pc} (h : PcR P) {y x v : Int} (hv : 0 ≤ v ∧ v < 256) : PcR (P.setInk y x v) :=
  ⟨h.wide, h.high, fun y' x' => by
    show 0 ≤ (if y' = y ∧ x' = x then v else P.ink y' x') ∧ (if y' = y ∧ x' = x then v else P.ink y' x') < 256
    split
    · exact hv
    · exact h.ink y' x'⟩
theorem PcOk.setInk {P : Pc} (h : PcOk P) {y x v : Int} (hv : v ≤ 3) (hx : x < P.wide) (hy : y < P.high) : PcOk (P.setInk y x v) :=
  ⟨h.1, fun y' x' a b c d => by
    show (if y' = y ∧ x' = x then v else P.ink y' x') ≤ 3 ∧ (0 < (if y' = y ∧ x' = x then v else P.ink y' x') → x' < P.wide ∧ y' < P.high)
    split
    · rename_i e
      rw [e.1, e.2]
      exact ⟨hv, fun _ => ⟨hx, hy⟩⟩
    · exact h.2 y' x' a b c d⟩
theorem dropN_ok {P : Pc} (hR : PcR P) (hP : PcOk P) {x y v : Int} (hv : 0 ≤ v ∧ v ≤ 3) : ∀ j, j ≤ (covL P.wide P.high x y).length → PcR (dropN P (covL P.wide P.high x y) v j) ∧ PcOk (dropN P (covL P.wide P.high x y) v j)
  | 0, _ => ⟨hR, hP⟩
  | j + 1, hj => by
    obtain ⟨h1, h2⟩ := dropN_ok hR hP (x := x) (y := y) hv j (by omega)
    have hm := covL_mem (W := P.wide) (H := P.high) (x := x) (y := y) (j := j) (by omega)
    obtain ⟨e1, e2⟩ := dropN_sides P (covL P.wide P.high x y) v j
    exact ⟨h1.setInk (y := _) (x := _) ⟨hv.1, by omega⟩, h2.setInk hv.2 (by rw [e1]; exact hm.1.2) (by rw [e2]; exact hm.2.2)⟩
theorem dropS_ok {P : Pc} (hR : PcR P) (hP : PcOk P) {x y k : Int} (hk : 0 ≤ k ∧ k < 3) : PcR (dropS P x y k) ∧ PcOk (dropS P x y k) ∧ (dropS P x y k).wide = P.wide ∧ (dropS P x y k).high = P.high := by
  obtain ⟨h1, h2⟩ := dropN_ok hR hP (x := x) (y := y) (v := k + 1) (by omega) _ (Nat.le_refl _)
  obtain ⟨e1, e2⟩ := dropN_sides P (covL P.wide P.high x y) (k + 1) (covL P.wide P.high x y).length
  exact ⟨h1, h2, e1, e2⟩
theorem wu8 {n : Int} (h : 0 ≤ n ∧ n < 256) : IntKind.u8.wrap n = n := by simp [IntKind.wrap, IntKind.bits, IntKind.signed]; omega
theorem covL_len5 (W H x y : Int) : (covL W H x y).length ≤ 5 := Nat.le_trans (List.length_filter_le _ _) (by simp)
section
variable (cx : Cx) (h : List (Nat × Seg)) (n : Nat)
theorem drop7_E (i : Nat) (P : Pc) (x y k : Int) (hs : hget h i = some (pcS P)) (hi : i < n) (hR : PcR P) (hP : PcOk P) (hx : 0 ≤ x) (hx1 : x < P.wide) (hy : 0 ≤ y) (hy1 : y < P.high) (hk : 0 ≤ k ∧ k < 3) (K : HK)
    (hK : K (.tup 0 (cl [])) (hset h i (pcS (dropS P x y k))) n) : CallE Try.prog cx 64 [.ptr i 0, dropV x y k] h n K := by
  have hM5 := covL_len5 P.wide P.high x y
  have hmem := fun j => covL_mem (W := P.wide) (H := P.high) (x := x) (y := y) (j := j)
  have hs8 := hP.1
  refine CallE.to _ _ (by simp only [go_sem, Nat.reduceBEq, Nat.reduceLT, Nat.reduceLeDiff, Nat.reduceAdd, Nat.reduceMul, Nat.reduceSub, Nat.reduceMod, Nat.reduceDiv, Nat.reduceEqDiff, Int.reduceToNat, reduceIte, reduceCtorEq, Int.reduceLE, Int.reduceLT, Int.reduceEq, Int.reduceNeg, Int.reduceAdd, Int.reduceSub, Int.reduceMul]) (fun hok => hok_set hok fun k hk => pcC_flat _ _) hK ?_
  have hgi : ∀ t, hget (hset h i t) i = some t := hget_hset_self hs
  refine callE_of_T (P := Try.prog) hti (nt := 28) (rs := []) rfl rfl Try.call64 Try.func64 rfl _ (by simp only [go_sem, and_self]) (Nat.le_of_ble_eq_true rfl) _ fun hok => ?_
  simp only [go_sem, Nat.reduceBEq, Nat.reduceLT, Nat.reduceLeDiff, Nat.reduceAdd, Nat.reduceMul, Nat.reduceSub, Nat.reduceMod, Nat.reduceDiv, Nat.reduceEqDiff, Int.reduceToNat, reduceIte, reduceCtorEq, Int.reduceLE, Int.reduceLT, Int.reduceEq, Int.reduceNeg, Int.reduceAdd, Int.reduceSub, Int.reduceMul]
  refine callA_false (covered_E _ _ _ i P x y (by first | (simp only [go_sem, Nat.reduceBEq, Nat.reduceLT, Nat.reduceLeDiff, Nat.reduceAdd, Nat.reduceMul, Nat.reduceSub, Nat.reduceMod, Nat.reduceDiv, Nat.reduceEqDiff, Int.reduceToNat, reduceIte, reduceCtorEq, Int.reduceLE, Int.reduceLT, Int.reduceEq, Int.reduceNeg, Int.reduceAdd, Int.reduceSub, Int.reduceMul, hs, hi]; done) | (simp only [go_sem, Nat.reduceBEq, Nat.reduceLT, Nat.reduceLeDiff, Nat.reduceAdd, Nat.reduceMul, Nat.reduceSub, Nat.reduceMod, Nat.reduceDiv, Nat.reduceEqDiff, Int.reduceToNat, reduceIte, reduceCtorEq, Int.reduceLE, Int.reduceLT, Int.reduceEq, Int.reduceNeg, Int.reduceAdd, Int.reduceSub, Int.reduceMul, hs, hi]; rfl)) (by omega) hR hP hx hx1 hy hy1 _ fun cap => ?_)
  unfold dropS
  generalize hMM : covL P.wide P.high x y = M at *
  simp only [go_sem, Nat.reduceBEq, Nat.reduceLT, Nat.reduceLeDiff, Nat.reduceAdd, Nat.reduceMul, Nat.reduceSub, Nat.reduceMod, Nat.reduceDiv, Nat.reduceEqDiff, Int.reduceToNat, reduceIte, reduceCtorEq, Int.reduceLE, Int.reduceLT, Int.reduceEq, Int.reduceNeg, Int.reduceAdd, Int.reduceSub, Int.reduceMul]
  refine T_lp (ι := { j : Nat // j ≤ M.length })
    (fun j => ([(0, .ptr i 0), (3, .ptr n 0), (9, .sl (n + 1) 0 M.length cap), (10, .int .i64 M.length), (11, .int .i64 j.1)],
      (n + 1, ⟨M.length * 2, spotsC M, true, none⟩) :: (n, ⟨3, cl [.int .i8 x, .int .i8 y, .int .u8 k], true, none⟩) :: hset h i (pcS (dropN P M (k + 1) j.1)), n + 2)) (fun j => M.length - j.1) ⟨0, Nat.zero_le _⟩ ?_ ?_
  · refine Imp.id (by simp) ?_ ?_
    · simp only [go_sem, Nat.reduceBEq, Nat.reduceLT, Nat.reduceLeDiff, Nat.reduceAdd, Nat.reduceMul, Nat.reduceSub, Nat.reduceMod, Nat.reduceDiv, Nat.reduceEqDiff, Int.reduceToNat, reduceIte, reduceCtorEq, Int.reduceLE, Int.reduceLT, Int.reduceEq, Int.reduceNeg, Int.reduceAdd, Int.reduceSub, Int.reduceMul]
      omega
    · simp only [go_sem, Nat.reduceBEq, Nat.reduceLT, Nat.reduceLeDiff, Nat.reduceAdd, Nat.reduceMul, Nat.reduceSub, Nat.reduceMod, Nat.reduceDiv, Nat.reduceEqDiff, Int.reduceToNat, reduceIte, reduceCtorEq, Int.reduceLE, Int.reduceLT, Int.reduceEq, Int.reduceNeg, Int.reduceAdd, Int.reduceSub, Int.reduceMul, dropN]
      rw [← pcS_eq, hset_self hs]
      exact impH.cons0 (by first | (simp only [go_sem, Nat.reduceBEq, Nat.reduceLT, Nat.reduceLeDiff, Nat.reduceAdd, Nat.reduceMul, Nat.reduceSub, Nat.reduceMod, Nat.reduceDiv, Nat.reduceEqDiff, Int.reduceToNat, reduceIte, reduceCtorEq, Int.reduceLE, Int.reduceLT, Int.reduceEq, Int.reduceNeg, Int.reduceAdd, Int.reduceSub, Int.reduceMul]; done) | (simp only [go_sem, Nat.reduceBEq, Nat.reduceLT, Nat.reduceLeDiff, Nat.reduceAdd, Nat.reduceMul, Nat.reduceSub, Nat.reduceMod, Nat.reduceDiv, Nat.reduceEqDiff, Int.reduceToNat, reduceIte, reduceCtorEq, Int.reduceLE, Int.reduceLT, Int.reduceEq, Int.reduceNeg, Int.reduceAdd, Int.reduceSub, Int.reduceMul]; rfl)) (by simp) (SegLe.flat (Nat.le_refl _) id (.inr rfl) fun k hk => ⟨rfl, spotsC_flat _ _⟩) (impH.cons0 (by first | (simp only [go_sem, Nat.reduceBEq, Nat.reduceLT, Nat.reduceLeDiff, Nat.reduceAdd, Nat.reduceMul, Nat.reduceSub, Nat.reduceMod, Nat.reduceDiv, Nat.reduceEqDiff, Int.reduceToNat, reduceIte, reduceCtorEq, Int.reduceLE, Int.reduceLT, Int.reduceEq, Int.reduceNeg, Int.reduceAdd, Int.reduceSub, Int.reduceMul]; done) | (simp only [go_sem, Nat.reduceBEq, Nat.reduceLT, Nat.reduceLeDiff, Nat.reduceAdd, Nat.reduceMul, Nat.reduceSub, Nat.reduceMod, Nat.reduceDiv, Nat.reduceEqDiff, Int.reduceToNat, reduceIte, reduceCtorEq, Int.reduceLE, Int.reduceLT, Int.reduceEq, Int.reduceNeg, Int.reduceAdd, Int.reduceSub, Int.reduceMul]; rfl)) (by simp) (SegLe.flat (Nat.le_refl _) id (.inr rfl) fun z hz => ⟨rfl, cl_flat (l := [_, _, _]) (by simp [SV.flat]) hz⟩) (impH.base0 hok (by simp) (by simp only [go_sem, Nat.reduceBEq, Nat.reduceLT, Nat.reduceLeDiff, Nat.reduceAdd, Nat.reduceMul, Nat.reduceSub, Nat.reduceMod, Nat.reduceDiv, Nat.reduceEqDiff, Int.reduceToNat, reduceIte, reduceCtorEq, Int.reduceLE, Int.reduceLT, Int.reduceEq, Int.reduceNeg, Int.reduceAdd, Int.reduceSub, Int.reduceMul, HExt_cons])))
  · rintro ⟨j, hj⟩
    simp only [go_sem, Nat.reduceBEq, Nat.reduceLT, Nat.reduceLeDiff, Nat.reduceAdd, Nat.reduceMul, Nat.reduceSub, Nat.reduceMod, Nat.reduceDiv, Nat.reduceEqDiff, Int.reduceToNat, reduceIte, reduceCtorEq, Int.reduceLE, Int.reduceLT, Int.reduceEq, Int.reduceNeg, Int.reduceAdd, Int.reduceSub, Int.reduceMul, decide_eq_true_eq, decide_eq_false_iff_not]
    refine ⟨fun h1 => ?_, fun h1 => ?_⟩
    · have r1 : (0 : Int) ≤ j ∧ (j : Int) < M.length := ⟨by omega, h1⟩
      have b1 : j * 2 ≤ M.length * 2 - 2 := by omega
      have b2 : j * 2 + 2 ≤ M.length * 2 := by omega
      have b3 : 2 ≤ M.length * 2 := by omega
      obtain ⟨⟨c1, c2⟩, c3, c4⟩ := hmem j (by omega)
      have c5 : (M.getD j (0, 0)).1 < 8 := by omega
      have c6 : (M.getD j (0, 0)).2 < 8 := by omega
      simp only [go_sem, Nat.reduceBEq, Nat.reduceLT, Nat.reduceLeDiff, Nat.reduceAdd, Nat.reduceMul, Nat.reduceSub, Nat.reduceMod, Nat.reduceDiv, Nat.reduceEqDiff, Int.reduceToNat, reduceIte, reduceCtorEq, Int.reduceLE, Int.reduceLT, Int.reduceEq, Int.reduceNeg, Int.reduceAdd, Int.reduceSub, Int.reduceMul, r1, b1, b2, b3, spotsC_x, spotsC_y]
      refine T_drawT hti 12 _ _ (by kernel_rfl) (by kernel_rfl) ?_
      simp only [go_sem, Nat.reduceBEq, Nat.reduceLT, Nat.reduceLeDiff, Nat.reduceAdd, Nat.reduceMul, Nat.reduceSub, Nat.reduceMod, Nat.reduceDiv, Nat.reduceEqDiff, Int.reduceToNat, reduceIte, reduceCtorEq, Int.reduceLE, Int.reduceLT, Int.reduceEq, Int.reduceNeg, Int.reduceAdd, Int.reduceSub, Int.reduceMul, hgi, hi, c1, c3, c5, c6, wu8 (n := k + 1) (by omega)]
      refine ⟨⟨j + 1, by omega⟩, by show M.length - (j + 1) < M.length - j; omega, ?_⟩
      refine Imp.id (by simp) ?_ ?_
      · simp only [go_sem, Nat.reduceBEq, Nat.reduceLT, Nat.reduceLeDiff, Nat.reduceAdd, Nat.reduceMul, Nat.reduceSub, Nat.reduceMod, Nat.reduceDiv, Nat.reduceEqDiff, Int.reduceToNat, reduceIte, reduceCtorEq, Int.reduceLE, Int.reduceLT, Int.reduceEq, Int.reduceNeg, Int.reduceAdd, Int.reduceSub, Int.reduceMul, w64 (n := (j : Int) + 1) (by omega), Int.natCast_add, Int.natCast_one]
        omega
      · exact impH.cons0 (by first | (simp only [go_sem, Nat.reduceBEq, Nat.reduceLT, Nat.reduceLeDiff, Nat.reduceAdd, Nat.reduceMul, Nat.reduceSub, Nat.reduceMod, Nat.reduceDiv, Nat.reduceEqDiff, Int.reduceToNat, reduceIte, reduceCtorEq, Int.reduceLE, Int.reduceLT, Int.reduceEq, Int.reduceNeg, Int.reduceAdd, Int.reduceSub, Int.reduceMul]; done) | (simp only [go_sem, Nat.reduceBEq, Nat.reduceLT, Nat.reduceLeDiff, Nat.reduceAdd, Nat.reduceMul, Nat.reduceSub, Nat.reduceMod, Nat.reduceDiv, Nat.reduceEqDiff, Int.reduceToNat, reduceIte, reduceCtorEq, Int.reduceLE, Int.reduceLT, Int.reduceEq, Int.reduceNeg, Int.reduceAdd, Int.reduceSub, Int.reduceMul]; rfl)) (by simp) (SegLe.flat (Nat.le_refl _) id (.inr rfl) fun k hk => ⟨rfl, spotsC_flat _ _⟩) (impH.cons0 (by first | (simp only [go_sem, Nat.reduceBEq, Nat.reduceLT, Nat.reduceLeDiff, Nat.reduceAdd, Nat.reduceMul, Nat.reduceSub, Nat.reduceMod, Nat.reduceDiv, Nat.reduceEqDiff, Int.reduceToNat, reduceIte, reduceCtorEq, Int.reduceLE, Int.reduceLT, Int.reduceEq, Int.reduceNeg, Int.reduceAdd, Int.reduceSub, Int.reduceMul]; done) | (simp only [go_sem, Nat.reduceBEq, Nat.reduceLT, Nat.reduceLeDiff, Nat.reduceAdd, Nat.reduceMul, Nat.reduceSub, Nat.reduceMod, Nat.reduceDiv, Nat.reduceEqDiff, Int.reduceToNat, reduceIte, reduceCtorEq, Int.reduceLE, Int.reduceLT, Int.reduceEq, Int.reduceNeg, Int.reduceAdd, Int.reduceSub, Int.reduceMul]; rfl)) (by simp) (SegLe.flat (Nat.le_refl _) id (.inr rfl) fun z hz => ⟨rfl, cl_flat (l := [_, _, _]) (by simp [SV.flat]) hz⟩) (impH.base0 (hok_set hok fun k hk => pcC_flat _ _) (by simp) (by first | (simp only [go_sem, Nat.reduceBEq, Nat.reduceLT, Nat.reduceLeDiff, Nat.reduceAdd, Nat.reduceMul, Nat.reduceSub, Nat.reduceMod, Nat.reduceDiv, Nat.reduceEqDiff, Int.reduceToNat, reduceIte, reduceCtorEq, Int.reduceLE, Int.reduceLT, Int.reduceEq, Int.reduceNeg, Int.reduceAdd, Int.reduceSub, Int.reduceMul, HExt_cons]; done) | (simp only [go_sem, Nat.reduceBEq, Nat.reduceLT, Nat.reduceLeDiff, Nat.reduceAdd, Nat.reduceMul, Nat.reduceSub, Nat.reduceMod, Nat.reduceDiv, Nat.reduceEqDiff, Int.reduceToNat, reduceIte, reduceCtorEq, Int.reduceLE, Int.reduceLT, Int.reduceEq, Int.reduceNeg, Int.reduceAdd, Int.reduceSub, Int.reduceMul, HExt_cons]; exact HExt.rfl))))
    · have hj2 : j = M.length := by omega
      subst hj2
      simp only [go_sem, Nat.reduceBEq, Nat.reduceLT, Nat.reduceLeDiff, Nat.reduceAdd, Nat.reduceMul, Nat.reduceSub, Nat.reduceMod, Nat.reduceDiv, Nat.reduceEqDiff, Int.reduceToNat, reduceIte, reduceCtorEq, Int.reduceLE, Int.reduceLT, Int.reduceEq, Int.reduceNeg, Int.reduceAdd, Int.reduceSub, Int.reduceMul]
theorem drop72_E (i : Nat) (P : Pc) (x y k : Int) (hs : hget h i = some (pcS P)) (hi : i < n) (hR : PcR P) (hP : PcOk P) (hx : 0 ≤ x) (hx1 : x < P.wide) (hy : 0 ≤ y) (hy1 : y < P.high) (hk : 0 ≤ k ∧ k < 3) (K : HK)
    (hK : K (.tup 0 (cl [])) (hset h i (pcS (dropS P x y k))) n) : CallE Try.prog cx 58 [.ptr i 0, dropV x y k] h n K := by
  have hM5 := covL_len5 P.wide P.high x y
  have hmem := fun j => covL_mem (W := P.wide) (H := P.high) (x := x) (y := y) (j := j)
  have hs8 := hP.1
  refine CallE.to _ _ (by simp only [go_sem, Nat.reduceBEq, Nat.reduceLT, Nat.reduceLeDiff, Nat.reduceAdd, Nat.reduceMul, Nat.reduceSub, Nat.reduceMod, Nat.reduceDiv, Nat.reduceEqDiff, Int.reduceToNat, reduceIte, reduceCtorEq, Int.reduceLE, Int.reduceLT, Int.reduceEq, Int.reduceNeg, Int.reduceAdd, Int.reduceSub, Int.reduceMul]) (fun hok => hok_set hok fun k hk => pcC_flat _ _) hK ?_
  have hgi : ∀ t, hget (hset h i t) i = some t := hget_hset_self hs
  refine callE_of_T (P := Try.prog) hti (nt := 34) (rs := []) rfl rfl Try.call58 Try.func58 rfl _ (by simp only [go_sem, and_self]) (Nat.le_of_ble_eq_true rfl) _ fun hok => ?_
  simp only [go_sem, Nat.reduceBEq, Nat.reduceLT, Nat.reduceLeDiff, Nat.reduceAdd, Nat.reduceMul, Nat.reduceSub, Nat.reduceMod, Nat.reduceDiv, Nat.reduceEqDiff, Int.reduceToNat, reduceIte, reduceCtorEq, Int.reduceLE, Int.reduceLT, Int.reduceEq, Int.reduceNeg, Int.reduceAdd, Int.reduceSub, Int.reduceMul]
  refine callA_false (covered2_E _ _ _ i P x y (by first | (simp only [go_sem, Nat.reduceBEq, Nat.reduceLT, Nat.reduceLeDiff, Nat.reduceAdd, Nat.reduceMul, Nat.reduceSub, Nat.reduceMod, Nat.reduceDiv, Nat.reduceEqDiff, Int.reduceToNat, reduceIte, reduceCtorEq, Int.reduceLE, Int.reduceLT, Int.reduceEq, Int.reduceNeg, Int.reduceAdd, Int.reduceSub, Int.reduceMul, hs, hi]; done) | (simp only [go_sem, Nat.reduceBEq, Nat.reduceLT, Nat.reduceLeDiff, Nat.reduceAdd, Nat.reduceMul, Nat.reduceSub, Nat.reduceMod, Nat.reduceDiv, Nat.reduceEqDiff, Int.reduceToNat, reduceIte, reduceCtorEq, Int.reduceLE, Int.reduceLT, Int.reduceEq, Int.reduceNeg, Int.reduceAdd, Int.reduceSub, Int.reduceMul, hs, hi]; rfl)) (by omega) hR (by omega) (by omega) _ fun cap => ?_)
  unfold dropS
  generalize hMM : covL P.wide P.high x y = M at *
  simp only [go_sem, Nat.reduceBEq, Nat.reduceLT, Nat.reduceLeDiff, Nat.reduceAdd, Nat.reduceMul, Nat.reduceSub, Nat.reduceMod, Nat.reduceDiv, Nat.reduceEqDiff, Int.reduceToNat, reduceIte, reduceCtorEq, Int.reduceLE, Int.reduceLT, Int.reduceEq, Int.reduceNeg, Int.reduceAdd, Int.reduceSub, Int.reduceMul]
  refine T_lp (ι := { j : Nat // j ≤ M.length })
    (fun j => ([(0, .ptr i 0), (3, .ptr n 0), (4, .sl (n + 1) 0 M.length cap), (5, .int .i64 j.1)],
      (n + 1, ⟨M.length * 2, spotsC M, true, none⟩) :: (n, ⟨3, cl [.int .i8 x, .int .i8 y, .int .u8 k], true, none⟩) :: hset h i (pcS (dropN P M (k + 1) j.1)), n + 2)) (fun j => M.length - j.1) ⟨0, Nat.zero_le _⟩ ?_ ?_
  · refine Imp.id (by simp) ?_ ?_
    · simp only [go_sem, Nat.reduceBEq, Nat.reduceLT, Nat.reduceLeDiff, Nat.reduceAdd, Nat.reduceMul, Nat.reduceSub, Nat.reduceMod, Nat.reduceDiv, Nat.reduceEqDiff, Int.reduceToNat, reduceIte, reduceCtorEq, Int.reduceLE, Int.reduceLT, Int.reduceEq, Int.reduceNeg, Int.reduceAdd, Int.reduceSub, Int.reduceMul]
      omega
    · simp only [go_sem, Nat.reduceBEq, Nat.reduceLT, Nat.reduceLeDiff, Nat.reduceAdd, Nat.reduceMul, Nat.reduceSub, Nat.reduceMod, Nat.reduceDiv, Nat.reduceEqDiff, Int.reduceToNat, reduceIte, reduceCtorEq, Int.reduceLE, Int.reduceLT, Int.reduceEq, Int.reduceNeg, Int.reduceAdd, Int.reduceSub, Int.reduceMul, dropN]
      rw [← pcS_eq, hset_self hs]
      exact impH.cons0 (by first | (simp only [go_sem, Nat.reduceBEq, Nat.reduceLT, Nat.reduceLeDiff, Nat.reduceAdd, Nat.reduceMul, Nat.reduceSub, Nat.reduceMod, Nat.reduceDiv, Nat.reduceEqDiff, Int.reduceToNat, reduceIte, reduceCtorEq, Int.reduceLE, Int.reduceLT, Int.reduceEq, Int.reduceNeg, Int.reduceAdd, Int.reduceSub, Int.reduceMul]; done) | (simp only [go_sem, Nat.reduceBEq, Nat.reduceLT, Nat.reduceLeDiff, Nat.reduceAdd, Nat.reduceMul, Nat.reduceSub, Nat.reduceMod, Nat.reduceDiv, Nat.reduceEqDiff, Int.reduceToNat, reduceIte, reduceCtorEq, Int.reduceLE, Int.reduceLT, Int.reduceEq, Int.reduceNeg, Int.reduceAdd, Int.reduceSub, Int.reduceMul]; rfl)) (by simp) (SegLe.flat (Nat.le_refl _) id (.inr rfl) fun k hk => ⟨rfl, spotsC_flat _ _⟩) (impH.cons0 (by first | (simp only [go_sem, Nat.reduceBEq, Nat.reduceLT, Nat.reduceLeDiff, Nat.reduceAdd, Nat.reduceMul, Nat.reduceSub, Nat.reduceMod, Nat.reduceDiv, Nat.reduceEqDiff, Int.reduceToNat, reduceIte, reduceCtorEq, Int.reduceLE, Int.reduceLT, Int.reduceEq, Int.reduceNeg, Int.reduceAdd, Int.reduceSub, Int.reduceMul]; done) | (simp only [go_sem, Nat.reduceBEq, Nat.reduceLT, Nat.reduceLeDiff, Nat.reduceAdd, Nat.reduceMul, Nat.reduceSub, Nat.reduceMod, Nat.reduceDiv, Nat.reduceEqDiff, Int.reduceToNat, reduceIte, reduceCtorEq, Int.reduceLE, Int.reduceLT, Int.reduceEq, Int.reduceNeg, Int.reduceAdd, Int.reduceSub, Int.reduceMul]; rfl)) (by simp) (SegLe.flat (Nat.le_refl _) id (.inr rfl) fun z hz => ⟨rfl, cl_flat (l := [_, _, _]) (by simp [SV.flat]) hz⟩) (impH.base0 hok (by simp) (by simp only [go_sem, Nat.reduceBEq, Nat.reduceLT, Nat.reduceLeDiff, Nat.reduceAdd, Nat.reduceMul, Nat.reduceSub, Nat.reduceMod, Nat.reduceDiv, Nat.reduceEqDiff, Int.reduceToNat, reduceIte, reduceCtorEq, Int.reduceLE, Int.reduceLT, Int.reduceEq, Int.reduceNeg, Int.reduceAdd, Int.reduceSub, Int.reduceMul, HExt_cons])))
  · rintro ⟨j, hj⟩
    simp only [go_sem, Nat.reduceBEq, Nat.reduceLT, Nat.reduceLeDiff, Nat.reduceAdd, Nat.reduceMul, Nat.reduceSub, Nat.reduceMod, Nat.reduceDiv, Nat.reduceEqDiff, Int.reduceToNat, reduceIte, reduceCtorEq, Int.reduceLE, Int.reduceLT, Int.reduceEq, Int.reduceNeg, Int.reduceAdd, Int.reduceSub, Int.reduceMul, decide_eq_true_eq, decide_eq_false_iff_not]
    refine ⟨fun h1 => ?_, fun h1 => ?_⟩
    · have r1 : (0 : Int) ≤ j ∧ (j : Int) < M.length := ⟨by omega, h1⟩
      have b1 : j * 2 ≤ M.length * 2 - 2 := by omega
      have b2 : j * 2 + 2 ≤ M.length * 2 := by omega
      have b3 : 2 ≤ M.length * 2 := by omega
      have b4 : j * 2 ≤ M.length * 2 - 1 := by omega
      have b5 : j * 2 + 1 ≤ M.length * 2 - 1 := by omega
      have b6 : j * 2 + 1 ≤ M.length * 2 := by omega
      have b7 : 1 ≤ M.length * 2 := by omega
      obtain ⟨⟨c1, c2⟩, c3, c4⟩ := hmem j (by omega)
      have c5 : (M.getD j (0, 0)).1 < 8 := by omega
      have c6 : (M.getD j (0, 0)).2 < 8 := by omega
      refine T_drawT hti 18 _ _ (by kernel_rfl) (by kernel_rfl) ?_
      simp only [go_sem, Nat.reduceBEq, Nat.reduceLT, Nat.reduceLeDiff, Nat.reduceAdd, Nat.reduceMul, Nat.reduceSub, Nat.reduceMod, Nat.reduceDiv, Nat.reduceEqDiff, Int.reduceToNat, reduceIte, reduceCtorEq, Int.reduceLE, Int.reduceLT, Int.reduceEq, Int.reduceNeg, Int.reduceAdd, Int.reduceSub, Int.reduceMul, hgi, hi, r1, b1, b2, b3, b4, b5, b6, b7, spotsC_x, spotsC_y, c1, c3, c5, c6, wu8 (n := k + 1) (by omega)]
      refine ⟨⟨j + 1, by omega⟩, by show M.length - (j + 1) < M.length - j; omega, ?_⟩
      refine Imp.id (by simp) ?_ ?_
      · simp only [go_sem, Nat.reduceBEq, Nat.reduceLT, Nat.reduceLeDiff, Nat.reduceAdd, Nat.reduceMul, Nat.reduceSub, Nat.reduceMod, Nat.reduceDiv, Nat.reduceEqDiff, Int.reduceToNat, reduceIte, reduceCtorEq, Int.reduceLE, Int.reduceLT, Int.reduceEq, Int.reduceNeg, Int.reduceAdd, Int.reduceSub, Int.reduceMul, w64 (n := (j : Int) + 1) (by omega), Int.natCast_add, Int.natCast_one]
        omega
      · exact impH.cons0 (by first | (simp only [go_sem, Nat.reduceBEq, Nat.reduceLT, Nat.reduceLeDiff, Nat.reduceAdd, Nat.reduceMul, Nat.reduceSub, Nat.reduceMod, Nat.reduceDiv, Nat.reduceEqDiff, Int.reduceToNat, reduceIte, reduceCtorEq, Int.reduceLE, Int.reduceLT, Int.reduceEq, Int.reduceNeg, Int.reduceAdd, Int.reduceSub, Int.reduceMul]; done) | (simp only [go_sem, Nat.reduceBEq, Nat.reduceLT, Nat.reduceLeDiff, Nat.reduceAdd, Nat.reduceMul, Nat.reduceSub, Nat.reduceMod, Nat.reduceDiv, Nat.reduceEqDiff, Int.reduceToNat, reduceIte, reduceCtorEq, Int.reduceLE, Int.reduceLT, Int.reduceEq, Int.reduceNeg, Int.reduceAdd, Int.reduceSub, Int.reduceMul]; rfl)) (by simp) (SegLe.flat (Nat.le_refl _) id (.inr rfl) fun k hk => ⟨rfl, spotsC_flat _ _⟩) (impH.cons0 (by first | (simp only [go_sem, Nat.reduceBEq, Nat.reduceLT, Nat.reduceLeDiff, Nat.reduceAdd, Nat.reduceMul, Nat.reduceSub, Nat.reduceMod, Nat.reduceDiv, Nat.reduceEqDiff, Int.reduceToNat, reduceIte, reduceCtorEq, Int.reduceLE, Int.reduceLT, Int.reduceEq, Int.reduceNeg, Int.reduceAdd, Int.reduceSub, Int.reduceMul]; done) | (simp only [go_sem, Nat.reduceBEq, Nat.reduceLT, Nat.reduceLeDiff, Nat.reduceAdd, Nat.reduceMul, Nat.reduceSub, Nat.reduceMod, Nat.reduceDiv, Nat.reduceEqDiff, Int.reduceToNat, reduceIte, reduceCtorEq, Int.reduceLE, Int.reduceLT, Int.reduceEq, Int.reduceNeg, Int.reduceAdd, Int.reduceSub, Int.reduceMul]; rfl)) (by simp) (SegLe.flat (Nat.le_refl _) id (.inr rfl) fun z hz => ⟨rfl, cl_flat (l := [_, _, _]) (by simp [SV.flat]) hz⟩) (impH.base0 (hok_set hok fun k hk => pcC_flat _ _) (by simp) (by first | (simp only [go_sem, Nat.reduceBEq, Nat.reduceLT, Nat.reduceLeDiff, Nat.reduceAdd, Nat.reduceMul, Nat.reduceSub, Nat.reduceMod, Nat.reduceDiv, Nat.reduceEqDiff, Int.reduceToNat, reduceIte, reduceCtorEq, Int.reduceLE, Int.reduceLT, Int.reduceEq, Int.reduceNeg, Int.reduceAdd, Int.reduceSub, Int.reduceMul, HExt_cons]; done) | (simp only [go_sem, Nat.reduceBEq, Nat.reduceLT, Nat.reduceLeDiff, Nat.reduceAdd, Nat.reduceMul, Nat.reduceSub, Nat.reduceMod, Nat.reduceDiv, Nat.reduceEqDiff, Int.reduceToNat, reduceIte, reduceCtorEq, Int.reduceLE, Int.reduceLT, Int.reduceEq, Int.reduceNeg, Int.reduceAdd, Int.reduceSub, Int.reduceMul, HExt_cons]; exact HExt.rfl))))
    · have hj2 : j = M.length := by omega
      subst hj2
      simp only [go_sem, Nat.reduceBEq, Nat.reduceLT, Nat.reduceLeDiff, Nat.reduceAdd, Nat.reduceMul, Nat.reduceSub, Nat.reduceMod, Nat.reduceDiv, Nat.reduceEqDiff, Int.reduceToNat, reduceIte, reduceCtorEq, Int.reduceLE, Int.reduceLT, Int.reduceEq, Int.reduceNeg, Int.reduceAdd, Int.reduceSub, Int.reduceMul]
theorem can7_Q (i : Nat) (P : Pc) (x y k : Int) (hs : hget h i = some (pcS P)) (hi : i < n) (hR : PcR P) (hx : -128 ≤ x ∧ x < 128) (hy : -128 ≤ y ∧ y < 128) :
    CallQ Try.prog cx 54 [.ptr i 0, dropV x y k] h n (.bool (hasB (psh P) x y && decide (k < 3))) := by
  refine callQ_of_T (P := Try.prog) hti (nt := 14) (rs := [.tmp 4]) rfl rfl Try.call54 Try.func54 rfl _ (by simp only [go_sem, and_self]) (Nat.le_of_ble_eq_true rfl) _ (by first | exact trivial | (refine lt_flat rfl ?_; simp [SV.flat]; done) | simp only [go_sem]) fun hok => ?_
  simp only [go_sem, Nat.reduceBEq, Nat.reduceLT, Nat.reduceLeDiff, Nat.reduceAdd, Nat.reduceMul, Nat.reduceSub, Nat.reduceMod, Nat.reduceDiv, Nat.reduceEqDiff, Int.reduceToNat, reduceIte, reduceCtorEq, Int.reduceLE, Int.reduceLT, Int.reduceEq, Int.reduceNeg, Int.reduceAdd, Int.reduceSub, Int.reduceMul]
  refine (is7_Q _ _ _ i P x y (by first | (simp only [go_sem, Nat.reduceBEq, Nat.reduceLT, Nat.reduceLeDiff, Nat.reduceAdd, Nat.reduceMul, Nat.reduceSub, Nat.reduceMod, Nat.reduceDiv, Nat.reduceEqDiff, Int.reduceToNat, reduceIte, reduceCtorEq, Int.reduceLE, Int.reduceLT, Int.reduceEq, Int.reduceNeg, Int.reduceAdd, Int.reduceSub, Int.reduceMul, hs, hi]; done) | (simp only [go_sem, Nat.reduceBEq, Nat.reduceLT, Nat.reduceLeDiff, Nat.reduceAdd, Nat.reduceMul, Nat.reduceSub, Nat.reduceMod, Nat.reduceDiv, Nat.reduceEqDiff, Int.reduceToNat, reduceIte, reduceCtorEq, Int.reduceLE, Int.reduceLT, Int.reduceEq, Int.reduceNeg, Int.reduceAdd, Int.reduceSub, Int.reduceMul, hs, hi]; rfl)) (by omega) hR hx hy).A ?_
  by_cases hb : hasB (psh P) x y = true
  · simp only [go_sem, Nat.reduceBEq, Nat.reduceLT, Nat.reduceLeDiff, Nat.reduceAdd, Nat.reduceMul, Nat.reduceSub, Nat.reduceMod, Nat.reduceDiv, Nat.reduceEqDiff, Int.reduceToNat, reduceIte, reduceCtorEq, Int.reduceLE, Int.reduceLT, Int.reduceEq, Int.reduceNeg, Int.reduceAdd, Int.reduceSub, Int.reduceMul, hb]
  · simp only [go_sem, Nat.reduceBEq, Nat.reduceLT, Nat.reduceLeDiff, Nat.reduceAdd, Nat.reduceMul, Nat.reduceSub, Nat.reduceMod, Nat.reduceDiv, Nat.reduceEqDiff, Int.reduceToNat, reduceIte, reduceCtorEq, Int.reduceLE, Int.reduceLT, Int.reduceEq, Int.reduceNeg, Int.reduceAdd, Int.reduceSub, Int.reduceMul, hb]
theorem isDrop7_Q (i : Nat) (P : Pc) (x y k : Int) (hs : hget h i = some (pcS P)) (hi : i < n) (hR : PcR P) :
    CallQ Try.prog cx 56 [.ptr i 0, dropV x y k] h n (.bool (hasB (psh P) x y && decide (k < 3))) := by
  refine callQ_of_T (P := Try.prog) hti (nt := 15) (rs := [.tmp 4]) rfl rfl Try.call56 Try.func56 rfl _ (by simp only [go_sem, and_self]) (Nat.le_of_ble_eq_true rfl) _ (by first | exact trivial | (refine lt_flat rfl ?_; simp [SV.flat]; done) | simp only [go_sem]) fun hok => ?_
  simp only [go_sem, Nat.reduceBEq, Nat.reduceLT, Nat.reduceLeDiff, Nat.reduceAdd, Nat.reduceMul, Nat.reduceSub, Nat.reduceMod, Nat.reduceDiv, Nat.reduceEqDiff, Int.reduceToNat, reduceIte, reduceCtorEq, Int.reduceLE, Int.reduceLT, Int.reduceEq, Int.reduceNeg, Int.reduceAdd, Int.reduceSub, Int.reduceMul]
  by_cases hb : hasB (psh P) x y = true
  · refine T_drawG hti 11 [] (.b 0 0 (.b 0 2 (.b 0 3 (.b 2 1 (.b 1 4 (.b 0 5 (.b 0 6 (.b 0 7 (.b 0 8 (.b 0 9 (.b 0 10 (.f) .o) .o) .o) .o) .o) .o) .o) .o) .o) .o) .o) _ _ (by kernel_rfl) (by kernel_rfl) ?_
    simp only [go_sem, Nat.reduceBEq, Nat.reduceLT, Nat.reduceLeDiff, Nat.reduceAdd, Nat.reduceMul, Nat.reduceSub, Nat.reduceMod, Nat.reduceDiv, Nat.reduceEqDiff, Int.reduceToNat, reduceIte, reduceCtorEq, Int.reduceLE, Int.reduceLT, Int.reduceEq, Int.reduceNeg, Int.reduceAdd, Int.reduceSub, Int.reduceMul]
    refine callA_false (sheet_E _ _ _ i P (by first | (simp only [go_sem, Nat.reduceBEq, Nat.reduceLT, Nat.reduceLeDiff, Nat.reduceAdd, Nat.reduceMul, Nat.reduceSub, Nat.reduceMod, Nat.reduceDiv, Nat.reduceEqDiff, Int.reduceToNat, reduceIte, reduceCtorEq, Int.reduceLE, Int.reduceLT, Int.reduceEq, Int.reduceNeg, Int.reduceAdd, Int.reduceSub, Int.reduceMul, hs, hi]; done) | (simp only [go_sem, Nat.reduceBEq, Nat.reduceLT, Nat.reduceLeDiff, Nat.reduceAdd, Nat.reduceMul, Nat.reduceSub, Nat.reduceMod, Nat.reduceDiv, Nat.reduceEqDiff, Int.reduceToNat, reduceIte, reduceCtorEq, Int.reduceLE, Int.reduceLT, Int.reduceEq, Int.reduceNeg, Int.reduceAdd, Int.reduceSub, Int.reduceMul, hs, hi]; rfl)) (by omega) _ ?_)
    simp only [go_sem, Nat.reduceBEq, Nat.reduceLT, Nat.reduceLeDiff, Nat.reduceAdd, Nat.reduceMul, Nat.reduceSub, Nat.reduceMod, Nat.reduceDiv, Nat.reduceEqDiff, Int.reduceToNat, reduceIte, reduceCtorEq, Int.reduceLE, Int.reduceLT, Int.reduceEq, Int.reduceNeg, Int.reduceAdd, Int.reduceSub, Int.reduceMul]
    refine CallQ.F _ (fun h' n' hn hx => has_Q _ h' n' (n + 1) 0 (shS (psh P)) (psh P) x y (hx _ (by omega) _ (by first | (simp only [go_sem, Nat.reduceBEq, Nat.reduceLT, Nat.reduceLeDiff, Nat.reduceAdd, Nat.reduceMul, Nat.reduceSub, Nat.reduceMod, Nat.reduceDiv, Nat.reduceEqDiff, Int.reduceToNat, reduceIte, reduceCtorEq, Int.reduceLE, Int.reduceLT, Int.reduceEq, Int.reduceNeg, Int.reduceAdd, Int.reduceSub, Int.reduceMul]; done) | (simp only [go_sem, Nat.reduceBEq, Nat.reduceLT, Nat.reduceLeDiff, Nat.reduceAdd, Nat.reduceMul, Nat.reduceSub, Nat.reduceMod, Nat.reduceDiv, Nat.reduceEqDiff, Int.reduceToNat, reduceIte, reduceCtorEq, Int.reduceLE, Int.reduceLT, Int.reduceEq, Int.reduceNeg, Int.reduceAdd, Int.reduceSub, Int.reduceMul]; rfl))) (by omega) (shAt_shC (psh_R hR))) ?_
    simp only [go_sem, Nat.reduceBEq, Nat.reduceLT, Nat.reduceLeDiff, Nat.reduceAdd, Nat.reduceMul, Nat.reduceSub, Nat.reduceMod, Nat.reduceDiv, Nat.reduceEqDiff, Int.reduceToNat, reduceIte, reduceCtorEq, Int.reduceLE, Int.reduceLT, Int.reduceEq, Int.reduceNeg, Int.reduceAdd, Int.reduceSub, Int.reduceMul, hb, hs, hi, HExt_cons]
  · refine T_drawG hti 11 [] (.b 0 0 (.b 0 2 (.b 0 3 (.b 2 1 (.b 1 4 (.b 0 5 (.b 0 6 (.b 0 7 (.b 0 8 (.b 0 9 (.b 0 10 (.f) .o) .o) .o) .o) .o) .o) .o) .o) .o) .o) .o) _ _ (by kernel_rfl) (by kernel_rfl) ?_
    simp only [go_sem, Nat.reduceBEq, Nat.reduceLT, Nat.reduceLeDiff, Nat.reduceAdd, Nat.reduceMul, Nat.reduceSub, Nat.reduceMod, Nat.reduceDiv, Nat.reduceEqDiff, Int.reduceToNat, reduceIte, reduceCtorEq, Int.reduceLE, Int.reduceLT, Int.reduceEq, Int.reduceNeg, Int.reduceAdd, Int.reduceSub, Int.reduceMul]
    refine callA_false (sheet_E _ _ _ i P (by first | (simp only [go_sem, Nat.reduceBEq, Nat.reduceLT, Nat.reduceLeDiff, Nat.reduceAdd, Nat.reduceMul, Nat.reduceSub, Nat.reduceMod, Nat.reduceDiv, Nat.reduceEqDiff, Int.reduceToNat, reduceIte, reduceCtorEq, Int.reduceLE, Int.reduceLT, Int.reduceEq, Int.reduceNeg, Int.reduceAdd, Int.reduceSub, Int.reduceMul, hs, hi]; done) | (simp only [go_sem, Nat.reduceBEq, Nat.reduceLT, Nat.reduceLeDiff, Nat.reduceAdd, Nat.reduceMul, Nat.reduceSub, Nat.reduceMod, Nat.reduceDiv, Nat.reduceEqDiff, Int.reduceToNat, reduceIte, reduceCtorEq, Int.reduceLE, Int.reduceLT, Int.reduceEq, Int.reduceNeg, Int.reduceAdd, Int.reduceSub, Int.reduceMul, hs, hi]; rfl)) (by omega) _ ?_)
    simp only [go_sem, Nat.reduceBEq, Nat.reduceLT, Nat.reduceLeDiff, Nat.reduceAdd, Nat.reduceMul, Nat.reduceSub, Nat.reduceMod, Nat.reduceDiv, Nat.reduceEqDiff, Int.reduceToNat, reduceIte, reduceCtorEq, Int.reduceLE, Int.reduceLT, Int.reduceEq, Int.reduceNeg, Int.reduceAdd, Int.reduceSub, Int.reduceMul]
    refine CallQ.F _ (fun h' n' hn hx => has_Q _ h' n' (n + 1) 0 (shS (psh P)) (psh P) x y (hx _ (by omega) _ (by first | (simp only [go_sem, Nat.reduceBEq, Nat.reduceLT, Nat.reduceLeDiff, Nat.reduceAdd, Nat.reduceMul, Nat.reduceSub, Nat.reduceMod, Nat.reduceDiv, Nat.reduceEqDiff, Int.reduceToNat, reduceIte, reduceCtorEq, Int.reduceLE, Int.reduceLT, Int.reduceEq, Int.reduceNeg, Int.reduceAdd, Int.reduceSub, Int.reduceMul]; done) | (simp only [go_sem, Nat.reduceBEq, Nat.reduceLT, Nat.reduceLeDiff, Nat.reduceAdd, Nat.reduceMul, Nat.reduceSub, Nat.reduceMod, Nat.reduceDiv, Nat.reduceEqDiff, Int.reduceToNat, reduceIte, reduceCtorEq, Int.reduceLE, Int.reduceLT, Int.reduceEq, Int.reduceNeg, Int.reduceAdd, Int.reduceSub, Int.reduceMul]; rfl))) (by omega) (shAt_shC (psh_R hR))) ?_
    simp only [go_sem, Nat.reduceBEq, Nat.reduceLT, Nat.reduceLeDiff, Nat.reduceAdd, Nat.reduceMul, Nat.reduceSub, Nat.reduceMod, Nat.reduceDiv, Nat.reduceEqDiff, Int.reduceToNat, reduceIte, reduceCtorEq, Int.reduceLE, Int.reduceLT, Int.reduceEq, Int.reduceNeg, Int.reduceAdd, Int.reduceSub, Int.reduceMul, hb, hs, hi, HExt_cons]
end
end Go.Proofs.Ytodgbpkdanefaaa.V

/- Lists of drops; drops made one behind the other: both walks. -/
namespace Go.Proofs.Ytodgbpkdanefaaa.V
abbrev Dr := Int × Int × Int
def dropsC (D : List Dr) : Nat → SV := fun k =>
  if k % 3 = 0 then .int .i8 (D.getD (k / 3) (0, 0, 0)).1 else if k % 3 = 1 then .int .i8 (D.getD (k / 3) (0, 0, 0)).2.1 else .int .u8 (D.getD (k / 3) (0, 0, 0)).2.2
theorem dropsC_flat (D : List Dr) (k : Nat) : (dropsC D k).flat := by unfold dropsC; (repeat' split) <;> trivial
theorem dropsC_0 (D : List Dr) (j : Nat) : dropsC D (j * 3) = .int .i8 (D.getD j (0, 0, 0)).1 := by unfold dropsC; rw [if_pos (by omega), show j * 3 / 3 = j by omega]
theorem dropsC_1 (D : List Dr) (j : Nat) : dropsC D (j * 3 + 1) = .int .i8 (D.getD j (0, 0, 0)).2.1 := by unfold dropsC; rw [if_neg (by omega), if_pos (by omega), show (j * 3 + 1) / 3 = j by omega]
theorem dropsC_2 (D : List Dr) (j : Nat) : dropsC D (j * 3 + 2) = .int .u8 (D.getD j (0, 0, 0)).2.2 := by unfold dropsC; rw [if_neg (by omega), if_neg (by omega), show (j * 3 + 2) / 3 = j by omega]
/-- A list's cells are drops. -/
def DrAt (s : Seg) (D : List Dr) : Prop := D.length * 3 ≤ s.n ∧ ∀ k, k < D.length * 3 → s.c k = dropsC D k
theorem DrAt.c0 {s : Seg} {D : List Dr} (h : DrAt s D) {j : Nat} (hj : j < D.length) : s.c (j * 3) = .int .i8 (D.getD j (0, 0, 0)).1 := (h.2 _ (by omega)).trans (dropsC_0 D j)
theorem DrAt.c1 {s : Seg} {D : List Dr} (h : DrAt s D) {j : Nat} (hj : j < D.length) : s.c (j * 3 + 1) = .int .i8 (D.getD j (0, 0, 0)).2.1 := (h.2 _ (by omega)).trans (dropsC_1 D j)
theorem DrAt.c2 {s : Seg} {D : List Dr} (h : DrAt s D) {j : Nat} (hj : j < D.length) : s.c (j * 3 + 2) = .int .u8 (D.getD j (0, 0, 0)).2.2 := (h.2 _ (by omega)).trans (dropsC_2 D j)
def DrR (D : List Dr) : Prop := ∀ j, j < D.length → (-128 ≤ (D.getD j (0, 0, 0)).1 ∧ (D.getD j (0, 0, 0)).1 < 128) ∧ (-128 ≤ (D.getD j (0, 0, 0)).2.1 ∧ (D.getD j (0, 0, 0)).2.1 < 128) ∧ 0 ≤ (D.getD j (0, 0, 0)).2.2 ∧ (D.getD j (0, 0, 0)).2.2 < 256
def canD (P : Pc) (d : Dr) : Bool := hasB (psh P) d.1 d.2.1 && decide (d.2.2 < 3)
theorem canD_in {P : Pc} (hP : PcOk P) {d : Dr} (h : canD P d = true) : (0 ≤ d.1 ∧ d.1 < P.wide) ∧ (0 ≤ d.2.1 ∧ d.2.1 < P.high) ∧ d.2.2 < 3 := by
  unfold canD at h
  rw [psh_has] at h
  simp only [Bool.and_eq_true, decide_eq_true_eq] at h
  omega
theorem canD_sides {P Q : Pc} (h1 : P.wide = Q.wide) (h2 : P.high = Q.high) (d : Dr) : canD P d = canD Q d := by
  unfold canD; rw [psh_has, psh_has, h1, h2]
def allN7 (P : Pc) (D : List Dr) : Nat → Pc
  | 0 => P
  | j + 1 => dropS (allN7 P D j) (D.getD j (0, 0, 0)).1 (D.getD j (0, 0, 0)).2.1 (D.getD j (0, 0, 0)).2.2
theorem allN7_ok {P : Pc} (hR : PcR P) (hP : PcOk P) {D : List Dr} (hD : DrR D) : ∀ j, j ≤ D.length → (∀ q, q < j → canD P (D.getD q (0, 0, 0)) = true) → PcR (allN7 P D j) ∧ PcOk (allN7 P D j) ∧ (allN7 P D j).wide = P.wide ∧ (allN7 P D j).high = P.high
  | 0, _, _ => ⟨hR, hP, rfl, rfl⟩
  | j + 1, hj, hc => by
    obtain ⟨h1, h2, h3, h4⟩ := allN7_ok hR hP hD j (by omega) fun q hq => hc q (by omega)
    have hk := canD_in hP (hc j (by omega))
    have hd := hD j (by omega)
    obtain ⟨g1, g2, g3, g4⟩ := dropS_ok (x := (D.getD j (0, 0, 0)).1) (y := (D.getD j (0, 0, 0)).2.1) (k := (D.getD j (0, 0, 0)).2.2) h1 h2 (by omega)
    exact ⟨g1, g2, g3.trans h3, g4.trans h4⟩
/-- The code of a picture and drops. -/
noncomputable def dcode (P : Pc) (D : List Dr) : Int := haveI := Classical.propDecidable; if pcokB P then (if 100 < D.length then 3 else if ∀ q, q < D.length → canD P (D.getD q (0, 0, 0)) = true then 0 else 2) else 1
theorem dcode_1 {P : Pc} {D : List Dr} (h : ¬ pcokB P = true) : dcode P D = 1 := by unfold dcode; rw [if_neg h]
theorem dcode_3 {P : Pc} {D : List Dr} (h : pcokB P = true) (hl : 100 < D.length) : dcode P D = 3 := by unfold dcode; rw [if_pos h, if_pos hl]
theorem dcode_2 {P : Pc} {D : List Dr} (h : pcokB P = true) (hl : ¬ 100 < D.length) {q : Nat} (hq : q < D.length) (hc : canD P (D.getD q (0, 0, 0)) = false) : dcode P D = 2 := by
  unfold dcode; rw [if_pos h, if_neg hl, if_neg fun hall => by have := hall q hq; rw [hc] at this; cases this]
theorem dcode_0 {P : Pc} {D : List Dr} (h : pcokB P = true) (hl : ¬ 100 < D.length) (hall : ∀ q, q < D.length → canD P (D.getD q (0, 0, 0)) = true) : dcode P D = 0 := by unfold dcode; rw [if_pos h, if_neg hl, if_pos hall]
theorem dcode_ok {P : Pc} {D : List Dr} (h : dcode P D = 0) : PcOk P ∧ D.length ≤ 100 ∧ ∀ q, q < D.length → canD P (D.getD q (0, 0, 0)) = true := by
  unfold dcode at h
  split at h
  · rename_i h1
    split at h
    · cases h
    · split at h
      · rename_i h2 h3
        exact ⟨by simpa [pcokB] using h1, by omega, h3⟩
      · cases h
  · cases h
section
variable (cx : Cx) (h : List (Nat × Seg)) (n : Nat)
set_option maxRecDepth 100000 in
theorem indexDr_Q (i cap : Nat) (D : List Dr) (s : Seg) (f a b : Nat) (G F : Nat → SV) (p : Nat → Bool) (r : Int)
    (hs : hget h i = some s) (hi : i < n) (hm9 : D.length ≤ 10000000) (hD : DrAt s D) (hF : (SV.fn f a G b F).lt n)
    (hr0 : r = -1 → ∀ j, j < D.length → p j = false) (hr1 : r ≠ -1 → 0 ≤ r ∧ r < D.length ∧ p r.toNat = true ∧ ∀ j : Nat, (j : Int) < r → p j = false)
    (hp : ∀ j, j < D.length → ∀ nt n0, CallQ Try.prog ⟨cx.w0, cx.W, nt, n0⟩ f (lst a G ++ [dropV (D.getD j (0, 0, 0)).1 (D.getD j (0, 0, 0)).2.1 (D.getD j (0, 0, 0)).2.2] ++ lst b F) h n (.bool (p j))) :
    CallQ Try.prog cx 74 [.sl i 0 D.length cap, .fn f a G b F] h n (.int .i64 r) := by
  have hn := hD.1
  refine callQ_of_T (P := Try.prog) hti (nt := 19) (rs := [.tmp 4]) rfl rfl Try.call74 Try.func74 rfl _ (by simp only [go_sem, and_self]) (Nat.le_of_ble_eq_true rfl) _ (by first | exact trivial | (refine lt_flat rfl ?_; simp [SV.flat]; done) | simp only [go_sem]) fun hok => ?_
  simp only [go_sem, Nat.reduceBEq, Nat.reduceLT, Nat.reduceLeDiff, Nat.reduceAdd, Nat.reduceMul, Nat.reduceSub, Nat.reduceMod, Nat.reduceDiv, Nat.reduceEqDiff, Int.reduceToNat, reduceIte, reduceCtorEq, Int.reduceLE, Int.reduceLT, Int.reduceEq, Int.reduceNeg, Int.reduceAdd, Int.reduceSub, Int.reduceMul]
  refine T_lp (ι := { j : Nat // j ≤ D.length ∧ ∀ k, k < j → p k = false })
    (fun j => ([(0, .sl i 0 D.length cap), (1, .fn f a G b F), (7, .int .i64 D.length), (8, .int .i64 j.1)], h, n)) (fun j => D.length - j.1) ⟨0, by simp⟩ ?_ ?_
  · refine Imp.id (by simp) ?_ ?_
    · simp only [go_sem, Nat.reduceBEq, Nat.reduceLT, Nat.reduceLeDiff, Nat.reduceAdd, Nat.reduceMul, Nat.reduceSub, Nat.reduceMod, Nat.reduceDiv, Nat.reduceEqDiff, Int.reduceToNat, reduceIte, reduceCtorEq, Int.reduceLE, Int.reduceLT, Int.reduceEq, Int.reduceNeg, Int.reduceAdd, Int.reduceSub, Int.reduceMul]
      exact ⟨hi, hF⟩
    · exact impH.base0 hok (by simp) (by simp only [go_sem, Nat.reduceBEq, Nat.reduceLT, Nat.reduceLeDiff, Nat.reduceAdd, Nat.reduceMul, Nat.reduceSub, Nat.reduceMod, Nat.reduceDiv, Nat.reduceEqDiff, Int.reduceToNat, reduceIte, reduceCtorEq, Int.reduceLE, Int.reduceLT, Int.reduceEq, Int.reduceNeg, Int.reduceAdd, Int.reduceSub, Int.reduceMul])
  · rintro ⟨j, hj, hall⟩
    simp only [go_sem, Nat.reduceBEq, Nat.reduceLT, Nat.reduceLeDiff, Nat.reduceAdd, Nat.reduceMul, Nat.reduceSub, Nat.reduceMod, Nat.reduceDiv, Nat.reduceEqDiff, Int.reduceToNat, reduceIte, reduceCtorEq, Int.reduceLE, Int.reduceLT, Int.reduceEq, Int.reduceNeg, Int.reduceAdd, Int.reduceSub, Int.reduceMul, decide_eq_true_eq, decide_eq_false_iff_not]
    refine ⟨fun h1 => ?_, fun h1 => ?_⟩
    · have hj1 : j < D.length := by omega
      have r1 : (0 : Int) ≤ j ∧ (j : Int) < D.length := ⟨by omega, by omega⟩
      have b1 : j * 3 ≤ s.n - 3 := by omega
      have b3 : 3 ≤ s.n := by omega
      have b6 : j * 3 + 3 ≤ s.n := by omega
      simp only [go_sem, Nat.reduceBEq, Nat.reduceLT, Nat.reduceLeDiff, Nat.reduceAdd, Nat.reduceMul, Nat.reduceSub, Nat.reduceMod, Nat.reduceDiv, Nat.reduceEqDiff, Int.reduceToNat, reduceIte, reduceCtorEq, Int.reduceLE, Int.reduceLT, Int.reduceEq, Int.reduceNeg, Int.reduceAdd, Int.reduceSub, Int.reduceMul, hs, hi, r1, b1, b3, b6, hD.c0 hj1, hD.c1 hj1, hD.c2 hj1]
      refine (hp j hj1 _ _).A ?_
      cases hpj : p j
      · simp only [go_sem, Nat.reduceBEq, Nat.reduceLT, Nat.reduceLeDiff, Nat.reduceAdd, Nat.reduceMul, Nat.reduceSub, Nat.reduceMod, Nat.reduceDiv, Nat.reduceEqDiff, Int.reduceToNat, reduceIte, reduceCtorEq, Int.reduceLE, Int.reduceLT, Int.reduceEq, Int.reduceNeg, Int.reduceAdd, Int.reduceSub, Int.reduceMul]
        refine ⟨⟨j + 1, by omega, fun k hk => by rcases (by omega : k < j ∨ k = j) with h | rfl; exact hall k h; exact hpj⟩, by show D.length - (j + 1) < D.length - j; omega, ?_⟩
        refine Imp.id (by simp) ?_ (impH.base0 hok (by simp) HExt.rfl)
        simp only [go_sem, Nat.reduceBEq, Nat.reduceLT, Nat.reduceLeDiff, Nat.reduceAdd, Nat.reduceMul, Nat.reduceSub, Nat.reduceMod, Nat.reduceDiv, Nat.reduceEqDiff, Int.reduceToNat, reduceIte, reduceCtorEq, Int.reduceLE, Int.reduceLT, Int.reduceEq, Int.reduceNeg, Int.reduceAdd, Int.reduceSub, Int.reduceMul, w64 (n := (j : Int) + 1) (by omega), Int.natCast_add, Int.natCast_one]
        exact ⟨hi, hF⟩
      · have e : r = j := by
          rcases (by omega : r = -1 ∨ r ≠ -1) with hr | hr
          · have := hr0 hr j hj1; rw [this] at hpj; cases hpj
          · obtain ⟨r0, r1', r2, r3⟩ := hr1 hr
            rcases (by omega : (j : Int) < r ∨ r < j ∨ r = j) with h | h | h
            · rw [r3 j h] at hpj; cases hpj
            · have := hall r.toNat (by omega)
              rw [r2] at this; cases this
            · exact h
        simp only [go_sem, Nat.reduceBEq, Nat.reduceLT, Nat.reduceLeDiff, Nat.reduceAdd, Nat.reduceMul, Nat.reduceSub, Nat.reduceMod, Nat.reduceDiv, Nat.reduceEqDiff, Int.reduceToNat, reduceIte, reduceCtorEq, Int.reduceLE, Int.reduceLT, Int.reduceEq, Int.reduceNeg, Int.reduceAdd, Int.reduceSub, Int.reduceMul, e]
    · have e : r = -1 := by
        rcases (by omega : r = -1 ∨ r ≠ -1) with hr | hr
        · exact hr
        · obtain ⟨r0, r1, r2, r3⟩ := hr1 hr
          have := hall r.toNat (by omega)
          rw [r2] at this; cases this
      rw [e]
theorem fst_ex (p : Nat → Bool) : ∀ m : Nat, ∃ r : Int, (r = -1 → ∀ j : Nat, j < m → p j = false) ∧ (r ≠ -1 → 0 ≤ r ∧ r < m ∧ p r.toNat = true ∧ ∀ j : Nat, (j : Int) < r → p j = false)
  | 0 => ⟨-1, fun _ j hj => absurd hj (Nat.not_lt_zero j), fun h => absurd rfl h⟩
  | m + 1 => by
    obtain ⟨r, h0, h1⟩ := fst_ex p m
    by_cases hr : r = -1
    · by_cases hp : p m = true
      · exact ⟨m, fun e => by omega, fun _ => ⟨by omega, by omega, by rw [Int.toNat_natCast]; exact hp, fun j hj => h0 hr j (by omega)⟩⟩
      · refine ⟨-1, fun _ j hj => ?_, fun h => absurd rfl h⟩
        rcases (by omega : j < m ∨ j = m) with h | rfl
        · exact h0 hr j h
        · simpa using hp
    · obtain ⟨a, b, c, d⟩ := h1 hr
      exact ⟨r, fun e => absurd e hr, fun _ => ⟨a, by omega, c, d⟩⟩
theorem dropsCode1_Q (iv i : Nat) (P : Pc) (x y k : Int) (hs : hget h i = some (pcS P)) (hi : i < n) (hR : PcR P) (hv : hget h iv = some ⟨1, cl [.ptr i 0], true, none⟩) (hvi : iv < n) :
    CallQ Try.prog cx 91 [dropV x y k, .ptr iv 0] h n (.bool (!canD P (x, y, k))) := by
  refine callQ_of_T (P := Try.prog) hti (nt := 8) (rs := [.tmp 3]) rfl rfl Try.call91 Try.func91 rfl _ (by simp only [go_sem, and_self]) (Nat.le_of_ble_eq_true rfl) _ (by first | exact trivial | (refine lt_flat rfl ?_; simp [SV.flat]; done) | simp only [go_sem]) fun hok => ?_
  simp only [go_sem, Nat.reduceBEq, Nat.reduceLT, Nat.reduceLeDiff, Nat.reduceAdd, Nat.reduceMul, Nat.reduceSub, Nat.reduceMod, Nat.reduceDiv, Nat.reduceEqDiff, Int.reduceToNat, reduceIte, reduceCtorEq, Int.reduceLE, Int.reduceLT, Int.reduceEq, Int.reduceNeg, Int.reduceAdd, Int.reduceSub, Int.reduceMul, hv, hvi]
  refine (isDrop7_Q _ _ _ i P x y k (by first | (simp only [go_sem, Nat.reduceBEq, Nat.reduceLT, Nat.reduceLeDiff, Nat.reduceAdd, Nat.reduceMul, Nat.reduceSub, Nat.reduceMod, Nat.reduceDiv, Nat.reduceEqDiff, Int.reduceToNat, reduceIte, reduceCtorEq, Int.reduceLE, Int.reduceLT, Int.reduceEq, Int.reduceNeg, Int.reduceAdd, Int.reduceSub, Int.reduceMul, hs, hi]; done) | (simp only [go_sem, Nat.reduceBEq, Nat.reduceLT, Nat.reduceLeDiff, Nat.reduceAdd, Nat.reduceMul, Nat.reduceSub, Nat.reduceMod, Nat.reduceDiv, Nat.reduceEqDiff, Int.reduceToNat, reduceIte, reduceCtorEq, Int.reduceLE, Int.reduceLT, Int.reduceEq, Int.reduceNeg, Int.reduceAdd, Int.reduceSub, Int.reduceMul, hs, hi]; rfl)) (by omega) hR).A ?_
  simp only [go_sem, Nat.reduceBEq, Nat.reduceLT, Nat.reduceLeDiff, Nat.reduceAdd, Nat.reduceMul, Nat.reduceSub, Nat.reduceMod, Nat.reduceDiv, Nat.reduceEqDiff, Int.reduceToNat, reduceIte, reduceCtorEq, Int.reduceLE, Int.reduceLT, Int.reduceEq, Int.reduceNeg, Int.reduceAdd, Int.reduceSub, Int.reduceMul]
  rfl
theorem dropsCode_Q (i j cap : Nat) (P : Pc) (D : List Dr) (s : Seg) (hs : hget h i = some (pcS P)) (hi : i < n) (hR : PcR P) (hj : j < n) (hd : hget h j = some s) (hD : DrAt s D) (hm9 : D.length ≤ 10000000) :
    CallQ Try.prog cx 61 [.ptr i 0, .sl j 0 D.length cap] h n (.int .i64 (dcode P D)) := by
  refine callQ_of_T (P := Try.prog) hti (nt := 19) (rs := [.tmp 4]) rfl rfl Try.call61 Try.func61 rfl _ (by simp only [go_sem, and_self]) (Nat.le_of_ble_eq_true rfl) _ (by first | exact trivial | (refine lt_flat rfl ?_; simp [SV.flat]; done) | simp only [go_sem]) fun hok => ?_
  simp only [go_sem, Nat.reduceBEq, Nat.reduceLT, Nat.reduceLeDiff, Nat.reduceAdd, Nat.reduceMul, Nat.reduceSub, Nat.reduceMod, Nat.reduceDiv, Nat.reduceEqDiff, Int.reduceToNat, reduceIte, reduceCtorEq, Int.reduceLE, Int.reduceLT, Int.reduceEq, Int.reduceNeg, Int.reduceAdd, Int.reduceSub, Int.reduceMul, hs, hi]
  refine (validPc_Q _ _ _ P hR).A ?_
  by_cases hk : pcokB P = true
  rotate_left
  · simp only [go_sem, Nat.reduceBEq, Nat.reduceLT, Nat.reduceLeDiff, Nat.reduceAdd, Nat.reduceMul, Nat.reduceSub, Nat.reduceMod, Nat.reduceDiv, Nat.reduceEqDiff, Int.reduceToNat, reduceIte, reduceCtorEq, Int.reduceLE, Int.reduceLT, Int.reduceEq, Int.reduceNeg, Int.reduceAdd, Int.reduceSub, Int.reduceMul, hk, dcode_1 hk]
  by_cases hl : 100 < D.length
  · simp only [go_sem, Nat.reduceBEq, Nat.reduceLT, Nat.reduceLeDiff, Nat.reduceAdd, Nat.reduceMul, Nat.reduceSub, Nat.reduceMod, Nat.reduceDiv, Nat.reduceEqDiff, Int.reduceToNat, reduceIte, reduceCtorEq, Int.reduceLE, Int.reduceLT, Int.reduceEq, Int.reduceNeg, Int.reduceAdd, Int.reduceSub, Int.reduceMul, hk, dcode_3 hk hl, show (100 : Int) < D.length by omega]
  simp only [go_sem, Nat.reduceBEq, Nat.reduceLT, Nat.reduceLeDiff, Nat.reduceAdd, Nat.reduceMul, Nat.reduceSub, Nat.reduceMod, Nat.reduceDiv, Nat.reduceEqDiff, Int.reduceToNat, reduceIte, reduceCtorEq, Int.reduceLE, Int.reduceLT, Int.reduceEq, Int.reduceNeg, Int.reduceAdd, Int.reduceSub, Int.reduceMul, hk, show ¬ (100 : Int) < D.length by omega]
  obtain ⟨r, hr0, hr1⟩ := fst_ex (fun q => !canD P (D.getD q (0, 0, 0))) D.length
  have hix := indexDr_Q ⟨cx.w0, cx.W, 9, n + 1⟩ ((n, ⟨1, cl [.ptr i 0], true, none⟩) :: h) (n + 1) j cap D s 91 0 1 (cl []) (cl [.ptr n 0]) (fun q => !canD P (D.getD q (0, 0, 0))) r (by first | (simp only [go_sem, Nat.reduceBEq, Nat.reduceLT, Nat.reduceLeDiff, Nat.reduceAdd, Nat.reduceMul, Nat.reduceSub, Nat.reduceMod, Nat.reduceDiv, Nat.reduceEqDiff, Int.reduceToNat, reduceIte, reduceCtorEq, Int.reduceLE, Int.reduceLT, Int.reduceEq, Int.reduceNeg, Int.reduceAdd, Int.reduceSub, Int.reduceMul, hd, hj]; done) | (simp only [go_sem, Nat.reduceBEq, Nat.reduceLT, Nat.reduceLeDiff, Nat.reduceAdd, Nat.reduceMul, Nat.reduceSub, Nat.reduceMod, Nat.reduceDiv, Nat.reduceEqDiff, Int.reduceToNat, reduceIte, reduceCtorEq, Int.reduceLE, Int.reduceLT, Int.reduceEq, Int.reduceNeg, Int.reduceAdd, Int.reduceSub, Int.reduceMul, hd, hj]; rfl)) (by omega) hm9 hD
    (fn_lt (xs := []) (ys := [.ptr n 0]) (fun v hv => by cases hv) (fun v hv => by simp at hv; subst hv; show n < _; omega)) hr0 hr1
    (fun q hq nt n0 => dropsCode1_Q _ _ _ n i P _ _ _ (by first | (simp only [go_sem, Nat.reduceBEq, Nat.reduceLT, Nat.reduceLeDiff, Nat.reduceAdd, Nat.reduceMul, Nat.reduceSub, Nat.reduceMod, Nat.reduceDiv, Nat.reduceEqDiff, Int.reduceToNat, reduceIte, reduceCtorEq, Int.reduceLE, Int.reduceLT, Int.reduceEq, Int.reduceNeg, Int.reduceAdd, Int.reduceSub, Int.reduceMul, hs, hi]; done) | (simp only [go_sem, Nat.reduceBEq, Nat.reduceLT, Nat.reduceLeDiff, Nat.reduceAdd, Nat.reduceMul, Nat.reduceSub, Nat.reduceMod, Nat.reduceDiv, Nat.reduceEqDiff, Int.reduceToNat, reduceIte, reduceCtorEq, Int.reduceLE, Int.reduceLT, Int.reduceEq, Int.reduceNeg, Int.reduceAdd, Int.reduceSub, Int.reduceMul, hs, hi]; rfl)) (by omega) hR (by first | (simp only [go_sem, Nat.reduceBEq, Nat.reduceLT, Nat.reduceLeDiff, Nat.reduceAdd, Nat.reduceMul, Nat.reduceSub, Nat.reduceMod, Nat.reduceDiv, Nat.reduceEqDiff, Int.reduceToNat, reduceIte, reduceCtorEq, Int.reduceLE, Int.reduceLT, Int.reduceEq, Int.reduceNeg, Int.reduceAdd, Int.reduceSub, Int.reduceMul]; done) | (simp only [go_sem, Nat.reduceBEq, Nat.reduceLT, Nat.reduceLeDiff, Nat.reduceAdd, Nat.reduceMul, Nat.reduceSub, Nat.reduceMod, Nat.reduceDiv, Nat.reduceEqDiff, Int.reduceToNat, reduceIte, reduceCtorEq, Int.reduceLE, Int.reduceLT, Int.reduceEq, Int.reduceNeg, Int.reduceAdd, Int.reduceSub, Int.reduceMul]; rfl)) (by omega))
  have hcf : CallQ Try.prog ⟨cx.w0, cx.W, 19, n⟩ 90 [.sl j 0 D.length cap, .fn 91 0 (cl []) 1 (cl [.ptr n 0])] ((n, ⟨1, cl [.ptr i 0], true, none⟩) :: h) (n + 1) (.bool (decide (0 ≤ r))) := by
    refine callQ_of_T (P := Try.prog) hti (nt := 9) (rs := [.tmp 4]) rfl rfl Try.call90 Try.func90 rfl _ (by simp only [go_sem, and_self]) (Nat.le_of_ble_eq_true rfl) _ (by first | exact trivial | (refine lt_flat rfl ?_; simp [SV.flat]; done) | simp only [go_sem]) fun hok => ?_
    simp only [go_sem, Nat.reduceBEq, Nat.reduceLT, Nat.reduceLeDiff, Nat.reduceAdd, Nat.reduceMul, Nat.reduceSub, Nat.reduceMod, Nat.reduceDiv, Nat.reduceEqDiff, Int.reduceToNat, reduceIte, reduceCtorEq, Int.reduceLE, Int.reduceLT, Int.reduceEq, Int.reduceNeg, Int.reduceAdd, Int.reduceSub, Int.reduceMul]
    refine hix.A ?_
    simp only [go_sem, Nat.reduceBEq, Nat.reduceLT, Nat.reduceLeDiff, Nat.reduceAdd, Nat.reduceMul, Nat.reduceSub, Nat.reduceMod, Nat.reduceDiv, Nat.reduceEqDiff, Int.reduceToNat, reduceIte, reduceCtorEq, Int.reduceLE, Int.reduceLT, Int.reduceEq, Int.reduceNeg, Int.reduceAdd, Int.reduceSub, Int.reduceMul]
  refine hcf.A ?_
  by_cases hrr : r = -1
  · have e : dcode P D = 0 := dcode_0 hk hl fun q hq => by have := hr0 hrr q hq; simpa using this
    subst hrr
    simp only [go_sem, Nat.reduceBEq, Nat.reduceLT, Nat.reduceLeDiff, Nat.reduceAdd, Nat.reduceMul, Nat.reduceSub, Nat.reduceMod, Nat.reduceDiv, Nat.reduceEqDiff, Int.reduceToNat, reduceIte, reduceCtorEq, Int.reduceLE, Int.reduceLT, Int.reduceEq, Int.reduceNeg, Int.reduceAdd, Int.reduceSub, Int.reduceMul, e]
  · obtain ⟨q0, q1, q2, _⟩ := hr1 hrr
    have e : dcode P D = 2 := dcode_2 hk hl (q := r.toNat) (by omega) (by simpa using q2)
    simp only [go_sem, Nat.reduceBEq, Nat.reduceLT, Nat.reduceLeDiff, Nat.reduceAdd, Nat.reduceMul, Nat.reduceSub, Nat.reduceMod, Nat.reduceDiv, Nat.reduceEqDiff, Int.reduceToNat, reduceIte, reduceCtorEq, Int.reduceLE, Int.reduceLT, Int.reduceEq, Int.reduceNeg, Int.reduceAdd, Int.reduceSub, Int.reduceMul, e, q0]
end
end Go.Proofs.Ytodgbpkdanefaaa.V

/- Drops made one behind the other; DropOn, DropAll, CheckDrops: both walks. -/
namespace Go.Proofs.Ytodgbpkdanefaaa.V
/-- Two pictures compared. -/
def pcEq (P Q : Pc) : Bool := eqT ti 9 32 (pcC P) (pcC Q) 0
theorem pcEqVc (P Q : Pc) : eqVc ti 32 66 66 (pcC P) (pcC Q) := by
  have hu : ∀ j, 2 ≤ j → fitC (.int .u8) (pcC P j) (pcC Q j) := fun j _ => by
    unfold pcC; rw [if_neg (by omega), if_neg (by omega)]; rfl
  refine ⟨rfl, rfl, rfl, rfl, ?_⟩
  simp only [fitT_succ, go_sem, fitK_st, fitL_cons, fitL_nil, fitK_int, fitK_arr, Nat.zero_add, and_true, Nat.mul_one, pcC_0, pcC_1, fitC_int]
  (repeat' apply And.intro) <;> first | omega | exact hu _ (by omega) | rfl | trivial
@[go_sem high] theorem eqV_pic (P Q : Pc) : eqV ti 32 .eql 66 (pcC P) 66 (pcC Q) = ⟨True, .bool (pcEq P Q)⟩ := by
  unfold eqV; rw [eq_true (pcEqVc P Q)]; rfl
noncomputable def checkR (P : Pc) (D : List Dr) : Bool × Int := if dcode P D = 0 then (pcEq (allN7 ⟨P.wide, P.high, fun _ _ => 0⟩ D D.length) P, 0) else (false, dcode P D)
theorem blank_R {P : Pc} (h : PcR P) : PcR ⟨P.wide, P.high, fun _ _ => 0⟩ := ⟨h.wide, h.high, fun _ _ => by show (0 : Int) ≤ 0 ∧ (0 : Int) < 256; omega⟩
theorem blank_ok {P : Pc} (h : PcOk P) : PcOk ⟨P.wide, P.high, fun _ _ => 0⟩ := ⟨h.1, fun y x _ _ _ _ => ⟨by show (0 : Int) ≤ 3; omega, fun h => absurd h (by show ¬ (0 : Int) < 0; omega)⟩⟩
theorem dcode_blank {P : Pc} (D : List Dr) (hk : pcokB P = true) (hR : PcR P) : dcode ⟨P.wide, P.high, fun _ _ => 0⟩ D = dcode P D := by
  have hk' : pcokB ⟨P.wide, P.high, fun _ _ => 0⟩ = true := by simpa [pcokB] using blank_ok (P := P) (by simpa [pcokB] using hk)
  have hc : ∀ d, canD ⟨P.wide, P.high, fun _ _ => 0⟩ d = canD P d := fun d => canD_sides rfl rfl d
  by_cases hl : 100 < D.length
  · rw [dcode_3 hk' hl, dcode_3 hk hl]
  by_cases ha : ∀ q, q < D.length → canD P (D.getD q (0, 0, 0)) = true
  · rw [dcode_0 hk' hl fun q hq => by rw [hc]; exact ha q hq, dcode_0 hk hl ha]
  · obtain ⟨q, hq⟩ := Classical.not_forall.1 ha
    obtain ⟨hq1, hq2⟩ := Classical.not_imp.1 hq
    have hq3 : canD P (D.getD q (0, 0, 0)) = false := by simpa using hq2
    rw [dcode_2 hk' hl hq1 (by rw [hc]; exact hq3), dcode_2 hk hl hq1 hq3]
section
variable (cx : Cx) (h : List (Nat × Seg)) (n : Nat)
theorem canD_Q (i : Nat) (P Q : Pc) (d : Dr) (hs : hget h i = some (pcS Q)) (hi : i < n) (hR : PcR Q) (h1 : Q.wide = P.wide) (h2 : Q.high = P.high) (hx : -128 ≤ d.1 ∧ d.1 < 128) (hy : -128 ≤ d.2.1 ∧ d.2.1 < 128) :
    CallQ Try.prog cx 54 [.ptr i 0, dropV d.1 d.2.1 d.2.2] h n (.bool (canD P d)) := by
  rw [← canD_sides h1 h2]
  exact can7_Q cx h n i Q _ _ _ hs hi hR hx hy
theorem l07All_E (i j cap : Nat) (P : Pc) (D : List Dr) (s : Seg) (hs : hget h i = some (pcS P)) (hi : i < n) (hR : PcR P) (hj : j < n) (hij : i ≠ j) (hd : hget h j = some s) (hD : DrAt s D) (hDR : DrR D) (hm9 : D.length ≤ 10000000) (K : HK)
    (hK : ∀ Q, (dcode P D = 0 → Q = allN7 P D D.length) → K (.int .i64 (dcode P D)) (hset h i (pcS Q)) n) :
    CallE Try.prog cx 60 [.ptr i 0, .sl j 0 D.length cap] h n K := by
  have hn := hD.1
  refine CallE.toE (ι := Pc) (fun _ => .int .i64 (dcode P D)) (fun Q => hset h i (pcS Q)) (fun Q => dcode P D = 0 → Q = allN7 P D D.length) (fun _ _ => by simp only [go_sem, Nat.reduceBEq, Nat.reduceLT, Nat.reduceLeDiff, Nat.reduceAdd, Nat.reduceMul, Nat.reduceSub, Nat.reduceMod, Nat.reduceDiv, Nat.reduceEqDiff, Int.reduceToNat, reduceIte, reduceCtorEq, Int.reduceLE, Int.reduceLT, Int.reduceEq, Int.reduceNeg, Int.reduceAdd, Int.reduceSub, Int.reduceMul]) (fun hok _ _ => hok_set hok fun k hk => pcC_flat _ _) hK ?_
  refine callE_of_T (P := Try.prog) hti (nt := 31) (rs := [.tmp 4]) rfl rfl Try.call60 Try.func60 rfl _ (by simp only [go_sem, and_self]) (Nat.le_of_ble_eq_true rfl) _ fun hok => ?_
  simp only [go_sem, Nat.reduceBEq, Nat.reduceLT, Nat.reduceLeDiff, Nat.reduceAdd, Nat.reduceMul, Nat.reduceSub, Nat.reduceMod, Nat.reduceDiv, Nat.reduceEqDiff, Int.reduceToNat, reduceIte, reduceCtorEq, Int.reduceLE, Int.reduceLT, Int.reduceEq, Int.reduceNeg, Int.reduceAdd, Int.reduceSub, Int.reduceMul]
  refine (ok7_Q _ _ _ i P (by first | (simp only [go_sem, Nat.reduceBEq, Nat.reduceLT, Nat.reduceLeDiff, Nat.reduceAdd, Nat.reduceMul, Nat.reduceSub, Nat.reduceMod, Nat.reduceDiv, Nat.reduceEqDiff, Int.reduceToNat, reduceIte, reduceCtorEq, Int.reduceLE, Int.reduceLT, Int.reduceEq, Int.reduceNeg, Int.reduceAdd, Int.reduceSub, Int.reduceMul, hs, hi]; done) | (simp only [go_sem, Nat.reduceBEq, Nat.reduceLT, Nat.reduceLeDiff, Nat.reduceAdd, Nat.reduceMul, Nat.reduceSub, Nat.reduceMod, Nat.reduceDiv, Nat.reduceEqDiff, Int.reduceToNat, reduceIte, reduceCtorEq, Int.reduceLE, Int.reduceLT, Int.reduceEq, Int.reduceNeg, Int.reduceAdd, Int.reduceSub, Int.reduceMul, hs, hi]; rfl)) (by omega) hR).A ?_
  by_cases hk : pcokB P = true
  rotate_left
  · simp only [go_sem, Nat.reduceBEq, Nat.reduceLT, Nat.reduceLeDiff, Nat.reduceAdd, Nat.reduceMul, Nat.reduceSub, Nat.reduceMod, Nat.reduceDiv, Nat.reduceEqDiff, Int.reduceToNat, reduceIte, reduceCtorEq, Int.reduceLE, Int.reduceLT, Int.reduceEq, Int.reduceNeg, Int.reduceAdd, Int.reduceSub, Int.reduceMul, hk, dcode_1 hk]
    exact ⟨P, by rw [← pcS_eq, hset_self hs]; exact HExt.rfl⟩
  by_cases hl : 100 < D.length
  · simp only [go_sem, Nat.reduceBEq, Nat.reduceLT, Nat.reduceLeDiff, Nat.reduceAdd, Nat.reduceMul, Nat.reduceSub, Nat.reduceMod, Nat.reduceDiv, Nat.reduceEqDiff, Int.reduceToNat, reduceIte, reduceCtorEq, Int.reduceLE, Int.reduceLT, Int.reduceEq, Int.reduceNeg, Int.reduceAdd, Int.reduceSub, Int.reduceMul, hk, dcode_3 hk hl, show (100 : Int) < D.length by omega]
    exact ⟨P, by rw [← pcS_eq, hset_self hs]; exact HExt.rfl⟩
  have hP : PcOk P := by simpa [pcokB] using hk
  have hgi : ∀ t, hget (hset h i t) i = some t := hget_hset_self hs
  have hgj : ∀ t, hget (hset h i t) j = some s := fun t => by rw [hget_hset, if_neg (by omega)]; exact hd
  simp only [go_sem, Nat.reduceBEq, Nat.reduceLT, Nat.reduceLeDiff, Nat.reduceAdd, Nat.reduceMul, Nat.reduceSub, Nat.reduceMod, Nat.reduceDiv, Nat.reduceEqDiff, Int.reduceToNat, reduceIte, reduceCtorEq, Int.reduceLE, Int.reduceLT, Int.reduceEq, Int.reduceNeg, Int.reduceAdd, Int.reduceSub, Int.reduceMul, hk, show ¬ (100 : Int) < D.length by omega]
  refine T_lp (ι := { q : Nat // q ≤ D.length ∧ ∀ k, k < q → canD P (D.getD k (0, 0, 0)) = true })
    (fun q => ([(0, .ptr i 0), (1, .sl j 0 D.length cap), (5, .int .i64 q.1)], hset h i (pcS (allN7 P D q.1)), n)) (fun q => D.length - q.1) ⟨0, by simp⟩ ?_ ?_
  · refine Imp.id (by simp) ?_ ?_
    · simp only [go_sem, Nat.reduceBEq, Nat.reduceLT, Nat.reduceLeDiff, Nat.reduceAdd, Nat.reduceMul, Nat.reduceSub, Nat.reduceMod, Nat.reduceDiv, Nat.reduceEqDiff, Int.reduceToNat, reduceIte, reduceCtorEq, Int.reduceLE, Int.reduceLT, Int.reduceEq, Int.reduceNeg, Int.reduceAdd, Int.reduceSub, Int.reduceMul]
      exact ⟨hi, hj⟩
    · simp only [go_sem, Nat.reduceBEq, Nat.reduceLT, Nat.reduceLeDiff, Nat.reduceAdd, Nat.reduceMul, Nat.reduceSub, Nat.reduceMod, Nat.reduceDiv, Nat.reduceEqDiff, Int.reduceToNat, reduceIte, reduceCtorEq, Int.reduceLE, Int.reduceLT, Int.reduceEq, Int.reduceNeg, Int.reduceAdd, Int.reduceSub, Int.reduceMul, allN7]
      rw [← pcS_eq, hset_self hs]
      exact impH.base0 hok (by simp) HExt.rfl
  · rintro ⟨q, hq, hall⟩
    obtain ⟨i1, i2, i3, i4⟩ := allN7_ok hR hP hDR q hq hall
    simp only [go_sem, Nat.reduceBEq, Nat.reduceLT, Nat.reduceLeDiff, Nat.reduceAdd, Nat.reduceMul, Nat.reduceSub, Nat.reduceMod, Nat.reduceDiv, Nat.reduceEqDiff, Int.reduceToNat, reduceIte, reduceCtorEq, Int.reduceLE, Int.reduceLT, Int.reduceEq, Int.reduceNeg, Int.reduceAdd, Int.reduceSub, Int.reduceMul, decide_eq_true_eq, decide_eq_false_iff_not]
    refine ⟨fun h1 => ?_, fun h1 => ?_⟩
    · have hq1 : q < D.length := by omega
      have r1 : (0 : Int) ≤ q ∧ (q : Int) < D.length := ⟨by omega, by omega⟩
      have b1 : q * 3 ≤ s.n - 3 := by omega
      have b3 : 3 ≤ s.n := by omega
      have b6 : q * 3 + 3 ≤ s.n := by omega
      have hdr := hDR q hq1
      simp only [go_sem, Nat.reduceBEq, Nat.reduceLT, Nat.reduceLeDiff, Nat.reduceAdd, Nat.reduceMul, Nat.reduceSub, Nat.reduceMod, Nat.reduceDiv, Nat.reduceEqDiff, Int.reduceToNat, reduceIte, reduceCtorEq, Int.reduceLE, Int.reduceLT, Int.reduceEq, Int.reduceNeg, Int.reduceAdd, Int.reduceSub, Int.reduceMul, hgj, hj, r1, b1, b3, b6, hD.c0 hq1, hD.c1 hq1, hD.c2 hq1]
      refine (canD_Q _ _ _ i P (allN7 P D q) (D.getD q (0, 0, 0)) (by first | (simp only [go_sem, Nat.reduceBEq, Nat.reduceLT, Nat.reduceLeDiff, Nat.reduceAdd, Nat.reduceMul, Nat.reduceSub, Nat.reduceMod, Nat.reduceDiv, Nat.reduceEqDiff, Int.reduceToNat, reduceIte, reduceCtorEq, Int.reduceLE, Int.reduceLT, Int.reduceEq, Int.reduceNeg, Int.reduceAdd, Int.reduceSub, Int.reduceMul, hgi, hi]; done) | (simp only [go_sem, Nat.reduceBEq, Nat.reduceLT, Nat.reduceLeDiff, Nat.reduceAdd, Nat.reduceMul, Nat.reduceSub, Nat.reduceMod, Nat.reduceDiv, Nat.reduceEqDiff, Int.reduceToNat, reduceIte, reduceCtorEq, Int.reduceLE, Int.reduceLT, Int.reduceEq, Int.reduceNeg, Int.reduceAdd, Int.reduceSub, Int.reduceMul, hgi, hi]; rfl)) (by omega) i1 i3 i4 hdr.1 hdr.2.1).A ?_
      cases hc : canD P (D.getD q (0, 0, 0))
      · have e : dcode P D = 2 := dcode_2 hk hl hq1 hc
        simp only [go_sem, Nat.reduceBEq, Nat.reduceLT, Nat.reduceLeDiff, Nat.reduceAdd, Nat.reduceMul, Nat.reduceSub, Nat.reduceMod, Nat.reduceDiv, Nat.reduceEqDiff, Int.reduceToNat, reduceIte, reduceCtorEq, Int.reduceLE, Int.reduceLT, Int.reduceEq, Int.reduceNeg, Int.reduceAdd, Int.reduceSub, Int.reduceMul, e]
        exact ⟨allN7 P D q, HExt.rfl⟩
      · obtain ⟨k1, k2, k3⟩ := canD_in hP hc
        simp only [go_sem, Nat.reduceBEq, Nat.reduceLT, Nat.reduceLeDiff, Nat.reduceAdd, Nat.reduceMul, Nat.reduceSub, Nat.reduceMod, Nat.reduceDiv, Nat.reduceEqDiff, Int.reduceToNat, reduceIte, reduceCtorEq, Int.reduceLE, Int.reduceLT, Int.reduceEq, Int.reduceNeg, Int.reduceAdd, Int.reduceSub, Int.reduceMul, hgj, hj, r1, b1, b3, b6, hD.c0 hq1, hD.c1 hq1, hD.c2 hq1]
        refine callA_false (drop72_E _ _ _ i (allN7 P D q) (D.getD q (0, 0, 0)).1 (D.getD q (0, 0, 0)).2.1 (D.getD q (0, 0, 0)).2.2 (by first | (simp only [go_sem, Nat.reduceBEq, Nat.reduceLT, Nat.reduceLeDiff, Nat.reduceAdd, Nat.reduceMul, Nat.reduceSub, Nat.reduceMod, Nat.reduceDiv, Nat.reduceEqDiff, Int.reduceToNat, reduceIte, reduceCtorEq, Int.reduceLE, Int.reduceLT, Int.reduceEq, Int.reduceNeg, Int.reduceAdd, Int.reduceSub, Int.reduceMul, hgi, hi]; done) | (simp only [go_sem, Nat.reduceBEq, Nat.reduceLT, Nat.reduceLeDiff, Nat.reduceAdd, Nat.reduceMul, Nat.reduceSub, Nat.reduceMod, Nat.reduceDiv, Nat.reduceEqDiff, Int.reduceToNat, reduceIte, reduceCtorEq, Int.reduceLE, Int.reduceLT, Int.reduceEq, Int.reduceNeg, Int.reduceAdd, Int.reduceSub, Int.reduceMul, hgi, hi]; rfl)) (by omega) i1 i2 k1.1 (by omega) k2.1 (by omega) (by omega) _ ?_)
        simp only [go_sem, Nat.reduceBEq, Nat.reduceLT, Nat.reduceLeDiff, Nat.reduceAdd, Nat.reduceMul, Nat.reduceSub, Nat.reduceMod, Nat.reduceDiv, Nat.reduceEqDiff, Int.reduceToNat, reduceIte, reduceCtorEq, Int.reduceLE, Int.reduceLT, Int.reduceEq, Int.reduceNeg, Int.reduceAdd, Int.reduceSub, Int.reduceMul, hset_hset]
        refine ⟨⟨q + 1, by omega, fun k hk => by rcases (by omega : k < q ∨ k = q) with h | rfl; exact hall k h; exact hc⟩, by show D.length - (q + 1) < D.length - q; omega, ?_⟩
        refine Imp.id (by simp) ?_ (impH.base0 (hok_set hok fun k hk => pcC_flat _ _) (by simp) (by first | (simp only [go_sem, Nat.reduceBEq, Nat.reduceLT, Nat.reduceLeDiff, Nat.reduceAdd, Nat.reduceMul, Nat.reduceSub, Nat.reduceMod, Nat.reduceDiv, Nat.reduceEqDiff, Int.reduceToNat, reduceIte, reduceCtorEq, Int.reduceLE, Int.reduceLT, Int.reduceEq, Int.reduceNeg, Int.reduceAdd, Int.reduceSub, Int.reduceMul, HExt_cons]; done) | (simp only [go_sem, Nat.reduceBEq, Nat.reduceLT, Nat.reduceLeDiff, Nat.reduceAdd, Nat.reduceMul, Nat.reduceSub, Nat.reduceMod, Nat.reduceDiv, Nat.reduceEqDiff, Int.reduceToNat, reduceIte, reduceCtorEq, Int.reduceLE, Int.reduceLT, Int.reduceEq, Int.reduceNeg, Int.reduceAdd, Int.reduceSub, Int.reduceMul, HExt_cons]; exact HExt.rfl)))
        simp only [go_sem, Nat.reduceBEq, Nat.reduceLT, Nat.reduceLeDiff, Nat.reduceAdd, Nat.reduceMul, Nat.reduceSub, Nat.reduceMod, Nat.reduceDiv, Nat.reduceEqDiff, Int.reduceToNat, reduceIte, reduceCtorEq, Int.reduceLE, Int.reduceLT, Int.reduceEq, Int.reduceNeg, Int.reduceAdd, Int.reduceSub, Int.reduceMul, w64 (n := (q : Int) + 1) (by omega), Int.natCast_add, Int.natCast_one]
        exact ⟨hi, hj⟩
    · have hq' : q = D.length := by omega
      subst hq'
      have e : dcode P D = 0 := dcode_0 hk hl hall
      simp only [go_sem, Nat.reduceBEq, Nat.reduceLT, Nat.reduceLeDiff, Nat.reduceAdd, Nat.reduceMul, Nat.reduceSub, Nat.reduceMod, Nat.reduceDiv, Nat.reduceEqDiff, Int.reduceToNat, reduceIte, reduceCtorEq, Int.reduceLE, Int.reduceLT, Int.reduceEq, Int.reduceNeg, Int.reduceAdd, Int.reduceSub, Int.reduceMul, e]
      exact ⟨_, rfl, HExt.rfl⟩
end
end Go.Proofs.Ytodgbpkdanefaaa.V

/- DropOn, CheckDrops: both walks. -/
namespace Go.Proofs.Ytodgbpkdanefaaa.V
section
variable (cx : Cx) (h : List (Nat × Seg)) (n : Nat)
theorem checkDrops2_Q (P : Pc) (D : List Dr) (j cap : Nat) (s : Seg) (hR : PcR P) (hj : j < n) (hd : hget h j = some s) (hD : DrAt s D) (hDR : DrR D) (hm9 : D.length ≤ 10000000) :
    CallQ Try.prog cx 26 [.agg 66 (pcC P), .sl j 0 D.length cap] h n (.tup 2 (cl [.bool (checkR P D).1, .int .i64 (checkR P D).2])) := by
  refine callQ_of_T (P := Try.prog) hti (nt := 25) (rs := [.tmp 4, .tmp 5]) rfl rfl Try.call26 Try.func26 rfl _ (by simp only [go_sem, and_self]) (Nat.le_of_ble_eq_true rfl) _ (by first | exact trivial | (refine lt_flat rfl ?_; simp [SV.flat]; done) | simp only [go_sem]) fun hok => ?_
  simp only [go_sem, Nat.reduceBEq, Nat.reduceLT, Nat.reduceLeDiff, Nat.reduceAdd, Nat.reduceMul, Nat.reduceSub, Nat.reduceMod, Nat.reduceDiv, Nat.reduceEqDiff, Int.reduceToNat, reduceIte, reduceCtorEq, Int.reduceLE, Int.reduceLT, Int.reduceEq, Int.reduceNeg, Int.reduceAdd, Int.reduceSub, Int.reduceMul]
  refine (ok7_Q _ _ _ n P (by first | (simp only [go_sem, Nat.reduceBEq, Nat.reduceLT, Nat.reduceLeDiff, Nat.reduceAdd, Nat.reduceMul, Nat.reduceSub, Nat.reduceMod, Nat.reduceDiv, Nat.reduceEqDiff, Int.reduceToNat, reduceIte, reduceCtorEq, Int.reduceLE, Int.reduceLT, Int.reduceEq, Int.reduceNeg, Int.reduceAdd, Int.reduceSub, Int.reduceMul]; done) | (simp only [go_sem, Nat.reduceBEq, Nat.reduceLT, Nat.reduceLeDiff, Nat.reduceAdd, Nat.reduceMul, Nat.reduceSub, Nat.reduceMod, Nat.reduceDiv, Nat.reduceEqDiff, Int.reduceToNat, reduceIte, reduceCtorEq, Int.reduceLE, Int.reduceLT, Int.reduceEq, Int.reduceNeg, Int.reduceAdd, Int.reduceSub, Int.reduceMul]; rfl)) (by omega) hR).A ?_
  by_cases hk : pcokB P = true
  rotate_left
  · have e : checkR P D = (false, 1) := by unfold checkR; rw [dcode_1 hk]; rfl
    rw [e]
    simp only [go_sem, Nat.reduceBEq, Nat.reduceLT, Nat.reduceLeDiff, Nat.reduceAdd, Nat.reduceMul, Nat.reduceSub, Nat.reduceMod, Nat.reduceDiv, Nat.reduceEqDiff, Int.reduceToNat, reduceIte, reduceCtorEq, Int.reduceLE, Int.reduceLT, Int.reduceEq, Int.reduceNeg, Int.reduceAdd, Int.reduceSub, Int.reduceMul, hk]
  simp only [go_sem, Nat.reduceBEq, Nat.reduceLT, Nat.reduceLeDiff, Nat.reduceAdd, Nat.reduceMul, Nat.reduceSub, Nat.reduceMod, Nat.reduceDiv, Nat.reduceEqDiff, Int.reduceToNat, reduceIte, reduceCtorEq, Int.reduceLE, Int.reduceLT, Int.reduceEq, Int.reduceNeg, Int.reduceAdd, Int.reduceSub, Int.reduceMul, hk]
  refine callA_false (l07All_E _ _ _ (n + 1) j cap ⟨P.wide, P.high, fun _ _ => 0⟩ D s (by first | (simp only [go_sem, Nat.reduceBEq, Nat.reduceLT, Nat.reduceLeDiff, Nat.reduceAdd, Nat.reduceMul, Nat.reduceSub, Nat.reduceMod, Nat.reduceDiv, Nat.reduceEqDiff, Int.reduceToNat, reduceIte, reduceCtorEq, Int.reduceLE, Int.reduceLT, Int.reduceEq, Int.reduceNeg, Int.reduceAdd, Int.reduceSub, Int.reduceMul]; done) | (simp only [go_sem, Nat.reduceBEq, Nat.reduceLT, Nat.reduceLeDiff, Nat.reduceAdd, Nat.reduceMul, Nat.reduceSub, Nat.reduceMod, Nat.reduceDiv, Nat.reduceEqDiff, Int.reduceToNat, reduceIte, reduceCtorEq, Int.reduceLE, Int.reduceLT, Int.reduceEq, Int.reduceNeg, Int.reduceAdd, Int.reduceSub, Int.reduceMul]; rfl)) (by omega) (blank_R hR) (by omega) (by omega) (by first | (simp only [go_sem, Nat.reduceBEq, Nat.reduceLT, Nat.reduceLeDiff, Nat.reduceAdd, Nat.reduceMul, Nat.reduceSub, Nat.reduceMod, Nat.reduceDiv, Nat.reduceEqDiff, Int.reduceToNat, reduceIte, reduceCtorEq, Int.reduceLE, Int.reduceLT, Int.reduceEq, Int.reduceNeg, Int.reduceAdd, Int.reduceSub, Int.reduceMul, hd, hj]; done) | (simp only [go_sem, Nat.reduceBEq, Nat.reduceLT, Nat.reduceLeDiff, Nat.reduceAdd, Nat.reduceMul, Nat.reduceSub, Nat.reduceMod, Nat.reduceDiv, Nat.reduceEqDiff, Int.reduceToNat, reduceIte, reduceCtorEq, Int.reduceLE, Int.reduceLT, Int.reduceEq, Int.reduceNeg, Int.reduceAdd, Int.reduceSub, Int.reduceMul, hd, hj]; rfl)) hD hDR hm9 _ fun Q hQ => ?_)
  rw [dcode_blank D hk hR] at hQ ⊢
  by_cases hc : dcode P D = 0
  · have e : checkR P D = (pcEq (allN7 ⟨P.wide, P.high, fun _ _ => 0⟩ D D.length) P, 0) := by unfold checkR; rw [if_pos hc]
    rw [hQ hc, hc, e]
    simp only [go_sem, Nat.reduceBEq, Nat.reduceLT, Nat.reduceLeDiff, Nat.reduceAdd, Nat.reduceMul, Nat.reduceSub, Nat.reduceMod, Nat.reduceDiv, Nat.reduceEqDiff, Int.reduceToNat, reduceIte, reduceCtorEq, Int.reduceLE, Int.reduceLT, Int.reduceEq, Int.reduceNeg, Int.reduceAdd, Int.reduceSub, Int.reduceMul]
  · have e : checkR P D = (false, dcode P D) := by unfold checkR; rw [if_neg hc]
    rw [e]
    simp only [go_sem, Nat.reduceBEq, Nat.reduceLT, Nat.reduceLeDiff, Nat.reduceAdd, Nat.reduceMul, Nat.reduceSub, Nat.reduceMod, Nat.reduceDiv, Nat.reduceEqDiff, Int.reduceToNat, reduceIte, reduceCtorEq, Int.reduceLE, Int.reduceLT, Int.reduceEq, Int.reduceNeg, Int.reduceAdd, Int.reduceSub, Int.reduceMul, hc]
theorem madeBy_Q (i j cap : Nat) (P : Pc) (D : List Dr) (s : Seg) (hs : hget h i = some (pcS P)) (hi : i < n) (hR : PcR P) (hj : j < n) (hd : hget h j = some s) (hD : DrAt s D) (hDR : DrR D) (hm9 : D.length ≤ 10000000) (hc : dcode P D = 0) :
    CallQ Try.prog cx 62 [.ptr i 0, .sl j 0 D.length cap] h n (.bool (pcEq (allN7 ⟨P.wide, P.high, fun _ _ => 0⟩ D D.length) P)) := by
  have hn := hD.1
  obtain ⟨hP, hlen, hcan⟩ := dcode_ok hc
  refine callQ_of_T (P := Try.prog) hti (nt := 31) (rs := [.tmp 4]) rfl rfl Try.call62 Try.func62 rfl _ (by simp only [go_sem, and_self]) (Nat.le_of_ble_eq_true rfl) _ (by first | exact trivial | (refine lt_flat rfl ?_; simp [SV.flat]; done) | simp only [go_sem]) fun hok => ?_
  simp only [go_sem, Nat.reduceBEq, Nat.reduceLT, Nat.reduceLeDiff, Nat.reduceAdd, Nat.reduceMul, Nat.reduceSub, Nat.reduceMod, Nat.reduceDiv, Nat.reduceEqDiff, Int.reduceToNat, reduceIte, reduceCtorEq, Int.reduceLE, Int.reduceLT, Int.reduceEq, Int.reduceNeg, Int.reduceAdd, Int.reduceSub, Int.reduceMul]
  refine T_drawG hti 11 [10] (.b 0 0 (.b 0 1 (.b 0 2 (.b 0 3 (.b 0 4 (.b 0 5 (.b 0 6 (.b 0 7 (.b 0 8 (.b 2 9 (.b 4 10 (.f) .o) .o) .o) .o) .o) .o) .o) .o) .o) .o) .o) _ _ (by kernel_rfl) (by kernel_rfl) ?_
  simp only [go_sem, Nat.reduceBEq, Nat.reduceLT, Nat.reduceLeDiff, Nat.reduceAdd, Nat.reduceMul, Nat.reduceSub, Nat.reduceMod, Nat.reduceDiv, Nat.reduceEqDiff, Int.reduceToNat, reduceIte, reduceCtorEq, Int.reduceLE, Int.reduceLT, Int.reduceEq, Int.reduceNeg, Int.reduceAdd, Int.reduceSub, Int.reduceMul, hs, hi]
  refine T_lp (ι := { q : Nat // q ≤ D.length })
    (fun q => ([(0, .ptr i 0), (4, .bool false), (5, .ptr n 0), (17, .sl j 0 D.length cap), (18, .int .i64 D.length), (19, .int .i64 q.1)], (n, pcS (allN7 ⟨P.wide, P.high, fun _ _ => 0⟩ D q.1)) :: h, n + 1)) (fun q => D.length - q.1) ⟨0, by simp⟩ ?_ ?_
  · refine Imp.id (by simp) ?_ ?_
    · simp only [go_sem, Nat.reduceBEq, Nat.reduceLT, Nat.reduceLeDiff, Nat.reduceAdd, Nat.reduceMul, Nat.reduceSub, Nat.reduceMod, Nat.reduceDiv, Nat.reduceEqDiff, Int.reduceToNat, reduceIte, reduceCtorEq, Int.reduceLE, Int.reduceLT, Int.reduceEq, Int.reduceNeg, Int.reduceAdd, Int.reduceSub, Int.reduceMul]
      omega
    · exact impH.cons0 (by first | (simp only [go_sem, Nat.reduceBEq, Nat.reduceLT, Nat.reduceLeDiff, Nat.reduceAdd, Nat.reduceMul, Nat.reduceSub, Nat.reduceMod, Nat.reduceDiv, Nat.reduceEqDiff, Int.reduceToNat, reduceIte, reduceCtorEq, Int.reduceLE, Int.reduceLT, Int.reduceEq, Int.reduceNeg, Int.reduceAdd, Int.reduceSub, Int.reduceMul, allN7]; done) | (simp only [go_sem, Nat.reduceBEq, Nat.reduceLT, Nat.reduceLeDiff, Nat.reduceAdd, Nat.reduceMul, Nat.reduceSub, Nat.reduceMod, Nat.reduceDiv, Nat.reduceEqDiff, Int.reduceToNat, reduceIte, reduceCtorEq, Int.reduceLE, Int.reduceLT, Int.reduceEq, Int.reduceNeg, Int.reduceAdd, Int.reduceSub, Int.reduceMul, allN7]; rfl)) (by simp) (SegLe.flat (Nat.le_refl _) id (.inr rfl) fun k hk => ⟨rfl, pcC_flat _ _⟩) (impH.base0 hok (by simp) (by first | (simp only [go_sem, Nat.reduceBEq, Nat.reduceLT, Nat.reduceLeDiff, Nat.reduceAdd, Nat.reduceMul, Nat.reduceSub, Nat.reduceMod, Nat.reduceDiv, Nat.reduceEqDiff, Int.reduceToNat, reduceIte, reduceCtorEq, Int.reduceLE, Int.reduceLT, Int.reduceEq, Int.reduceNeg, Int.reduceAdd, Int.reduceSub, Int.reduceMul, HExt_cons]; done) | (simp only [go_sem, Nat.reduceBEq, Nat.reduceLT, Nat.reduceLeDiff, Nat.reduceAdd, Nat.reduceMul, Nat.reduceSub, Nat.reduceMod, Nat.reduceDiv, Nat.reduceEqDiff, Int.reduceToNat, reduceIte, reduceCtorEq, Int.reduceLE, Int.reduceLT, Int.reduceEq, Int.reduceNeg, Int.reduceAdd, Int.reduceSub, Int.reduceMul, HExt_cons]; exact HExt.rfl)))
  · rintro ⟨q, hq⟩
    obtain ⟨i1, i2, i3, i4⟩ := allN7_ok (blank_R hR) (blank_ok hP) hDR q hq fun k hk => (canD_sides (P := ⟨P.wide, P.high, fun _ _ => 0⟩) rfl rfl _).trans (hcan k (by omega))
    simp only at i3 i4
    simp only [go_sem, Nat.reduceBEq, Nat.reduceLT, Nat.reduceLeDiff, Nat.reduceAdd, Nat.reduceMul, Nat.reduceSub, Nat.reduceMod, Nat.reduceDiv, Nat.reduceEqDiff, Int.reduceToNat, reduceIte, reduceCtorEq, Int.reduceLE, Int.reduceLT, Int.reduceEq, Int.reduceNeg, Int.reduceAdd, Int.reduceSub, Int.reduceMul, decide_eq_true_eq, decide_eq_false_iff_not]
    refine ⟨fun h1 => ?_, fun h1 => ?_⟩
    · have hq1 : q < D.length := by omega
      have r1 : (0 : Int) ≤ q ∧ (q : Int) < D.length := ⟨by omega, by omega⟩
      have b1 : q * 3 ≤ s.n - 3 := by omega
      have b3 : 3 ≤ s.n := by omega
      have b6 : q * 3 + 3 ≤ s.n := by omega
      have hdr := hDR q hq1
      obtain ⟨k1, k2, k3⟩ := canD_in hP (hcan q hq1)
      simp only [go_sem, Nat.reduceBEq, Nat.reduceLT, Nat.reduceLeDiff, Nat.reduceAdd, Nat.reduceMul, Nat.reduceSub, Nat.reduceMod, Nat.reduceDiv, Nat.reduceEqDiff, Int.reduceToNat, reduceIte, reduceCtorEq, Int.reduceLE, Int.reduceLT, Int.reduceEq, Int.reduceNeg, Int.reduceAdd, Int.reduceSub, Int.reduceMul, hd, hj, r1, b1, b3, b6, hD.c0 hq1, hD.c1 hq1, hD.c2 hq1]
      refine callA_false (drop7_E _ _ _ n (allN7 ⟨P.wide, P.high, fun _ _ => 0⟩ D q) (D.getD q (0, 0, 0)).1 (D.getD q (0, 0, 0)).2.1 (D.getD q (0, 0, 0)).2.2 (by first | (simp only [go_sem, Nat.reduceBEq, Nat.reduceLT, Nat.reduceLeDiff, Nat.reduceAdd, Nat.reduceMul, Nat.reduceSub, Nat.reduceMod, Nat.reduceDiv, Nat.reduceEqDiff, Int.reduceToNat, reduceIte, reduceCtorEq, Int.reduceLE, Int.reduceLT, Int.reduceEq, Int.reduceNeg, Int.reduceAdd, Int.reduceSub, Int.reduceMul]; done) | (simp only [go_sem, Nat.reduceBEq, Nat.reduceLT, Nat.reduceLeDiff, Nat.reduceAdd, Nat.reduceMul, Nat.reduceSub, Nat.reduceMod, Nat.reduceDiv, Nat.reduceEqDiff, Int.reduceToNat, reduceIte, reduceCtorEq, Int.reduceLE, Int.reduceLT, Int.reduceEq, Int.reduceNeg, Int.reduceAdd, Int.reduceSub, Int.reduceMul]; rfl)) (by omega) i1 i2 k1.1 (by omega) k2.1 (by omega) (by omega) _ ?_)
      simp only [go_sem, Nat.reduceBEq, Nat.reduceLT, Nat.reduceLeDiff, Nat.reduceAdd, Nat.reduceMul, Nat.reduceSub, Nat.reduceMod, Nat.reduceDiv, Nat.reduceEqDiff, Int.reduceToNat, reduceIte, reduceCtorEq, Int.reduceLE, Int.reduceLT, Int.reduceEq, Int.reduceNeg, Int.reduceAdd, Int.reduceSub, Int.reduceMul]
      refine ⟨⟨q + 1, by omega⟩, by show D.length - (q + 1) < D.length - q; omega, ?_⟩
      refine Imp.id (by simp) ?_ ?_
      · simp only [go_sem, Nat.reduceBEq, Nat.reduceLT, Nat.reduceLeDiff, Nat.reduceAdd, Nat.reduceMul, Nat.reduceSub, Nat.reduceMod, Nat.reduceDiv, Nat.reduceEqDiff, Int.reduceToNat, reduceIte, reduceCtorEq, Int.reduceLE, Int.reduceLT, Int.reduceEq, Int.reduceNeg, Int.reduceAdd, Int.reduceSub, Int.reduceMul, w64 (n := (q : Int) + 1) (by omega), Int.natCast_add, Int.natCast_one]
        omega
      · exact impH.cons0 (by first | (simp only [go_sem, Nat.reduceBEq, Nat.reduceLT, Nat.reduceLeDiff, Nat.reduceAdd, Nat.reduceMul, Nat.reduceSub, Nat.reduceMod, Nat.reduceDiv, Nat.reduceEqDiff, Int.reduceToNat, reduceIte, reduceCtorEq, Int.reduceLE, Int.reduceLT, Int.reduceEq, Int.reduceNeg, Int.reduceAdd, Int.reduceSub, Int.reduceMul, allN7]; done) | (simp only [go_sem, Nat.reduceBEq, Nat.reduceLT, Nat.reduceLeDiff, Nat.reduceAdd, Nat.reduceMul, Nat.reduceSub, Nat.reduceMod, Nat.reduceDiv, Nat.reduceEqDiff, Int.reduceToNat, reduceIte, reduceCtorEq, Int.reduceLE, Int.reduceLT, Int.reduceEq, Int.reduceNeg, Int.reduceAdd, Int.reduceSub, Int.reduceMul, allN7]; rfl)) (by simp) (SegLe.flat (Nat.le_refl _) id (.inr rfl) fun k hk => ⟨rfl, pcC_flat _ _⟩) (impH.base0 hok (by simp) (by first | (simp only [go_sem, Nat.reduceBEq, Nat.reduceLT, Nat.reduceLeDiff, Nat.reduceAdd, Nat.reduceMul, Nat.reduceSub, Nat.reduceMod, Nat.reduceDiv, Nat.reduceEqDiff, Int.reduceToNat, reduceIte, reduceCtorEq, Int.reduceLE, Int.reduceLT, Int.reduceEq, Int.reduceNeg, Int.reduceAdd, Int.reduceSub, Int.reduceMul, HExt_cons]; done) | (simp only [go_sem, Nat.reduceBEq, Nat.reduceLT, Nat.reduceLeDiff, Nat.reduceAdd, Nat.reduceMul, Nat.reduceSub, Nat.reduceMod, Nat.reduceDiv, Nat.reduceEqDiff, Int.reduceToNat, reduceIte, reduceCtorEq, Int.reduceLE, Int.reduceLT, Int.reduceEq, Int.reduceNeg, Int.reduceAdd, Int.reduceSub, Int.reduceMul, HExt_cons]; exact HExt.rfl)))
    · have hq' : q = D.length := by omega
      subst hq'
      refine T_draw hti _ _ (by kernel_rfl) (by kernel_rfl) ?_
      simp only [go_sem, Nat.reduceBEq, Nat.reduceLT, Nat.reduceLeDiff, Nat.reduceAdd, Nat.reduceMul, Nat.reduceSub, Nat.reduceMod, Nat.reduceDiv, Nat.reduceEqDiff, Int.reduceToNat, reduceIte, reduceCtorEq, Int.reduceLE, Int.reduceLT, Int.reduceEq, Int.reduceNeg, Int.reduceAdd, Int.reduceSub, Int.reduceMul, hs, hi]
end
end Go.Proofs.Ytodgbpkdanefaaa.V

/- The law's lists of spots: copied, compared, marked. -/
namespace Go.Proofs.Ytodgbpkdanefaaa.V

/-- An argument that is a list of spots. -/
def SpsArg (h : List (Nat × Seg)) (n : Nat) (A : SV) (L : List (Int × Int)) : Prop :=
  (A = .nils ∧ L = []) ∨ ∃ i cap s, A = .sl i 0 L.length cap ∧ i < n ∧ hget h i = some s ∧ SpsAt s L
theorem SpsArg.ext {h h' : List (Nat × Seg)} {n n' : Nat} {A : SV} {L : List (Int × Int)} (hA : SpsArg h n A L) (hn : n ≤ n') (hx : HExt n h h') : SpsArg h' n' A L := by
  rcases hA with h1 | ⟨i, cap, s, h1, hi, hs, hL⟩
  · exact .inl h1
  · exact .inr ⟨i, cap, s, h1, by omega, hx i hi s hs, hL⟩
theorem SpsArg.ok {h : List (Nat × Seg)} {n : Nat} {A : SV} {L : List (Int × Int)} (hA : SpsArg h n A L) : A.ok = True := by
  rcases hA with ⟨rfl, rfl⟩ | ⟨i, cap, s, rfl, hi, hs, hL⟩ <;> rfl
theorem SpsArg.lt {h : List (Nat × Seg)} {n : Nat} {A : SV} {L : List (Int × Int)} (hA : SpsArg h n A L) : A.lt n := by
  rcases hA with ⟨rfl, rfl⟩ | ⟨i, cap, s, rfl, hi, hs, hL⟩
  · trivial
  · exact hi
theorem SpsArg.ren {h : List (Nat × Seg)} {n : Nat} {A : SV} {L : List (Int × Int)} (hA : SpsArg h n A L) {σ : Nat → Nat} (hσ : ∀ i, i < n → σ i = i) : V.ren σ A = A := by
  rcases hA with ⟨rfl, rfl⟩ | ⟨i, cap, s, rfl, hi, hs, hL⟩
  · rfl
  · simp only [ren_sl, hσ i hi]
/-- A list of spots, as it was made. -/
def spsS (L : List (Int × Int)) : Seg := ⟨L.length * 2, spotsC L, true, some (34, L.length * 2)⟩
@[go_sem] theorem spsS_eq (L : List (Int × Int)) : spsS L = ⟨L.length * 2, spotsC L, true, some (34, L.length * 2)⟩ := rfl
section
variable (cx : Cx) (h : List (Nat × Seg)) (n : Nat)
end
end Go.Proofs.Ytodgbpkdanefaaa.V

/- The law's lists of drops: measured, copied, compared. -/
namespace Go.Proofs.Ytodgbpkdanefaaa.V

/-- An argument that is a list of drops. -/
def DrArg (h : List (Nat × Seg)) (n : Nat) (A : SV) (L : List Dr) : Prop :=
  (A = .nils ∧ L = []) ∨ ∃ i cap s, A = .sl i 0 L.length cap ∧ i < n ∧ hget h i = some s ∧ DrAt s L
theorem DrArg.ext {h h' : List (Nat × Seg)} {n n' : Nat} {A : SV} {L : List Dr} (hA : DrArg h n A L) (hn : n ≤ n') (hx : HExt n h h') : DrArg h' n' A L := by
  rcases hA with h1 | ⟨i, cap, s, h1, hi, hs, hL⟩
  · exact .inl h1
  · exact .inr ⟨i, cap, s, h1, by omega, hx i hi s hs, hL⟩
theorem DrArg.ok {h : List (Nat × Seg)} {n : Nat} {A : SV} {L : List Dr} (hA : DrArg h n A L) : A.ok = True := by
  rcases hA with ⟨rfl, rfl⟩ | ⟨i, cap, s, rfl, hi, hs, hL⟩ <;> rfl
theorem DrArg.lt {h : List (Nat × Seg)} {n : Nat} {A : SV} {L : List Dr} (hA : DrArg h n A L) : A.lt n := by
  rcases hA with ⟨rfl, rfl⟩ | ⟨i, cap, s, rfl, hi, hs, hL⟩
  · trivial
  · exact hi
theorem DrArg.ren {h : List (Nat × Seg)} {n : Nat} {A : SV} {L : List Dr} (hA : DrArg h n A L) {σ : Nat → Nat} (hσ : ∀ i, i < n → σ i = i) : V.ren σ A = A := by
  rcases hA with ⟨rfl, rfl⟩ | ⟨i, cap, s, rfl, hi, hs, hL⟩
  · rfl
  · simp only [ren_sl, hσ i hi]
/-- A list of drops, as it was made. -/
def drS (L : List Dr) : Seg := ⟨L.length * 3, dropsC L, true, some (44, L.length * 3)⟩
@[go_sem] theorem drS_eq (L : List Dr) : drS L = ⟨L.length * 3, dropsC L, true, some (44, L.length * 3)⟩ := rfl
theorem zDrop (L : List Dr) (z : Nat) : zrow (ti 44) z = if z < 0 * 3 then dropsC L z else cl [.int .i8 0, .int .i8 0, .int .u8 0] (z % 3) := by
  rw [if_neg (by omega)]
  simp only [go_sem, Nat.reduceBEq, Nat.reduceLT, Nat.reduceLeDiff, Nat.reduceAdd, Nat.reduceMul, Nat.reduceSub, Nat.reduceMod, Nat.reduceDiv, Nat.reduceEqDiff, Int.reduceToNat, reduceIte, reduceCtorEq, Int.reduceLE, Int.reduceLT, Int.reduceEq, Int.reduceNeg, Int.reduceAdd, Int.reduceSub, Int.reduceMul, zrow_mk]
theorem drAt_drS (L : List Dr) : DrAt (drS L) L := ⟨Nat.le_refl _, fun _ _ => rfl⟩
section
variable (cx : Cx) (h : List (Nat × Seg)) (n : Nat)
theorem szDropS_Q (A : SV) (L : List Dr) (hA : DrArg h n A L) (left : Int) (hl : -9223372036854775808 ≤ left - L.length) (hl2 : left - L.length < 9223372036854775808) :
    CallQ Try.prog cx 25 [A, .int .i64 left] h n (.int .i64 (if left - L.length < 0 then -1 else left - L.length)) := by
  rcases hA with ⟨rfl, rfl⟩ | ⟨i, cap, s, rfl, hi, hs, hL⟩
  · refine callQ_of_T (P := Try.prog) hti (nt := 12) (rs := [.tmp 4]) rfl rfl Try.call25 Try.func25 rfl _ (by simp only [go_sem, and_self]) (Nat.le_of_ble_eq_true rfl) _ (by first | exact trivial | (refine lt_flat rfl ?_; simp [SV.flat]; done) | simp only [go_sem]) fun hok => ?_
    simp only [List.length_nil] at hl hl2
    by_cases hn : left < 0
    · simp only [go_sem, Nat.reduceBEq, Nat.reduceLT, Nat.reduceLeDiff, Nat.reduceAdd, Nat.reduceMul, Nat.reduceSub, Nat.reduceMod, Nat.reduceDiv, Nat.reduceEqDiff, Int.reduceToNat, reduceIte, reduceCtorEq, Int.reduceLE, Int.reduceLT, Int.reduceEq, Int.reduceNeg, Int.reduceAdd, Int.reduceSub, Int.reduceMul, w64 (n := left) (by omega), hn, Int.sub_zero, Int.natCast_zero]
    · simp only [go_sem, Nat.reduceBEq, Nat.reduceLT, Nat.reduceLeDiff, Nat.reduceAdd, Nat.reduceMul, Nat.reduceSub, Nat.reduceMod, Nat.reduceDiv, Nat.reduceEqDiff, Int.reduceToNat, reduceIte, reduceCtorEq, Int.reduceLE, Int.reduceLT, Int.reduceEq, Int.reduceNeg, Int.reduceAdd, Int.reduceSub, Int.reduceMul, w64 (n := left) (by omega), hn, Int.sub_zero, Int.natCast_zero]
  · refine callQ_of_T (P := Try.prog) hti (nt := 12) (rs := [.tmp 4]) rfl rfl Try.call25 Try.func25 rfl _ (by simp only [go_sem, and_self]) (Nat.le_of_ble_eq_true rfl) _ (by first | exact trivial | (refine lt_flat rfl ?_; simp [SV.flat]; done) | simp only [go_sem]) fun hok => ?_
    by_cases hn : left - L.length < 0
    · simp only [go_sem, Nat.reduceBEq, Nat.reduceLT, Nat.reduceLeDiff, Nat.reduceAdd, Nat.reduceMul, Nat.reduceSub, Nat.reduceMod, Nat.reduceDiv, Nat.reduceEqDiff, Int.reduceToNat, reduceIte, reduceCtorEq, Int.reduceLE, Int.reduceLT, Int.reduceEq, Int.reduceNeg, Int.reduceAdd, Int.reduceSub, Int.reduceMul, w64 (n := left - L.length) ⟨hl, hl2⟩, hn]
    · simp only [go_sem, Nat.reduceBEq, Nat.reduceLT, Nat.reduceLeDiff, Nat.reduceAdd, Nat.reduceMul, Nat.reduceSub, Nat.reduceMod, Nat.reduceDiv, Nat.reduceEqDiff, Int.reduceToNat, reduceIte, reduceCtorEq, Int.reduceLE, Int.reduceLT, Int.reduceEq, Int.reduceNeg, Int.reduceAdd, Int.reduceSub, Int.reduceMul, w64 (n := left - L.length) ⟨hl, hl2⟩, hn]
theorem toDropS_E (A : SV) (L : List Dr) (hA : DrArg h n A L) (hm9 : L.length ≤ 10000000) (K : HK) (hK : K (.sl n 0 L.length L.length) ((n, drS L) :: h) (n + 1)) :
    CallE Try.prog cx 27 [A] h n K := by
  have fl : ∀ q z, (if z < q * 3 then dropsC L z else cl [.int .i8 0, .int .i8 0, .int .u8 0] (z % 3)).flat := fun q z => by
    split
    · exact dropsC_flat _ _
    · exact cl_flat (l := [.int .i8 0, .int .i8 0, .int .u8 0]) (by simp [SV.flat]) (Nat.mod_lt z (by omega : 3 > 0))
  refine CallE.imp0 (K := fun r h1 n1 => r = .sl n 0 L.length L.length ∧ n + 1 ≤ n1 ∧ HExt n h h1 ∧ ∃ s, hget h1 n = some s ∧ s.n = L.length * 3 ∧ s.rw = true ∧ s.own = (drS L).own ∧ ∀ z, z < L.length * 3 → s.c z = dropsC L z) ?_ ?_
  rotate_left
  · rintro hok r h1 n1 ⟨rfl, hn, hx, s, hs, s1, s2, s3, s4⟩
    exact ⟨_, (n, drS L) :: h, n + 1, by omega, by simp only [ren_nil], by simp [SV.lt], impH.cons0 hs (by omega) (SegLe.flat (by simp [s1, drS]) (fun _ => s2) (.inr s3.symm) fun z hz => ⟨s4 z hz, dropsC_flat _ _⟩) (impH.base0 hok (by omega) hx), hK⟩
  rcases hA with ⟨rfl, rfl⟩ | ⟨i, cap, s, rfl, hi, hs, hL⟩
  · refine callE_of_T (P := Try.prog) hti (nt := 23) (rs := [.tmp 2]) rfl rfl Try.call27 Try.func27 rfl _ (by simp only [go_sem, and_self]) (Nat.le_of_ble_eq_true rfl) _ fun hok => ?_
    simp only [go_sem, Nat.reduceBEq, Nat.reduceLT, Nat.reduceLeDiff, Nat.reduceAdd, Nat.reduceMul, Nat.reduceSub, Nat.reduceMod, Nat.reduceDiv, Nat.reduceEqDiff, Int.reduceToNat, reduceIte, reduceCtorEq, Int.reduceLE, Int.reduceLT, Int.reduceEq, Int.reduceNeg, Int.reduceAdd, Int.reduceSub, Int.reduceMul]
    refine T_unroll 0 ?_
    simp only [go_sem, Nat.reduceBEq, Nat.reduceLT, Nat.reduceLeDiff, Nat.reduceAdd, Nat.reduceMul, Nat.reduceSub, Nat.reduceMod, Nat.reduceDiv, Nat.reduceEqDiff, Int.reduceToNat, reduceIte, reduceCtorEq, Int.reduceLE, Int.reduceLT, Int.reduceEq, Int.reduceNeg, Int.reduceAdd, Int.reduceSub, Int.reduceMul, HExt_cons, Option.some.injEq, exists_eq_left']
    intro z hz
    omega
  · have hn := hL.1
    refine callE_of_T (P := Try.prog) hti (nt := 23) (rs := [.tmp 2]) rfl rfl Try.call27 Try.func27 rfl _ (by simp only [go_sem, and_self]) (Nat.le_of_ble_eq_true rfl) _ fun hok => ?_
    simp only [go_sem, Nat.reduceBEq, Nat.reduceLT, Nat.reduceLeDiff, Nat.reduceAdd, Nat.reduceMul, Nat.reduceSub, Nat.reduceMod, Nat.reduceDiv, Nat.reduceEqDiff, Int.reduceToNat, reduceIte, reduceCtorEq, Int.reduceLE, Int.reduceLT, Int.reduceEq, Int.reduceNeg, Int.reduceAdd, Int.reduceSub, Int.reduceMul]
    refine ⟨by omega, ?_⟩
    refine T_lp (ι := { q : Nat // q ≤ L.length })
      (fun q => ([(0, .sl i 0 L.length cap), (3, .sl n 0 L.length L.length), (4, .int .i64 q.1)], (n, ⟨L.length * 3, fun z => if z < q.1 * 3 then dropsC L z else cl [.int .i8 0, .int .i8 0, .int .u8 0] (z % 3), true, some (44, L.length * 3)⟩) :: h, n + 1)) (fun q => L.length - q.1) ⟨0, by omega⟩ ?_ ?_
    · refine Imp.id (by simp) ?_ ?_
      · simp only [go_sem, Nat.reduceBEq, Nat.reduceLT, Nat.reduceLeDiff, Nat.reduceAdd, Nat.reduceMul, Nat.reduceSub, Nat.reduceMod, Nat.reduceDiv, Nat.reduceEqDiff, Int.reduceToNat, reduceIte, reduceCtorEq, Int.reduceLE, Int.reduceLT, Int.reduceEq, Int.reduceNeg, Int.reduceAdd, Int.reduceSub, Int.reduceMul]
        omega
      · refine impH.cons0 (hget_hit _ _ _) (by simp) (SegLe.flat (Nat.le_refl _) id (.inr rfl) fun z hz => ⟨?_, fl 0 z⟩) (impH.base0 hok (by simp) (HExt.rfl.cons (Nat.le_refl n)))
        exact zDrop L z
    · rintro ⟨q, hq⟩
      simp only [go_sem, Nat.reduceBEq, Nat.reduceLT, Nat.reduceLeDiff, Nat.reduceAdd, Nat.reduceMul, Nat.reduceSub, Nat.reduceMod, Nat.reduceDiv, Nat.reduceEqDiff, Int.reduceToNat, reduceIte, reduceCtorEq, Int.reduceLE, Int.reduceLT, Int.reduceEq, Int.reduceNeg, Int.reduceAdd, Int.reduceSub, Int.reduceMul, decide_eq_true_eq, decide_eq_false_iff_not]
      refine ⟨fun h1 => ?_, fun h1 => ?_⟩
      · have r1 : (0 : Int) ≤ q ∧ (q : Int) < L.length := ⟨by omega, by omega⟩
        have b1 : q * 3 ≤ s.n - 3 := by omega
        have b2 : q * 3 ≤ L.length * 3 - 3 := by omega
        have b3 : 3 ≤ s.n := by omega
        have b4 : 3 ≤ L.length * 3 := by omega
        have b5 : q * 3 + 3 ≤ L.length * 3 := by omega
        simp only [go_sem, Nat.reduceBEq, Nat.reduceLT, Nat.reduceLeDiff, Nat.reduceAdd, Nat.reduceMul, Nat.reduceSub, Nat.reduceMod, Nat.reduceDiv, Nat.reduceEqDiff, Int.reduceToNat, reduceIte, reduceCtorEq, Int.reduceLE, Int.reduceLT, Int.reduceEq, Int.reduceNeg, Int.reduceAdd, Int.reduceSub, Int.reduceMul, hs, hi, r1, b1, b3, hL.c0 (j := q) (by omega), hL.c1 (j := q) (by omega), hL.c2 (j := q) (by omega)]
        refine ⟨by omega, (toDrop_Q _ _ _ _ _ _).A ?_⟩
        simp only [go_sem, Nat.reduceBEq, Nat.reduceLT, Nat.reduceLeDiff, Nat.reduceAdd, Nat.reduceMul, Nat.reduceSub, Nat.reduceMod, Nat.reduceDiv, Nat.reduceEqDiff, Int.reduceToNat, reduceIte, reduceCtorEq, Int.reduceLE, Int.reduceLT, Int.reduceEq, Int.reduceNeg, Int.reduceAdd, Int.reduceSub, Int.reduceMul, r1, b5]
        refine ⟨⟨q + 1, by omega⟩, by show L.length - (q + 1) < L.length - q; omega, ?_⟩
        refine Imp.id (by simp) ?_ ?_
        · simp only [go_sem, Nat.reduceBEq, Nat.reduceLT, Nat.reduceLeDiff, Nat.reduceAdd, Nat.reduceMul, Nat.reduceSub, Nat.reduceMod, Nat.reduceDiv, Nat.reduceEqDiff, Int.reduceToNat, reduceIte, reduceCtorEq, Int.reduceLE, Int.reduceLT, Int.reduceEq, Int.reduceNeg, Int.reduceAdd, Int.reduceSub, Int.reduceMul, w64 (n := (q : Int) + 1) (by omega), Int.natCast_add, Int.natCast_one]
          exact ⟨by omega, by omega⟩
        · refine impH.cons0 (hget_hit _ _ _) (by simp) (SegLe.flat (Nat.le_refl _) id (.inr rfl) fun z hz => ⟨?_, fl (q + 1) z⟩) (impH.base0 hok (by simp) (HExt.rfl.cons (Nat.le_refl n)))
          exact part_agg (C := dropsC L) (Z := fun z => cl [.int .i8 0, .int .i8 0, .int .u8 0] (z % 3)) (sz := 3) (fun j hj => by
            rcases (by omega : j = 0 ∨ j = 1 ∨ j = 2) with rfl | rfl | rfl
            · exact (dropsC_0 L q).symm
            · exact (dropsC_1 L q).symm
            · exact (dropsC_2 L q).symm) (by omega) hz
      · have hq' : q = L.length := by omega
        subst hq'
        simp only [go_sem, Nat.reduceBEq, Nat.reduceLT, Nat.reduceLeDiff, Nat.reduceAdd, Nat.reduceMul, Nat.reduceSub, Nat.reduceMod, Nat.reduceDiv, Nat.reduceEqDiff, Int.reduceToNat, reduceIte, reduceCtorEq, Int.reduceLE, Int.reduceLT, Int.reduceEq, Int.reduceNeg, Int.reduceAdd, Int.reduceSub, Int.reduceMul, HExt_cons, Option.some.injEq, exists_eq_left']
        intro z hz
        rw [if_pos hz]
theorem eqDrop_Q (x y k : Int) : CallQ Try.prog cx 63 [dropV x y k, dropV x y k] h n (.bool true) := by
  refine callQ_of_T (P := Try.prog) hti (nt := 16) (rs := [.tmp 4]) rfl rfl Try.call63 Try.func63 rfl _ (by simp only [go_sem, and_self]) (Nat.le_of_ble_eq_true rfl) _ (by first | exact trivial | (refine lt_flat rfl ?_; simp [SV.flat]; done) | simp only [go_sem]) fun hok => ?_
  simp only [go_sem, Nat.reduceBEq, Nat.reduceLT, Nat.reduceLeDiff, Nat.reduceAdd, Nat.reduceMul, Nat.reduceSub, Nat.reduceMod, Nat.reduceDiv, Nat.reduceEqDiff, Int.reduceToNat, reduceIte, reduceCtorEq, Int.reduceLE, Int.reduceLT, Int.reduceEq, Int.reduceNeg, Int.reduceAdd, Int.reduceSub, Int.reduceMul]
  refine (eqSpot_Q _ _ _ _ _ _ _).A ?_
  simp only [go_sem, Nat.reduceBEq, Nat.reduceLT, Nat.reduceLeDiff, Nat.reduceAdd, Nat.reduceMul, Nat.reduceSub, Nat.reduceMod, Nat.reduceDiv, Nat.reduceEqDiff, Int.reduceToNat, reduceIte, reduceCtorEq, Int.reduceLE, Int.reduceLT, Int.reduceEq, Int.reduceNeg, Int.reduceAdd, Int.reduceSub, Int.reduceMul]
theorem eqDropS_Q (i cap i' cap' : Nat) (L : List Dr) (s s' : Seg) (hs : hget h i = some s) (hi : i < n) (hL : DrAt s L) (hs' : hget h i' = some s') (hi' : i' < n) (hL' : DrAt s' L) (hm9 : L.length ≤ 10000000) :
    CallQ Try.prog cx 29 [.sl i 0 L.length cap, .sl i' 0 L.length cap'] h n (.bool true) := by
  have hn := hL.1; have hn' := hL'.1
  refine callQ_of_T (P := Try.prog) hti (nt := 27) (rs := [.tmp 4]) rfl rfl Try.call29 Try.func29 rfl _ (by simp only [go_sem, and_self]) (Nat.le_of_ble_eq_true rfl) _ (by first | exact trivial | (refine lt_flat rfl ?_; simp [SV.flat]; done) | simp only [go_sem]) fun hok => ?_
  simp only [go_sem, Nat.reduceBEq, Nat.reduceLT, Nat.reduceLeDiff, Nat.reduceAdd, Nat.reduceMul, Nat.reduceSub, Nat.reduceMod, Nat.reduceDiv, Nat.reduceEqDiff, Int.reduceToNat, reduceIte, reduceCtorEq, Int.reduceLE, Int.reduceLT, Int.reduceEq, Int.reduceNeg, Int.reduceAdd, Int.reduceSub, Int.reduceMul]
  refine T_lp (ι := { q : Nat // q ≤ L.length }) (fun q => ([(0, .sl i 0 L.length cap), (1, .sl i' 0 L.length cap'), (5, .int .i64 q.1)], h, n)) (fun q => L.length - q.1) ⟨0, by omega⟩ ?_ ?_
  · refine Imp.id (by simp) ?_ (impH.base0 hok (by simp) HExt.rfl)
    simp only [go_sem, Nat.reduceBEq, Nat.reduceLT, Nat.reduceLeDiff, Nat.reduceAdd, Nat.reduceMul, Nat.reduceSub, Nat.reduceMod, Nat.reduceDiv, Nat.reduceEqDiff, Int.reduceToNat, reduceIte, reduceCtorEq, Int.reduceLE, Int.reduceLT, Int.reduceEq, Int.reduceNeg, Int.reduceAdd, Int.reduceSub, Int.reduceMul]
    exact ⟨hi, hi'⟩
  · rintro ⟨q, hq⟩
    simp only [go_sem, Nat.reduceBEq, Nat.reduceLT, Nat.reduceLeDiff, Nat.reduceAdd, Nat.reduceMul, Nat.reduceSub, Nat.reduceMod, Nat.reduceDiv, Nat.reduceEqDiff, Int.reduceToNat, reduceIte, reduceCtorEq, Int.reduceLE, Int.reduceLT, Int.reduceEq, Int.reduceNeg, Int.reduceAdd, Int.reduceSub, Int.reduceMul, decide_eq_true_eq, decide_eq_false_iff_not]
    refine ⟨fun h1 => ?_, fun h1 => ?_⟩
    · have r1 : (0 : Int) ≤ q ∧ (q : Int) < L.length := ⟨by omega, by omega⟩
      have b1 : q * 3 ≤ s.n - 3 := by omega
      have b2 : q * 3 ≤ s'.n - 3 := by omega
      have b3 : 3 ≤ s.n := by omega
      have b4 : 3 ≤ s'.n := by omega
      refine T_draw hti _ _ (by kernel_rfl) (by kernel_rfl) ?_
      simp only [go_sem, Nat.reduceBEq, Nat.reduceLT, Nat.reduceLeDiff, Nat.reduceAdd, Nat.reduceMul, Nat.reduceSub, Nat.reduceMod, Nat.reduceDiv, Nat.reduceEqDiff, Int.reduceToNat, reduceIte, reduceCtorEq, Int.reduceLE, Int.reduceLT, Int.reduceEq, Int.reduceNeg, Int.reduceAdd, Int.reduceSub, Int.reduceMul, hs, hs', r1, b1, b2, b3, b4, hL.c0 (j := q) (by omega), hL.c1 (j := q) (by omega), hL.c2 (j := q) (by omega), hL'.c0 (j := q) (by omega), hL'.c1 (j := q) (by omega), hL'.c2 (j := q) (by omega)]
      refine ⟨by omega, by omega, (eqDrop_Q _ _ _ _ _ _).A ?_⟩
      simp only [go_sem, Nat.reduceBEq, Nat.reduceLT, Nat.reduceLeDiff, Nat.reduceAdd, Nat.reduceMul, Nat.reduceSub, Nat.reduceMod, Nat.reduceDiv, Nat.reduceEqDiff, Int.reduceToNat, reduceIte, reduceCtorEq, Int.reduceLE, Int.reduceLT, Int.reduceEq, Int.reduceNeg, Int.reduceAdd, Int.reduceSub, Int.reduceMul]
      refine ⟨⟨q + 1, by omega⟩, by show L.length - (q + 1) < L.length - q; omega, ?_⟩
      refine Imp.id (by simp) ?_ (impH.base0 hok (by simp) HExt.rfl)
      simp only [go_sem, Nat.reduceBEq, Nat.reduceLT, Nat.reduceLeDiff, Nat.reduceAdd, Nat.reduceMul, Nat.reduceSub, Nat.reduceMod, Nat.reduceDiv, Nat.reduceEqDiff, Int.reduceToNat, reduceIte, reduceCtorEq, Int.reduceLE, Int.reduceLT, Int.reduceEq, Int.reduceNeg, Int.reduceAdd, Int.reduceSub, Int.reduceMul, w64 (n := (q : Int) + 1) (by omega), Int.natCast_add, Int.natCast_one]
      exact ⟨hi, hi'⟩
    · simp only [go_sem, Nat.reduceBEq, Nat.reduceLT, Nat.reduceLeDiff, Nat.reduceAdd, Nat.reduceMul, Nat.reduceSub, Nat.reduceMod, Nat.reduceDiv, Nat.reduceEqDiff, Int.reduceToNat, reduceIte, reduceCtorEq, Int.reduceLE, Int.reduceLT, Int.reduceEq, Int.reduceNeg, Int.reduceAdd, Int.reduceSub, Int.reduceMul]
end
end Go.Proofs.Ytodgbpkdanefaaa.V

/- The laws of DropOn, CheckDrops, DropAll: the walks. -/
namespace Go.Proofs.Ytodgbpkdanefaaa.V
section
variable (cx : Cx) (h : List (Nat × Seg)) (n : Nat)
end
end Go.Proofs.Ytodgbpkdanefaaa.V

/- The law's brushes; lists of spots that are alike. -/
namespace Go.Proofs.Ytodgbpkdanefaaa.V
section
variable (cx : Cx) (h : List (Nat × Seg)) (n : Nat)
end
end Go.Proofs.Ytodgbpkdanefaaa.V

/- Dips of a brush: what is told, and the small functions of both codes. -/
namespace Go.Proofs.Ytodgbpkdanefaaa.V

/-- Numbers in a row. -/
def intsC (L : List Int) : Nat → SV := fun k => .int .i64 (L.getD k 0)
/-- A list of numbers that a call has made. -/
def IntsOut (h : List (Nat × Seg)) (lo n : Nat) (V : SV) (L : List Int) : Prop :=
  (V = .nils ∧ L = []) ∨ ∃ i cap s, V = .sl i 0 L.length cap ∧ lo ≤ i ∧ i < n ∧ hget h i = some s ∧ s.rw = true ∧ s.n = L.length ∧ ∀ k, k < L.length → s.c k = intsC L k

section
variable {cx : Cx} {h : List (Nat × Seg)} {n : Nat}
variable (cx) (h) (n)
variable (i : Nat) (S : Sh) (B : Br) (x y least : Int) (hs : hget h i = some (shS S)) (hi : i < n) (hR : ShR S) (hG : Good S) (hB : BrV B) (hx : 0 ≤ x) (hx8 : x < 8) (hy : 0 ≤ y) (hy8 : y < 8)
end
end Go.Proofs.Ytodgbpkdanefaaa.V

/- The law's lists of numbers: compared, marked, looked at again. -/
namespace Go.Proofs.Ytodgbpkdanefaaa.V
theorem IntsOut.ok {h : List (Nat × Seg)} {lo n : Nat} {V : SV} {L : List Int} (hA : IntsOut h lo n V L) : V.ok = True := by
  rcases hA with ⟨rfl, rfl⟩ | ⟨i, cap, s, rfl, _⟩ <;> rfl
theorem IntsOut.lt {h : List (Nat × Seg)} {lo n : Nat} {V : SV} {L : List Int} (hA : IntsOut h lo n V L) : V.lt n := by
  rcases hA with ⟨rfl, rfl⟩ | ⟨i, cap, s, rfl, h1, h2, _⟩
  · trivial
  · exact h2
theorem IntsOut.mono {h h' : List (Nat × Seg)} {lo n n' : Nat} {V : SV} {L : List Int} (hA : IntsOut h lo n V L) (hn : n ≤ n') (hx : ∀ i, lo ≤ i → i < n → ∀ t, hget h i = some t → hget h' i = some t) : IntsOut h' lo n' V L := by
  rcases hA with h1 | ⟨i, cap, s, rfl, h1, h2, h3, h4⟩
  · exact .inl h1
  · exact .inr ⟨i, cap, s, rfl, h1, by omega, hx i h1 h2 s h3, h4⟩
theorem IntsOut.ext {h h' : List (Nat × Seg)} {lo n n' : Nat} {V : SV} {L : List Int} (hA : IntsOut h lo n V L) (hn : n ≤ n') (hx : HExt n h h') : IntsOut h' lo n' V L := hA.mono hn fun i _ hi => hx i hi
/-- Numbers that were marked. -/
def IntsHeld (h : List (Nat × Seg)) (lo n : Nat) (V : SV) (len : Nat) : Prop :=
  (V = .nils ∧ len = 0) ∨ ∃ i cap s, V = .sl i 0 len cap ∧ lo ≤ i ∧ i < n ∧ hget h i = some s ∧ s.n = len ∧ ∀ k, k < len → s.c k = .int .i64 (k + 1)
theorem IntsHeld.ext {h h' : List (Nat × Seg)} {lo n n' : Nat} {V : SV} {len : Nat} (hA : IntsHeld h lo n V len) (hn : n ≤ n') (hx : HExt n h h') : IntsHeld h' lo n' V len := by
  rcases hA with h1 | ⟨i, cap, s, rfl, h1, h2, h3, h4⟩
  · exact .inl h1
  · exact .inr ⟨i, cap, s, rfl, h1, by omega, hx i h2 s h3, h4⟩
/-- Memory that is as it was but for one segment. -/
def HSame (j : Nat) (h h' : List (Nat × Seg)) : Prop := ∀ i, i ≠ j → hget h' i = hget h i
theorem HSame.ext {j m n : Nat} {h0 h h' : List (Nat × Seg)} (hs : HSame j h h') (hx : HExt m h0 h) (hj : m ≤ j) : HExt m h0 h' := fun i hi t ht => by
  rw [hs i (by omega)]; exact hx i hi t ht
section
variable (cx : Cx) (h : List (Nat × Seg)) (n : Nat)
theorem eqInt64S_Q (V V' : SV) (L : List Int) (lo lo' : Nat) (hA : IntsOut h lo n V L) (hA' : IntsOut h lo' n V' L) (hm9 : L.length ≤ 1000000000) :
    CallQ Try.prog cx 38 [V, V'] h n (.bool true) := by
  rcases hA with ⟨rfl, rfl⟩ | ⟨i, cap, s, rfl, h0, hi, hs, _, hn, hc⟩ <;> rcases hA' with ⟨rfl, hL⟩ | ⟨i', cap', s', rfl, h0', hi', hs', _, hn', hc'⟩
  · refine callQ_of_T (P := Try.prog) hti (nt := 26) (rs := [.tmp 4]) rfl rfl Try.call38 Try.func38 rfl _ (by simp only [go_sem, and_self]) (Nat.le_of_ble_eq_true rfl) _ (by first | exact trivial | (refine lt_flat rfl ?_; simp [SV.flat]; done) | simp only [go_sem]) fun hok => ?_
    simp only [go_sem, Nat.reduceBEq, Nat.reduceLT, Nat.reduceLeDiff, Nat.reduceAdd, Nat.reduceMul, Nat.reduceSub, Nat.reduceMod, Nat.reduceDiv, Nat.reduceEqDiff, Int.reduceToNat, reduceIte, reduceCtorEq, Int.reduceLE, Int.reduceLT, Int.reduceEq, Int.reduceNeg, Int.reduceAdd, Int.reduceSub, Int.reduceMul]
    refine T_unroll 0 ?_
    simp only [go_sem, Nat.reduceBEq, Nat.reduceLT, Nat.reduceLeDiff, Nat.reduceAdd, Nat.reduceMul, Nat.reduceSub, Nat.reduceMod, Nat.reduceDiv, Nat.reduceEqDiff, Int.reduceToNat, reduceIte, reduceCtorEq, Int.reduceLE, Int.reduceLT, Int.reduceEq, Int.reduceNeg, Int.reduceAdd, Int.reduceSub, Int.reduceMul]
  · refine callQ_of_T (P := Try.prog) hti (nt := 26) (rs := [.tmp 4]) rfl rfl Try.call38 Try.func38 rfl _ (by simp only [go_sem, and_self]) (Nat.le_of_ble_eq_true rfl) _ (by first | exact trivial | (refine lt_flat rfl ?_; simp [SV.flat]; done) | simp only [go_sem]) fun hok => ?_
    simp only [go_sem, Nat.reduceBEq, Nat.reduceLT, Nat.reduceLeDiff, Nat.reduceAdd, Nat.reduceMul, Nat.reduceSub, Nat.reduceMod, Nat.reduceDiv, Nat.reduceEqDiff, Int.reduceToNat, reduceIte, reduceCtorEq, Int.reduceLE, Int.reduceLT, Int.reduceEq, Int.reduceNeg, Int.reduceAdd, Int.reduceSub, Int.reduceMul]
    refine T_unroll 0 ?_
    simp only [go_sem, Nat.reduceBEq, Nat.reduceLT, Nat.reduceLeDiff, Nat.reduceAdd, Nat.reduceMul, Nat.reduceSub, Nat.reduceMod, Nat.reduceDiv, Nat.reduceEqDiff, Int.reduceToNat, reduceIte, reduceCtorEq, Int.reduceLE, Int.reduceLT, Int.reduceEq, Int.reduceNeg, Int.reduceAdd, Int.reduceSub, Int.reduceMul]
  · subst hL
    refine callQ_of_T (P := Try.prog) hti (nt := 26) (rs := [.tmp 4]) rfl rfl Try.call38 Try.func38 rfl _ (by simp only [go_sem, and_self]) (Nat.le_of_ble_eq_true rfl) _ (by first | exact trivial | (refine lt_flat rfl ?_; simp [SV.flat]; done) | simp only [go_sem]) fun hok => ?_
    simp only [go_sem, Nat.reduceBEq, Nat.reduceLT, Nat.reduceLeDiff, Nat.reduceAdd, Nat.reduceMul, Nat.reduceSub, Nat.reduceMod, Nat.reduceDiv, Nat.reduceEqDiff, Int.reduceToNat, reduceIte, reduceCtorEq, Int.reduceLE, Int.reduceLT, Int.reduceEq, Int.reduceNeg, Int.reduceAdd, Int.reduceSub, Int.reduceMul]
    refine T_unroll 0 ?_
    simp only [go_sem, Nat.reduceBEq, Nat.reduceLT, Nat.reduceLeDiff, Nat.reduceAdd, Nat.reduceMul, Nat.reduceSub, Nat.reduceMod, Nat.reduceDiv, Nat.reduceEqDiff, Int.reduceToNat, reduceIte, reduceCtorEq, Int.reduceLE, Int.reduceLT, Int.reduceEq, Int.reduceNeg, Int.reduceAdd, Int.reduceSub, Int.reduceMul]
  · refine callQ_of_T (P := Try.prog) hti (nt := 26) (rs := [.tmp 4]) rfl rfl Try.call38 Try.func38 rfl _ (by simp only [go_sem, and_self]) (Nat.le_of_ble_eq_true rfl) _ (by first | exact trivial | (refine lt_flat rfl ?_; simp [SV.flat]; done) | simp only [go_sem]) fun hok => ?_
    simp only [go_sem, Nat.reduceBEq, Nat.reduceLT, Nat.reduceLeDiff, Nat.reduceAdd, Nat.reduceMul, Nat.reduceSub, Nat.reduceMod, Nat.reduceDiv, Nat.reduceEqDiff, Int.reduceToNat, reduceIte, reduceCtorEq, Int.reduceLE, Int.reduceLT, Int.reduceEq, Int.reduceNeg, Int.reduceAdd, Int.reduceSub, Int.reduceMul]
    refine T_lp (ι := { q : Nat // q ≤ L.length }) (fun q => ([(0, .sl i 0 L.length cap), (1, .sl i' 0 L.length cap'), (5, .int .i64 q.1)], h, n)) (fun q => L.length - q.1) ⟨0, by omega⟩ ?_ ?_
    · refine Imp.id (by simp) ?_ (impH.base0 hok (by simp) HExt.rfl)
      simp only [go_sem, Nat.reduceBEq, Nat.reduceLT, Nat.reduceLeDiff, Nat.reduceAdd, Nat.reduceMul, Nat.reduceSub, Nat.reduceMod, Nat.reduceDiv, Nat.reduceEqDiff, Int.reduceToNat, reduceIte, reduceCtorEq, Int.reduceLE, Int.reduceLT, Int.reduceEq, Int.reduceNeg, Int.reduceAdd, Int.reduceSub, Int.reduceMul]
      exact ⟨hi, hi'⟩
    · rintro ⟨q, hq⟩
      simp only [go_sem, Nat.reduceBEq, Nat.reduceLT, Nat.reduceLeDiff, Nat.reduceAdd, Nat.reduceMul, Nat.reduceSub, Nat.reduceMod, Nat.reduceDiv, Nat.reduceEqDiff, Int.reduceToNat, reduceIte, reduceCtorEq, Int.reduceLE, Int.reduceLT, Int.reduceEq, Int.reduceNeg, Int.reduceAdd, Int.reduceSub, Int.reduceMul, decide_eq_true_eq, decide_eq_false_iff_not]
      refine ⟨fun h1 => ?_, fun h1 => ?_⟩
      · have r1 : (0 : Int) ≤ q ∧ (q : Int) < L.length := ⟨by omega, by omega⟩
        have b1 : q < s.n := by omega
        have b2 : q < s'.n := by omega
        have b3 : q ≤ s.n - 1 := by omega
        have b4 : q ≤ s'.n - 1 := by omega
        have b5 : 1 ≤ s.n := by omega
        have b6 : 1 ≤ s'.n := by omega
        have e1 : s.c q = .int .i64 (L.getD q 0) := hc q (by omega)
        have e2 : s'.c q = .int .i64 (L.getD q 0) := hc' q (by omega)
        refine T_draw hti _ _ (by kernel_rfl) (by kernel_rfl) ?_
        simp only [go_sem, Nat.reduceBEq, Nat.reduceLT, Nat.reduceLeDiff, Nat.reduceAdd, Nat.reduceMul, Nat.reduceSub, Nat.reduceMod, Nat.reduceDiv, Nat.reduceEqDiff, Int.reduceToNat, reduceIte, reduceCtorEq, Int.reduceLE, Int.reduceLT, Int.reduceEq, Int.reduceNeg, Int.reduceAdd, Int.reduceSub, Int.reduceMul, hs, hs', r1, b1, b2, b3, b4, b5, b6, e1, e2]
        refine ⟨by omega, by omega, ⟨q + 1, by omega⟩, by show L.length - (q + 1) < L.length - q; omega, ?_⟩
        refine Imp.id (by simp) ?_ (impH.base0 hok (by simp) HExt.rfl)
        simp only [go_sem, Nat.reduceBEq, Nat.reduceLT, Nat.reduceLeDiff, Nat.reduceAdd, Nat.reduceMul, Nat.reduceSub, Nat.reduceMod, Nat.reduceDiv, Nat.reduceEqDiff, Int.reduceToNat, reduceIte, reduceCtorEq, Int.reduceLE, Int.reduceLT, Int.reduceEq, Int.reduceNeg, Int.reduceAdd, Int.reduceSub, Int.reduceMul, w64 (n := (q : Int) + 1) (by omega), Int.natCast_add, Int.natCast_one]
        exact ⟨hi, hi'⟩
      · simp only [go_sem, Nat.reduceBEq, Nat.reduceLT, Nat.reduceLeDiff, Nat.reduceAdd, Nat.reduceMul, Nat.reduceSub, Nat.reduceMod, Nat.reduceDiv, Nat.reduceEqDiff, Int.reduceToNat, reduceIte, reduceCtorEq, Int.reduceLE, Int.reduceLT, Int.reduceEq, Int.reduceNeg, Int.reduceAdd, Int.reduceSub, Int.reduceMul]
theorem held_Q (V : SV) (len : Nat) (lo : Nat) (hA : IntsHeld h lo n V len) (hm9 : len ≤ 1000000000) :
    CallQ Try.prog cx 40 [V, .int .i64 1] h n (.int .i64 (len + 1)) := by
  rcases hA with ⟨rfl, rfl⟩ | ⟨i, cap, s, rfl, h0, hi, hs, hn, hc⟩
  · refine callQ_of_T (P := Try.prog) hti (nt := 21) (rs := [.tmp 4]) rfl rfl Try.call40 Try.func40 rfl _ (by simp only [go_sem, and_self]) (Nat.le_of_ble_eq_true rfl) _ (by first | exact trivial | (refine lt_flat rfl ?_; simp [SV.flat]; done) | simp only [go_sem]) fun hok => ?_
    simp only [go_sem, Nat.reduceBEq, Nat.reduceLT, Nat.reduceLeDiff, Nat.reduceAdd, Nat.reduceMul, Nat.reduceSub, Nat.reduceMod, Nat.reduceDiv, Nat.reduceEqDiff, Int.reduceToNat, reduceIte, reduceCtorEq, Int.reduceLE, Int.reduceLT, Int.reduceEq, Int.reduceNeg, Int.reduceAdd, Int.reduceSub, Int.reduceMul]
    refine T_unroll 0 ?_
    simp only [go_sem, Nat.reduceBEq, Nat.reduceLT, Nat.reduceLeDiff, Nat.reduceAdd, Nat.reduceMul, Nat.reduceSub, Nat.reduceMod, Nat.reduceDiv, Nat.reduceEqDiff, Int.reduceToNat, reduceIte, reduceCtorEq, Int.reduceLE, Int.reduceLT, Int.reduceEq, Int.reduceNeg, Int.reduceAdd, Int.reduceSub, Int.reduceMul]
  · refine callQ_of_T (P := Try.prog) hti (nt := 21) (rs := [.tmp 4]) rfl rfl Try.call40 Try.func40 rfl _ (by simp only [go_sem, and_self]) (Nat.le_of_ble_eq_true rfl) _ (by first | exact trivial | (refine lt_flat rfl ?_; simp [SV.flat]; done) | simp only [go_sem]) fun hok => ?_
    simp only [go_sem, Nat.reduceBEq, Nat.reduceLT, Nat.reduceLeDiff, Nat.reduceAdd, Nat.reduceMul, Nat.reduceSub, Nat.reduceMod, Nat.reduceDiv, Nat.reduceEqDiff, Int.reduceToNat, reduceIte, reduceCtorEq, Int.reduceLE, Int.reduceLT, Int.reduceEq, Int.reduceNeg, Int.reduceAdd, Int.reduceSub, Int.reduceMul]
    refine T_lp (ι := { q : Nat // q ≤ len }) (fun q => ([(0, .sl i 0 len cap), (1, .int .i64 (q.1 + 1)), (5, .int .i64 q.1)], h, n)) (fun q => len - q.1) ⟨0, by omega⟩ ?_ ?_
    · refine Imp.id (by simp) ?_ (impH.base0 hok (by simp) HExt.rfl)
      simp only [go_sem, Nat.reduceBEq, Nat.reduceLT, Nat.reduceLeDiff, Nat.reduceAdd, Nat.reduceMul, Nat.reduceSub, Nat.reduceMod, Nat.reduceDiv, Nat.reduceEqDiff, Int.reduceToNat, reduceIte, reduceCtorEq, Int.reduceLE, Int.reduceLT, Int.reduceEq, Int.reduceNeg, Int.reduceAdd, Int.reduceSub, Int.reduceMul]
      exact hi
    · rintro ⟨q, hq⟩
      simp only [go_sem, Nat.reduceBEq, Nat.reduceLT, Nat.reduceLeDiff, Nat.reduceAdd, Nat.reduceMul, Nat.reduceSub, Nat.reduceMod, Nat.reduceDiv, Nat.reduceEqDiff, Int.reduceToNat, reduceIte, reduceCtorEq, Int.reduceLE, Int.reduceLT, Int.reduceEq, Int.reduceNeg, Int.reduceAdd, Int.reduceSub, Int.reduceMul, decide_eq_true_eq, decide_eq_false_iff_not]
      refine ⟨fun h1 => ?_, fun h1 => ?_⟩
      · have r1 : (0 : Int) ≤ q ∧ (q : Int) < len := ⟨by omega, by omega⟩
        have b1 : q < s.n := by omega
        have b3 : q ≤ s.n - 1 := by omega
        have b5 : 1 ≤ s.n := by omega
        have e1 : s.c q = .int .i64 ((q : Int) + 1) := hc q (by omega)
        simp only [go_sem, Nat.reduceBEq, Nat.reduceLT, Nat.reduceLeDiff, Nat.reduceAdd, Nat.reduceMul, Nat.reduceSub, Nat.reduceMod, Nat.reduceDiv, Nat.reduceEqDiff, Int.reduceToNat, reduceIte, reduceCtorEq, Int.reduceLE, Int.reduceLT, Int.reduceEq, Int.reduceNeg, Int.reduceAdd, Int.reduceSub, Int.reduceMul, hs, hi, r1, b1, b3, b5, e1]
        refine ⟨by omega, ⟨q + 1, by omega⟩, by show len - (q + 1) < len - q; omega, ?_⟩
        refine Imp.id (by simp) ?_ (impH.base0 hok (by simp) HExt.rfl)
        simp only [go_sem, Nat.reduceBEq, Nat.reduceLT, Nat.reduceLeDiff, Nat.reduceAdd, Nat.reduceMul, Nat.reduceSub, Nat.reduceMod, Nat.reduceDiv, Nat.reduceEqDiff, Int.reduceToNat, reduceIte, reduceCtorEq, Int.reduceLE, Int.reduceLT, Int.reduceEq, Int.reduceNeg, Int.reduceAdd, Int.reduceSub, Int.reduceMul, w64 (n := (q : Int) + 1) (by omega), w64 (n := (q : Int) + 1 + 1) (by omega), Int.natCast_add, Int.natCast_one]
        exact hi
      · have hq' : q = len := by omega
        subst hq'
        simp only [go_sem, Nat.reduceBEq, Nat.reduceLT, Nat.reduceLeDiff, Nat.reduceAdd, Nat.reduceMul, Nat.reduceSub, Nat.reduceMod, Nat.reduceDiv, Nat.reduceEqDiff, Int.reduceToNat, reduceIte, reduceCtorEq, Int.reduceLE, Int.reduceLT, Int.reduceEq, Int.reduceNeg, Int.reduceAdd, Int.reduceSub, Int.reduceMul]
theorem markInt64S_E (V : SV) (L : List Int) (lo : Nat) (hA : IntsOut h lo n V L) (hm9 : L.length ≤ 1000000000) (K : HK)
    (hK : ∀ h', HOk n h' → (∀ m h0, m ≤ lo → HExt m h0 h → HExt m h0 h') → IntsHeld h' lo n V L.length → K (.int .i64 (L.length + 1)) h' n) :
    CallE Try.prog cx 39 [V, .int .i64 1] h n K := by
  refine CallE.hokE ?_
  rcases hA with ⟨rfl, rfl⟩ | ⟨i, cap, s, rfl, h0, hi, hs, hrw, hn, hc⟩
  · refine callE_of_T (P := Try.prog) hti (nt := 19) (rs := [.tmp 4]) rfl rfl Try.call39 Try.func39 rfl _ (by simp only [go_sem, and_self]) (Nat.le_of_ble_eq_true rfl) _ fun hok => ?_
    simp only [go_sem, Nat.reduceBEq, Nat.reduceLT, Nat.reduceLeDiff, Nat.reduceAdd, Nat.reduceMul, Nat.reduceSub, Nat.reduceMod, Nat.reduceDiv, Nat.reduceEqDiff, Int.reduceToNat, reduceIte, reduceCtorEq, Int.reduceLE, Int.reduceLT, Int.reduceEq, Int.reduceNeg, Int.reduceAdd, Int.reduceSub, Int.reduceMul]
    refine T_unroll 0 ?_
    simp only [go_sem, Nat.reduceBEq, Nat.reduceLT, Nat.reduceLeDiff, Nat.reduceAdd, Nat.reduceMul, Nat.reduceSub, Nat.reduceMod, Nat.reduceDiv, Nat.reduceEqDiff, Int.reduceToNat, reduceIte, reduceCtorEq, Int.reduceLE, Int.reduceLT, Int.reduceEq, Int.reduceNeg, Int.reduceAdd, Int.reduceSub, Int.reduceMul]
    exact fun hok' => hK h hok' (fun m h0 _ hx => hx) (.inl ⟨rfl, rfl⟩)
  · refine callE_of_T (P := Try.prog) hti (nt := 19) (rs := [.tmp 4]) rfl rfl Try.call39 Try.func39 rfl _ (by simp only [go_sem, and_self]) (Nat.le_of_ble_eq_true rfl) _ fun hok => ?_
    simp only [go_sem, Nat.reduceBEq, Nat.reduceLT, Nat.reduceLeDiff, Nat.reduceAdd, Nat.reduceMul, Nat.reduceSub, Nat.reduceMod, Nat.reduceDiv, Nat.reduceEqDiff, Int.reduceToNat, reduceIte, reduceCtorEq, Int.reduceLE, Int.reduceLT, Int.reduceEq, Int.reduceNeg, Int.reduceAdd, Int.reduceSub, Int.reduceMul]
    refine T_lp (ι := { w : Nat × (Nat → SV) // w.1 ≤ L.length ∧ (∀ k, k < s.n → (w.2 k).flat) ∧ ∀ k, k < w.1 → w.2 k = .int .i64 (k + 1) })
      (fun w => ([(0, .sl i 0 L.length cap), (1, .int .i64 (w.1.1 + 1)), (5, .int .i64 w.1.1)], hset h i ⟨s.n, w.1.2, true, s.own⟩, n)) (fun w => L.length - w.1.1) ⟨(0, s.c), by simp, fun k hk => by show (s.c k).flat; rw [hc k (by omega)]; trivial, fun k hk => absurd hk (Nat.not_lt_zero k)⟩ ?_ ?_
    · refine Imp.id (by simp) ?_ ?_
      · simp only [go_sem, Nat.reduceBEq, Nat.reduceLT, Nat.reduceLeDiff, Nat.reduceAdd, Nat.reduceMul, Nat.reduceSub, Nat.reduceMod, Nat.reduceDiv, Nat.reduceEqDiff, Int.reduceToNat, reduceIte, reduceCtorEq, Int.reduceLE, Int.reduceLT, Int.reduceEq, Int.reduceNeg, Int.reduceAdd, Int.reduceSub, Int.reduceMul]
        exact hi
      · have e : hset h i ⟨s.n, s.c, true, s.own⟩ = hset h i s := by rw [← hrw]
        rw [e]
        exact impH.set0 hok (Nat.le_refl _) hs (fun j hj hji t ht => ht) hs (SegLe.flat (Nat.le_refl _) id (.inr rfl) fun k hk => ⟨rfl, by rw [hc k (by omega)]; trivial⟩)
    · rintro ⟨⟨q, c⟩, hq, hfl, hmk⟩
      simp only at hq hfl hmk
      simp only [go_sem, Nat.reduceBEq, Nat.reduceLT, Nat.reduceLeDiff, Nat.reduceAdd, Nat.reduceMul, Nat.reduceSub, Nat.reduceMod, Nat.reduceDiv, Nat.reduceEqDiff, Int.reduceToNat, reduceIte, reduceCtorEq, Int.reduceLE, Int.reduceLT, Int.reduceEq, Int.reduceNeg, Int.reduceAdd, Int.reduceSub, Int.reduceMul, decide_eq_true_eq, decide_eq_false_iff_not]
      refine ⟨fun h1 => ?_, fun h1 => ?_⟩
      · have r1 : (0 : Int) ≤ q ∧ (q : Int) < L.length := ⟨by omega, by omega⟩
        have b1 : q < s.n := by omega
        have b3 : q ≤ s.n - 1 := by omega
        have b4 : q + 1 ≤ s.n := by omega
        have b5 : 1 ≤ s.n := by omega
        have hg : hget (hset h i ⟨s.n, c, true, s.own⟩) i = some ⟨s.n, c, true, s.own⟩ := hget_hset_self hs _
        simp only [go_sem, Nat.reduceBEq, Nat.reduceLT, Nat.reduceLeDiff, Nat.reduceAdd, Nat.reduceMul, Nat.reduceSub, Nat.reduceMod, Nat.reduceDiv, Nat.reduceEqDiff, Int.reduceToNat, reduceIte, reduceCtorEq, Int.reduceLE, Int.reduceLT, Int.reduceEq, Int.reduceNeg, Int.reduceAdd, Int.reduceSub, Int.reduceMul, hg, hi, r1, b1, b3, b4, b5]
        have hfl' := wr_flat (N := s.n) (o := q) (v := .int .i64 ((q : Int) + 1)) trivial hfl
        refine ⟨⟨(q + 1, if q = 0 ∧ 1 = s.n then cl [.int .i64 ((q : Int) + 1)] else upd c q (.int .i64 ((q : Int) + 1))), by show q + 1 ≤ L.length; omega, hfl', fun k hk => ?_⟩, by show L.length - (q + 1) < L.length - q; omega, ?_⟩
        · simp only at hk
          simp only
          rw [wr_at (by omega)]
          unfold upd
          split
          · rename_i e; rw [e]
          · exact hmk k (by omega)
        · refine Imp.id (by simp) ?_ (impH.base0 (hok_set hok hfl') (by simp) HExt.rfl)
          simp only [go_sem, Nat.reduceBEq, Nat.reduceLT, Nat.reduceLeDiff, Nat.reduceAdd, Nat.reduceMul, Nat.reduceSub, Nat.reduceMod, Nat.reduceDiv, Nat.reduceEqDiff, Int.reduceToNat, reduceIte, reduceCtorEq, Int.reduceLE, Int.reduceLT, Int.reduceEq, Int.reduceNeg, Int.reduceAdd, Int.reduceSub, Int.reduceMul, w64 (n := (q : Int) + 1) (by omega), w64 (n := (q : Int) + 1 + 1) (by omega), Int.natCast_add, Int.natCast_one]
          exact hi
      · have hq' : q = L.length := by omega
        subst hq'
        refine fun hok' => hK _ hok' (fun m h0 hm hx j hj t ht => ?_) (.inr ⟨i, cap, _, rfl, h0, hi, hget_hset_self hs _, hn, hmk⟩)
        rw [hget_hset, if_neg (by omega)]; exact hx j hj t ht
end
end Go.Proofs.Ytodgbpkdanefaaa.V

/- Drops that can be the last: open cells; both walks. -/
namespace Go.Proofs.Ytodgbpkdanefaaa.V
abbrev Gr := Int → Int → Bool
def gridC (O : Gr) : Nat → SV := fun j => .bool (O ((j / 8 : Nat) : Int) ((j % 8 : Nat) : Int))
theorem gridC_at (O : Gr) {y x : Int} (h1 : 0 ≤ y) (h2 : y < 8) (h3 : 0 ≤ x) (h4 : x < 8) : gridC O (y.toNat * 8 + x.toNat) = .bool (O y x) := by
  unfold gridC
  rw [show (y.toNat * 8 + x.toNat) / 8 = y.toNat by omega, show (y.toNat * 8 + x.toNat) % 8 = x.toNat by omega, nat_of _ h1, nat_of _ h3]
def GrAt (s : Seg) (O : Gr) : Prop := s.n = 64 ∧ ∀ j, j < 64 → s.c j = gridC O j
theorem GrAt.at {s : Seg} {O : Gr} (h : GrAt s O) {y x : Int} (h1 : 0 ≤ y) (h2 : y < 8) (h3 : 0 ≤ x) (h4 : x < 8) : s.c (y.toNat * 8 + x.toNat) = .bool (O y x) :=
  (h.2 _ (by omega)).trans (gridC_at O h1 h2 h3 h4)
def PelAt (s : Seg) (v : SV) (O : Gr) : Prop := 65 ≤ s.n ∧ s.c 0 = v ∧ ∀ j, j < 64 → s.c (1 + j) = gridC O j
theorem PelAt.at {s : Seg} {v : SV} {O : Gr} (h : PelAt s v O) {y x : Int} (h1 : 0 ≤ y) (h2 : y < 8) (h3 : 0 ≤ x) (h4 : x < 8) : s.c (1 + y.toNat * 8 + x.toNat) = .bool (O y x) := by
  rw [Nat.add_assoc]; exact (h.2.2 _ (by omega)).trans (gridC_at O h1 h2 h3 h4)
section
variable (cx : Cx) (h : List (Nat × Seg)) (n : Nat)
end
end Go.Proofs.Ytodgbpkdanefaaa.V

/- Drops that can be the last: the program's walk; CanBeLast of both codes. -/
namespace Go.Proofs.Ytodgbpkdanefaaa.V
section
variable (cx : Cx) (h : List (Nat × Seg)) (n : Nat)
end
end Go.Proofs.Ytodgbpkdanefaaa.V

/- CanBeLast of both codes; its law: the walk. -/
namespace Go.Proofs.Ytodgbpkdanefaaa.V
def off : Gr := fun _ _ => false
@[go_sem] theorem mkAgg_65 (F : Nat → SV) : mkAgg 65 F = .agg 65 F := rfl
section
variable (cx : Cx) (h : List (Nat × Seg)) (n : Nat)
end
end Go.Proofs.Ytodgbpkdanefaaa.V

/- Lists of drops: filtered in place; the cells of a picture. -/
namespace Go.Proofs.Ytodgbpkdanefaaa.V
section
variable (cx : Cx) (h : List (Nat × Seg)) (n : Nat)
end
end Go.Proofs.Ytodgbpkdanefaaa.V

/- The drops of a picture; those that can be the last: both walks. -/
namespace Go.Proofs.Ytodgbpkdanefaaa.V
section
variable (cx : Cx) (h : List (Nat × Seg)) (n : Nat)
end
end Go.Proofs.Ytodgbpkdanefaaa.V

/- The drops that can be the last, listed: both walks. -/
namespace Go.Proofs.Ytodgbpkdanefaaa.V
section
variable (cx : Cx) (h : List (Nat × Seg)) (n : Nat)
end
end Go.Proofs.Ytodgbpkdanefaaa.V

/- LastDrops of both codes. -/
namespace Go.Proofs.Ytodgbpkdanefaaa.V
/-- A list of drops that a call has made. -/
def DrOut (h : List (Nat × Seg)) (lo n : Nat) (V : SV) (L : List Dr) : Prop :=
  (V = .nils ∧ L = []) ∨ ∃ i cap s, V = .sl i 0 L.length cap ∧ lo ≤ i ∧ i < n ∧ hget h i = some s ∧ s.rw = true ∧ s.n = L.length * 3 ∧ ∀ k, k < L.length * 3 → s.c k = dropsC L k
theorem DrOut.ok {h : List (Nat × Seg)} {lo n : Nat} {V : SV} {L : List Dr} (hA : DrOut h lo n V L) : V.ok = True := by
  rcases hA with ⟨rfl, rfl⟩ | ⟨i, cap, s, rfl, _⟩ <;> rfl
theorem DrOut.mono {h h' : List (Nat × Seg)} {lo n n' : Nat} {V : SV} {L : List Dr} (hA : DrOut h lo n V L) (hn : n ≤ n') (hx : ∀ i, lo ≤ i → i < n → ∀ t, hget h i = some t → hget h' i = some t) : DrOut h' lo n' V L := by
  rcases hA with h1 | ⟨i, cap, s, rfl, h1, h2, h3, h4⟩
  · exact .inl h1
  · exact .inr ⟨i, cap, s, rfl, h1, by omega, hx i h1 h2 s h3, h4⟩
theorem DrOut.ext {h h' : List (Nat × Seg)} {lo n n' : Nat} {V : SV} {L : List Dr} (hA : DrOut h lo n V L) (hn : n ≤ n') (hx : HExt n h h') : DrOut h' lo n' V L := hA.mono hn fun i _ hi => hx i hi
section
variable (cx : Cx) (h : List (Nat × Seg)) (n : Nat)
end
end Go.Proofs.Ytodgbpkdanefaaa.V

/- The law's lists of drops: compared, marked, looked at again. The law of LastDrops: the walk. -/
namespace Go.Proofs.Ytodgbpkdanefaaa.V
/-- Drops that were marked. -/
def DrHeld (h : List (Nat × Seg)) (lo n : Nat) (V : SV) (len : Nat) : Prop :=
  (V = .nils ∧ len = 0) ∨ ∃ i cap s, V = .sl i 0 len cap ∧ lo ≤ i ∧ i < n ∧ hget h i = some s ∧ s.n = len * 3 ∧ ∀ k : Nat, k < len → s.c (k * 3) = .int .i8 (IntKind.i8.wrap (3 * (k : Int) + 1)) ∧ s.c (k * 3 + 1) = .int .i8 (IntKind.i8.wrap (3 * (k : Int) + 1 + 1)) ∧ s.c (k * 3 + 2) = .int .u8 (IntKind.u8.wrap (3 * (k : Int) + 1 + 1 + 1))
theorem DrHeld.ext {h h' : List (Nat × Seg)} {lo n n' : Nat} {V : SV} {len : Nat} (hA : DrHeld h lo n V len) (hn : n ≤ n') (hx : HExt n h h') : DrHeld h' lo n' V len := by
  rcases hA with h1 | ⟨i, cap, s, rfl, h1, h2, h3, h4⟩
  · exact .inl h1
  · exact .inr ⟨i, cap, s, rfl, h1, by omega, hx i h2 s h3, h4⟩
/-- Three cells written one after the other. -/
def put3 (N q : Nat) (c : Nat → SV) (v1 v2 v3 : SV) : Nat → SV := upd (upd (if q * 3 = 0 ∧ 1 = N then cl [v1] else upd c (q * 3) v1) (q * 3 + 1) v2) (q * 3 + 2) v3
theorem put3_at {N q : Nat} (c : Nat → SV) (v1 v2 v3 : SV) (h : 3 ≤ N) : put3 N q c v1 v2 v3 (q * 3) = v1 ∧ put3 N q c v1 v2 v3 (q * 3 + 1) = v2 ∧ put3 N q c v1 v2 v3 (q * 3 + 2) = v3 ∧
    ∀ z, z ≠ q * 3 → z ≠ q * 3 + 1 → z ≠ q * 3 + 2 → put3 N q c v1 v2 v3 z = c z := by
  unfold put3
  have e0 : ¬ (q * 3 = 0 ∧ 1 = N) := by omega
  rw [if_neg e0]
  refine ⟨?_, ?_, ?_, fun z h1 h2 h3 => ?_⟩
  · rw [upd_far (by omega), upd_far (by omega)]; simp [upd]
  · rw [upd_far (by omega)]; simp [upd]
  · simp [upd]
  · rw [upd_far h3, upd_far h2, upd_far h1]
section
variable (cx : Cx) (h : List (Nat × Seg)) (n : Nat)
theorem markDr_E (V : SV) (L : List Dr) (lo : Nat) (hA : DrOut h lo n V L) (hm9 : L.length ≤ 10000000) (K : HK)
    (hK : ∀ h', HOk n h' → (∀ m h0, m ≤ lo → HExt m h0 h → HExt m h0 h') → (∀ j t, hget h j = some t → (∀ i o a b, V = .sl i o a b → j ≠ i) → hget h' j = some t) → DrHeld h' lo n V L.length → K (.int .i64 (3 * L.length + 1)) h' n) :
    CallE Try.prog cx 34 [V, .int .i64 1] h n K := by
  refine CallE.hokE ?_
  rcases hA with ⟨rfl, rfl⟩ | ⟨i, cap, s, rfl, h0, hi, hs, hrw, hn, hc⟩
  · refine callE_of_T (P := Try.prog) hti (nt := 39) (rs := [.tmp 4]) rfl rfl Try.call34 Try.func34 rfl _ (by simp only [go_sem, and_self]) (Nat.le_of_ble_eq_true rfl) _ fun hok => ?_
    simp only [go_sem, Nat.reduceBEq, Nat.reduceLT, Nat.reduceLeDiff, Nat.reduceAdd, Nat.reduceMul, Nat.reduceSub, Nat.reduceMod, Nat.reduceDiv, Nat.reduceEqDiff, Int.reduceToNat, reduceIte, reduceCtorEq, Int.reduceLE, Int.reduceLT, Int.reduceEq, Int.reduceNeg, Int.reduceAdd, Int.reduceSub, Int.reduceMul]
    refine T_unroll 0 ?_
    simp only [go_sem, Nat.reduceBEq, Nat.reduceLT, Nat.reduceLeDiff, Nat.reduceAdd, Nat.reduceMul, Nat.reduceSub, Nat.reduceMod, Nat.reduceDiv, Nat.reduceEqDiff, Int.reduceToNat, reduceIte, reduceCtorEq, Int.reduceLE, Int.reduceLT, Int.reduceEq, Int.reduceNeg, Int.reduceAdd, Int.reduceSub, Int.reduceMul]
    exact fun hok' => hK h hok' (fun m h0 _ hx => hx) (fun j t ht _ => ht) (.inl ⟨rfl, rfl⟩)
  · have hfl0 : ∀ k, k < s.n → (s.c k).flat := fun k hk => by rw [hc k (by omega)]; exact dropsC_flat _ _
    refine callE_of_T (P := Try.prog) hti (nt := 39) (rs := [.tmp 4]) rfl rfl Try.call34 Try.func34 rfl _ (by simp only [go_sem, and_self]) (Nat.le_of_ble_eq_true rfl) _ fun hok => ?_
    simp only [go_sem, Nat.reduceBEq, Nat.reduceLT, Nat.reduceLeDiff, Nat.reduceAdd, Nat.reduceMul, Nat.reduceSub, Nat.reduceMod, Nat.reduceDiv, Nat.reduceEqDiff, Int.reduceToNat, reduceIte, reduceCtorEq, Int.reduceLE, Int.reduceLT, Int.reduceEq, Int.reduceNeg, Int.reduceAdd, Int.reduceSub, Int.reduceMul]
    refine T_lp (ι := { w : Nat × (Nat → SV) // w.1 ≤ L.length ∧ (∀ k, k < s.n → (w.2 k).flat) ∧ ∀ k : Nat, k < w.1 → w.2 (k * 3) = .int .i8 (IntKind.i8.wrap (3 * (k : Int) + 1)) ∧ w.2 (k * 3 + 1) = .int .i8 (IntKind.i8.wrap (3 * (k : Int) + 1 + 1)) ∧ w.2 (k * 3 + 2) = .int .u8 (IntKind.u8.wrap (3 * (k : Int) + 1 + 1 + 1)) })
      (fun w => ([(0, .sl i 0 L.length cap), (1, .int .i64 (3 * w.1.1 + 1)), (5, .int .i64 w.1.1)], hset h i ⟨s.n, w.1.2, true, s.own⟩, n)) (fun w => L.length - w.1.1) ⟨(0, s.c), by simp, hfl0, fun k hk => absurd hk (Nat.not_lt_zero k)⟩ ?_ ?_
    · refine Imp.id (by simp) ?_ ?_
      · simp only [go_sem, Nat.reduceBEq, Nat.reduceLT, Nat.reduceLeDiff, Nat.reduceAdd, Nat.reduceMul, Nat.reduceSub, Nat.reduceMod, Nat.reduceDiv, Nat.reduceEqDiff, Int.reduceToNat, reduceIte, reduceCtorEq, Int.reduceLE, Int.reduceLT, Int.reduceEq, Int.reduceNeg, Int.reduceAdd, Int.reduceSub, Int.reduceMul]
        exact hi
      · have e : hset h i ⟨s.n, s.c, true, s.own⟩ = hset h i s := by rw [← hrw]
        rw [e]
        exact impH.set0 hok (Nat.le_refl _) hs (fun j hj hji t ht => ht) hs (SegLe.flat (Nat.le_refl _) id (.inr rfl) fun k hk => ⟨rfl, hfl0 k hk⟩)
    · rintro ⟨⟨q, c⟩, hq, hfl, hmk⟩
      simp only at hq hfl hmk
      simp only [go_sem, Nat.reduceBEq, Nat.reduceLT, Nat.reduceLeDiff, Nat.reduceAdd, Nat.reduceMul, Nat.reduceSub, Nat.reduceMod, Nat.reduceDiv, Nat.reduceEqDiff, Int.reduceToNat, reduceIte, reduceCtorEq, Int.reduceLE, Int.reduceLT, Int.reduceEq, Int.reduceNeg, Int.reduceAdd, Int.reduceSub, Int.reduceMul, decide_eq_true_eq, decide_eq_false_iff_not]
      refine ⟨fun h1 => ?_, fun h1 => ?_⟩
      · have r1 : (0 : Int) ≤ q ∧ (q : Int) < L.length := ⟨by omega, by omega⟩
        have b1 : q * 3 ≤ s.n - 3 := by omega
        have b2 : q * 3 ≤ s.n - 1 := by omega
        have b3 : q * 3 + 1 ≤ s.n - 1 := by omega
        have b4 : q * 3 + 3 ≤ s.n := by omega
        have b5 : 3 ≤ s.n := by omega
        have b6 : 1 ≤ s.n := by omega
        have b7 : q * 3 + 2 ≤ s.n := by omega
        have b8 : q * 3 + 2 ≤ s.n - 1 := by omega
        have b9 : q * 3 + 1 ≤ s.n := by omega
        have hg : ∀ c, hget (hset h i ⟨s.n, c, true, s.own⟩) i = some ⟨s.n, c, true, s.own⟩ := fun c => hget_hset_self hs _
        simp only [go_sem, Nat.reduceBEq, Nat.reduceLT, Nat.reduceLeDiff, Nat.reduceAdd, Nat.reduceMul, Nat.reduceSub, Nat.reduceMod, Nat.reduceDiv, Nat.reduceEqDiff, Int.reduceToNat, reduceIte, reduceCtorEq, Int.reduceLE, Int.reduceLT, Int.reduceEq, Int.reduceNeg, Int.reduceAdd, Int.reduceSub, Int.reduceMul, hg, hi, r1, b1, b2, b3, b4, b5, b6, b7, b8, b9, w64 (n := 3 * (q : Int) + 1 + 1) (by omega), w64 (n := 3 * (q : Int) + 1 + 1 + 1) (by omega)]
        have hf1 := wr_flat (N := s.n) (o := q * 3) (v := .int .i8 (IntKind.i8.wrap (3 * (q : Int) + 1))) trivial hfl
        have hf3 : ∀ k, k < s.n → (put3 s.n q c (.int .i8 (IntKind.i8.wrap (3 * (q : Int) + 1))) (.int .i8 (IntKind.i8.wrap (3 * (q : Int) + 1 + 1))) (.int .u8 (IntKind.u8.wrap (3 * (q : Int) + 1 + 1 + 1))) k).flat := fun k hk => by
          unfold put3 upd; split
          · trivial
          · split
            · trivial
            · exact hf1 k hk
        refine ⟨⟨(q + 1, put3 s.n q c (.int .i8 (IntKind.i8.wrap (3 * (q : Int) + 1))) (.int .i8 (IntKind.i8.wrap (3 * (q : Int) + 1 + 1))) (.int .u8 (IntKind.u8.wrap (3 * (q : Int) + 1 + 1 + 1)))), by show q + 1 ≤ L.length; omega, hf3, fun k hk => ?_⟩, by show L.length - (q + 1) < L.length - q; omega, ?_⟩
        · obtain ⟨u1, u2, u3, u4⟩ := put3_at (N := s.n) (q := q) c (.int .i8 (IntKind.i8.wrap (3 * (q : Int) + 1))) (.int .i8 (IntKind.i8.wrap (3 * (q : Int) + 1 + 1))) (.int .u8 (IntKind.u8.wrap (3 * (q : Int) + 1 + 1 + 1))) b5
          by_cases hkq : k = q
          · subst hkq; exact ⟨u1, u2, u3⟩
          · have hk' : k < q := by have : k < q + 1 := hk; omega
            exact ⟨(u4 _ (by omega) (by omega) (by omega)).trans (hmk k hk').1, (u4 _ (by omega) (by omega) (by omega)).trans (hmk k hk').2.1, (u4 _ (by omega) (by omega) (by omega)).trans (hmk k hk').2.2⟩
        refine Imp.id (by simp) ?_ (impH.base0 (hok_set hok hf3) (by simp) HExt.rfl)
        simp only [go_sem, Nat.reduceBEq, Nat.reduceLT, Nat.reduceLeDiff, Nat.reduceAdd, Nat.reduceMul, Nat.reduceSub, Nat.reduceMod, Nat.reduceDiv, Nat.reduceEqDiff, Int.reduceToNat, reduceIte, reduceCtorEq, Int.reduceLE, Int.reduceLT, Int.reduceEq, Int.reduceNeg, Int.reduceAdd, Int.reduceSub, Int.reduceMul, w64 (n := (q : Int) + 1) (by omega), w64 (n := 3 * (q : Int) + 1 + 1 + 1 + 1) (by omega), Int.natCast_add, Int.natCast_one]
        exact ⟨hi, by rw [show (3 * (q : Int) + 1 + 1 + 1 + 1) = 3 * ((q : Int) + 1) + 1 by omega]⟩
      · have hq' : q = L.length := by omega
        subst hq'
        refine fun hok' => hK _ hok' (fun m h0 hm hx j hj t ht => ?_) (fun j t ht hne => ?_) (.inr ⟨i, cap, _, rfl, h0, hi, hget_hset_self hs _, hn, hmk⟩)
        · rw [hget_hset, if_neg (by omega)]; exact hx j hj t ht
        · rw [hget_hset, if_neg (Ne.symm (hne _ _ _ _ rfl))]; exact ht
end
end Go.Proofs.Ytodgbpkdanefaaa.V
