/- Part 3 of the texts that this proof stands on: a symbolic walk over the program, what its functions and the reference's do, plain laws. -/
import Derived.Test.YtddnnodkkdjniaaZpua
import Derived.Test.YtddnnodkkdjniaaV17
import Derived.Sort.Walk13a
import Derived.Test.YtddnnodkkdjniaaZpub
set_option linter.all false

/- The law's spots, and lists of spots that are alike. -/
namespace Go.Proofs.Ytddnnodkkdjniaa.V
theorem wr_at {N o k : Nat} {v : SV} {c : Nat → SV} (hk : k < N) : (if o = 0 ∧ 1 = N then cl [v] else upd c o v) k = upd c o v k := by
  split
  · rename_i e
    obtain ⟨rfl, rfl⟩ := e
    obtain rfl : k = 0 := by omega
    rfl
  · rfl
theorem wr_flat {N o : Nat} {v : SV} {c : Nat → SV} (hv : v.flat) (hc : ∀ k, k < N → (c k).flat) : ∀ k, k < N → ((if o = 0 ∧ 1 = N then cl [v] else upd c o v) k).flat := fun k hk => by
  rw [wr_at hk]; unfold upd; split
  · exact hv
  · exact hc k hk
section
variable (cx : Cx) (h : List (Nat × Seg)) (n : Nat)
theorem eqSpot_Q (x y x' y' : Int) : CallQ Try.prog cx 44 [spot x y, spot x' y'] h n (.bool (decide (x = x' ∧ y = y'))) := by
  refine callQ_of_T (P := Try.prog) hti (nt := 15) (rs := [.tmp 4]) rfl rfl Try.call44 Try.func44 rfl _ (by simp only [go_sem, and_self]) (Nat.le_of_ble_eq_true rfl) _ (by first | exact trivial | (refine lt_flat rfl ?_; simp [SV.flat]; done) | simp only [go_sem]) fun hok => ?_
  simp only [go_sem, Nat.reduceLT, Nat.reduceLeDiff, reduceCtorEq]
  by_cases hx : x = x'
  · by_cases hy : y = y'
    · simp only [go_sem, hx, hy]
    · simp only [go_sem, reduceCtorEq, hx, hy]
  · simp only [go_sem, reduceCtorEq, hx]
theorem eqSpotS_Q (i cap i' cap' : Nat) (L : List (Int × Int)) (s s' : Seg) (hs : hget h i = some s) (hi : i < n) (hL : SpsAt s L) (hs' : hget h i' = some s') (hi' : i' < n) (hL' : SpsAt s' L) (hm9 : L.length ≤ 1000000000) :
    CallQ Try.prog cx 24 [.sl i 0 L.length cap, .sl i' 0 L.length cap'] h n (.bool true) := by
  have hn := hL.1; have hn' := hL'.1
  refine callQ_of_T (P := Try.prog) hti (nt := 27) (rs := [.tmp 4]) rfl rfl Try.call24 Try.func24 rfl _ (by simp only [go_sem, and_self]) (Nat.le_of_ble_eq_true rfl) _ (by first | exact trivial | (refine lt_flat rfl ?_; simp [SV.flat]; done) | simp only [go_sem]) fun hok => ?_
  simp only [go_sem, Nat.reduceLT]
  refine T_lp (ι := { q : Nat // q ≤ L.length }) (fun q => ([(0, .sl i 0 L.length cap), (1, .sl i' 0 L.length cap'), (5, .int .i64 q.1)], h, n)) (fun q => L.length - q.1) ⟨0, by omega⟩ ?_ ?_
  · refine Imp.id (by simp) ?_ (impH.base0 hok (by simp) HExt.rfl)
    simp only [go_sem, Nat.reduceLT]
    exact ⟨hi, hi'⟩
  · rintro ⟨q, hq⟩
    simp only [go_sem, Nat.reduceLT, decide_eq_true_eq, decide_eq_false_iff_not]
    refine ⟨fun h1 => ?_, fun h1 => ?_⟩
    · have r1 : (0 : Int) ≤ q ∧ (q : Int) < L.length := ⟨by omega, by omega⟩
      have b1 : q * 2 ≤ s.n - 2 := by omega
      have b2 : q * 2 ≤ s'.n - 2 := by omega
      have b3 : 2 ≤ s.n := by omega
      have b4 : 2 ≤ s'.n := by omega
      refine T_draw hti _ _ (by kernel_rfl) (by kernel_rfl) ?_
      simp only [go_sem, Nat.reduceLT, hs, hs', r1, b1, b2, b3, b4, hL.x (j := q) (by omega), hL.y (j := q) (by omega), hL'.x (j := q) (by omega), hL'.y (j := q) (by omega)]
      refine ⟨by omega, by omega, (eqSpot_Q _ _ _ _ _ _ _).A ?_⟩
      simp only [go_sem, Nat.reduceLT]
      refine ⟨⟨q + 1, by omega⟩, by show L.length - (q + 1) < L.length - q; omega, ?_⟩
      refine Imp.id (by simp) ?_ (impH.base0 hok (by simp) HExt.rfl)
      simp only [go_sem, Nat.reduceLT, w64 (n := (q : Int) + 1) (by omega), Int.natCast_add, Int.natCast_one]
      exact ⟨hi, hi'⟩
    · simp only [go_sem]
end
end Go.Proofs.Ytddnnodkkdjniaa.V

/- The law's lists of spots that were made: compared, marked, looked at again. -/
namespace Go.Proofs.Ytddnnodkkdjniaa.V
/-- A list of spots that a call has made. -/
def SpsOut (h : List (Nat × Seg)) (lo n : Nat) (V : SV) (L : List (Int × Int)) : Prop :=
  (V = .nils ∧ L = []) ∨ ∃ i cap s, V = .sl i 0 L.length cap ∧ lo ≤ i ∧ i < n ∧ hget h i = some s ∧ s.rw = true ∧ s.n = L.length * 2 ∧ ∀ k, k < L.length * 2 → s.c k = spotsC L k
theorem SpsOut.ok {h : List (Nat × Seg)} {lo n : Nat} {V : SV} {L : List (Int × Int)} (hA : SpsOut h lo n V L) : V.ok = True := by
  rcases hA with ⟨rfl, rfl⟩ | ⟨i, cap, s, rfl, _⟩ <;> rfl
theorem SpsOut.mono {h h' : List (Nat × Seg)} {lo n n' : Nat} {V : SV} {L : List (Int × Int)} (hA : SpsOut h lo n V L) (hn : n ≤ n') (hx : ∀ i, lo ≤ i → i < n → ∀ t, hget h i = some t → hget h' i = some t) : SpsOut h' lo n' V L := by
  rcases hA with h1 | ⟨i, cap, s, rfl, h1, h2, h3, h4⟩
  · exact .inl h1
  · exact .inr ⟨i, cap, s, rfl, h1, by omega, hx i h1 h2 s h3, h4⟩
theorem SpsOut.ext {h h' : List (Nat × Seg)} {lo n n' : Nat} {V : SV} {L : List (Int × Int)} (hA : SpsOut h lo n V L) (hn : n ≤ n') (hx : HExt n h h') : SpsOut h' lo n' V L := hA.mono hn fun i _ hi => hx i hi
/-- Spots that were marked. -/
def SpsHeld (h : List (Nat × Seg)) (lo n : Nat) (V : SV) (len : Nat) : Prop :=
  (V = .nils ∧ len = 0) ∨ ∃ i cap s, V = .sl i 0 len cap ∧ lo ≤ i ∧ i < n ∧ hget h i = some s ∧ s.n = len * 2 ∧ ∀ k : Nat, k < len → s.c (k * 2) = .int .i8 (IntKind.i8.wrap (2 * (k : Int) + 1)) ∧ s.c (k * 2 + 1) = .int .i8 (IntKind.i8.wrap (2 * (k : Int) + 1 + 1))
theorem SpsHeld.ext {h h' : List (Nat × Seg)} {lo n n' : Nat} {V : SV} {len : Nat} (hA : SpsHeld h lo n V len) (hn : n ≤ n') (hx : HExt n h h') : SpsHeld h' lo n' V len := by
  rcases hA with h1 | ⟨i, cap, s, rfl, h1, h2, h3, h4⟩
  · exact .inl h1
  · exact .inr ⟨i, cap, s, rfl, h1, by omega, hx i h2 s h3, h4⟩
theorem upd2_at {N q : Nat} (c : Nat → SV) (v1 v2 : SV) (h : 2 ≤ N) : (upd (if q * 2 = 0 ∧ 1 = N then cl [v1] else upd c (q * 2) v1) (q * 2 + 1) v2) (q * 2) = v1 ∧ (upd (if q * 2 = 0 ∧ 1 = N then cl [v1] else upd c (q * 2) v1) (q * 2 + 1) v2) (q * 2 + 1) = v2 ∧
    ∀ z, z ≠ q * 2 → z ≠ q * 2 + 1 → (upd (if q * 2 = 0 ∧ 1 = N then cl [v1] else upd c (q * 2) v1) (q * 2 + 1) v2) z = c z := by
  have e0 : ¬ (q * 2 = 0 ∧ 1 = N) := by omega
  rw [if_neg e0]
  refine ⟨?_, ?_, fun z h1 h2 => ?_⟩
  · rw [upd_far (by omega)]; simp [upd]
  · simp [upd]
  · rw [upd_far h2, upd_far h1]
section
variable (cx : Cx) (h : List (Nat × Seg)) (n : Nat)
theorem eqSpots_Q (V V' : SV) (L : List (Int × Int)) (lo lo' : Nat) (hA : SpsOut h lo n V L) (hA' : SpsOut h lo' n V' L) (hm9 : L.length ≤ 1000000000) :
    CallQ Try.prog cx 24 [V, V'] h n (.bool true) := by
  rcases hA with ⟨rfl, rfl⟩ | ⟨i, cap, s, rfl, h0, hi, hs, _, hn, hc⟩ <;> rcases hA' with ⟨rfl, hL⟩ | ⟨i', cap', s', rfl, h0', hi', hs', _, hn', hc'⟩
  · refine callQ_of_T (P := Try.prog) hti (nt := 27) (rs := [.tmp 4]) rfl rfl Try.call24 Try.func24 rfl _ (by simp only [go_sem, and_self]) (Nat.le_of_ble_eq_true rfl) _ (by first | exact trivial | (refine lt_flat rfl ?_; simp [SV.flat]; done) | simp only [go_sem]) fun hok => ?_
    simp only [go_sem, Nat.reduceLT]
    refine T_unroll 0 ?_
    simp only [go_sem, Nat.reduceLT, Int.reduceLT]
  · refine callQ_of_T (P := Try.prog) hti (nt := 27) (rs := [.tmp 4]) rfl rfl Try.call24 Try.func24 rfl _ (by simp only [go_sem, and_self]) (Nat.le_of_ble_eq_true rfl) _ (by first | exact trivial | (refine lt_flat rfl ?_; simp [SV.flat]; done) | simp only [go_sem]) fun hok => ?_
    simp only [go_sem, Nat.reduceLT]
    refine T_unroll 0 ?_
    simp only [go_sem, Nat.reduceLT, Int.reduceLT]
  · subst hL
    refine callQ_of_T (P := Try.prog) hti (nt := 27) (rs := [.tmp 4]) rfl rfl Try.call24 Try.func24 rfl _ (by simp only [go_sem, and_self]) (Nat.le_of_ble_eq_true rfl) _ (by first | exact trivial | (refine lt_flat rfl ?_; simp [SV.flat]; done) | simp only [go_sem]) fun hok => ?_
    simp only [go_sem, Nat.reduceLT]
    refine T_unroll 0 ?_
    simp only [go_sem, Nat.reduceLT, Int.reduceLT]
  · exact eqSpotS_Q cx h n i cap i' cap' L s s' hs hi ⟨by omega, hc⟩ hs' hi' ⟨by omega, hc'⟩ hm9
end
end Go.Proofs.Ytddnnodkkdjniaa.V

/- Comparing spots; the library's small functions. -/
namespace Go.Proofs.Ytddnnodkkdjniaa.V
def cmp8 (a b : Int) : Int := if a < b then -1 else if b < a then 1 else 0
def cmpSp (a b : Int × Int) : Int := if cmp8 a.2 b.2 ≠ 0 then cmp8 a.2 b.2 else cmp8 a.1 b.1
theorem cmpSp_lt (a b : Int × Int) : decide (cmpSp a b < 0) = ltSp a b := by
  unfold cmpSp cmp8 ltSp
  by_cases h1 : a.2 < b.2
  · simp [h1]
  · by_cases h2 : b.2 < a.2
    · have : ¬ a.2 = b.2 := by omega
      simp [h1, h2, this]
    · have : a.2 = b.2 := by omega
      by_cases h3 : a.1 < b.1
      · simp [h1, h2, h3, this]
      · by_cases h4 : b.1 < a.1 <;> simp [h1, h2, h3, h4, this]
section
variable (cx : Cx) (h : List (Nat × Seg)) (n : Nat)
theorem isNaN8_Q (a : Int) : CallQ Try.prog cx 76 [.int .i8 a] h n (.bool false) := by
  refine callQ_of_T (P := Try.prog) hti (nt := 6) (rs := [.tmp 2]) rfl rfl Try.call76 Try.func76 rfl _ (by simp only [go_sem, and_self]) (Nat.le_of_ble_eq_true rfl) _ (by first | exact trivial | (refine lt_flat rfl ?_; simp [SV.flat]; done) | simp only [go_sem]) fun hok => ?_
  simp only [go_sem, Nat.reduceLT]
theorem compare8_Q (a b : Int) : CallQ Try.prog cx 65 [.int .i8 a, .int .i8 b] h n (.int .i64 (cmp8 a b)) := by
  refine callQ_of_T (P := Try.prog) hti (nt := 20) (rs := [.tmp 4]) rfl rfl Try.call65 Try.func65 rfl _ (by simp only [go_sem, and_self]) (Nat.le_of_ble_eq_true rfl) _ (by first | exact trivial | (refine lt_flat rfl ?_; simp [SV.flat]; done) | simp only [go_sem]) fun hok => ?_
  simp only [go_sem, Nat.reduceLT, Int.reduceNeg]
  refine (isNaN8_Q _ _ _ a).A ?_
  simp only [go_sem, Nat.reduceLT, Int.reduceNeg]
  refine (isNaN8_Q _ _ _ b).A ?_
  simp only [go_sem, Nat.reduceLT, Int.reduceNeg]
  unfold cmp8
  by_cases h1 : a < b
  · simp only [go_sem, reduceIte, reduceCtorEq, Int.reduceNeg, h1]
  · by_cases h2 : b < a
    · simp only [go_sem, reduceIte, reduceCtorEq, Int.reduceNeg, h1, h2]
    · simp only [go_sem, reduceIte, Int.reduceNeg, h1, h2]
theorem orI_Q (i cap : Nat) (s : Seg) (a b : Int) (hs : hget h i = some s) (hi : i < n) (hn : s.n = 2) (h0 : s.c 0 = .int .i64 a) (h1 : s.c 1 = .int .i64 b) : CallQ Try.prog cx 64 [.sl i 0 2 cap] h n (.int .i64 (if a ≠ 0 then a else b)) := by
  refine callQ_of_T (P := Try.prog) hti (nt := 18) (rs := [.tmp 2]) rfl rfl Try.call64 Try.func64 rfl _ (by simp only [go_sem, and_self]) (Nat.le_of_ble_eq_true rfl) _ (by first | exact trivial | (refine lt_flat rfl ?_; simp [SV.flat]; done) | simp only [go_sem]) fun hok => ?_
  simp only [go_sem, Nat.reduceLT]
  refine T_unroll 2 ?_
  simp only [go_sem, Nat.reduceLT, Nat.reduceLeDiff, Int.reduceToNat, Int.reduceLE, Int.reduceLT, Int.reduceNeg, Int.reduceAdd, hs, hi, hn, h0]
  by_cases ha : a = 0
  · simp only [go_sem, ha]
    refine U_step ?_
    simp only [go_sem, Nat.reduceLT, Int.reduceToNat, Int.reduceLE, Int.reduceLT, Int.reduceNeg, Int.reduceAdd, hs, hi, hn, h1]
    by_cases hb : b = 0
    · simp only [go_sem, hb]
      refine U_step ?_
      simp only [go_sem, Nat.reduceLT, Int.reduceLT, not_true, if_false]
    · simp only [go_sem, reduceCtorEq, hb, not_true, if_false]
  · simp only [go_sem, reduceCtorEq, ha, not_false_eq_true, if_true]
theorem inOrder_Q (a b : Int × Int) : CallQ Try.prog cx 59 [spot a.1 a.2, spot b.1 b.2] h n (.int .i64 (cmpSp a b)) := by
  refine callQ_of_T (P := Try.prog) hti (nt := 17) (rs := [.tmp 4]) rfl rfl Try.call59 Try.func59 rfl _ (by simp only [go_sem, and_self]) (Nat.le_of_ble_eq_true rfl) _ (by first | exact trivial | (refine lt_flat rfl ?_; simp [SV.flat]; done) | simp only [go_sem]) fun hok => ?_
  simp only [go_sem, Nat.reduceLT]
  refine T_drawG hti 13 [] (.b 0 0 (.b 0 1 (.b 0 2 (.b 0 3 (.b 0 5 (.b 0 6 (.b 0 7 (.b 0 8 (.b 1 4 (.b 1 9 (.b 2 10 (.b 1 11 (.b 0 12 (.f) .o) .o) .o) .o) .o) .o) .o) .o) .o) .o) .o) .o) .o) _ _ (by kernel_rfl) (by kernel_rfl) ?_
  simp only [go_sem, Nat.reduceLT, Nat.reduceLeDiff, reduceCtorEq]
  refine CallQ.F _ (fun h' n' hn hx => compare8_Q _ h' n' a.2 b.2) ?_
  simp only [go_sem, Nat.reduceLT]
  refine CallQ.F _ (fun h' n' hn hx => compare8_Q _ h' n' a.1 b.1) ?_
  simp only [go_sem, Nat.reduceLT, Nat.reduceLeDiff]
  refine CallQ.F _ (fun h' n' hn hx => orI_Q _ h' n' (n + 2) 2 _ _ _ (hx (n + 2) (by omega) _ (by simp only [go_sem]; rfl)) (by omega) rfl rfl rfl) ?_
  simp only [go_sem, Nat.reduceLT]
  rfl
theorem u8_in (x : Int) : 0 ≤ IntKind.u8.wrap x ∧ IntKind.u8.wrap x < 256 := by
  simp [IntKind.wrap, IntKind.bits, IntKind.signed]; omega
end
end Go.Proofs.Ytddnnodkkdjniaa.V

/- The library's insertion sort over spots. -/
namespace Go.Proofs.Ytddnnodkkdjniaa.V
open Go.Sort (swp insInner insOuter insertionSort)

theorem bang_getD (d : Array (Int × Int)) (j : Nat) : d[j]! = d.toList.getD j (0, 0) := by
  rw [List.getD_eq_getElem?_getD, Array.getElem?_toList, getElem!_def]
  cases d[j]? <;> rfl
theorem swp_toList (d : Array (Int × Int)) (i j : Nat) : (swp d i j).toList = (d.toList.set i (d.toList.getD j (0, 0))).set j (d.toList.getD i (0, 0)) := by
  unfold swp
  rw [Array.toList_setIfInBounds, Array.toList_setIfInBounds, bang_getD, bang_getD]
theorem swp_size (d : Array (Int × Int)) (i j : Nat) : (swp d i j).size = d.size := by unfold swp; simp
/-- A spot stored. -/
theorem spots_store (L : List (Int × Int)) (k : Nat) (x : Int × Int) (hk : k < L.length) : (fun j => if k * 2 ≤ j ∧ j < k * 2 + 2 then cl [.int .i8 x.1, .int .i8 x.2] (j - k * 2) else spotsC L j) = spotsC (L.set k x) := by
  funext j
  by_cases h : k * 2 ≤ j ∧ j < k * 2 + 2
  · rw [if_pos h]
    have hg : (L.set k x).getD k (0, 0) = x := by simp [List.getD_eq_getElem?_getD, hk]
    rcases (by omega : j = k * 2 ∨ j = k * 2 + 1) with rfl | rfl
    · rw [spotsC_x, hg, Nat.sub_self]; rfl
    · rw [spotsC_y, hg, show k * 2 + 1 - k * 2 = 1 by omega]; rfl
  · rw [if_neg h]
    have hg : (L.set k x).getD (j / 2) (0, 0) = L.getD (j / 2) (0, 0) := by
      simp only [List.getD_eq_getElem?_getD, List.getElem?_set]; rw [if_neg (by omega)]
    unfold spotsC
    rw [hg]
/-- A function that compares spots. -/
def Cmps (cx : Cx) (h : List (Nat × Seg)) (n i f p q : Nat) (G F : Nat → SV) (cI : Int × Int → Int × Int → Int) : Prop :=
  ∀ (a b : Int × Int) nt n0 h' n', n ≤ n' → HBut i n h h' → CallQ Try.prog ⟨cx.w0, cx.W, nt, n0⟩ f (lst p G ++ [spot a.1 a.2, spot b.1 b.2] ++ lst q F) h' n' (.int .i64 (cI a b))
section
variable (cx : Cx) (h : List (Nat × Seg)) (n : Nat)
set_option maxRecDepth 100000 in
theorem insSort_E (i cap : Nat) (d : Array (Int × Int)) (own : Option (Nat × Nat)) (a b : Nat) (f p q : Nat) (G F : Nat → SV) (cI : Int × Int → Int × Int → Int) (lt : Int × Int → Int × Int → Bool) (hlt : ∀ x y, decide (cI x y < 0) = lt x y)
    (hs : hget h i = some ⟨d.size * 2, spotsC d.toList, true, own⟩) (hi : i < n) (hb : b ≤ d.size) (hab : a ≤ b) (hm9 : d.size ≤ 1000000000) (hF : (SV.fn f p G q F).lt n) (hcmp : Cmps cx h n i f p q G F cI) (K : HK)
    (hK : K (.tup 0 (cl [])) (hset h i ⟨d.size * 2, spotsC (insertionSort lt d a b).toList, true, own⟩) n) :
    CallE Try.prog cx 66 [.sl i 0 d.size cap, .int .i64 a, .int .i64 b, .fn f p G q F] h n K := by
  refine CallE.to _ _ (by simp only [go_sem]) (fun hok => hok_set hok fun k hk => spotsC_flat _ _) hK ?_
  have hgi : ∀ t, hget (hset h i t) i = some t := hget_hset_self hs
  have hFl : (SV.fn f p G q F).lt n = True := eq_true hF
  refine callE_of_T (P := Try.prog) hti (nt := 53) (rs := []) rfl rfl Try.call66 Try.func66 rfl _ (by simp only [go_sem, and_self]) (Nat.le_of_ble_eq_true rfl) _ fun hok => ?_
  have ha9 : a ≤ 1000000000 := by omega
  simp only [go_sem, Nat.reduceLT, w64 (n := (a : Int) + 1) (by omega)]
  refine T_lp (ι := { p : Nat × Array (Int × Int) // p.1 ≤ b + 1 ∧ a + 1 ≤ p.1 ∧ p.2.size = d.size ∧ insOuter lt a b p.1 p.2 = insertionSort lt d a b })
    (fun w => ([(0, .sl i 0 d.size cap), (1, .int .i64 a), (2, .int .i64 b), (3, .fn f p G q F), (8, .int .i64 w.1.1)], hset h i ⟨d.size * 2, spotsC w.1.2.toList, true, own⟩, n)) (fun w => b + 1 - w.1.1) ⟨(a + 1, d), by omega, Nat.le_refl _, rfl, rfl⟩ ?_ ?_
  · refine Imp.id (by simp) ?_ ?_
    · simp only [go_sem, Nat.reduceLT, hFl, Int.natCast_add, Int.natCast_one]
      exact hi
    · rw [hset_self hs]; exact impH.base0 hok (by simp) HExt.rfl
  · rintro ⟨⟨k, D⟩, hk, hak, hD, hO⟩
    simp only at hk hak hD hO
    simp only [go_sem, Nat.reduceLT, decide_eq_true_eq, decide_eq_false_iff_not]
    refine ⟨fun h1 => ?_, fun h1 => ?_⟩
    · have hkb : k < b := by omega
      refine T_lp (ι := { p : Nat × Array (Int × Int) // p.1 ≤ k ∧ a ≤ p.1 ∧ p.2.size = d.size ∧ insInner lt a p.1 p.2 = insInner lt a k D })
        (fun w => ([(0, .sl i 0 d.size cap), (1, .int .i64 a), (2, .int .i64 b), (3, .fn f p G q F), (8, .int .i64 k), (9, .int .i64 w.1.1)], hset h i ⟨d.size * 2, spotsC w.1.2.toList, true, own⟩, n)) (fun w => w.1.1) ⟨(k, D), Nat.le_refl _, by omega, hD, rfl⟩ ?_ ?_
      · refine Imp.id (by simp) ?_ ?_
        · simp only [go_sem, Nat.reduceLT, hFl]
          exact hi
        · exact impH.base0 (hok_set hok fun k hk => spotsC_flat _ _) (by simp) HExt.rfl
      · rintro ⟨⟨j, E⟩, hj, haj, hE, hI⟩
        simp only at hj haj hE hI
        have hEl : E.toList.length = d.size := by rw [Array.length_toList]; exact hE
        simp only [go_sem]
        by_cases hja : a < j
        rotate_left
        · have e1 : ((a : Int) < j) = False := eq_false (by omega)
          refine T_draw hti _ _ (by kernel_rfl) (by kernel_rfl) ?_
          simp only [go_sem, Nat.reduceLT, e1]
          have e2 : insInner lt a j E = E := by
            cases j with
            | zero => rfl
            | succ j => unfold insInner; rw [if_neg (by simp; omega)]
          rw [e2] at hI
          refine ⟨⟨(k + 1, E), by show k + 1 ≤ b + 1; omega, by show a + 1 ≤ k + 1; omega, hE, ?_⟩, by show b + 1 - (k + 1) < b + 1 - k; omega, ?_⟩
          · rw [← hO]
            show insOuter lt a b (k + 1) E = _
            rw [insOuter.eq_1 lt a b k D, if_pos hkb, hI]
          · refine Imp.id (by simp) ?_ ?_
            · simp only [go_sem, Nat.reduceLT, hFl, w64 (n := (k : Int) + 1) (by omega), Int.natCast_add, Int.natCast_one]
              exact hi
            · exact impH.base0 (hok_set hok fun k hk => spotsC_flat _ _) (by simp) HExt.rfl
        obtain ⟨j, rfl⟩ : ∃ j', j = j' + 1 := ⟨j - 1, by omega⟩
        have e1 : ((a : Int) < ((j + 1 : Nat) : Int)) = True := eq_true (by omega)
        have r1 : (0 : Int) ≤ (j : Int) + 1 ∧ (j : Int) + 1 < d.size := ⟨by omega, by omega⟩
        have r2 : (0 : Int) ≤ (j : Int) ∧ (j : Int) < d.size := ⟨by omega, by omega⟩
        have e2 : ((j : Int) + 1).toNat = j + 1 := by omega
        have b1 : (j + 1) * 2 ≤ d.size * 2 - 2 := by omega
        have b2 : (j + 1) * 2 + 2 ≤ d.size * 2 := by omega
        have b3 : j * 2 ≤ d.size * 2 - 2 := by omega
        have b4 : j * 2 + 2 ≤ d.size * 2 := by omega
        have b5 : 2 ≤ d.size * 2 := by omega
        have b6 : (2 = d.size * 2) = False := eq_false (by omega)
        have e1' : ((a : Int) < (j : Int) + 1) = True := eq_true (by omega)
        refine T_draw hti _ _ (by kernel_rfl) (by kernel_rfl) ?_
        simp only [go_sem, Nat.reduceLT, hgi, hi, e1, e1', r1, r2, e2, b1, b2, b3, b4, b5, spotsC_x, spotsC_y, Int.natCast_add, Int.natCast_one, Int.add_sub_cancel, w64 (n := (j : Int)) (by omega)]
        refine (hcmp (E.toList.getD (j + 1) (0, 0)) (E.toList.getD j (0, 0)) _ _ _ _ (Nat.le_refl n) (HBut.set i n h _)).A ?_
        have hl := hlt (E.toList.getD (j + 1) (0, 0)) (E.toList.getD j (0, 0))
        by_cases hc : cI (E.toList.getD (j + 1) (0, 0)) (E.toList.getD j (0, 0)) < 0
        rotate_left
        · have e3 : insInner lt a (j + 1) E = E := by
            unfold insInner
            rw [bang_getD, bang_getD, ← hl, decide_eq_false hc, Bool.and_false]
            rfl
          rw [e3] at hI
          simp only [go_sem, Nat.reduceLT, hc]
          refine ⟨⟨(k + 1, E), by show k + 1 ≤ b + 1; omega, by show a + 1 ≤ k + 1; omega, hE, ?_⟩, by show b + 1 - (k + 1) < b + 1 - k; omega, ?_⟩
          · rw [← hO]
            show insOuter lt a b (k + 1) E = _
            rw [insOuter.eq_1 lt a b k D, if_pos hkb, hI]
          · refine Imp.id (by simp) ?_ ?_
            · simp only [go_sem, Nat.reduceLT, hFl, w64 (n := (k : Int) + 1) (by omega), Int.natCast_add, Int.natCast_one]
              exact hi
            · exact impH.base0 (hok_set hok fun k hk => spotsC_flat _ _) (by simp) HExt.rfl
        · have e3 : insInner lt a (j + 1) E = insInner lt a j (swp E (j + 1) j) := by
            show (if decide (j + 1 > a) && lt E[j + 1]! E[j]! then insInner lt a j (swp E (j + 1) j) else E) = _
            rw [bang_getD, bang_getD, ← hl, decide_eq_true hc]
            simp only [gt_iff_lt, hja, decide_true, Bool.and_true, if_true]
          rw [e3] at hI
          simp only [go_sem, Nat.reduceLT, hc]
          refine T_drawG hti 18 [15, 17] (.b 0 0 (.b 0 1 (.b 0 2 (.b 0 3 (.b 0 4 (.b 0 5 (.b 0 6 (.b 0 7 (.b 0 8 (.b 0 9 (.b 0 10 (.b 0 11 (.b 0 12 (.b 0 13 (.b 0 14 (.b 4 15 (.b 0 16 (.b 4 17 (.f) .o) .o) .o) .o) .o) .o) .o) .o) .o) .o) .o) .o) .o) .o) .o) .o) .o) .o) _ _ (by kernel_rfl) (by kernel_rfl) ?_
          simp only [go_sem, Nat.reduceLT, reduceCtorEq, hgi, hi, r1, r2, e2, b1, b2, b3, b4, b5, b6, and_false, if_false, spotsC_x, spotsC_y, spots_store E.toList (j + 1) (E.toList.getD j (0, 0)) (by omega), Int.add_sub_cancel, w64 (n := (j : Int)) (by omega)]
          rw [spots_store (E.toList.set (j + 1) (E.toList.getD j (0, 0))) j (E.toList.getD (j + 1) (0, 0)) (by rw [List.length_set]; omega), ← swp_toList]
          refine ⟨⟨(j, swp E (j + 1) j), by show j ≤ k; omega, by show a ≤ j; omega, (swp_size _ _ _).trans hE, hI⟩, by show j < j + 1; omega, ?_⟩
          refine Imp.id (by simp) ?_ ?_
          · simp only [go_sem, Nat.reduceLT, hFl]
            exact hi
          · exact impH.base0 (hok_set hok fun k hk => spotsC_flat _ _) (by simp) HExt.rfl
    · have hkb : ¬ k < b := by omega
      have e : D = insertionSort lt d a b := by rw [← hO]; unfold insOuter; rw [if_neg hkb]
      rw [e]
      exact HExt.rfl
end
end Go.Proofs.Ytddnnodkkdjniaa.V

/- Sets of few cells: the program's own walk. -/
namespace Go.Proofs.Ytddnnodkkdjniaa.V
theorem srtS_nodup {L : List (Int × Int)} (h : L.Nodup) : (srtS L).Pairwise fun a b => ltSp a b = true := by
  have h1 := srtS_sorted L
  have h2 : (srtS L).Nodup := (srtS_perm L).nodup_iff.2 h
  refine (h1.and h2).imp fun {a b} ⟨h3, h4⟩ => ?_
  cases hlt : ltSp a b with
  | true => rfl
  | false => exact absurd (ltSp_tri hlt h3) h4
theorem setL_nodup {L : List (Int × Int)} (h : L.Nodup) : setL L = srtS L := setL_eq (srtS_nodup h) fun a => (srtS_perm L).mem_iff
section
variable (cx : Cx) (h : List (Nat × Seg)) (n : Nat)
end
end Go.Proofs.Ytddnnodkkdjniaa.V

/- The cells to which one can go. -/
namespace Go.Proofs.Ytddnnodkkdjniaa.V
def addB (is : Int → Int → Bool) (out : List (Int × Int)) (q : Int × Int) : List (Int × Int) := if is q.1 q.2 = true ∧ q ∉ out then out ++ [q] else out
theorem addB_new {is : Int → Int → Bool} {out : List (Int × Int)} {q : Int × Int} (h1 : is q.1 q.2 = true) (h2 : q ∉ out) : addB is out q = out ++ [q] := if_pos ⟨h1, h2⟩
theorem addB_old {is : Int → Int → Bool} {out : List (Int × Int)} {q : Int × Int} (h : ¬ (is q.1 q.2 = true ∧ q ∉ out)) : addB is out q = out := if_neg h
def stepK (is : Int → Int → Bool) (out : List (Int × Int)) (p : Int × Int) (k : Nat) : List (Int × Int) := ((besideL p.1 p.2).take k).foldl (addB is) out
theorem stepK_succ (is : Int → Int → Bool) (out : List (Int × Int)) (p : Int × Int) {k : Nat} (hk : k < 4) : stepK is out p (k + 1) = addB is (stepK is out p k) ((besideL p.1 p.2).getD k (0, 0)) := by
  have hl : k < (besideL p.1 p.2).length := hk
  unfold stepK
  rw [List.take_succ, List.getElem?_eq_getElem hl, List.foldl_append, List.getD_eq_getElem?_getD, List.getElem?_eq_getElem hl]
  rfl
def bfs (is : Int → Int → Bool) : Nat → List (Int × Int) → Nat → List (Int × Int)
  | 0, out, _ => out
  | f + 1, out, i => if i < out.length then bfs is f (stepK is out (out.getD i (0, 0)) 4) (i + 1) else out
/-- What is kept: cells of the sheet, each one once. -/
structure BOk (out : List (Int × Int)) : Prop where
  nd : out.Nodup
  in8 : In8s out
theorem BOk.len {out : List (Int × Int)} (h : BOk out) : out.length ≤ 64 := by
  have h1 : Strict (setL out) := setL_strict out
  have h2 := strict_len h1 h.in8.setL
  have h3 : setL out = srtS out := setL_eq (srtS_nodup h.nd) fun a => (srtS_perm out).mem_iff
  rw [h3] at h2
  exact Nat.le_trans (Nat.le_of_eq (srtS_perm out).length_eq.symm) h2
theorem BOk.add {is : Int → Int → Bool} (his : ∀ x y, is x y = true → In8 (x, y)) {out : List (Int × Int)} (h : BOk out) (q : Int × Int) : BOk (addB is out q) := by
  by_cases hq : is q.1 q.2 = true ∧ q ∉ out
  · rw [addB_new hq.1 hq.2]
    refine ⟨List.nodup_append.2 ⟨h.nd, by simp, fun a ha b hb => ?_⟩, fun p hp => ?_⟩
    · rw [List.mem_singleton] at hb; subst hb; exact fun e => hq.2 (e ▸ ha)
    · rcases List.mem_append.1 hp with hp | hp
      · exact h.in8 p hp
      · rw [List.mem_singleton] at hp; subst hp; exact his _ _ hq.1
  · rw [addB_old hq]; exact h
theorem BOk.stepK {is : Int → Int → Bool} (his : ∀ x y, is x y = true → In8 (x, y)) {out : List (Int × Int)} (h : BOk out) (p : Int × Int) : ∀ k, k ≤ 4 → BOk (stepK is out p k)
  | 0, _ => h
  | k + 1, hk => by rw [stepK_succ is out p (by omega)]; exact (BOk.stepK his h p k (by omega)).add his _
theorem addB_pre (is : Int → Int → Bool) (out : List (Int × Int)) (q : Int × Int) : ∃ t, addB is out q = out ++ t := by
  by_cases hq : is q.1 q.2 = true ∧ q ∉ out
  · exact ⟨[q], addB_new hq.1 hq.2⟩
  · exact ⟨[], by rw [addB_old hq, List.append_nil]⟩
theorem stepK_pre (is : Int → Int → Bool) (out : List (Int × Int)) (p : Int × Int) : ∀ k, k ≤ 4 → ∃ t, stepK is out p k = out ++ t
  | 0, _ => ⟨[], (List.append_nil _).symm⟩
  | k + 1, hk => by
    obtain ⟨t, ht⟩ := stepK_pre is out p k (by omega)
    obtain ⟨u, hu⟩ := addB_pre is (stepK is out p k) ((besideL p.1 p.2).getD k (0, 0))
    exact ⟨t ++ u, by rw [stepK_succ is out p (by omega), hu, ht, List.append_assoc]⟩
theorem stepK_get {is : Int → Int → Bool} {out : List (Int × Int)} {p : Int × Int} {k i : Nat} (hk : k ≤ 4) (hi : i < out.length) : (stepK is out p k).getD i (0, 0) = out.getD i (0, 0) ∧ i < (stepK is out p k).length := by
  obtain ⟨t, ht⟩ := stepK_pre is out p k hk
  rw [ht]
  refine ⟨?_, by rw [List.length_append]; omega⟩
  rw [List.getD_eq_getElem?_getD, List.getD_eq_getElem?_getD, List.getElem?_append_left hi]
theorem bfs_go {is : Int → Int → Bool} {out : List (Int × Int)} {i : Nat} (hi : i < out.length) (h64 : out.length ≤ 64) : bfs is (65 - i) out i = bfs is (65 - (i + 1)) (stepK is out (out.getD i (0, 0)) 4) (i + 1) := by
  rw [show 65 - i = (65 - (i + 1)) + 1 by omega, bfs, if_pos hi]
theorem bfs_stop {is : Int → Int → Bool} {out : List (Int × Int)} {i : Nat} (hi : ¬ i < out.length) (f : Nat) : bfs is f out i = out := by
  cases f with
  | zero => rfl
  | succ f => rw [bfs, if_neg hi]
theorem BOk.bfs {is : Int → Int → Bool} (his : ∀ x y, is x y = true → In8 (x, y)) : ∀ (f : Nat) (out : List (Int × Int)) (i : Nat), BOk out → BOk (bfs is f out i)
  | 0, _, _, h => h
  | f + 1, out, i, h => by
    rw [V.bfs]; split
    · exact BOk.bfs his f _ _ (h.stepK his _ 4 (Nat.le_refl _))
    · exact h
theorem BOk.one {p : Int × Int} (h : In8 p) : BOk [p] := ⟨by simp, fun q hq => by rw [List.mem_singleton] at hq; subst hq; exact h⟩
/-- All of them, ordered. -/
def reachL (is : Int → Int → Bool) (p : Int × Int) : List (Int × Int) := setL (bfs is 65 [p] 0)
end Go.Proofs.Ytddnnodkkdjniaa.V

/- The library's heap sort over spots. -/
namespace Go.Proofs.Ytddnnodkkdjniaa.V
open Go.Sort (swp siftDown heapBuild heapPop heapSort)
theorem w64N {a : Int} {k : Nat} (h : a = (k : Int)) (hk : k ≤ 4611686018427387904) : IntKind.i64.wrap a = (k : Int) := by rw [h]; exact w64 (by omega)
theorem bangL {D : Array (Int × Int)} {j : Nat} : D[j]! = D.toList.getD j (0, 0) := bang_getD D j
theorem ix_r {k s : Nat} (h : k < s) : (0 : Int) ≤ (k : Int) ∧ (k : Int) < (s : Int) := ⟨by omega, by omega⟩
theorem ix_b {k s : Nat} (h : k < s) : k * 2 ≤ s * 2 - 2 := by omega
theorem ix_c {k s : Nat} (h : k < s) : k * 2 + 2 ≤ s * 2 := by omega
/-- Two spots exchanged. -/
theorem swap_fn (D : Array (Int × Int)) {a b : Nat} (ha : a < D.size) (hb : b < D.size) :
    (fun z => if b * 2 ≤ z ∧ z < b * 2 + 2 then cl [.int .i8 (D.toList.getD a (0, 0)).1, .int .i8 (D.toList.getD a (0, 0)).2] (z - b * 2) else if a * 2 ≤ z ∧ z < a * 2 + 2 then cl [.int .i8 (D.toList.getD b (0, 0)).1, .int .i8 (D.toList.getD b (0, 0)).2] (z - a * 2) else spotsC D.toList z) = spotsC (swp D a b).toList := by
  rw [swp_toList, ← spots_store _ b _ (by rw [List.length_set, Array.length_toList]; exact hb)]
  funext z
  split
  · rfl
  · rw [← spots_store D.toList a (D.toList.getD b (0, 0)) (by rw [Array.length_toList]; exact ha)]
def pickC (lt : Int × Int → Int × Int → Bool) (hi first root : Nat) (d : Array (Int × Int)) : Nat := if 2 * root + 2 < hi ∧ lt d[first + (2 * root + 1)]! d[first + (2 * root + 2)]! = true then 2 * root + 2 else 2 * root + 1
theorem siftDown_end {lt : Int × Int → Int × Int → Bool} {hi first root : Nat} {d : Array (Int × Int)} (h : hi ≤ 2 * root + 1) : siftDown lt hi first root d = d := by
  rw [siftDown, dif_pos h]
theorem siftDown_eq {lt : Int × Int → Int × Int → Bool} {hi first root : Nat} {d : Array (Int × Int)} (h : 2 * root + 1 < hi) :
    siftDown lt hi first root d = if lt d[first + root]! d[first + pickC lt hi first root d]! = true then siftDown lt hi first (pickC lt hi first root d) (swp d (first + root) (first + pickC lt hi first root d)) else d := by
  rw [siftDown, dif_neg (by omega)]
  unfold pickC
  have e : first + (2 * root + 1) + 1 = first + (2 * root + 2) := by omega
  rw [e]
  by_cases h2 : 2 * root + 2 < hi ∧ lt d[first + (2 * root + 1)]! d[first + (2 * root + 2)]! = true
  · rw [if_pos (by rw [h2.2]; simp; omega), if_pos h2]
    cases hl : lt d[first + root]! d[first + (2 * root + 2)]!
    · simp
    · simp [h2.1]
  · rw [if_neg (by
      rw [Bool.and_eq_true, decide_eq_true_eq]
      rintro ⟨a, b⟩
      exact h2 ⟨by omega, b⟩), if_neg h2]
    cases hl : lt d[first + root]! d[first + (2 * root + 1)]! <;> simp
theorem siftDown_size (lt : Int × Int → Int × Int → Bool) (hi first : Nat) : ∀ (m root : Nat) (d : Array (Int × Int)), hi - root ≤ m → (siftDown lt hi first root d).size = d.size := by
  intro m
  induction m with
  | zero => intro root d h; rw [siftDown_end (by omega)]
  | succ m ih =>
    intro root d h
    by_cases h1 : hi ≤ 2 * root + 1
    · rw [siftDown_end h1]
    · rw [siftDown_eq (by omega)]
      split
      · rw [ih _ _ (by unfold pickC; split <;> omega), swp_size]
      · rfl
section
variable (cx : Cx) (h : List (Nat × Seg)) (n : Nat)
set_option maxRecDepth 100000 in
set_option maxHeartbeats 1600000 in
theorem siftDown_E (i cap : Nat) (d : Array (Int × Int)) (own : Option (Nat × Nat)) (lo hi first : Nat) (f p q : Nat) (G F : Nat → SV) (cI : Int × Int → Int × Int → Int) (lt : Int × Int → Int × Int → Bool) (hlt : ∀ x y, decide (cI x y < 0) = lt x y)
    (hs : hget h i = some ⟨d.size * 2, spotsC d.toList, true, own⟩) (hi0 : i < n) (hb : first + hi ≤ d.size) (h2 : 2 ≤ d.size) (hlo : lo ≤ d.size) (hm9 : d.size ≤ 1000000000) (hF : (SV.fn f p G q F).lt n) (hcmp : Cmps cx h n i f p q G F cI) (K : HK)
    (hK : K (.tup 0 (cl [])) (hset h i ⟨d.size * 2, spotsC (siftDown lt hi first lo d).toList, true, own⟩) n) :
    CallE Try.prog cx 77 [.sl i 0 d.size cap, .int .i64 lo, .int .i64 hi, .int .i64 first, .fn f p G q F] h n K := by
  refine CallE.to _ _ (by simp only [go_sem]) (fun hok => hok_set hok fun k hk => spotsC_flat _ _) hK ?_
  have hgi : ∀ t, hget (hset h i t) i = some t := hget_hset_self hs
  have hFl : (SV.fn f p G q F).lt n = True := eq_true hF
  refine callE_of_T (P := Try.prog) hti (nt := 82) (rs := []) rfl rfl Try.call77 Try.func77 rfl _ (by simp only [go_sem, and_self]) (Nat.le_of_ble_eq_true rfl) _ fun hok => ?_
  simp only [go_sem, Nat.reduceLT]
  refine T_lp (ι := { p : Nat × Array (Int × Int) // p.1 ≤ d.size + 1 ∧ p.2.size = d.size ∧ siftDown lt hi first p.1 p.2 = siftDown lt hi first lo d })
    (fun w => ([(0, .sl i 0 d.size cap), (2, .int .i64 hi), (3, .int .i64 first), (4, .fn f p G q F), (10, .int .i64 w.1.1)], hset h i ⟨d.size * 2, spotsC w.1.2.toList, true, own⟩, n)) (fun w => hi - w.1.1) ⟨(lo, d), by show lo ≤ d.size + 1; omega, rfl, rfl⟩ ?_ ?_
  · refine Imp.id (by simp) ?_ ?_
    · simp only [go_sem, Nat.reduceLT, hFl]
      exact hi0
    · rw [hset_self hs]; exact impH.base0 hok (by simp) HExt.rfl
  · rintro ⟨⟨r, D⟩, hr, hD, hO⟩
    simp only at hr hD hO
    simp only [go_sem, Nat.reduceLT, w64N (a := 2 * (r : Int)) (k := 2 * r) (by omega) (by omega), w64N (a := ((2 * r : Nat) : Int) + 1) (k := 2 * r + 1) (by omega) (by omega)]
    by_cases h1 : hi ≤ 2 * r + 1
    · rw [siftDown_end h1] at hO
      have e1 : ((hi : Int) ≤ ((2 * r + 1 : Nat) : Int)) = True := eq_true (by omega)
      simp only [go_sem, reduceCtorEq, e1]
      rw [hO]
      exact HExt.rfl
    have e1 : ((hi : Int) ≤ ((2 * r + 1 : Nat) : Int)) = False := eq_false (by omega)
    rw [siftDown_eq (by omega)] at hO
    simp only [go_sem, e1]
    have c0 : first + r < d.size := by omega
    have c1 : first + (2 * r + 1) < d.size := by omega
    have cA : 2 * r + 2 < hi → first + (2 * r + 2) < d.size := by omega
    have W0 := w64N (a := (first : Int) + (r : Int)) (k := first + r) (by omega) (by omega)
    have W1 := w64N (a := (first : Int) + ((2 * r + 1 : Nat) : Int)) (k := first + (2 * r + 1)) (by omega) (by omega)
    have W2 := w64N (a := ((2 * r + 1 : Nat) : Int) + 1) (k := 2 * r + 2) (by omega) (by omega)
    have W3 := w64N (a := ((first + (2 * r + 1) : Nat) : Int) + 1) (k := first + (2 * r + 2)) (by omega) (by omega)
    have W4 := w64N (a := (first : Int) + ((2 * r + 2 : Nat) : Int)) (k := first + (2 * r + 2)) (by omega) (by omega)
    have b6 : (2 = d.size * 2) = False := eq_false (by omega)
    by_cases hA : 2 * r + 2 < hi
    · have e2 : (((2 * r + 2 : Nat) : Int) < (hi : Int)) = True := eq_true (by omega)
      refine T_draw hti _ _ (by kernel_rfl) (by kernel_rfl) ?_
      simp only [go_sem, Nat.reduceLT, hgi, hi0, e2, W1, W2, W3, ix_r c1, ix_b c1, ix_c c1, ix_r (cA hA), ix_b (cA hA), ix_c (cA hA), spotsC_x, spotsC_y]
      refine (hcmp (D.toList.getD (first + (2 * r + 1)) (0, 0)) (D.toList.getD (first + (2 * r + 2)) (0, 0)) _ _ _ _ (Nat.le_refl n) (HBut.set i n h _)).A ?_
      have hl := hlt (D.toList.getD (first + (2 * r + 1)) (0, 0)) (D.toList.getD (first + (2 * r + 2)) (0, 0))
      by_cases hc : cI (D.toList.getD (first + (2 * r + 1)) (0, 0)) (D.toList.getD (first + (2 * r + 2)) (0, 0)) < 0
      · simp only [go_sem, Nat.reduceLT, hc, W2]
        have hp : pickC lt hi first r D = 2 * r + 2 := if_pos ⟨hA, by rw [bangL, bangL, ← hl, decide_eq_true hc]⟩
        rw [hp] at hO
        refine T_draw hti _ _ (by kernel_rfl) (by kernel_rfl) ?_
        simp only [go_sem, Nat.reduceLT, hgi, hi0, W0, W1, W4, ix_r c0, ix_r c1, ix_b c0, ix_b c1, ix_c c0, ix_c c1, ix_r (cA hA), ix_b (cA hA), ix_c (cA hA), spotsC_x, spotsC_y]
        refine (hcmp (D.toList.getD (first + r) (0, 0)) (D.toList.getD (first + (2 * r + 2)) (0, 0)) _ _ _ _ (Nat.le_refl n) (HBut.set i n h _)).A ?_
        have hl2 := hlt (D.toList.getD (first + r) (0, 0)) (D.toList.getD (first + (2 * r + 2)) (0, 0))
        rw [bangL, bangL, ← hl2] at hO
        by_cases hc2 : cI (D.toList.getD (first + r) (0, 0)) (D.toList.getD (first + (2 * r + 2)) (0, 0)) < 0
        rotate_left
        · rw [decide_eq_false hc2, if_neg (by simp)] at hO
          simp only [go_sem, Nat.reduceLT, hc2]
          rw [hO]
          exact HExt.rfl
        · rw [decide_eq_true hc2, if_pos rfl] at hO
          simp only [go_sem, Nat.reduceLT, hc2]
          refine T_drawG hti 24 [21, 23] (.b 0 0 (.b 0 1 (.b 0 2 (.b 0 3 (.b 0 4 (.b 0 5 (.b 0 6 (.b 0 7 (.b 0 8 (.b 0 9 (.b 0 10 (.b 0 11 (.b 0 12 (.b 0 13 (.b 0 14 (.b 0 15 (.b 0 16 (.b 0 17 (.b 0 18 (.b 0 19 (.b 0 20 (.b 4 21 (.b 0 22 (.b 4 23 (.f) .o) .o) .o) .o) .o) .o) .o) .o) .o) .o) .o) .o) .o) .o) .o) .o) .o) .o) .o) .o) .o) .o) .o) .o) _ _ (by kernel_rfl) (by kernel_rfl) ?_
          simp only [go_sem, Nat.reduceLT, reduceCtorEq, hgi, hi0, W0, W1, W4, ix_r c0, ix_r c1, ix_b c0, ix_b c1, ix_c c0, ix_c c1, ix_r (cA hA), ix_b (cA hA), ix_c (cA hA), spotsC_x, spotsC_y, b6, and_false, if_false]
          rw [swap_fn D (a := first + r) (b := first + (2 * r + 2)) (by omega) (by omega)]
          refine ⟨⟨(2 * r + 2, swp D (first + r) (first + (2 * r + 2))), by show 2 * r + 2 ≤ d.size + 1; omega, (swp_size _ _ _).trans hD, hO⟩, by show hi - (2 * r + 2) < hi - r; omega, ?_⟩
          refine Imp.id (by simp) ?_ ?_
          · simp only [go_sem, Nat.reduceLT, hFl]
            exact hi0
          · exact impH.base0 (hok_set hok fun k hk => spotsC_flat _ _) (by simp) HExt.rfl
      · simp only [go_sem, Nat.reduceLT, hc]
        have hp : pickC lt hi first r D = 2 * r + 1 := if_neg fun hh => by rw [bangL, bangL, ← hl, decide_eq_false hc] at hh; exact absurd hh.2 (by simp)
        rw [hp] at hO
        refine T_draw hti _ _ (by kernel_rfl) (by kernel_rfl) ?_
        simp only [go_sem, Nat.reduceLT, hgi, hi0, W0, W1, W4, ix_r c0, ix_r c1, ix_b c0, ix_b c1, ix_c c0, ix_c c1, spotsC_x, spotsC_y]
        refine (hcmp (D.toList.getD (first + r) (0, 0)) (D.toList.getD (first + (2 * r + 1)) (0, 0)) _ _ _ _ (Nat.le_refl n) (HBut.set i n h _)).A ?_
        have hl2 := hlt (D.toList.getD (first + r) (0, 0)) (D.toList.getD (first + (2 * r + 1)) (0, 0))
        rw [bangL, bangL, ← hl2] at hO
        by_cases hc2 : cI (D.toList.getD (first + r) (0, 0)) (D.toList.getD (first + (2 * r + 1)) (0, 0)) < 0
        rotate_left
        · rw [decide_eq_false hc2, if_neg (by simp)] at hO
          simp only [go_sem, Nat.reduceLT, hc2]
          rw [hO]
          exact HExt.rfl
        · rw [decide_eq_true hc2, if_pos rfl] at hO
          simp only [go_sem, Nat.reduceLT, hc2]
          refine T_drawG hti 24 [21, 23] (.b 0 0 (.b 0 1 (.b 0 2 (.b 0 3 (.b 0 4 (.b 0 5 (.b 0 6 (.b 0 7 (.b 0 8 (.b 0 9 (.b 0 10 (.b 0 11 (.b 0 12 (.b 0 13 (.b 0 14 (.b 0 15 (.b 0 16 (.b 0 17 (.b 0 18 (.b 0 19 (.b 0 20 (.b 4 21 (.b 0 22 (.b 4 23 (.f) .o) .o) .o) .o) .o) .o) .o) .o) .o) .o) .o) .o) .o) .o) .o) .o) .o) .o) .o) .o) .o) .o) .o) .o) _ _ (by kernel_rfl) (by kernel_rfl) ?_
          simp only [go_sem, Nat.reduceLT, reduceCtorEq, hgi, hi0, W0, W1, W4, ix_r c0, ix_r c1, ix_b c0, ix_b c1, ix_c c0, ix_c c1, spotsC_x, spotsC_y, b6, and_false, if_false]
          rw [swap_fn D (a := first + r) (b := first + (2 * r + 1)) (by omega) (by omega)]
          refine ⟨⟨(2 * r + 1, swp D (first + r) (first + (2 * r + 1))), by show 2 * r + 1 ≤ d.size + 1; omega, (swp_size _ _ _).trans hD, hO⟩, by show hi - (2 * r + 1) < hi - r; omega, ?_⟩
          refine Imp.id (by simp) ?_ ?_
          · simp only [go_sem, Nat.reduceLT, hFl]
            exact hi0
          · exact impH.base0 (hok_set hok fun k hk => spotsC_flat _ _) (by simp) HExt.rfl
    · have e2 : (((2 * r + 2 : Nat) : Int) < (hi : Int)) = False := eq_false (by omega)
      refine T_draw hti _ _ (by kernel_rfl) (by kernel_rfl) ?_
      simp only [go_sem, Nat.reduceLT, e2, W2]
      have hp : pickC lt hi first r D = 2 * r + 1 := if_neg fun hh => hA hh.1
      rw [hp] at hO
      refine T_draw hti _ _ (by kernel_rfl) (by kernel_rfl) ?_
      simp only [go_sem, Nat.reduceLT, hgi, hi0, W0, W1, W4, ix_r c0, ix_r c1, ix_b c0, ix_b c1, ix_c c0, ix_c c1, spotsC_x, spotsC_y]
      refine (hcmp (D.toList.getD (first + r) (0, 0)) (D.toList.getD (first + (2 * r + 1)) (0, 0)) _ _ _ _ (Nat.le_refl n) (HBut.set i n h _)).A ?_
      have hl2 := hlt (D.toList.getD (first + r) (0, 0)) (D.toList.getD (first + (2 * r + 1)) (0, 0))
      rw [bangL, bangL, ← hl2] at hO
      by_cases hc2 : cI (D.toList.getD (first + r) (0, 0)) (D.toList.getD (first + (2 * r + 1)) (0, 0)) < 0
      rotate_left
      · rw [decide_eq_false hc2, if_neg (by simp)] at hO
        simp only [go_sem, Nat.reduceLT, hc2]
        rw [hO]
        exact HExt.rfl
      · rw [decide_eq_true hc2, if_pos rfl] at hO
        simp only [go_sem, Nat.reduceLT, hc2]
        refine T_drawG hti 24 [21, 23] (.b 0 0 (.b 0 1 (.b 0 2 (.b 0 3 (.b 0 4 (.b 0 5 (.b 0 6 (.b 0 7 (.b 0 8 (.b 0 9 (.b 0 10 (.b 0 11 (.b 0 12 (.b 0 13 (.b 0 14 (.b 0 15 (.b 0 16 (.b 0 17 (.b 0 18 (.b 0 19 (.b 0 20 (.b 4 21 (.b 0 22 (.b 4 23 (.f) .o) .o) .o) .o) .o) .o) .o) .o) .o) .o) .o) .o) .o) .o) .o) .o) .o) .o) .o) .o) .o) .o) .o) .o) _ _ (by kernel_rfl) (by kernel_rfl) ?_
        simp only [go_sem, Nat.reduceLT, reduceCtorEq, hgi, hi0, W0, W1, W4, ix_r c0, ix_r c1, ix_b c0, ix_b c1, ix_c c0, ix_c c1, spotsC_x, spotsC_y, b6, and_false, if_false]
        rw [swap_fn D (a := first + r) (b := first + (2 * r + 1)) (by omega) (by omega)]
        refine ⟨⟨(2 * r + 1, swp D (first + r) (first + (2 * r + 1))), by show 2 * r + 1 ≤ d.size + 1; omega, (swp_size _ _ _).trans hD, hO⟩, by show hi - (2 * r + 1) < hi - r; omega, ?_⟩
        refine Imp.id (by simp) ?_ ?_
        · simp only [go_sem, Nat.reduceLT, hFl]
          exact hi0
        · exact impH.base0 (hok_set hok fun k hk => spotsC_flat _ _) (by simp) HExt.rfl
end
end Go.Proofs.Ytddnnodkkdjniaa.V

/- The library's heap sort over spots. -/
namespace Go.Proofs.Ytddnnodkkdjniaa.V
open Go.Sort (swp siftDown heapBuild heapPop heapSort)
section
variable (cx : Cx) (h : List (Nat × Seg)) (n : Nat)
theorem siftDown_M (i cap : Nat) (d : Array (Int × Int)) (m : Nat) (hm : d.size = m) (own : Option (Nat × Nat)) (lo hi first : Nat) (f p q : Nat) (G F : Nat → SV) (cI : Int × Int → Int × Int → Int) (lt : Int × Int → Int × Int → Bool) (hlt : ∀ x y, decide (cI x y < 0) = lt x y)
    (hs : hget h i = some ⟨m * 2, spotsC d.toList, true, own⟩) (hi0 : i < n) (hb : first + hi ≤ m) (h2 : 2 ≤ m) (hlo : lo ≤ m) (hm9 : m ≤ 1000000000) (hF : (SV.fn f p G q F).lt n) (hcmp : Cmps cx h n i f p q G F cI) (K : HK)
    (hK : K (.tup 0 (cl [])) (hset h i ⟨m * 2, spotsC (siftDown lt hi first lo d).toList, true, own⟩) n) :
    CallE Try.prog cx 77 [.sl i 0 m cap, .int .i64 lo, .int .i64 hi, .int .i64 first, .fn f p G q F] h n K := by
  subst hm
  exact siftDown_E cx h n i cap d own lo hi first f p q G F cI lt hlt hs hi0 hb h2 hlo hm9 hF hcmp K hK
theorem Cmps.set {cx : Cx} {h : List (Nat × Seg)} {n i f p q : Nat} {G F : Nat → SV} {cI : Int × Int → Int × Int → Int} (hcmp : Cmps cx h n i f p q G F cI) (t : Seg) : Cmps cx (hset h i t) n i f p q G F cI :=
  fun a b nt n0 h' n' hn hb => hcmp a b nt n0 h' n' hn fun j hj hji u hu => hb j hj hji u (by rw [hget_hset, if_neg (Ne.symm hji)]; exact hu)
theorem Cmps.nt {cx : Cx} {h : List (Nat × Seg)} {n i f p q : Nat} {G F : Nat → SV} {cI : Int × Int → Int × Int → Int} (hcmp : Cmps cx h n i f p q G F cI) (t m : Nat) : Cmps ⟨cx.w0, cx.W, t, m⟩ h n i f p q G F cI :=
  fun a b nt n0 h' n' hn hb => hcmp a b nt n0 h' n' hn hb
set_option maxRecDepth 100000 in
set_option maxHeartbeats 1600000 in
theorem heapSort_E (i cap : Nat) (d : Array (Int × Int)) (own : Option (Nat × Nat)) (a b : Nat) (f p q : Nat) (G F : Nat → SV) (cI : Int × Int → Int × Int → Int) (lt : Int × Int → Int × Int → Bool) (hlt : ∀ x y, decide (cI x y < 0) = lt x y)
    (hs : hget h i = some ⟨d.size * 2, spotsC d.toList, true, own⟩) (hi0 : i < n) (hb : b ≤ d.size) (hab : a + 2 ≤ b) (hm9 : d.size ≤ 1000000000) (hF : (SV.fn f p G q F).lt n) (hcmp : Cmps cx h n i f p q G F cI) (K : HK)
    (hK : K (.tup 0 (cl [])) (hset h i ⟨d.size * 2, spotsC (heapSort lt d a b).toList, true, own⟩) n) :
    CallE Try.prog cx 67 [.sl i 0 d.size cap, .int .i64 a, .int .i64 b, .fn f p G q F] h n K := by
  refine CallE.to _ _ (by simp only [go_sem]) (fun hok => hok_set hok fun k hk => spotsC_flat _ _) hK ?_
  have hgi : ∀ t, hget (hset h i t) i = some t := hget_hset_self hs
  have hFl : (SV.fn f p G q F).lt n = True := eq_true hF
  refine callE_of_T (P := Try.prog) hti (nt := 60) (rs := []) rfl rfl Try.call67 Try.func67 rfl _ (by simp only [go_sem, and_self]) (Nat.le_of_ble_eq_true rfl) _ fun hok => ?_
  have W0 := w64N (a := (b : Int) - a) (k := b - a) (by omega) (by omega)
  have W1 := w64N (a := ((b - a : Nat) : Int) - 1) (k := b - a - 1) (by omega) (by omega)
  have W2 : IntKind.i64.wrap (((b - a - 1 : Nat) : Int).tdiv 2) = (((b - a - 1) / 2 + 1 : Nat) : Int) - 1 := by rw [Int.tdiv_eq_ediv_of_nonneg (by omega)]; rw [w64 (by omega)]; omega
  simp only [go_sem, Nat.reduceLT, Int.reduceEq, W0, W1, W2]
  refine T_lp (ι := { p : Nat × Array (Int × Int) // p.1 ≤ b - a ∧ p.2.size = d.size ∧ heapBuild lt (b - a) a p.1 p.2 = heapBuild lt (b - a) a ((b - a - 1) / 2 + 1) d })
    (fun w => ([(0, .sl i 0 d.size cap), (3, .fn f p G q F), (8, .int .i64 a), (9, .int .i64 0), (10, .int .i64 ((b - a : Nat) : Int)), (11, .int .i64 ((w.1.1 : Int) - 1))], hset h i ⟨d.size * 2, spotsC w.1.2.toList, true, own⟩, n)) (fun w => w.1.1) ⟨((b - a - 1) / 2 + 1, d), by show (b - a - 1) / 2 + 1 ≤ b - a; omega, rfl, rfl⟩ ?_ ?_
  · refine Imp.id (by simp) ?_ ?_
    · simp only [go_sem, Nat.reduceLT, hFl]
      exact hi0
    · rw [hset_self hs]; exact impH.base0 hok (by simp) HExt.rfl
  · rintro ⟨⟨k, D⟩, hk, hD, hO⟩
    simp only at hk hD hO
    cases k with
    | succ k =>
      have e1 : ((0 : Int) ≤ ((k + 1 : Nat) : Int) - 1) = True := eq_true (by omega)
      have e2 : ((k + 1 : Nat) : Int) - 1 = (k : Int) := by omega
      rw [heapBuild] at hO
      simp only [go_sem, Nat.reduceLT, e1, e2, show ((0 : Int) ≤ (k : Int)) = True from eq_true (by omega)]
      refine callA_false (siftDown_M _ _ _ i cap D d.size hD own k (b - a) a f p q G F cI lt hlt (hgi _) hi0 (by omega) (by omega) (by omega) hm9 hF ((hcmp.set _).nt _ _) _ ?_)
      simp only [go_sem, Nat.reduceLT, hset_hset]
      refine ⟨⟨(k, siftDown lt (b - a) a k D), by show k ≤ b - a; omega, (siftDown_size _ _ _ _ _ _ (Nat.le_refl _)).trans hD, hO⟩, by show k < k + 1; omega, ?_⟩
      refine Imp.id (by simp) ?_ ?_
      · simp only [go_sem, Nat.reduceLT, hFl, w64 (n := (k : Int) - 1) (by omega)]
        exact hi0
      · exact impH.base0 (hok_set hok fun k hk => spotsC_flat _ _) (by simp) HExt.rfl
    | zero =>
      rw [heapBuild] at hO
      simp only [go_sem, Nat.reduceLT, Int.reduceLE, Int.reduceNeg, Int.reduceSub, show ((0 : Int) ≤ ((0 : Nat) : Int) - 1) = False from eq_false (by omega), W1]
      refine T_lp (ι := { p : Nat × Array (Int × Int) // p.1 ≤ b - a ∧ p.2.size = d.size ∧ heapPop lt a p.1 p.2 = heapSort lt d a b })
        (fun w => ([(0, .sl i 0 d.size cap), (3, .fn f p G q F), (8, .int .i64 a), (9, .int .i64 0), (12, .int .i64 ((w.1.1 : Int) - 1))], hset h i ⟨d.size * 2, spotsC w.1.2.toList, true, own⟩, n)) (fun w => w.1.1) ⟨(b - a, D), Nat.le_refl _, hD, by rw [hO]; rfl⟩ ?_ ?_
      · refine Imp.id (by simp) ?_ ?_
        · simp only [go_sem, Nat.reduceLT, Int.reduceNeg, hFl, show ((b - a - 1 : Nat) : Int) = ((b - a : Nat) : Int) - 1 by omega]
          exact hi0
        · exact impH.base0 (hok_set hok fun k hk => spotsC_flat _ _) (by simp) HExt.rfl
      · rintro ⟨⟨k, E⟩, hk, hE, hP⟩
        simp only at hk hE hP
        cases k with
        | succ k =>
          have e2 : ((k + 1 : Nat) : Int) - 1 = (k : Int) := by omega
          have W3 := w64N (a := (a : Int) + (k : Int)) (k := a + k) (by omega) (by omega)
          have c0 : a < d.size := by omega
          have c1 : a + k < d.size := by omega
          have b6 : (2 = d.size * 2) = False := eq_false (by omega)
          rw [heapPop] at hP
          simp only [go_sem, Nat.reduceLT, e2, show ((0 : Int) ≤ (k : Int)) = True from eq_true (by omega)]
          refine T_drawG hti 20 [17, 19] (.b 0 0 (.b 0 1 (.b 0 2 (.b 0 3 (.b 0 4 (.b 0 5 (.b 0 6 (.b 0 7 (.b 0 8 (.b 0 9 (.b 0 10 (.b 0 11 (.b 0 12 (.b 0 13 (.b 0 14 (.b 0 15 (.b 0 16 (.b 4 17 (.b 0 18 (.b 4 19 (.f) .o) .o) .o) .o) .o) .o) .o) .o) .o) .o) .o) .o) .o) .o) .o) .o) .o) .o) .o) .o) _ _ (by kernel_rfl) (by kernel_rfl) ?_
          simp only [go_sem, Nat.reduceLT, hgi, hi0, W3, ix_r c0, ix_r c1, ix_b c0, ix_b c1, ix_c c0, ix_c c1, spotsC_x, spotsC_y, b6, and_false, if_false]
          rw [swap_fn E (a := a) (b := a + k) (by omega) (by omega)]
          have hsw : (swp E a (a + k)).size = d.size := (swp_size _ _ _).trans hE
          refine callA_false (siftDown_M _ _ _ i cap (swp E a (a + k)) d.size hsw own 0 k a f p q G F cI lt hlt (hgi _) hi0 (by omega) (by omega) (by omega) hm9 hF ((hcmp.set _).nt _ _) _ ?_)
          simp only [go_sem, Nat.reduceLT, hset_hset]
          refine ⟨⟨(k, siftDown lt k a 0 (swp E a (a + k))), by show k ≤ b - a; omega, (siftDown_size _ _ _ _ _ _ (Nat.le_refl _)).trans hsw, hP⟩, by show k < k + 1; omega, ?_⟩
          refine Imp.id (by simp) ?_ ?_
          · simp only [go_sem, Nat.reduceLT, hFl, w64 (n := (k : Int) - 1) (by omega)]
            exact hi0
          · exact impH.base0 (hok_set hok fun k hk => spotsC_flat _ _) (by simp) HExt.rfl
        | zero =>
          rw [heapPop] at hP
          simp only [go_sem, Nat.reduceLT, Int.reduceLE, Int.reduceNeg, Int.reduceSub, show ((0 : Int) ≤ ((0 : Nat) : Int) - 1) = False from eq_false (by omega)]
          rw [hP]
          exact HExt.rfl
end
end Go.Proofs.Ytddnnodkkdjniaa.V

/- What is stained: the program's own walk. -/
namespace Go.Proofs.Ytddnnodkkdjniaa.V

section
variable (cx : Cx) (h : List (Nat × Seg)) (n : Nat)
/-- A function that is asked of a spot. -/
def Asks (cx : Cx) (h : List (Nat × Seg)) (n f a b : Nat) (G F : Nat → SV) (x y : Int) (q : Bool) : Prop :=
  ∀ nt n0 h' n', n ≤ n' → HExt n h h' → CallQ Try.prog ⟨cx.w0, cx.W, nt, n0⟩ f (lst a G ++ [spot x y] ++ lst b F) h' n' (.bool q)
theorem that1_Q (iv : Nat) (f a b : Nat) (G F : Nat → SV) (x y : Int) (q : Bool) (hv : hget h iv = some ⟨1, cl [.fn f a G b F], true, none⟩) (hi : iv < n) (hq : Asks cx h n f a b G F x y q) :
    CallQ Try.prog cx 55 [spot x y, .ptr iv 0] h n (.bool !q) := by
  refine callQ_of_T (P := Try.prog) hti (nt := 8) (rs := [.tmp 3]) rfl rfl Try.call55 Try.func55 rfl _ (by simp only [go_sem, and_self]) (Nat.le_of_ble_eq_true rfl) _ (by first | exact trivial | (refine lt_flat rfl ?_; simp [SV.flat]; done) | simp only [go_sem]) fun hok => ?_
  simp only [go_sem, Nat.reduceLT, hv, hi]
  refine CallQ.A (hq _ _ _ _ (by omega) (by simp only [go_sem, HExt_cons])) ?_
  simp only [go_sem, Nat.reduceLT]
end
end Go.Proofs.Ytddnnodkkdjniaa.V

/- StainOf by the program's own code: the walk. -/
namespace Go.Proofs.Ytddnnodkkdjniaa.V
theorem valid_sides {S : Sh} (hs : Small S) : S.wide = (S.wide.toNat : Int) ∧ S.high = (S.high.toNat : Int) ∧ S.wide.toNat ≤ 8 ∧ S.high.toNat ≤ 8 := by
  unfold Small at hs; omega
section
variable (cx : Cx) (h : List (Nat × Seg)) (n : Nat)
theorem that_E (i : Nat) (S : Sh) (W H : Nat) (hs : hget h i = some (shS S)) (hi : i < n) (hR : ShR S) (hW : S.wide = W) (hH : S.high = H) (hW8 : W ≤ 8) (hH8 : H ≤ 8) (f a b : Nat) (G F : Nat → SV) (hfl : (SV.fn f a G b F).lt n) (p : Int → Int → Bool)
    (hp : ∀ j, j < H * W → Asks cx h n f a b G F ((j % W : Nat) : Int) ((j / W : Nat) : Int) (p ((j % W : Nat) : Int) ((j / W : Nat) : Int))) (K : HK)
    (hK : ∀ V h' n', n ≤ n' → HExt n h h' → HOk n' h' → SpsOut h' n n' V ((cellsL W H).filter fun a => p a.1 a.2) → K V h' n') :
    CallE Try.prog cx 41 [.ptr i 0, .fn f a G b F] h n K := by
  have hWH : H * W ≤ 64 := Nat.mul_le_mul hH8 hW8
  refine CallE.hokE ?_
  refine callE_of_T (P := Try.prog) hti (nt := 9) (rs := [.tmp 4]) rfl rfl Try.call41 Try.func41 rfl _ (by simp only [go_sem, and_self]) (Nat.le_of_ble_eq_true rfl) _ fun hok => ?_
  simp only [go_sem, Nat.reduceLT]
  refine callA_false (cells_E _ _ _ i 0 _ S W H (by simp only [go_sem, hs, hi]) (by omega) (shAt_shC hR) hW hH hW8 hH8 _ fun cap hc1 hc2 => ?_)
  simp only [go_sem, Nat.reduceLT]
  obtain ⟨r, r0, r1⟩ := fst_exP (fun x y => !p x y) (cellsL W H) (H * W)
  refine callA_false (deleteFunc_E _ _ _ (n + 1) (H * W) cap (cellsL W H) _ _ _ _ _ _ (fun x y => !p x y) r (hget_hit _ _ _) (by omega) (cellsL_len W H) (by omega) hc1 rfl rfl (fun k hk => cellsL_cells W H k hk) ?_ r0 r1 (fun j hj nt n0 h' n' hn hb => ?_) _ fun own => ?_)
  · exact fn_lt (xs := []) (ys := [.ptr n 0]) (fun v hv => by cases hv) (fun v hv => by simp at hv; subst hv; show n < _; omega)
  · rw [cellsL_get W H j hj]
    have hx' : HExt n h h' := fun k hk t ht => hb k (by omega) (by omega) t (by simp only [hget]; rw [if_neg (by omega), if_neg (by omega)]; exact ht)
    exact that1_Q _ h' n' n f a b G F _ _ _ (hb n (by omega) (by omega) _ (by simp [hget])) (by omega) fun nt1 n1 h1 n1' hn1 hx1 => hp j hj nt1 n1 h1 n1' (by omega) (hx'.tr hx1 (by omega))
  · simp only [go_sem, Nat.reduceLT]
    simp only [Bool.not_not]
    exact fun hok' => hK _ _ _ (by omega) (by simp only [go_sem, HExt_cons]) hok' (.inr ⟨n + 1, cap, _, rfl, by omega, by omega, hget_hit _ _ _, rfl, rfl, fun k hk => rfl⟩)
theorem codeI_bad {S : Sh} {b : Bool} (h : ¬ Valid S) : codeI S b = 1 := by simp [codeI, validB_false h]
theorem codeI_ok {S : Sh} {b : Bool} (h : Valid S) : codeI S b = if b then 0 else 2 := by simp [codeI, validB_true h]
end
end Go.Proofs.Ytddnnodkkdjniaa.V

/- What is stained, by the reference: sums of dyes, running until nothing is given, cells with dye. -/
namespace Go.Proofs.Ytddnnodkkdjniaa.V
section
variable (cx : Cx) (h : List (Nat × Seg)) (n : Nat)
end
end Go.Proofs.Ytddnnodkkdjniaa.V

/- StainOf by the reference: the walk. -/
namespace Go.Proofs.Ytddnnodkkdjniaa.V
section
variable (cx : Cx) (h : List (Nat × Seg)) (n : Nat)
end
end Go.Proofs.Ytddnnodkkdjniaa.V
