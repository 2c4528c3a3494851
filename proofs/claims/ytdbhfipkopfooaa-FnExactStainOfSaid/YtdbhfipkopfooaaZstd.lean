/- Part 4 of the texts that this proof stands on: a symbolic walk over the program, what its functions and the reference's do, plain laws. -/
import Derived.Test.YtdbhfipkopfooaaZsta
import Derived.Test.YtdbhfipkopfooaaV17
import Derived.Test.YtdbhfipkopfooaaZstc
import Derived.Test.YtdbhfipkopfooaaZstb
set_option linter.all false

/- The law's spots, and lists of spots that are alike. -/
namespace Go.Proofs.Ytdbhfipkopfooaa.V
theorem wr_at {N o k : Nat} {v : SV} {c : Nat → SV} (hk : k < N) : (if o = 0 ∧ 1 = N then cl [v] else upd c o v) k = upd c o v k := by
  split
  · rename_i e
    obtain ⟨rfl, rfl⟩ := e
    obtain rfl : k = 0 := by omega
    rfl
  · rfl
theorem wr_flat {N o : Nat} {v : SV} {c : Nat → SV} (hv : v.flat) (hc : ∀ k, k < N → (c k).flat) : ∀ k, k < N → ((if o = 0 ∧ 1 = N then cl [v] else upd c o v) k).flat := fun k hk => by
  rw [wr_at hk]; unfold upd; split
  · exact hv
  · exact hc k hk
section
variable (cx : Cx) (h : List (Nat × Seg)) (n : Nat)
theorem toSpot_Q (x y : Int) : CallQ Try.prog cx 9 [spot x y] h n (spot x y) := by
  refine callQ_of_T (P := Try.prog) hti (nt := 11) (rs := [.cell 2 39]) rfl rfl Try.call9 Try.func9 rfl _ (by simp only [go_sem, and_self]) (Nat.le_of_ble_eq_true rfl) _ (by first | exact trivial | (refine lt_flat rfl ?_; simp [SV.flat]; done) | simp only [go_sem]) fun hok => ?_
  simp only [go_sem, Nat.reduceBEq, Nat.reduceLT, Nat.reduceLeDiff, Nat.reduceAdd, Nat.reduceMul, Nat.reduceSub, Nat.reduceMod, Nat.reduceDiv, Nat.reduceEqDiff, Int.reduceToNat, reduceIte, reduceCtorEq, Int.reduceLE, Int.reduceLT, Int.reduceEq, Int.reduceNeg, Int.reduceAdd, Int.reduceSub, Int.reduceMul]
theorem eqSpot_Q (x y x' y' : Int) : CallQ Try.prog cx 45 [spot x y, spot x' y'] h n (.bool (decide (x = x' ∧ y = y'))) := by
  refine callQ_of_T (P := Try.prog) hti (nt := 15) (rs := [.tmp 4]) rfl rfl Try.call45 Try.func45 rfl _ (by simp only [go_sem, and_self]) (Nat.le_of_ble_eq_true rfl) _ (by first | exact trivial | (refine lt_flat rfl ?_; simp [SV.flat]; done) | simp only [go_sem]) fun hok => ?_
  simp only [go_sem, Nat.reduceBEq, Nat.reduceLT, Nat.reduceLeDiff, Nat.reduceAdd, Nat.reduceMul, Nat.reduceSub, Nat.reduceMod, Nat.reduceDiv, Nat.reduceEqDiff, Int.reduceToNat, reduceIte, reduceCtorEq, Int.reduceLE, Int.reduceLT, Int.reduceEq, Int.reduceNeg, Int.reduceAdd, Int.reduceSub, Int.reduceMul]
  by_cases hx : x = x'
  · by_cases hy : y = y'
    · simp only [go_sem, Nat.reduceBEq, Nat.reduceLT, Nat.reduceLeDiff, Nat.reduceAdd, Nat.reduceMul, Nat.reduceSub, Nat.reduceMod, Nat.reduceDiv, Nat.reduceEqDiff, Int.reduceToNat, reduceIte, reduceCtorEq, Int.reduceLE, Int.reduceLT, Int.reduceEq, Int.reduceNeg, Int.reduceAdd, Int.reduceSub, Int.reduceMul, hx, hy]
    · simp only [go_sem, Nat.reduceBEq, Nat.reduceLT, Nat.reduceLeDiff, Nat.reduceAdd, Nat.reduceMul, Nat.reduceSub, Nat.reduceMod, Nat.reduceDiv, Nat.reduceEqDiff, Int.reduceToNat, reduceIte, reduceCtorEq, Int.reduceLE, Int.reduceLT, Int.reduceEq, Int.reduceNeg, Int.reduceAdd, Int.reduceSub, Int.reduceMul, hx, hy]
  · simp only [go_sem, Nat.reduceBEq, Nat.reduceLT, Nat.reduceLeDiff, Nat.reduceAdd, Nat.reduceMul, Nat.reduceSub, Nat.reduceMod, Nat.reduceDiv, Nat.reduceEqDiff, Int.reduceToNat, reduceIte, reduceCtorEq, Int.reduceLE, Int.reduceLT, Int.reduceEq, Int.reduceNeg, Int.reduceAdd, Int.reduceSub, Int.reduceMul, hx]
theorem eqSpotS_Q (i cap i' cap' : Nat) (L : List (Int × Int)) (s s' : Seg) (hs : hget h i = some s) (hi : i < n) (hL : SpsAt s L) (hs' : hget h i' = some s') (hi' : i' < n) (hL' : SpsAt s' L) (hm9 : L.length ≤ 1000000000) :
    CallQ Try.prog cx 11 [.sl i 0 L.length cap, .sl i' 0 L.length cap'] h n (.bool true) := by
  have hn := hL.1; have hn' := hL'.1
  refine callQ_of_T (P := Try.prog) hti (nt := 27) (rs := [.tmp 4]) rfl rfl Try.call11 Try.func11 rfl _ (by simp only [go_sem, and_self]) (Nat.le_of_ble_eq_true rfl) _ (by first | exact trivial | (refine lt_flat rfl ?_; simp [SV.flat]; done) | simp only [go_sem]) fun hok => ?_
  simp only [go_sem, Nat.reduceBEq, Nat.reduceLT, Nat.reduceLeDiff, Nat.reduceAdd, Nat.reduceMul, Nat.reduceSub, Nat.reduceMod, Nat.reduceDiv, Nat.reduceEqDiff, Int.reduceToNat, reduceIte, reduceCtorEq, Int.reduceLE, Int.reduceLT, Int.reduceEq, Int.reduceNeg, Int.reduceAdd, Int.reduceSub, Int.reduceMul]
  refine T_lp (ι := { q : Nat // q ≤ L.length }) (fun q => ([(0, .sl i 0 L.length cap), (1, .sl i' 0 L.length cap'), (5, .int .i64 q.1)], h, n)) (fun q => L.length - q.1) ⟨0, by omega⟩ ?_ ?_
  · refine Imp.id (by simp) ?_ (impH.base0 hok (by simp) HExt.rfl)
    simp only [go_sem, Nat.reduceBEq, Nat.reduceLT, Nat.reduceLeDiff, Nat.reduceAdd, Nat.reduceMul, Nat.reduceSub, Nat.reduceMod, Nat.reduceDiv, Nat.reduceEqDiff, Int.reduceToNat, reduceIte, reduceCtorEq, Int.reduceLE, Int.reduceLT, Int.reduceEq, Int.reduceNeg, Int.reduceAdd, Int.reduceSub, Int.reduceMul]
    exact ⟨hi, hi'⟩
  · rintro ⟨q, hq⟩
    simp only [go_sem, Nat.reduceBEq, Nat.reduceLT, Nat.reduceLeDiff, Nat.reduceAdd, Nat.reduceMul, Nat.reduceSub, Nat.reduceMod, Nat.reduceDiv, Nat.reduceEqDiff, Int.reduceToNat, reduceIte, reduceCtorEq, Int.reduceLE, Int.reduceLT, Int.reduceEq, Int.reduceNeg, Int.reduceAdd, Int.reduceSub, Int.reduceMul, decide_eq_true_eq, decide_eq_false_iff_not]
    refine ⟨fun h1 => ?_, fun h1 => ?_⟩
    · have r1 : (0 : Int) ≤ q ∧ (q : Int) < L.length := ⟨by omega, by omega⟩
      have b1 : q * 2 ≤ s.n - 2 := by omega
      have b2 : q * 2 ≤ s'.n - 2 := by omega
      have b3 : 2 ≤ s.n := by omega
      have b4 : 2 ≤ s'.n := by omega
      refine T_draw hti _ _ (by kernel_rfl) (by kernel_rfl) ?_
      simp only [go_sem, Nat.reduceBEq, Nat.reduceLT, Nat.reduceLeDiff, Nat.reduceAdd, Nat.reduceMul, Nat.reduceSub, Nat.reduceMod, Nat.reduceDiv, Nat.reduceEqDiff, Int.reduceToNat, reduceIte, reduceCtorEq, Int.reduceLE, Int.reduceLT, Int.reduceEq, Int.reduceNeg, Int.reduceAdd, Int.reduceSub, Int.reduceMul, hs, hs', r1, b1, b2, b3, b4, hL.x (j := q) (by omega), hL.y (j := q) (by omega), hL'.x (j := q) (by omega), hL'.y (j := q) (by omega)]
      refine ⟨by omega, by omega, (eqSpot_Q _ _ _ _ _ _ _).A ?_⟩
      simp only [go_sem, Nat.reduceBEq, Nat.reduceLT, Nat.reduceLeDiff, Nat.reduceAdd, Nat.reduceMul, Nat.reduceSub, Nat.reduceMod, Nat.reduceDiv, Nat.reduceEqDiff, Int.reduceToNat, reduceIte, reduceCtorEq, Int.reduceLE, Int.reduceLT, Int.reduceEq, Int.reduceNeg, Int.reduceAdd, Int.reduceSub, Int.reduceMul]
      refine ⟨⟨q + 1, by omega⟩, by show L.length - (q + 1) < L.length - q; omega, ?_⟩
      refine Imp.id (by simp) ?_ (impH.base0 hok (by simp) HExt.rfl)
      simp only [go_sem, Nat.reduceBEq, Nat.reduceLT, Nat.reduceLeDiff, Nat.reduceAdd, Nat.reduceMul, Nat.reduceSub, Nat.reduceMod, Nat.reduceDiv, Nat.reduceEqDiff, Int.reduceToNat, reduceIte, reduceCtorEq, Int.reduceLE, Int.reduceLT, Int.reduceEq, Int.reduceNeg, Int.reduceAdd, Int.reduceSub, Int.reduceMul, w64 (n := (q : Int) + 1) (by omega), Int.natCast_add, Int.natCast_one]
      exact ⟨hi, hi'⟩
    · simp only [go_sem, Nat.reduceBEq, Nat.reduceLT, Nat.reduceLeDiff, Nat.reduceAdd, Nat.reduceMul, Nat.reduceSub, Nat.reduceMod, Nat.reduceDiv, Nat.reduceEqDiff, Int.reduceToNat, reduceIte, reduceCtorEq, Int.reduceLE, Int.reduceLT, Int.reduceEq, Int.reduceNeg, Int.reduceAdd, Int.reduceSub, Int.reduceMul]
end
end Go.Proofs.Ytdbhfipkopfooaa.V

/- The law's lists of spots that were made: compared, marked, looked at again. -/
namespace Go.Proofs.Ytdbhfipkopfooaa.V
/-- A list of spots that a call has made. -/
def SpsOut (h : List (Nat × Seg)) (lo n : Nat) (V : SV) (L : List (Int × Int)) : Prop :=
  (V = .nils ∧ L = []) ∨ ∃ i cap s, V = .sl i 0 L.length cap ∧ lo ≤ i ∧ i < n ∧ hget h i = some s ∧ s.rw = true ∧ s.n = L.length * 2 ∧ ∀ k, k < L.length * 2 → s.c k = spotsC L k
theorem SpsOut.ok {h : List (Nat × Seg)} {lo n : Nat} {V : SV} {L : List (Int × Int)} (hA : SpsOut h lo n V L) : V.ok = True := by
  rcases hA with ⟨rfl, rfl⟩ | ⟨i, cap, s, rfl, _⟩ <;> rfl
theorem SpsOut.mono {h h' : List (Nat × Seg)} {lo n n' : Nat} {V : SV} {L : List (Int × Int)} (hA : SpsOut h lo n V L) (hn : n ≤ n') (hx : ∀ i, lo ≤ i → i < n → ∀ t, hget h i = some t → hget h' i = some t) : SpsOut h' lo n' V L := by
  rcases hA with h1 | ⟨i, cap, s, rfl, h1, h2, h3, h4⟩
  · exact .inl h1
  · exact .inr ⟨i, cap, s, rfl, h1, by omega, hx i h1 h2 s h3, h4⟩
theorem SpsOut.ext {h h' : List (Nat × Seg)} {lo n n' : Nat} {V : SV} {L : List (Int × Int)} (hA : SpsOut h lo n V L) (hn : n ≤ n') (hx : HExt n h h') : SpsOut h' lo n' V L := hA.mono hn fun i _ hi => hx i hi
theorem SpsOut.mono' {h : List (Nat × Seg)} {lo lo' n : Nat} {V : SV} {L : List (Int × Int)} (hA : SpsOut h lo n V L) (hl : lo' ≤ lo) : SpsOut h lo' n V L := by
  rcases hA with h1 | ⟨i, cap, s, rfl, h1, h2⟩
  · exact .inl h1
  · exact .inr ⟨i, cap, s, rfl, by omega, h2⟩
/-- Spots that were marked. -/
def SpsHeld (h : List (Nat × Seg)) (lo n : Nat) (V : SV) (len : Nat) : Prop :=
  (V = .nils ∧ len = 0) ∨ ∃ i cap s, V = .sl i 0 len cap ∧ lo ≤ i ∧ i < n ∧ hget h i = some s ∧ s.n = len * 2 ∧ ∀ k : Nat, k < len → s.c (k * 2) = .int .i8 (IntKind.i8.wrap (2 * (k : Int) + 1)) ∧ s.c (k * 2 + 1) = .int .i8 (IntKind.i8.wrap (2 * (k : Int) + 1 + 1))
theorem SpsHeld.ext {h h' : List (Nat × Seg)} {lo n n' : Nat} {V : SV} {len : Nat} (hA : SpsHeld h lo n V len) (hn : n ≤ n') (hx : HExt n h h') : SpsHeld h' lo n' V len := by
  rcases hA with h1 | ⟨i, cap, s, rfl, h1, h2, h3, h4⟩
  · exact .inl h1
  · exact .inr ⟨i, cap, s, rfl, h1, by omega, hx i h2 s h3, h4⟩
theorem upd2_at {N q : Nat} (c : Nat → SV) (v1 v2 : SV) (h : 2 ≤ N) : (upd (if q * 2 = 0 ∧ 1 = N then cl [v1] else upd c (q * 2) v1) (q * 2 + 1) v2) (q * 2) = v1 ∧ (upd (if q * 2 = 0 ∧ 1 = N then cl [v1] else upd c (q * 2) v1) (q * 2 + 1) v2) (q * 2 + 1) = v2 ∧
    ∀ z, z ≠ q * 2 → z ≠ q * 2 + 1 → (upd (if q * 2 = 0 ∧ 1 = N then cl [v1] else upd c (q * 2) v1) (q * 2 + 1) v2) z = c z := by
  have e0 : ¬ (q * 2 = 0 ∧ 1 = N) := by omega
  rw [if_neg e0]
  refine ⟨?_, ?_, fun z h1 h2 => ?_⟩
  · rw [upd_far (by omega)]; simp [upd]
  · simp [upd]
  · rw [upd_far h2, upd_far h1]
section
variable (cx : Cx) (h : List (Nat × Seg)) (n : Nat)
theorem eqSpots_Q (V V' : SV) (L : List (Int × Int)) (lo lo' : Nat) (hA : SpsOut h lo n V L) (hA' : SpsOut h lo' n V' L) (hm9 : L.length ≤ 1000000000) :
    CallQ Try.prog cx 11 [V, V'] h n (.bool true) := by
  rcases hA with ⟨rfl, rfl⟩ | ⟨i, cap, s, rfl, h0, hi, hs, _, hn, hc⟩ <;> rcases hA' with ⟨rfl, hL⟩ | ⟨i', cap', s', rfl, h0', hi', hs', _, hn', hc'⟩
  · refine callQ_of_T (P := Try.prog) hti (nt := 27) (rs := [.tmp 4]) rfl rfl Try.call11 Try.func11 rfl _ (by simp only [go_sem, and_self]) (Nat.le_of_ble_eq_true rfl) _ (by first | exact trivial | (refine lt_flat rfl ?_; simp [SV.flat]; done) | simp only [go_sem]) fun hok => ?_
    simp only [go_sem, Nat.reduceBEq, Nat.reduceLT, Nat.reduceLeDiff, Nat.reduceAdd, Nat.reduceMul, Nat.reduceSub, Nat.reduceMod, Nat.reduceDiv, Nat.reduceEqDiff, Int.reduceToNat, reduceIte, reduceCtorEq, Int.reduceLE, Int.reduceLT, Int.reduceEq, Int.reduceNeg, Int.reduceAdd, Int.reduceSub, Int.reduceMul]
    refine T_unroll 0 ?_
    simp only [go_sem, Nat.reduceBEq, Nat.reduceLT, Nat.reduceLeDiff, Nat.reduceAdd, Nat.reduceMul, Nat.reduceSub, Nat.reduceMod, Nat.reduceDiv, Nat.reduceEqDiff, Int.reduceToNat, reduceIte, reduceCtorEq, Int.reduceLE, Int.reduceLT, Int.reduceEq, Int.reduceNeg, Int.reduceAdd, Int.reduceSub, Int.reduceMul]
  · refine callQ_of_T (P := Try.prog) hti (nt := 27) (rs := [.tmp 4]) rfl rfl Try.call11 Try.func11 rfl _ (by simp only [go_sem, and_self]) (Nat.le_of_ble_eq_true rfl) _ (by first | exact trivial | (refine lt_flat rfl ?_; simp [SV.flat]; done) | simp only [go_sem]) fun hok => ?_
    simp only [go_sem, Nat.reduceBEq, Nat.reduceLT, Nat.reduceLeDiff, Nat.reduceAdd, Nat.reduceMul, Nat.reduceSub, Nat.reduceMod, Nat.reduceDiv, Nat.reduceEqDiff, Int.reduceToNat, reduceIte, reduceCtorEq, Int.reduceLE, Int.reduceLT, Int.reduceEq, Int.reduceNeg, Int.reduceAdd, Int.reduceSub, Int.reduceMul]
    refine T_unroll 0 ?_
    simp only [go_sem, Nat.reduceBEq, Nat.reduceLT, Nat.reduceLeDiff, Nat.reduceAdd, Nat.reduceMul, Nat.reduceSub, Nat.reduceMod, Nat.reduceDiv, Nat.reduceEqDiff, Int.reduceToNat, reduceIte, reduceCtorEq, Int.reduceLE, Int.reduceLT, Int.reduceEq, Int.reduceNeg, Int.reduceAdd, Int.reduceSub, Int.reduceMul]
  · subst hL
    refine callQ_of_T (P := Try.prog) hti (nt := 27) (rs := [.tmp 4]) rfl rfl Try.call11 Try.func11 rfl _ (by simp only [go_sem, and_self]) (Nat.le_of_ble_eq_true rfl) _ (by first | exact trivial | (refine lt_flat rfl ?_; simp [SV.flat]; done) | simp only [go_sem]) fun hok => ?_
    simp only [go_sem, Nat.reduceBEq, Nat.reduceLT, Nat.reduceLeDiff, Nat.reduceAdd, Nat.reduceMul, Nat.reduceSub, Nat.reduceMod, Nat.reduceDiv, Nat.reduceEqDiff, Int.reduceToNat, reduceIte, reduceCtorEq, Int.reduceLE, Int.reduceLT, Int.reduceEq, Int.reduceNeg, Int.reduceAdd, Int.reduceSub, Int.reduceMul]
    refine T_unroll 0 ?_
    simp only [go_sem, Nat.reduceBEq, Nat.reduceLT, Nat.reduceLeDiff, Nat.reduceAdd, Nat.reduceMul, Nat.reduceSub, Nat.reduceMod, Nat.reduceDiv, Nat.reduceEqDiff, Int.reduceToNat, reduceIte, reduceCtorEq, Int.reduceLE, Int.reduceLT, Int.reduceEq, Int.reduceNeg, Int.reduceAdd, Int.reduceSub, Int.reduceMul]
  · exact eqSpotS_Q cx h n i cap i' cap' L s s' hs hi ⟨by omega, hc⟩ hs' hi' ⟨by omega, hc'⟩ hm9
theorem markSpots_E (V : SV) (L : List (Int × Int)) (lo : Nat) (hA : SpsOut h lo n V L) (hm9 : L.length ≤ 1000000000) (K : HK)
    (hK : ∀ h', HOk n h' → (∀ m h0, m ≤ lo → HExt m h0 h → HExt m h0 h') → SpsHeld h' lo n V L.length → K (.int .i64 (2 * L.length + 1)) h' n) :
    CallE Try.prog cx 12 [V, .int .i64 1] h n K := by
  refine CallE.hokE ?_
  rcases hA with ⟨rfl, rfl⟩ | ⟨i, cap, s, rfl, h0, hi, hs, hrw, hn, hc⟩
  · refine callE_of_T (P := Try.prog) hti (nt := 29) (rs := [.tmp 4]) rfl rfl Try.call12 Try.func12 rfl _ (by simp only [go_sem, and_self]) (Nat.le_of_ble_eq_true rfl) _ fun hok => ?_
    simp only [go_sem, Nat.reduceBEq, Nat.reduceLT, Nat.reduceLeDiff, Nat.reduceAdd, Nat.reduceMul, Nat.reduceSub, Nat.reduceMod, Nat.reduceDiv, Nat.reduceEqDiff, Int.reduceToNat, reduceIte, reduceCtorEq, Int.reduceLE, Int.reduceLT, Int.reduceEq, Int.reduceNeg, Int.reduceAdd, Int.reduceSub, Int.reduceMul]
    refine T_unroll 0 ?_
    simp only [go_sem, Nat.reduceBEq, Nat.reduceLT, Nat.reduceLeDiff, Nat.reduceAdd, Nat.reduceMul, Nat.reduceSub, Nat.reduceMod, Nat.reduceDiv, Nat.reduceEqDiff, Int.reduceToNat, reduceIte, reduceCtorEq, Int.reduceLE, Int.reduceLT, Int.reduceEq, Int.reduceNeg, Int.reduceAdd, Int.reduceSub, Int.reduceMul]
    exact fun hok' => hK h hok' (fun m h0 _ hx => hx) (.inl ⟨rfl, rfl⟩)
  · have hfl0 : ∀ k, k < s.n → (s.c k).flat := fun k hk => by rw [hc k (by omega)]; exact spotsC_flat _ _
    refine callE_of_T (P := Try.prog) hti (nt := 29) (rs := [.tmp 4]) rfl rfl Try.call12 Try.func12 rfl _ (by simp only [go_sem, and_self]) (Nat.le_of_ble_eq_true rfl) _ fun hok => ?_
    simp only [go_sem, Nat.reduceBEq, Nat.reduceLT, Nat.reduceLeDiff, Nat.reduceAdd, Nat.reduceMul, Nat.reduceSub, Nat.reduceMod, Nat.reduceDiv, Nat.reduceEqDiff, Int.reduceToNat, reduceIte, reduceCtorEq, Int.reduceLE, Int.reduceLT, Int.reduceEq, Int.reduceNeg, Int.reduceAdd, Int.reduceSub, Int.reduceMul]
    refine T_lp (ι := { w : Nat × (Nat → SV) // w.1 ≤ L.length ∧ (∀ k, k < s.n → (w.2 k).flat) ∧ ∀ k : Nat, k < w.1 → w.2 (k * 2) = .int .i8 (IntKind.i8.wrap (2 * (k : Int) + 1)) ∧ w.2 (k * 2 + 1) = .int .i8 (IntKind.i8.wrap (2 * (k : Int) + 1 + 1)) })
      (fun w => ([(0, .sl i 0 L.length cap), (1, .int .i64 (2 * w.1.1 + 1)), (5, .int .i64 w.1.1)], hset h i ⟨s.n, w.1.2, true, s.own⟩, n)) (fun w => L.length - w.1.1) ⟨(0, s.c), by simp, hfl0, fun k hk => absurd hk (Nat.not_lt_zero k)⟩ ?_ ?_
    · refine Imp.id (by simp) ?_ ?_
      · simp only [go_sem, Nat.reduceBEq, Nat.reduceLT, Nat.reduceLeDiff, Nat.reduceAdd, Nat.reduceMul, Nat.reduceSub, Nat.reduceMod, Nat.reduceDiv, Nat.reduceEqDiff, Int.reduceToNat, reduceIte, reduceCtorEq, Int.reduceLE, Int.reduceLT, Int.reduceEq, Int.reduceNeg, Int.reduceAdd, Int.reduceSub, Int.reduceMul]
        exact hi
      · have e : hset h i ⟨s.n, s.c, true, s.own⟩ = hset h i s := by rw [← hrw]
        rw [e]
        exact impH.set0 hok (Nat.le_refl _) hs (fun j hj hji t ht => ht) hs (SegLe.flat (Nat.le_refl _) id (.inr rfl) fun k hk => ⟨rfl, hfl0 k hk⟩)
    · rintro ⟨⟨q, c⟩, hq, hfl, hmk⟩
      simp only at hq hfl hmk
      simp only [go_sem, Nat.reduceBEq, Nat.reduceLT, Nat.reduceLeDiff, Nat.reduceAdd, Nat.reduceMul, Nat.reduceSub, Nat.reduceMod, Nat.reduceDiv, Nat.reduceEqDiff, Int.reduceToNat, reduceIte, reduceCtorEq, Int.reduceLE, Int.reduceLT, Int.reduceEq, Int.reduceNeg, Int.reduceAdd, Int.reduceSub, Int.reduceMul, decide_eq_true_eq, decide_eq_false_iff_not]
      refine ⟨fun h1 => ?_, fun h1 => ?_⟩
      · have r1 : (0 : Int) ≤ q ∧ (q : Int) < L.length := ⟨by omega, by omega⟩
        have b1 : q * 2 ≤ s.n - 2 := by omega
        have b2 : q * 2 ≤ s.n - 1 := by omega
        have b3 : q * 2 + 1 ≤ s.n - 1 := by omega
        have b4 : q * 2 + 2 ≤ s.n := by omega
        have b5 : 2 ≤ s.n := by omega
        have b6 : 1 ≤ s.n := by omega
        have hg : ∀ c, hget (hset h i ⟨s.n, c, true, s.own⟩) i = some ⟨s.n, c, true, s.own⟩ := fun c => hget_hset_self hs _
        simp only [go_sem, Nat.reduceBEq, Nat.reduceLT, Nat.reduceLeDiff, Nat.reduceAdd, Nat.reduceMul, Nat.reduceSub, Nat.reduceMod, Nat.reduceDiv, Nat.reduceEqDiff, Int.reduceToNat, reduceIte, reduceCtorEq, Int.reduceLE, Int.reduceLT, Int.reduceEq, Int.reduceNeg, Int.reduceAdd, Int.reduceSub, Int.reduceMul, hg, hi, r1, b1, b2, b3, b4, b5, b6, w64 (n := 2 * (q : Int) + 1 + 1) (by omega)]
        have hf1 := wr_flat (N := s.n) (o := q * 2) (v := .int .i8 (IntKind.i8.wrap (2 * (q : Int) + 1))) trivial hfl
        have hf2 : ∀ k, k < s.n → ((upd (if q * 2 = 0 ∧ 1 = s.n then cl [.int .i8 (IntKind.i8.wrap (2 * (q : Int) + 1))] else upd c (q * 2) (.int .i8 (IntKind.i8.wrap (2 * (q : Int) + 1)))) (q * 2 + 1) (.int .i8 (IntKind.i8.wrap (2 * (q : Int) + 1 + 1)))) k).flat := fun k hk => by
          unfold upd; split
          · trivial
          · exact hf1 k hk
        refine ⟨by omega, ⟨(q + 1, _), by show q + 1 ≤ L.length; omega, hf2, fun k hk => ?_⟩, by show L.length - (q + 1) < L.length - q; omega, ?_⟩
        · obtain ⟨u1, u2, u3⟩ := upd2_at (N := s.n) (q := q) c (.int .i8 (IntKind.i8.wrap (2 * (q : Int) + 1))) (.int .i8 (IntKind.i8.wrap (2 * (q : Int) + 1 + 1))) b5
          by_cases hkq : k = q
          · subst hkq; exact ⟨u1, u2⟩
          · have hk' : k < q := by have : k < q + 1 := hk; omega
            exact ⟨(u3 _ (by omega) (by omega)).trans (hmk k hk').1, (u3 _ (by omega) (by omega)).trans (hmk k hk').2⟩
        refine Imp.id (by simp) ?_ (impH.base0 (hok_set hok hf2) (by simp) HExt.rfl)
        simp only [go_sem, Nat.reduceBEq, Nat.reduceLT, Nat.reduceLeDiff, Nat.reduceAdd, Nat.reduceMul, Nat.reduceSub, Nat.reduceMod, Nat.reduceDiv, Nat.reduceEqDiff, Int.reduceToNat, reduceIte, reduceCtorEq, Int.reduceLE, Int.reduceLT, Int.reduceEq, Int.reduceNeg, Int.reduceAdd, Int.reduceSub, Int.reduceMul, w64 (n := (q : Int) + 1) (by omega), w64 (n := 2 * (q : Int) + 1 + 1 + 1) (by omega), Int.natCast_add, Int.natCast_one]
        exact ⟨hi, by rw [show (2 * (q : Int) + 1 + 1 + 1) = 2 * ((q : Int) + 1) + 1 by omega]⟩
      · have hq' : q = L.length := by omega
        subst hq'
        refine fun hok' => hK _ hok' (fun m h0 hm hx j hj t ht => ?_) (.inr ⟨i, cap, _, rfl, h0, hi, hget_hset_self hs _, hn, hmk⟩)
        rw [hget_hset, if_neg (by omega)]; exact hx j hj t ht
theorem heldSpots_Q (V : SV) (len : Nat) (lo : Nat) (hA : SpsHeld h lo n V len) (hm9 : len ≤ 1000000000) :
    CallQ Try.prog cx 13 [V, .int .i64 1] h n (.int .i64 (2 * len + 1)) := by
  rcases hA with ⟨rfl, rfl⟩ | ⟨i, cap, s, rfl, h0, hi, hs, hn, hc⟩
  · refine callQ_of_T (P := Try.prog) hti (nt := 33) (rs := [.tmp 4]) rfl rfl Try.call13 Try.func13 rfl _ (by simp only [go_sem, and_self]) (Nat.le_of_ble_eq_true rfl) _ (by first | exact trivial | (refine lt_flat rfl ?_; simp [SV.flat]; done) | simp only [go_sem]) fun hok => ?_
    simp only [go_sem, Nat.reduceBEq, Nat.reduceLT, Nat.reduceLeDiff, Nat.reduceAdd, Nat.reduceMul, Nat.reduceSub, Nat.reduceMod, Nat.reduceDiv, Nat.reduceEqDiff, Int.reduceToNat, reduceIte, reduceCtorEq, Int.reduceLE, Int.reduceLT, Int.reduceEq, Int.reduceNeg, Int.reduceAdd, Int.reduceSub, Int.reduceMul]
    refine T_unroll 0 ?_
    simp only [go_sem, Nat.reduceBEq, Nat.reduceLT, Nat.reduceLeDiff, Nat.reduceAdd, Nat.reduceMul, Nat.reduceSub, Nat.reduceMod, Nat.reduceDiv, Nat.reduceEqDiff, Int.reduceToNat, reduceIte, reduceCtorEq, Int.reduceLE, Int.reduceLT, Int.reduceEq, Int.reduceNeg, Int.reduceAdd, Int.reduceSub, Int.reduceMul]
  · refine callQ_of_T (P := Try.prog) hti (nt := 33) (rs := [.tmp 4]) rfl rfl Try.call13 Try.func13 rfl _ (by simp only [go_sem, and_self]) (Nat.le_of_ble_eq_true rfl) _ (by first | exact trivial | (refine lt_flat rfl ?_; simp [SV.flat]; done) | simp only [go_sem]) fun hok => ?_
    simp only [go_sem, Nat.reduceBEq, Nat.reduceLT, Nat.reduceLeDiff, Nat.reduceAdd, Nat.reduceMul, Nat.reduceSub, Nat.reduceMod, Nat.reduceDiv, Nat.reduceEqDiff, Int.reduceToNat, reduceIte, reduceCtorEq, Int.reduceLE, Int.reduceLT, Int.reduceEq, Int.reduceNeg, Int.reduceAdd, Int.reduceSub, Int.reduceMul]
    refine T_lp (ι := { q : Nat // q ≤ len }) (fun q => ([(0, .sl i 0 len cap), (1, .int .i64 (2 * q.1 + 1)), (5, .int .i64 q.1)], h, n)) (fun q => len - q.1) ⟨0, by omega⟩ ?_ ?_
    · refine Imp.id (by simp) ?_ (impH.base0 hok (by simp) HExt.rfl)
      simp only [go_sem, Nat.reduceBEq, Nat.reduceLT, Nat.reduceLeDiff, Nat.reduceAdd, Nat.reduceMul, Nat.reduceSub, Nat.reduceMod, Nat.reduceDiv, Nat.reduceEqDiff, Int.reduceToNat, reduceIte, reduceCtorEq, Int.reduceLE, Int.reduceLT, Int.reduceEq, Int.reduceNeg, Int.reduceAdd, Int.reduceSub, Int.reduceMul]
      exact hi
    · rintro ⟨q, hq⟩
      simp only [go_sem, Nat.reduceBEq, Nat.reduceLT, Nat.reduceLeDiff, Nat.reduceAdd, Nat.reduceMul, Nat.reduceSub, Nat.reduceMod, Nat.reduceDiv, Nat.reduceEqDiff, Int.reduceToNat, reduceIte, reduceCtorEq, Int.reduceLE, Int.reduceLT, Int.reduceEq, Int.reduceNeg, Int.reduceAdd, Int.reduceSub, Int.reduceMul, decide_eq_true_eq, decide_eq_false_iff_not]
      refine ⟨fun h1 => ?_, fun h1 => ?_⟩
      · have r1 : (0 : Int) ≤ q ∧ (q : Int) < len := ⟨by omega, by omega⟩
        have b1 : q * 2 ≤ s.n - 2 := by omega
        have b2 : q * 2 ≤ s.n - 1 := by omega
        have b3 : q * 2 + 1 ≤ s.n - 1 := by omega
        have b5 : 2 ≤ s.n := by omega
        have b6 : 1 ≤ s.n := by omega
        obtain ⟨e1, e2⟩ := hc q (by omega)
        simp only [go_sem, Nat.reduceBEq, Nat.reduceLT, Nat.reduceLeDiff, Nat.reduceAdd, Nat.reduceMul, Nat.reduceSub, Nat.reduceMod, Nat.reduceDiv, Nat.reduceEqDiff, Int.reduceToNat, reduceIte, reduceCtorEq, Int.reduceLE, Int.reduceLT, Int.reduceEq, Int.reduceNeg, Int.reduceAdd, Int.reduceSub, Int.reduceMul, hs, hi, r1, b1, b2, b3, b5, b6, e1, e2, w64 (n := 2 * (q : Int) + 1 + 1) (by omega)]
        refine ⟨by omega, by omega, ⟨q + 1, by omega⟩, by show len - (q + 1) < len - q; omega, ?_⟩
        refine Imp.id (by simp) ?_ (impH.base0 hok (by simp) HExt.rfl)
        simp only [go_sem, Nat.reduceBEq, Nat.reduceLT, Nat.reduceLeDiff, Nat.reduceAdd, Nat.reduceMul, Nat.reduceSub, Nat.reduceMod, Nat.reduceDiv, Nat.reduceEqDiff, Int.reduceToNat, reduceIte, reduceCtorEq, Int.reduceLE, Int.reduceLT, Int.reduceEq, Int.reduceNeg, Int.reduceAdd, Int.reduceSub, Int.reduceMul, w64 (n := (q : Int) + 1) (by omega), w64 (n := 2 * (q : Int) + 1 + 1 + 1) (by omega), Int.natCast_add, Int.natCast_one]
        exact ⟨hi, by rw [show (2 * (q : Int) + 1 + 1 + 1) = 2 * ((q : Int) + 1) + 1 by omega]⟩
      · have hq' : q = len := by omega
        subst hq'
        simp only [go_sem, Nat.reduceBEq, Nat.reduceLT, Nat.reduceLeDiff, Nat.reduceAdd, Nat.reduceMul, Nat.reduceSub, Nat.reduceMod, Nat.reduceDiv, Nat.reduceEqDiff, Int.reduceToNat, reduceIte, reduceCtorEq, Int.reduceLE, Int.reduceLT, Int.reduceEq, Int.reduceNeg, Int.reduceAdd, Int.reduceSub, Int.reduceMul]
end
end Go.Proofs.Ytdbhfipkopfooaa.V

/- What is stained: the program's own walk. -/
namespace Go.Proofs.Ytdbhfipkopfooaa.V

theorem drop_good {S : Sh} {x y ink amount water : Int} (hG : Good S) (ha : 0 ≤ amount ∧ amount ≤ 1000) (hw : 0 ≤ water ∧ water ≤ 200) : Good (S.drop x y ink amount water) :=
  ⟨hG.small, fun y' x' a b c d => by
    show 0 ≤ (if y' = y ∧ x' = x then water else S.wet y' x') ∧ (if y' = y ∧ x' = x then water else S.wet y' x') ≤ 200
    split
    · exact hw
    · exact hG.wet y' x' a b c d, fun y' x' i' a b c d e f => by
    show 0 ≤ (if y' = y ∧ x' = x ∧ i' = ink then amount else S.dye y' x' i') ∧ (if y' = y ∧ x' = x ∧ i' = ink then amount else S.dye y' x' i') ≤ 1000
    split
    · exact ha
    · exact hG.dye y' x' i' a b c d e f⟩
theorem dropD_blank {S : Sh} {x y ink amount water : Int} (hw : waxB S x y = false) (h1 : S.wet y x = 0) (h2 : S.dye y x ink = 0) (ha : amount ≤ 1000) (hwa : water ≤ 200) : dropC S x y ink amount water = 0 ∧ dropD S x y ink amount water = S.drop x y ink amount water := by
  have e : dropC S x y ink amount water = 0 := by
    unfold dropC
    rw [if_neg (by rw [hw]; simp), if_neg (by rw [h1, h2]; omega)]
  refine ⟨e, ?_⟩
  unfold dropD Sh.drop
  rw [if_pos e, h1, h2, Int.zero_add, Int.zero_add]
section
variable (cx : Cx) (h : List (Nat × Seg)) (n : Nat)
theorem runC_E (i : Nat) (S : Sh) (W H : Nat) (hs : hget h i = some (shS S)) (hi : i < n) (hR : ShR S) (hG : Good S) (hW : S.wide = W) (hH : S.high = H) (K : HK)
    (hK : ShR (runS S W H).1 → K (.int .i64 (runS S W H).2) (hset h i (shS (runS S W H).1)) n) : CallE Try.prog cx 96 [.ptr i 0] h n K := by
  refine (run_E cx h n i 0 (shS S) S W H hs hi rfl (shAt_shC hR) hG hW hH (fun r' h' n' => r' = .int .i64 (runS S W H).2 ∧ n' = n ∧ ∃ c', ShAt ⟨266, c', true, none⟩ 0 (runS S W H).1 ∧ h' = hset h i ⟨266, c', true, none⟩) (fun c' hc' _ => ⟨rfl, rfl, c', hc', rfl⟩)).imp0 ?_
  rintro hok r' h1 n1 ⟨rfl, rfl, c', hS, rfl⟩
  have hF : ShF c' (runS S W H).1 := by simpa using hS.2
  exact ⟨_, hset h i (shS (runS S W H).1), n1, Nat.le_refl _, by rw [ren_nil], (show (SV.int .i64 (runS S W H).2).lt n1 from trivial), impH.set0 hok (Nat.le_refl _) hs (HBut.set i n1 h _) (hget_hset_self hs _) (SegLe.flat (Nat.le_refl _) id (.inr rfl) fun k hk => ⟨hF.eqC hk, shC_flat _ k⟩), hK hF.R⟩
theorem runUntil_E (i : Nat) (S : Sh) (W H : Nat) (hs : hget h i = some (shS S)) (hi : i < n) (hR : ShR S) (hG : Good S) (hW : S.wide = W) (hH : S.high = H) (K : HK)
    (hK : K (.tup 2 (cl [.int .i64 (untilN W H 500 0 S).2.1, .int .i64 (if (untilN W H 500 0 S).2.2 then 0 else 7)])) (hset h i (shS (untilN W H 500 0 S).1)) n) : CallE Try.prog cx 73 [.ptr i 0] h n K := by
  refine CallE.to _ _ (by simp only [go_sem, Nat.reduceBEq, Nat.reduceLT, Nat.reduceLeDiff, Nat.reduceAdd, Nat.reduceMul, Nat.reduceSub, Nat.reduceMod, Nat.reduceDiv, Nat.reduceEqDiff, Int.reduceToNat, reduceIte, reduceCtorEq, Int.reduceLE, Int.reduceLT, Int.reduceEq, Int.reduceNeg, Int.reduceAdd, Int.reduceSub, Int.reduceMul]) (fun hok => hok_set hok fun k hk => shC_flat _ _) hK ?_
  refine callE_of_T (P := Try.prog) hti (nt := 13) (rs := [.tmp 2, .tmp 3]) rfl rfl Try.call73 Try.func73 rfl _ (by simp only [go_sem, and_self]) (Nat.le_of_ble_eq_true rfl) _ fun hok => ?_
  simp only [go_sem, Nat.reduceBEq, Nat.reduceLT, Nat.reduceLeDiff, Nat.reduceAdd, Nat.reduceMul, Nat.reduceSub, Nat.reduceMod, Nat.reduceDiv, Nat.reduceEqDiff, Int.reduceToNat, reduceIte, reduceCtorEq, Int.reduceLE, Int.reduceLT, Int.reduceEq, Int.reduceNeg, Int.reduceAdd, Int.reduceSub, Int.reduceMul]
  refine T_lp (ι := { p : Nat × Sh // p.1 ≤ 500 ∧ ShR p.2 ∧ Good p.2 ∧ p.2.wide = W ∧ p.2.high = H ∧ untilN W H (500 - p.1) p.1 p.2 = untilN W H 500 0 S })
    (fun p => ([(0, .ptr i 0), (4, .int .i64 p.1.1)], hset h i (shS p.1.2), n)) (fun p => 500 - p.1.1) ⟨(0, S), by simp, hR, hG, hW, hH, rfl⟩ ?_ ?_
  · refine Imp.id (by simp) ?_ ?_
    · simp only [go_sem, Nat.reduceBEq, Nat.reduceLT, Nat.reduceLeDiff, Nat.reduceAdd, Nat.reduceMul, Nat.reduceSub, Nat.reduceMod, Nat.reduceDiv, Nat.reduceEqDiff, Int.reduceToNat, reduceIte, reduceCtorEq, Int.reduceLE, Int.reduceLT, Int.reduceEq, Int.reduceNeg, Int.reduceAdd, Int.reduceSub, Int.reduceMul]
      exact hi
    · rw [hset_self hs]; exact impH.base0 hok (by simp) HExt.rfl
  · rintro ⟨⟨k, S1⟩, hk, hR1, hG1, hW1, hH1, he⟩
    simp only at hk hR1 hG1 hW1 hH1 he
    simp only [go_sem, Nat.reduceBEq, Nat.reduceLT, Nat.reduceLeDiff, Nat.reduceAdd, Nat.reduceMul, Nat.reduceSub, Nat.reduceMod, Nat.reduceDiv, Nat.reduceEqDiff, Int.reduceToNat, reduceIte, reduceCtorEq, Int.reduceLE, Int.reduceLT, Int.reduceEq, Int.reduceNeg, Int.reduceAdd, Int.reduceSub, Int.reduceMul]
    refine callA_false (runC_E _ _ _ i S1 W H (hget_hset_self hs _) (by omega) hR1 hG1 hW1 hH1 _ fun hR2 => ?_)
    obtain ⟨g1, g2, g3, g4⟩ := runS_good hG1 hW1 hH1
    by_cases h0 : (runS S1 W H).2 = 0
    · rw [untilN_stop h0] at he
      have hst := runS_still h0
      simp only [go_sem, Nat.reduceBEq, Nat.reduceLT, Nat.reduceLeDiff, Nat.reduceAdd, Nat.reduceMul, Nat.reduceSub, Nat.reduceMod, Nat.reduceDiv, Nat.reduceEqDiff, Int.reduceToNat, reduceIte, reduceCtorEq, Int.reduceLE, Int.reduceLT, Int.reduceEq, Int.reduceNeg, Int.reduceAdd, Int.reduceSub, Int.reduceMul, h0, ← he, hst, if_true]
    · by_cases h5 : k = 500
      · subst h5
        rw [Nat.sub_self, untilN_end h0] at he
        simp only [go_sem, Nat.reduceBEq, Nat.reduceLT, Nat.reduceLeDiff, Nat.reduceAdd, Nat.reduceMul, Nat.reduceSub, Nat.reduceMod, Nat.reduceDiv, Nat.reduceEqDiff, Int.reduceToNat, reduceIte, reduceCtorEq, Int.reduceLE, Int.reduceLT, Int.reduceEq, Int.reduceNeg, Int.reduceAdd, Int.reduceSub, Int.reduceMul, h0, ← he]
      · have hk5 : ¬ ((k : Int) = 500) := by omega
        rw [show 500 - k = (500 - (k + 1)) + 1 by omega, untilN_next h0] at he
        simp only [go_sem, Nat.reduceBEq, Nat.reduceLT, Nat.reduceLeDiff, Nat.reduceAdd, Nat.reduceMul, Nat.reduceSub, Nat.reduceMod, Nat.reduceDiv, Nat.reduceEqDiff, Int.reduceToNat, reduceIte, reduceCtorEq, Int.reduceLE, Int.reduceLT, Int.reduceEq, Int.reduceNeg, Int.reduceAdd, Int.reduceSub, Int.reduceMul, h0, hk5]
        refine ⟨⟨(k + 1, (runS S1 W H).1), by show k + 1 ≤ 500; omega, hR2, g1, g2.wide.trans hW1, g2.high.trans hH1, he⟩, by show 500 - (k + 1) < 500 - k; omega, ?_⟩
        refine Imp.id (by simp) ?_ ?_
        · simp only [go_sem, Nat.reduceBEq, Nat.reduceLT, Nat.reduceLeDiff, Nat.reduceAdd, Nat.reduceMul, Nat.reduceSub, Nat.reduceMod, Nat.reduceDiv, Nat.reduceEqDiff, Int.reduceToNat, reduceIte, reduceCtorEq, Int.reduceLE, Int.reduceLT, Int.reduceEq, Int.reduceNeg, Int.reduceAdd, Int.reduceSub, Int.reduceMul, w64 (n := (k : Int) + 1) (by omega), Int.natCast_add, Int.natCast_one]
          exact hi
        · exact impH.base0 (hok_set hok fun k hk => shC_flat _ _) (by simp) HExt.rfl
theorem stained_Q (S : Sh) (W H : Nat) (x y ink amount water : Int) (hR : ShR S) (hG : Good S) (hW : S.wide = W) (hH : S.high = H) (hx : 0 ≤ x) (hx8 : x < 8) (hy : 0 ≤ y) (hy8 : y < 8)
    (hk0 : 0 ≤ ink) (hk3 : ink < 3) (ha : 0 ≤ amount ∧ amount ≤ 1000) (hw : 0 ≤ water ∧ water ≤ 200) (hwx : waxB S x y = false) (h1 : S.wet y x = 0) (h2 : S.dye y x ink = 0) :
    CallQ Try.prog cx 41 [.agg 266 (shC S), spot x y, .int .i64 ink, .int .i64 amount, .int .i64 water] h n
      (.tup 2 (cl [.agg 266 (shC (untilN W H 500 0 (S.drop x y ink amount water)).1), .int .i64 (if (untilN W H 500 0 (S.drop x y ink amount water)).2.2 then 0 else 7)])) := by
  obtain ⟨e1, e2⟩ := dropD_blank (amount := amount) (water := water) hwx h1 h2 ha.2 hw.2
  have hGd := drop_good (x := x) (y := y) (ink := ink) hG ha hw
  have hRd : ShR (S.drop x y ink amount water) := (hR.setWet (by omega)).setDye (by omega)
  refine callQ_of_T (P := Try.prog) hti (nt := 25) (rs := [.cell 10 37, .tmp 11]) rfl rfl Try.call41 Try.func41 rfl _ (by simp only [go_sem, and_self]) (Nat.le_of_ble_eq_true rfl) _ (by first | exact trivial | (refine lt_flat rfl ?_; simp [SV.flat]; done) | simp only [go_sem]) fun hok => ?_
  simp only [go_sem, Nat.reduceBEq, Nat.reduceLT, Nat.reduceLeDiff, Nat.reduceAdd, Nat.reduceMul, Nat.reduceSub, Nat.reduceMod, Nat.reduceDiv, Nat.reduceEqDiff, Int.reduceToNat, reduceIte, reduceCtorEq, Int.reduceLE, Int.reduceLT, Int.reduceEq, Int.reduceNeg, Int.reduceAdd, Int.reduceSub, Int.reduceMul]
  refine callA_false (drop_E _ _ _ n S x y ink amount water (by simp only [go_sem, Nat.reduceBEq, Nat.reduceLT, Nat.reduceLeDiff, Nat.reduceAdd, Nat.reduceMul, Nat.reduceSub, Nat.reduceMod, Nat.reduceDiv, Nat.reduceEqDiff, Int.reduceToNat, reduceIte, reduceCtorEq, Int.reduceLE, Int.reduceLT, Int.reduceEq, Int.reduceNeg, Int.reduceAdd, Int.reduceSub, Int.reduceMul]) (by omega) hR hG hx hx8 hy hy8 hk0 hk3 ha hw _ ?_)
  rw [e1, e2]
  simp only [go_sem, Nat.reduceBEq, Nat.reduceLT, Nat.reduceLeDiff, Nat.reduceAdd, Nat.reduceMul, Nat.reduceSub, Nat.reduceMod, Nat.reduceDiv, Nat.reduceEqDiff, Int.reduceToNat, reduceIte, reduceCtorEq, Int.reduceLE, Int.reduceLT, Int.reduceEq, Int.reduceNeg, Int.reduceAdd, Int.reduceSub, Int.reduceMul]
  refine callA_false (runUntil_E _ _ _ n (S.drop x y ink amount water) W H (by simp only [go_sem, Nat.reduceBEq, Nat.reduceLT, Nat.reduceLeDiff, Nat.reduceAdd, Nat.reduceMul, Nat.reduceSub, Nat.reduceMod, Nat.reduceDiv, Nat.reduceEqDiff, Int.reduceToNat, reduceIte, reduceCtorEq, Int.reduceLE, Int.reduceLT, Int.reduceEq, Int.reduceNeg, Int.reduceAdd, Int.reduceSub, Int.reduceMul]) (by omega) hRd hGd hW hH _ ?_)
  simp only [go_sem, Nat.reduceBEq, Nat.reduceLT, Nat.reduceLeDiff, Nat.reduceAdd, Nat.reduceMul, Nat.reduceSub, Nat.reduceMod, Nat.reduceDiv, Nat.reduceEqDiff, Int.reduceToNat, reduceIte, reduceCtorEq, Int.reduceLE, Int.reduceLT, Int.reduceEq, Int.reduceNeg, Int.reduceAdd, Int.reduceSub, Int.reduceMul]
/-- A function that is asked of a spot. -/
def Asks (cx : Cx) (h : List (Nat × Seg)) (n f a b : Nat) (G F : Nat → SV) (x y : Int) (q : Bool) : Prop :=
  ∀ nt n0 h' n', n ≤ n' → HExt n h h' → CallQ Try.prog ⟨cx.w0, cx.W, nt, n0⟩ f (lst a G ++ [spot x y] ++ lst b F) h' n' (.bool q)
theorem that1_Q (iv : Nat) (f a b : Nat) (G F : Nat → SV) (x y : Int) (q : Bool) (hv : hget h iv = some ⟨1, cl [.fn f a G b F], true, none⟩) (hi : iv < n) (hq : Asks cx h n f a b G F x y q) :
    CallQ Try.prog cx 76 [spot x y, .ptr iv 0] h n (.bool !q) := by
  refine callQ_of_T (P := Try.prog) hti (nt := 8) (rs := [.tmp 3]) rfl rfl Try.call76 Try.func76 rfl _ (by simp only [go_sem, and_self]) (Nat.le_of_ble_eq_true rfl) _ (by first | exact trivial | (refine lt_flat rfl ?_; simp [SV.flat]; done) | simp only [go_sem]) fun hok => ?_
  simp only [go_sem, Nat.reduceBEq, Nat.reduceLT, Nat.reduceLeDiff, Nat.reduceAdd, Nat.reduceMul, Nat.reduceSub, Nat.reduceMod, Nat.reduceDiv, Nat.reduceEqDiff, Int.reduceToNat, reduceIte, reduceCtorEq, Int.reduceLE, Int.reduceLT, Int.reduceEq, Int.reduceNeg, Int.reduceAdd, Int.reduceSub, Int.reduceMul, hv, hi]
  refine CallQ.A (hq _ _ _ _ (by omega) (by simp only [go_sem, Nat.reduceBEq, Nat.reduceLT, Nat.reduceLeDiff, Nat.reduceAdd, Nat.reduceMul, Nat.reduceSub, Nat.reduceMod, Nat.reduceDiv, Nat.reduceEqDiff, Int.reduceToNat, reduceIte, reduceCtorEq, Int.reduceLE, Int.reduceLT, Int.reduceEq, Int.reduceNeg, Int.reduceAdd, Int.reduceSub, Int.reduceMul, HExt_cons])) ?_
  simp only [go_sem, Nat.reduceBEq, Nat.reduceLT, Nat.reduceLeDiff, Nat.reduceAdd, Nat.reduceMul, Nat.reduceSub, Nat.reduceMod, Nat.reduceDiv, Nat.reduceEqDiff, Int.reduceToNat, reduceIte, reduceCtorEq, Int.reduceLE, Int.reduceLT, Int.reduceEq, Int.reduceNeg, Int.reduceAdd, Int.reduceSub, Int.reduceMul]
end
end Go.Proofs.Ytdbhfipkopfooaa.V

/- StainOf by the program's own code: the walk. -/
namespace Go.Proofs.Ytdbhfipkopfooaa.V
theorem valid_sides {S : Sh} (hs : Small S) : S.wide = (S.wide.toNat : Int) ∧ S.high = (S.high.toNat : Int) ∧ S.wide.toNat ≤ 8 ∧ S.high.toNat ≤ 8 := by
  unfold Small at hs; omega
section
variable (cx : Cx) (h : List (Nat × Seg)) (n : Nat)
theorem stain1_Q (iv : Nat) (S : Sh) (x y : Int) (hv : hget h iv = some (shS S)) (hi : iv < n) (hR : ShR S) (hG : Good S) (hx : 0 ≤ x) (hx8 : x < 8) (hy : 0 ≤ y) (hy8 : y < 8) :
    CallQ Try.prog cx 43 [spot x y, .ptr iv 0] h n (.bool (decide (1 ≤ darkB S x y))) := by
  refine callQ_of_T (P := Try.prog) hti (nt := 7) (rs := [.tmp 3]) rfl rfl Try.call43 Try.func43 rfl _ (by simp only [go_sem, and_self]) (Nat.le_of_ble_eq_true rfl) _ (by first | exact trivial | (refine lt_flat rfl ?_; simp [SV.flat]; done) | simp only [go_sem]) fun hok => ?_
  simp only [go_sem, Nat.reduceBEq, Nat.reduceLT, Nat.reduceLeDiff, Nat.reduceAdd, Nat.reduceMul, Nat.reduceSub, Nat.reduceMod, Nat.reduceDiv, Nat.reduceEqDiff, Int.reduceToNat, reduceIte, reduceCtorEq, Int.reduceLE, Int.reduceLT, Int.reduceEq, Int.reduceNeg, Int.reduceAdd, Int.reduceSub, Int.reduceMul]
  refine (dark_Q _ _ _ iv 0 _ S x y (by simp only [go_sem, Nat.reduceBEq, Nat.reduceLT, Nat.reduceLeDiff, Nat.reduceAdd, Nat.reduceMul, Nat.reduceSub, Nat.reduceMod, Nat.reduceDiv, Nat.reduceEqDiff, Int.reduceToNat, reduceIte, reduceCtorEq, Int.reduceLE, Int.reduceLT, Int.reduceEq, Int.reduceNeg, Int.reduceAdd, Int.reduceSub, Int.reduceMul, hv, hi]) (by omega) (shAt_shC hR) hG hx hx8 hy hy8).A ?_
  simp only [go_sem, Nat.reduceBEq, Nat.reduceLT, Nat.reduceLeDiff, Nat.reduceAdd, Nat.reduceMul, Nat.reduceSub, Nat.reduceMod, Nat.reduceDiv, Nat.reduceEqDiff, Int.reduceToNat, reduceIte, reduceCtorEq, Int.reduceLE, Int.reduceLT, Int.reduceEq, Int.reduceNeg, Int.reduceAdd, Int.reduceSub, Int.reduceMul]
  congr 1
theorem that_E (i : Nat) (S : Sh) (W H : Nat) (hs : hget h i = some (shS S)) (hi : i < n) (hR : ShR S) (hW : S.wide = W) (hH : S.high = H) (hW8 : W ≤ 8) (hH8 : H ≤ 8) (f a b : Nat) (G F : Nat → SV) (hfl : (SV.fn f a G b F).lt n) (p : Int → Int → Bool)
    (hp : ∀ j, j < H * W → Asks cx h n f a b G F ((j % W : Nat) : Int) ((j / W : Nat) : Int) (p ((j % W : Nat) : Int) ((j / W : Nat) : Int))) (K : HK)
    (hK : ∀ V h' n', n ≤ n' → HExt n h h' → HOk n' h' → SpsOut h' n n' V ((cellsL W H).filter fun a => p a.1 a.2) → K V h' n') :
    CallE Try.prog cx 42 [.ptr i 0, .fn f a G b F] h n K := by
  have hWH : H * W ≤ 64 := Nat.mul_le_mul hH8 hW8
  refine CallE.hokE ?_
  refine callE_of_T (P := Try.prog) hti (nt := 9) (rs := [.tmp 4]) rfl rfl Try.call42 Try.func42 rfl _ (by simp only [go_sem, and_self]) (Nat.le_of_ble_eq_true rfl) _ fun hok => ?_
  simp only [go_sem, Nat.reduceBEq, Nat.reduceLT, Nat.reduceLeDiff, Nat.reduceAdd, Nat.reduceMul, Nat.reduceSub, Nat.reduceMod, Nat.reduceDiv, Nat.reduceEqDiff, Int.reduceToNat, reduceIte, reduceCtorEq, Int.reduceLE, Int.reduceLT, Int.reduceEq, Int.reduceNeg, Int.reduceAdd, Int.reduceSub, Int.reduceMul]
  refine callA_false (cells_E _ _ _ i 0 _ S W H (by simp only [go_sem, Nat.reduceBEq, Nat.reduceLT, Nat.reduceLeDiff, Nat.reduceAdd, Nat.reduceMul, Nat.reduceSub, Nat.reduceMod, Nat.reduceDiv, Nat.reduceEqDiff, Int.reduceToNat, reduceIte, reduceCtorEq, Int.reduceLE, Int.reduceLT, Int.reduceEq, Int.reduceNeg, Int.reduceAdd, Int.reduceSub, Int.reduceMul, hs, hi]) (by omega) (shAt_shC hR) hW hH hW8 hH8 _ fun cap hc1 hc2 => ?_)
  simp only [go_sem, Nat.reduceBEq, Nat.reduceLT, Nat.reduceLeDiff, Nat.reduceAdd, Nat.reduceMul, Nat.reduceSub, Nat.reduceMod, Nat.reduceDiv, Nat.reduceEqDiff, Int.reduceToNat, reduceIte, reduceCtorEq, Int.reduceLE, Int.reduceLT, Int.reduceEq, Int.reduceNeg, Int.reduceAdd, Int.reduceSub, Int.reduceMul]
  obtain ⟨r, r0, r1⟩ := fst_ex (fun x y => !p x y) (cellsL W H) (H * W)
  refine callA_false (deleteFunc_E _ _ _ (n + 1) (H * W) cap (cellsL W H) _ _ _ _ _ _ (fun x y => !p x y) r (hget_hit _ _ _) (by omega) (cellsL_len W H) (by omega) hc1 rfl rfl (fun k hk => cellsL_cells W H k hk) ?_ r0 r1 (fun j hj nt n0 h' n' hn hb => ?_) _ fun own => ?_)
  · exact fn_lt (xs := []) (ys := [.ptr n 0]) (fun v hv => by cases hv) (fun v hv => by simp at hv; subst hv; show n < _; omega)
  · rw [cellsL_get W H j hj]
    have hx' : HExt n h h' := fun k hk t ht => hb k (by omega) (by omega) t (by simp only [hget]; rw [if_neg (by omega), if_neg (by omega)]; exact ht)
    exact that1_Q _ h' n' n f a b G F _ _ _ (hb n (by omega) (by omega) _ (by simp [hget])) (by omega) fun nt1 n1 h1 n1' hn1 hx1 => hp j hj nt1 n1 h1 n1' (by omega) (hx'.tr hx1 (by omega))
  · simp only [go_sem, Nat.reduceBEq, Nat.reduceLT, Nat.reduceLeDiff, Nat.reduceAdd, Nat.reduceMul, Nat.reduceSub, Nat.reduceMod, Nat.reduceDiv, Nat.reduceEqDiff, Int.reduceToNat, reduceIte, reduceCtorEq, Int.reduceLE, Int.reduceLT, Int.reduceEq, Int.reduceNeg, Int.reduceAdd, Int.reduceSub, Int.reduceMul]
    simp only [Bool.not_not]
    exact fun hok' => hK _ _ _ (by omega) (by simp only [go_sem, Nat.reduceBEq, Nat.reduceLT, Nat.reduceLeDiff, Nat.reduceAdd, Nat.reduceMul, Nat.reduceSub, Nat.reduceMod, Nat.reduceDiv, Nat.reduceEqDiff, Int.reduceToNat, reduceIte, reduceCtorEq, Int.reduceLE, Int.reduceLT, Int.reduceEq, Int.reduceNeg, Int.reduceAdd, Int.reduceSub, Int.reduceMul, HExt_cons]) hok' (.inr ⟨n + 1, cap, _, rfl, by omega, by omega, hget_hit _ _ _, rfl, rfl, fun k hk => rfl⟩)
theorem codeI_bad {S : Sh} {b : Bool} (h : ¬ Valid S) : codeI S b = 1 := by simp [codeI, validB_false h]
theorem codeI_ok {S : Sh} {b : Bool} (h : Valid S) : codeI S b = if b then 0 else 2 := by simp [codeI, validB_true h]
def dropB (S : Sh) (x y ink amount water : Int) : Bool := hasB S x y && decide (0 ≤ ink ∧ ink ≤ 2) && decide (0 ≤ amount ∧ amount ≤ 1000) && decide (0 ≤ water ∧ water ≤ 200)
theorem dropB_iff {S : Sh} {x y ink amount water : Int} : dropB S x y ink amount water = true ↔ hasB S x y = true ∧ (0 ≤ ink ∧ ink ≤ 2) ∧ (0 ≤ amount ∧ amount ≤ 1000) ∧ (0 ≤ water ∧ water ≤ 200) := by
  simp only [dropB, Bool.and_eq_true, decide_eq_true_eq, and_assoc]
theorem stainR_bad {S : Sh} {x y ink amount water : Int} (h : ¬ Valid S) : stainR S x y ink amount water = ([], 1) := by unfold stainR; rw [if_neg h]
theorem stainR_range {S : Sh} {x y ink amount water : Int} (h : Valid S) (h2 : ¬ dropB S x y ink amount water = true) : stainR S x y ink amount water = ([], 2) := by
  rw [dropB_iff] at h2; unfold stainR; rw [if_pos h, if_neg h2]
theorem stainR_state {S : Sh} {x y ink amount water : Int} (h : Valid S) (h2 : dropB S x y ink amount water = true) (h3 : ¬ (Blank S S.wide.toNat S.high.toNat ∧ waxB S x y = false)) : stainR S x y ink amount water = ([], 4) := by
  rw [dropB_iff] at h2; unfold stainR; rw [if_pos h, if_pos h2, if_neg h3]
theorem stainR_run {S : Sh} {x y ink amount water : Int} (h : Valid S) (h2 : dropB S x y ink amount water = true) (h3 : Blank S S.wide.toNat S.high.toNat ∧ waxB S x y = false) :
    stainR S x y ink amount water = if (untilN S.wide.toNat S.high.toNat 500 0 (S.drop x y ink amount water)).2.2 then (dyedL (untilN S.wide.toNat S.high.toNat 500 0 (S.drop x y ink amount water)).1 S.wide.toNat S.high.toNat 1, 0) else ([], 7) := by
  rw [dropB_iff] at h2; unfold stainR; rw [if_pos h, if_pos h2, if_pos h3]
theorem stain_E (S : Sh) (x y ink amount water : Int) (hR : ShR S) (K : HK)
    (hK : ∀ V h' n', n ≤ n' → HExt n h h' → HOk n' h' → SpsOut h' n n' V (stainR S x y ink amount water).1 → K (.tup 2 (cl [V, .int .i64 (stainR S x y ink amount water).2])) h' n') :
    CallE Try.prog cx 10 [.agg 266 (shC S), spot x y, .int .i64 ink, .int .i64 amount, .int .i64 water] h n K := by
  refine CallE.hokE ?_
  have bad : ∀ (c : Int) (h' : List (Nat × Seg)) (n' : Nat), stainR S x y ink amount water = ([], c) → n ≤ n' → HExt n h h' → HOk n' h' → K (.tup 2 (cl [.nils, .int .i64 c])) h' n' := fun c h' n' e hn' hx hok' => by
    have := hK .nils h' n' hn' hx hok' (by rw [e]; exact .inl ⟨rfl, rfl⟩)
    rw [e] at this; exact this
  refine callE_of_T (P := Try.prog) hti (nt := 47) (rs := [.tmp 10, .tmp 11]) rfl rfl Try.call10 Try.func10 rfl _ (by simp only [go_sem, and_self]) (Nat.le_of_ble_eq_true rfl) _ fun hok => ?_
  simp only [go_sem, Nat.reduceBEq, Nat.reduceLT, Nat.reduceLeDiff, Nat.reduceAdd, Nat.reduceMul, Nat.reduceSub, Nat.reduceMod, Nat.reduceDiv, Nat.reduceEqDiff, Int.reduceToNat, reduceIte, reduceCtorEq, Int.reduceLE, Int.reduceLT, Int.reduceEq, Int.reduceNeg, Int.reduceAdd, Int.reduceSub, Int.reduceMul]
  refine (isDrop_Q _ _ _ n S x y ink amount water (by simp only [go_sem, Nat.reduceBEq, Nat.reduceLT, Nat.reduceLeDiff, Nat.reduceAdd, Nat.reduceMul, Nat.reduceSub, Nat.reduceMod, Nat.reduceDiv, Nat.reduceEqDiff, Int.reduceToNat, reduceIte, reduceCtorEq, Int.reduceLE, Int.reduceLT, Int.reduceEq, Int.reduceNeg, Int.reduceAdd, Int.reduceSub, Int.reduceMul]) (by omega) hR).A ?_
  simp only [go_sem, Nat.reduceBEq, Nat.reduceLT, Nat.reduceLeDiff, Nat.reduceAdd, Nat.reduceMul, Nat.reduceSub, Nat.reduceMod, Nat.reduceDiv, Nat.reduceEqDiff, Int.reduceToNat, reduceIte, reduceCtorEq, Int.reduceLE, Int.reduceLT, Int.reduceEq, Int.reduceNeg, Int.reduceAdd, Int.reduceSub, Int.reduceMul]
  refine (code_Q _ _ _ n 0 _ S (dropB S x y ink amount water) (by simp only [go_sem, Nat.reduceBEq, Nat.reduceLT, Nat.reduceLeDiff, Nat.reduceAdd, Nat.reduceMul, Nat.reduceSub, Nat.reduceMod, Nat.reduceDiv, Nat.reduceEqDiff, Int.reduceToNat, reduceIte, reduceCtorEq, Int.reduceLE, Int.reduceLT, Int.reduceEq, Int.reduceNeg, Int.reduceAdd, Int.reduceSub, Int.reduceMul]) (by omega) (shAt_shC hR)).A ?_
  by_cases hV : Valid S
  rotate_left
  · simp only [go_sem, Nat.reduceBEq, Nat.reduceLT, Nat.reduceLeDiff, Nat.reduceAdd, Nat.reduceMul, Nat.reduceSub, Nat.reduceMod, Nat.reduceDiv, Nat.reduceEqDiff, Int.reduceToNat, reduceIte, reduceCtorEq, Int.reduceLE, Int.reduceLT, Int.reduceEq, Int.reduceNeg, Int.reduceAdd, Int.reduceSub, Int.reduceMul, codeI_bad hV]
    exact fun hok' => bad 1 _ _ (stainR_bad hV) (by omega) (by simp only [go_sem, Nat.reduceBEq, Nat.reduceLT, Nat.reduceLeDiff, Nat.reduceAdd, Nat.reduceMul, Nat.reduceSub, Nat.reduceMod, Nat.reduceDiv, Nat.reduceEqDiff, Int.reduceToNat, reduceIte, reduceCtorEq, Int.reduceLE, Int.reduceLT, Int.reduceEq, Int.reduceNeg, Int.reduceAdd, Int.reduceSub, Int.reduceMul, HExt_cons]) hok'
  obtain ⟨hW, hH, hW8, hH8⟩ := valid_sides hV.1
  by_cases hd : dropB S x y ink amount water = true
  rotate_left
  · simp only [go_sem, Nat.reduceBEq, Nat.reduceLT, Nat.reduceLeDiff, Nat.reduceAdd, Nat.reduceMul, Nat.reduceSub, Nat.reduceMod, Nat.reduceDiv, Nat.reduceEqDiff, Int.reduceToNat, reduceIte, reduceCtorEq, Int.reduceLE, Int.reduceLT, Int.reduceEq, Int.reduceNeg, Int.reduceAdd, Int.reduceSub, Int.reduceMul, codeI_ok hV, hd]
    exact fun hok' => bad 2 _ _ (stainR_range hV hd) (by omega) (by simp only [go_sem, Nat.reduceBEq, Nat.reduceLT, Nat.reduceLeDiff, Nat.reduceAdd, Nat.reduceMul, Nat.reduceSub, Nat.reduceMod, Nat.reduceDiv, Nat.reduceEqDiff, Int.reduceToNat, reduceIte, reduceCtorEq, Int.reduceLE, Int.reduceLT, Int.reduceEq, Int.reduceNeg, Int.reduceAdd, Int.reduceSub, Int.reduceMul, HExt_cons]) hok'
  obtain ⟨hh, hk, ha, hw⟩ := dropB_iff.1 hd
  obtain ⟨x0, x8, y0, y8⟩ := hasB_in hV.1 hh
  simp only [go_sem, Nat.reduceBEq, Nat.reduceLT, Nat.reduceLeDiff, Nat.reduceAdd, Nat.reduceMul, Nat.reduceSub, Nat.reduceMod, Nat.reduceDiv, Nat.reduceEqDiff, Int.reduceToNat, reduceIte, reduceCtorEq, Int.reduceLE, Int.reduceLT, Int.reduceEq, Int.reduceNeg, Int.reduceAdd, Int.reduceSub, Int.reduceMul, codeI_ok hV, hd]
  refine (isBlank_Q _ _ _ n S _ _ (by simp only [go_sem, Nat.reduceBEq, Nat.reduceLT, Nat.reduceLeDiff, Nat.reduceAdd, Nat.reduceMul, Nat.reduceSub, Nat.reduceMod, Nat.reduceDiv, Nat.reduceEqDiff, Int.reduceToNat, reduceIte, reduceCtorEq, Int.reduceLE, Int.reduceLT, Int.reduceEq, Int.reduceNeg, Int.reduceAdd, Int.reduceSub, Int.reduceMul]) (by omega) hR hV.good hW hH).A ?_
  by_cases hB : Blank S S.wide.toNat S.high.toNat
  rotate_left
  · simp only [go_sem, Nat.reduceBEq, Nat.reduceLT, Nat.reduceLeDiff, Nat.reduceAdd, Nat.reduceMul, Nat.reduceSub, Nat.reduceMod, Nat.reduceDiv, Nat.reduceEqDiff, Int.reduceToNat, reduceIte, reduceCtorEq, Int.reduceLE, Int.reduceLT, Int.reduceEq, Int.reduceNeg, Int.reduceAdd, Int.reduceSub, Int.reduceMul, blankB_f hB]
    exact fun hok' => bad 4 _ _ (stainR_state hV hd fun h => hB h.1) (by omega) (by simp only [go_sem, Nat.reduceBEq, Nat.reduceLT, Nat.reduceLeDiff, Nat.reduceAdd, Nat.reduceMul, Nat.reduceSub, Nat.reduceMod, Nat.reduceDiv, Nat.reduceEqDiff, Int.reduceToNat, reduceIte, reduceCtorEq, Int.reduceLE, Int.reduceLT, Int.reduceEq, Int.reduceNeg, Int.reduceAdd, Int.reduceSub, Int.reduceMul, HExt_cons]) hok'
  simp only [go_sem, Nat.reduceBEq, Nat.reduceLT, Nat.reduceLeDiff, Nat.reduceAdd, Nat.reduceMul, Nat.reduceSub, Nat.reduceMod, Nat.reduceDiv, Nat.reduceEqDiff, Int.reduceToNat, reduceIte, reduceCtorEq, Int.reduceLE, Int.reduceLT, Int.reduceEq, Int.reduceNeg, Int.reduceAdd, Int.reduceSub, Int.reduceMul, blankB_t hB]
  refine (waxed_Q _ _ _ n 0 _ S x y (by simp only [go_sem, Nat.reduceBEq, Nat.reduceLT, Nat.reduceLeDiff, Nat.reduceAdd, Nat.reduceMul, Nat.reduceSub, Nat.reduceMod, Nat.reduceDiv, Nat.reduceEqDiff, Int.reduceToNat, reduceIte, reduceCtorEq, Int.reduceLE, Int.reduceLT, Int.reduceEq, Int.reduceNeg, Int.reduceAdd, Int.reduceSub, Int.reduceMul]) (by omega) (shAt_shC hR) x0 y0 y8).A ?_
  by_cases hwx : waxB S x y = true
  · simp only [go_sem, Nat.reduceBEq, Nat.reduceLT, Nat.reduceLeDiff, Nat.reduceAdd, Nat.reduceMul, Nat.reduceSub, Nat.reduceMod, Nat.reduceDiv, Nat.reduceEqDiff, Int.reduceToNat, reduceIte, reduceCtorEq, Int.reduceLE, Int.reduceLT, Int.reduceEq, Int.reduceNeg, Int.reduceAdd, Int.reduceSub, Int.reduceMul, hwx]
    exact fun hok' => bad 4 _ _ (stainR_state hV hd fun h => by rw [hwx] at h; cases h.2) (by omega) (by simp only [go_sem, Nat.reduceBEq, Nat.reduceLT, Nat.reduceLeDiff, Nat.reduceAdd, Nat.reduceMul, Nat.reduceSub, Nat.reduceMod, Nat.reduceDiv, Nat.reduceEqDiff, Int.reduceToNat, reduceIte, reduceCtorEq, Int.reduceLE, Int.reduceLT, Int.reduceEq, Int.reduceNeg, Int.reduceAdd, Int.reduceSub, Int.reduceMul, HExt_cons]) hok'
  have hwf : waxB S x y = false := by simpa using hwx
  simp only [go_sem, Nat.reduceBEq, Nat.reduceLT, Nat.reduceLeDiff, Nat.reduceAdd, Nat.reduceMul, Nat.reduceSub, Nat.reduceMod, Nat.reduceDiv, Nat.reduceEqDiff, Int.reduceToNat, reduceIte, reduceCtorEq, Int.reduceLE, Int.reduceLT, Int.reduceEq, Int.reduceNeg, Int.reduceAdd, Int.reduceSub, Int.reduceMul, hwf]
  refine (stained_Q _ _ _ S _ _ x y ink amount water hR hV.good hW hH x0 x8 y0 y8 hk.1 (by omega) ha hw hwf (hB.wet hV.good hW hH hh) (hB.dye hV.good hW hH hh hk.1 (by omega))).A ?_
  have hGd := drop_good (x := x) (y := y) (ink := ink) hV.good ha hw
  obtain ⟨u1, u2, u3⟩ := untilN_good (W := S.wide.toNat) (H := S.high.toNat) 500 0 (S.drop x y ink amount water) hGd hW hH
  have hr := stainR_run hV hd ⟨hB, hwf⟩
  have uR : ShR (untilN S.wide.toNat S.high.toNat 500 0 (S.drop x y ink amount water)).1 := untilN_R 500 0 _ ((hR.setWet (by omega)).setDye (by omega))
  generalize hU : untilN S.wide.toNat S.high.toNat 500 0 (S.drop x y ink amount water) = U at *
  by_cases hu : U.2.2 = true
  rotate_left
  · rw [if_neg hu] at hr
    simp only [go_sem, Nat.reduceBEq, Nat.reduceLT, Nat.reduceLeDiff, Nat.reduceAdd, Nat.reduceMul, Nat.reduceSub, Nat.reduceMod, Nat.reduceDiv, Nat.reduceEqDiff, Int.reduceToNat, reduceIte, reduceCtorEq, Int.reduceLE, Int.reduceLT, Int.reduceEq, Int.reduceNeg, Int.reduceAdd, Int.reduceSub, Int.reduceMul, hu]
    exact fun hok' => bad 7 _ _ hr (by omega) (by simp only [go_sem, Nat.reduceBEq, Nat.reduceLT, Nat.reduceLeDiff, Nat.reduceAdd, Nat.reduceMul, Nat.reduceSub, Nat.reduceMod, Nat.reduceDiv, Nat.reduceEqDiff, Int.reduceToNat, reduceIte, reduceCtorEq, Int.reduceLE, Int.reduceLT, Int.reduceEq, Int.reduceNeg, Int.reduceAdd, Int.reduceSub, Int.reduceMul, HExt_cons]) hok'
  rw [if_pos hu] at hr
  simp only [go_sem, Nat.reduceBEq, Nat.reduceLT, Nat.reduceLeDiff, Nat.reduceAdd, Nat.reduceMul, Nat.reduceSub, Nat.reduceMod, Nat.reduceDiv, Nat.reduceEqDiff, Int.reduceToNat, reduceIte, reduceCtorEq, Int.reduceLE, Int.reduceLT, Int.reduceEq, Int.reduceNeg, Int.reduceAdd, Int.reduceSub, Int.reduceMul, hu]
  refine callA_false (that_E _ _ _ (n + 2) U.1 _ _ (by simp only [go_sem, Nat.reduceBEq, Nat.reduceLT, Nat.reduceLeDiff, Nat.reduceAdd, Nat.reduceMul, Nat.reduceSub, Nat.reduceMod, Nat.reduceDiv, Nat.reduceEqDiff, Int.reduceToNat, reduceIte, reduceCtorEq, Int.reduceLE, Int.reduceLT, Int.reduceEq, Int.reduceNeg, Int.reduceAdd, Int.reduceSub, Int.reduceMul]) (by omega) uR (u2.wide.trans hW) (u2.high.trans hH) hW8 hH8 _ _ _ _ _ ?_ (fun x y => decide (1 ≤ darkB U.1 x y)) (fun j hj nt n0 h' n' hn hx => ?_) _ fun V h' n' hn' hx' hok' hV' => ?_)
  · exact fn_lt (xs := []) (ys := [.ptr (n + 2) 0]) (fun v hv => by cases hv) (fun v hv => by simp at hv; subst hv; show n + 2 < _; omega)
  · obtain ⟨a0, a8, b0, b8⟩ := cell_in u1.small (u2.wide.trans hW) (u2.high.trans hH) hj
    exact stain1_Q _ h' n' (n + 2) U.1 _ _ (hx (n + 2) (by omega) _ (by simp only [go_sem, Nat.reduceBEq, Nat.reduceLT, Nat.reduceLeDiff, Nat.reduceAdd, Nat.reduceMul, Nat.reduceSub, Nat.reduceMod, Nat.reduceDiv, Nat.reduceEqDiff, Int.reduceToNat, reduceIte, reduceCtorEq, Int.reduceLE, Int.reduceLT, Int.reduceEq, Int.reduceNeg, Int.reduceAdd, Int.reduceSub, Int.reduceMul])) (by omega) uR u1 a0 a8 b0 b8
  · simp only [go_sem, Nat.reduceBEq, Nat.reduceLT, Nat.reduceLeDiff, Nat.reduceAdd, Nat.reduceMul, Nat.reduceSub, Nat.reduceMod, Nat.reduceDiv, Nat.reduceEqDiff, Int.reduceToNat, reduceIte, reduceCtorEq, Int.reduceLE, Int.reduceLT, Int.reduceEq, Int.reduceNeg, Int.reduceAdd, Int.reduceSub, Int.reduceMul, hV'.ok]
    intro hok2
    have := hK V h' n' (by omega) (HExt.tr (m' := n + 3) (by simp only [go_sem, Nat.reduceBEq, Nat.reduceLT, Nat.reduceLeDiff, Nat.reduceAdd, Nat.reduceMul, Nat.reduceSub, Nat.reduceMod, Nat.reduceDiv, Nat.reduceEqDiff, Int.reduceToNat, reduceIte, reduceCtorEq, Int.reduceLE, Int.reduceLT, Int.reduceEq, Int.reduceNeg, Int.reduceAdd, Int.reduceSub, Int.reduceMul, HExt_cons]) hx' (by omega)) hok2 (by rw [hr]; exact hV'.mono' (by omega))
    rw [hr] at this
    exact this
end
end Go.Proofs.Ytdbhfipkopfooaa.V

/- What is stained, by the reference: sums of dyes, running until nothing is given, cells with dye. -/
namespace Go.Proofs.Ytdbhfipkopfooaa.V
theorem dye8_in {S : Sh} (hG : Good S) {i : Int} (h0 : 0 ≤ i) (h3 : i < 3) (j : Nat) (hj : j ≤ 64) : 0 ≤ dyeN S 8 i j ∧ dyeN S 8 i j ≤ 1000 * j :=
  sumN_in j fun k hk => hG.dye _ _ _ (by omega) (by omega) (by omega) (by omega) h0 h3
theorem dye8_next (S : Sh) (i : Int) {y x : Nat} (hx : x < 8) : dyeN S 8 i (y * 8 + (x + 1)) = dyeN S 8 i (y * 8 + x) + S.dye y x i := by
  show sumN _ (y * 8 + x) + dyeAt S 8 i (y * 8 + x) = _
  unfold dyeAt
  rw [show (y * 8 + x) / 8 = y by omega, show (y * 8 + x) % 8 = x by omega]; rfl
section
variable (cx : Cx) (h : List (Nat × Seg)) (n : Nat)
theorem ink2_Q (ink : Int) : CallQ Try.prog cx 27 [.int .i64 ink] h n (.bool (decide (0 ≤ ink ∧ ink ≤ 2))) := by
  refine callQ_of_T (P := Try.prog) hti (nt := 5) (rs := [.tmp 2]) rfl rfl Try.call27 Try.func27 rfl _ (by simp only [go_sem, and_self]) (Nat.le_of_ble_eq_true rfl) _ (by first | exact trivial | (refine lt_flat rfl ?_; simp [SV.flat]; done) | simp only [go_sem]) fun hok => ?_
  simp only [go_sem, Nat.reduceBEq, Nat.reduceLT, Nat.reduceLeDiff, Nat.reduceAdd, Nat.reduceMul, Nat.reduceSub, Nat.reduceMod, Nat.reduceDiv, Nat.reduceEqDiff, Int.reduceToNat, reduceIte, reduceCtorEq, Int.reduceLE, Int.reduceLT, Int.reduceEq, Int.reduceNeg, Int.reduceAdd, Int.reduceSub, Int.reduceMul]
  refine (in_Q _ _ _ _ _ _).A ?_
  simp only [go_sem, Nat.reduceBEq, Nat.reduceLT, Nat.reduceLeDiff, Nat.reduceAdd, Nat.reduceMul, Nat.reduceSub, Nat.reduceMod, Nat.reduceDiv, Nat.reduceEqDiff, Int.reduceToNat, reduceIte, reduceCtorEq, Int.reduceLE, Int.reduceLT, Int.reduceEq, Int.reduceNeg, Int.reduceAdd, Int.reduceSub, Int.reduceMul]
theorem dark2_Q (i : Nat) (S : Sh) (x y : Int) (hs : hget h i = some (shS S)) (hi : i < n) (hG : Good S) (hx : 0 ≤ x) (hx8 : x < 8) (hy : 0 ≤ y) (hy8 : y < 8) :
    CallQ Try.prog cx 64 [.ptr i 0, spot x y] h n (.int .i64 (darkB S x y)) := by
  have h0 := hG.dye y x 0 hy hy8 hx hx8 (by omega) (by omega)
  have h1 := hG.dye y x 1 hy hy8 hx hx8 (by omega) (by omega)
  have h2 := hG.dye y x 2 hy hy8 hx hx8 (by omega) (by omega)
  refine callQ_of_T (P := Try.prog) hti (nt := 27) (rs := [.tmp 4]) rfl rfl Try.call64 Try.func64 rfl _ (by simp only [go_sem, and_self]) (Nat.le_of_ble_eq_true rfl) _ (by first | exact trivial | (refine lt_flat rfl ?_; simp [SV.flat]; done) | simp only [go_sem]) fun hok => ?_
  simp only [go_sem, Nat.reduceBEq, Nat.reduceLT, Nat.reduceLeDiff, Nat.reduceAdd, Nat.reduceMul, Nat.reduceSub, Nat.reduceMod, Nat.reduceDiv, Nat.reduceEqDiff, Int.reduceToNat, reduceIte, reduceCtorEq, Int.reduceLE, Int.reduceLT, Int.reduceEq, Int.reduceNeg, Int.reduceAdd, Int.reduceSub, Int.reduceMul]
  refine T_drawG hti 12 [11] (.b 0 0 (.b 0 1 (.b 0 2 (.b 0 3 (.b 0 4 (.b 0 5 (.b 0 6 (.b 0 7 (.b 0 8 (.b 0 9 (.b 2 10 (.b 4 11 (.f) .o) .o) .o) .o) .o) .o) .o) .o) .o) .o) .o) .o) _ _ (by kernel_rfl) (by kernel_rfl) ?_
  simp only [go_sem, Nat.reduceBEq, Nat.reduceLT, Nat.reduceLeDiff, Nat.reduceAdd, Nat.reduceMul, Nat.reduceSub, Nat.reduceMod, Nat.reduceDiv, Nat.reduceEqDiff, Int.reduceToNat, reduceIte, reduceCtorEq, Int.reduceLE, Int.reduceLT, Int.reduceEq, Int.reduceNeg, Int.reduceAdd, Int.reduceSub, Int.reduceMul, hs, hi, hx, hx8, hy, hy8, w64 (n := S.dye y x 0) (by omega), w64 (n := S.dye y x 1) (by omega), w64 (n := S.dye y x 2) (by omega), w64 (n := S.dye y x 0 + S.dye y x 1) (by omega), w64 (n := S.dye y x 0 + S.dye y x 1 + S.dye y x 2) (by omega)]
  rfl
theorem asked2_Q (i : Nat) (S : Sh) (x y : Int) (b : Bool) (hs : hget h i = some (shS S)) (hi : i < n) (hR : ShR S) (hx : -128 ≤ x ∧ x < 128) (hy : -128 ≤ y ∧ y < 128) :
    CallQ Try.prog cx 26 [.ptr i 0, spot x y, .bool b] h n (.int .i64 (codeI S (hasB S x y && b))) := by
  refine callQ_of_T (P := Try.prog) hti (nt := 18) (rs := [.tmp 6]) rfl rfl Try.call26 Try.func26 rfl _ (by simp only [go_sem, and_self]) (Nat.le_of_ble_eq_true rfl) _ (by first | exact trivial | (refine lt_flat rfl ?_; simp [SV.flat]; done) | simp only [go_sem]) fun hok => ?_
  simp only [go_sem, Nat.reduceBEq, Nat.reduceLT, Nat.reduceLeDiff, Nat.reduceAdd, Nat.reduceMul, Nat.reduceSub, Nat.reduceMod, Nat.reduceDiv, Nat.reduceEqDiff, Int.reduceToNat, reduceIte, reduceCtorEq, Int.reduceLE, Int.reduceLT, Int.reduceEq, Int.reduceNeg, Int.reduceAdd, Int.reduceSub, Int.reduceMul]
  refine (ok2_Q _ _ _ i 0 _ S (by simp only [go_sem, Nat.reduceBEq, Nat.reduceLT, Nat.reduceLeDiff, Nat.reduceAdd, Nat.reduceMul, Nat.reduceSub, Nat.reduceMod, Nat.reduceDiv, Nat.reduceEqDiff, Int.reduceToNat, reduceIte, reduceCtorEq, Int.reduceLE, Int.reduceLT, Int.reduceEq, Int.reduceNeg, Int.reduceAdd, Int.reduceSub, Int.reduceMul, hs, hi]) (by omega) (shAt_shC hR)).A ?_
  by_cases hV : Valid S
  rotate_left
  · simp only [go_sem, Nat.reduceBEq, Nat.reduceLT, Nat.reduceLeDiff, Nat.reduceAdd, Nat.reduceMul, Nat.reduceSub, Nat.reduceMod, Nat.reduceDiv, Nat.reduceEqDiff, Int.reduceToNat, reduceIte, reduceCtorEq, Int.reduceLE, Int.reduceLT, Int.reduceEq, Int.reduceNeg, Int.reduceAdd, Int.reduceSub, Int.reduceMul, validB_false hV, codeI_bad hV]
  simp only [go_sem, Nat.reduceBEq, Nat.reduceLT, Nat.reduceLeDiff, Nat.reduceAdd, Nat.reduceMul, Nat.reduceSub, Nat.reduceMod, Nat.reduceDiv, Nat.reduceEqDiff, Int.reduceToNat, reduceIte, reduceCtorEq, Int.reduceLE, Int.reduceLT, Int.reduceEq, Int.reduceNeg, Int.reduceAdd, Int.reduceSub, Int.reduceMul, validB_true hV, codeI_ok hV]
  refine (is_Q _ _ _ i 0 _ S x y (by simp only [go_sem, Nat.reduceBEq, Nat.reduceLT, Nat.reduceLeDiff, Nat.reduceAdd, Nat.reduceMul, Nat.reduceSub, Nat.reduceMod, Nat.reduceDiv, Nat.reduceEqDiff, Int.reduceToNat, reduceIte, reduceCtorEq, Int.reduceLE, Int.reduceLT, Int.reduceEq, Int.reduceNeg, Int.reduceAdd, Int.reduceSub, Int.reduceMul, hs, hi]) (by omega) (shAt_shC hR) hx hy).A ?_
  by_cases hh : hasB S x y = true
  · cases b <;> simp only [go_sem, Nat.reduceBEq, Nat.reduceLT, Nat.reduceLeDiff, Nat.reduceAdd, Nat.reduceMul, Nat.reduceSub, Nat.reduceMod, Nat.reduceDiv, Nat.reduceEqDiff, Int.reduceToNat, reduceIte, reduceCtorEq, Int.reduceLE, Int.reduceLT, Int.reduceEq, Int.reduceNeg, Int.reduceAdd, Int.reduceSub, Int.reduceMul, hh, Bool.true_and]
  · simp only [go_sem, Nat.reduceBEq, Nat.reduceLT, Nat.reduceLeDiff, Nat.reduceAdd, Nat.reduceMul, Nat.reduceSub, Nat.reduceMod, Nat.reduceDiv, Nat.reduceEqDiff, Int.reduceToNat, reduceIte, reduceCtorEq, Int.reduceLE, Int.reduceLT, Int.reduceEq, Int.reduceNeg, Int.reduceAdd, Int.reduceSub, Int.reduceMul, hh, Bool.false_and]
theorem sums2_Q (i : Nat) (S : Sh) (hs : hget h i = some (shS S)) (hi : i < n) (hG : Good S) :
    CallQ Try.prog cx 29 [.ptr i 0] h n (.agg 3 (cl [.int .i64 (dyeN S 8 0 64), .int .i64 (dyeN S 8 1 64), .int .i64 (dyeN S 8 2 64)])) := by
  refine callQ_of_T (P := Try.prog) hti (nt := 37) (rs := [.cell 2 53]) rfl rfl Try.call29 Try.func29 rfl _ (by simp only [go_sem, and_self]) (Nat.le_of_ble_eq_true rfl) _ (by first | exact trivial | (refine lt_flat rfl ?_; simp [SV.flat]; done) | simp only [go_sem]) fun hok => ?_
  simp only [go_sem, Nat.reduceBEq, Nat.reduceLT, Nat.reduceLeDiff, Nat.reduceAdd, Nat.reduceMul, Nat.reduceSub, Nat.reduceMod, Nat.reduceDiv, Nat.reduceEqDiff, Int.reduceToNat, reduceIte, reduceCtorEq, Int.reduceLE, Int.reduceLT, Int.reduceEq, Int.reduceNeg, Int.reduceAdd, Int.reduceSub, Int.reduceMul]
  refine T_lp (ι := { y : Nat // y ≤ 8 }) (fun y => ([(0, .ptr i 0), (2, .ptr n 0), (3, .ptr (n + 1) 0), (4, .int .i64 y.1)], (n + 1, ⟨3, cl [.int .i64 (dyeN S 8 0 (y.1 * 8)), .int .i64 (dyeN S 8 1 (y.1 * 8)), .int .i64 (dyeN S 8 2 (y.1 * 8))], true, none⟩) :: (n, ⟨3, cl [.int .i64 0, .int .i64 0, .int .i64 0], true, none⟩) :: h, n + 2)) (fun y => 8 - y.1) ⟨0, by omega⟩ ?_ ?_
  · refine Imp.id (by simp) ?_ ?_
    · simp only [go_sem, Nat.reduceBEq, Nat.reduceLT, Nat.reduceLeDiff, Nat.reduceAdd, Nat.reduceMul, Nat.reduceSub, Nat.reduceMod, Nat.reduceDiv, Nat.reduceEqDiff, Int.reduceToNat, reduceIte, reduceCtorEq, Int.reduceLE, Int.reduceLT, Int.reduceEq, Int.reduceNeg, Int.reduceAdd, Int.reduceSub, Int.reduceMul]
      omega
    · (repeat (refine impH.cons0 (by first | (simp only [go_sem, Nat.reduceBEq, Nat.reduceLT, Nat.reduceLeDiff, Nat.reduceAdd, Nat.reduceMul, Nat.reduceSub, Nat.reduceMod, Nat.reduceDiv, Nat.reduceEqDiff, Int.reduceToNat, reduceIte, reduceCtorEq, Int.reduceLE, Int.reduceLT, Int.reduceEq, Int.reduceNeg, Int.reduceAdd, Int.reduceSub, Int.reduceMul]; done) | (simp only [go_sem, Nat.reduceBEq, Nat.reduceLT, Nat.reduceLeDiff, Nat.reduceAdd, Nat.reduceMul, Nat.reduceSub, Nat.reduceMod, Nat.reduceDiv, Nat.reduceEqDiff, Int.reduceToNat, reduceIte, reduceCtorEq, Int.reduceLE, Int.reduceLT, Int.reduceEq, Int.reduceNeg, Int.reduceAdd, Int.reduceSub, Int.reduceMul]; rfl)) (by simp) (SegLe.flat (Nat.le_refl _) id (.inr rfl) fun z hz => ⟨rfl, by first | exact shC_flat _ _ | exact brC_flat _ hz | exact pair_flat _ _ hz | exact cl_flat (l := [_, _, _, _, _]) (by simp [SV.flat]) hz | exact cl_flat (l := [_, _, _]) (by simp [SV.flat]) hz | trivial⟩) ?_)); exact impH.base0 hok (by simp) (by simp only [go_sem, Nat.reduceBEq, Nat.reduceLT, Nat.reduceLeDiff, Nat.reduceAdd, Nat.reduceMul, Nat.reduceSub, Nat.reduceMod, Nat.reduceDiv, Nat.reduceEqDiff, Int.reduceToNat, reduceIte, reduceCtorEq, Int.reduceLE, Int.reduceLT, Int.reduceEq, Int.reduceNeg, Int.reduceAdd, Int.reduceSub, Int.reduceMul, HExt_cons])
  · rintro ⟨y, hy⟩
    simp only [go_sem, Nat.reduceBEq, Nat.reduceLT, Nat.reduceLeDiff, Nat.reduceAdd, Nat.reduceMul, Nat.reduceSub, Nat.reduceMod, Nat.reduceDiv, Nat.reduceEqDiff, Int.reduceToNat, reduceIte, reduceCtorEq, Int.reduceLE, Int.reduceLT, Int.reduceEq, Int.reduceNeg, Int.reduceAdd, Int.reduceSub, Int.reduceMul, decide_eq_true_eq, decide_eq_false_iff_not]
    refine ⟨fun h1 => ?_, fun h1 => ?_⟩
    · refine T_lp (ι := { x : Nat // x ≤ 8 }) (fun x => ([(0, .ptr i 0), (2, .ptr n 0), (3, .ptr (n + 1) 0), (4, .int .i64 y), (5, .int .i64 x.1)], (n + 1, ⟨3, cl [.int .i64 (dyeN S 8 0 (y * 8 + x.1)), .int .i64 (dyeN S 8 1 (y * 8 + x.1)), .int .i64 (dyeN S 8 2 (y * 8 + x.1))], true, none⟩) :: (n, ⟨3, cl [.int .i64 0, .int .i64 0, .int .i64 0], true, none⟩) :: h, n + 2)) (fun x => 8 - x.1) ⟨0, by omega⟩ ?_ ?_
      · refine Imp.id (by simp) ?_ ?_
        · simp only [go_sem, Nat.reduceBEq, Nat.reduceLT, Nat.reduceLeDiff, Nat.reduceAdd, Nat.reduceMul, Nat.reduceSub, Nat.reduceMod, Nat.reduceDiv, Nat.reduceEqDiff, Int.reduceToNat, reduceIte, reduceCtorEq, Int.reduceLE, Int.reduceLT, Int.reduceEq, Int.reduceNeg, Int.reduceAdd, Int.reduceSub, Int.reduceMul]
          omega
        · (repeat (refine impH.cons0 (by first | (simp only [go_sem, Nat.reduceBEq, Nat.reduceLT, Nat.reduceLeDiff, Nat.reduceAdd, Nat.reduceMul, Nat.reduceSub, Nat.reduceMod, Nat.reduceDiv, Nat.reduceEqDiff, Int.reduceToNat, reduceIte, reduceCtorEq, Int.reduceLE, Int.reduceLT, Int.reduceEq, Int.reduceNeg, Int.reduceAdd, Int.reduceSub, Int.reduceMul]; done) | (simp only [go_sem, Nat.reduceBEq, Nat.reduceLT, Nat.reduceLeDiff, Nat.reduceAdd, Nat.reduceMul, Nat.reduceSub, Nat.reduceMod, Nat.reduceDiv, Nat.reduceEqDiff, Int.reduceToNat, reduceIte, reduceCtorEq, Int.reduceLE, Int.reduceLT, Int.reduceEq, Int.reduceNeg, Int.reduceAdd, Int.reduceSub, Int.reduceMul]; rfl)) (by simp) (SegLe.flat (Nat.le_refl _) id (.inr rfl) fun z hz => ⟨rfl, by first | exact shC_flat _ _ | exact brC_flat _ hz | exact pair_flat _ _ hz | exact cl_flat (l := [_, _, _, _, _]) (by simp [SV.flat]) hz | exact cl_flat (l := [_, _, _]) (by simp [SV.flat]) hz | trivial⟩) ?_)); exact impH.base0 hok (by simp) (by simp only [go_sem, Nat.reduceBEq, Nat.reduceLT, Nat.reduceLeDiff, Nat.reduceAdd, Nat.reduceMul, Nat.reduceSub, Nat.reduceMod, Nat.reduceDiv, Nat.reduceEqDiff, Int.reduceToNat, reduceIte, reduceCtorEq, Int.reduceLE, Int.reduceLT, Int.reduceEq, Int.reduceNeg, Int.reduceAdd, Int.reduceSub, Int.reduceMul, HExt_cons])
      · rintro ⟨x, hx⟩
        have a0 := dye8_in hG (i := 0) (by omega) (by omega) (y * 8 + x) (by omega)
        have a1 := dye8_in hG (i := 1) (by omega) (by omega) (y * 8 + x) (by omega)
        have a2 := dye8_in hG (i := 2) (by omega) (by omega) (y * 8 + x) (by omega)
        simp only [go_sem, Nat.reduceBEq, Nat.reduceLT, Nat.reduceLeDiff, Nat.reduceAdd, Nat.reduceMul, Nat.reduceSub, Nat.reduceMod, Nat.reduceDiv, Nat.reduceEqDiff, Int.reduceToNat, reduceIte, reduceCtorEq, Int.reduceLE, Int.reduceLT, Int.reduceEq, Int.reduceNeg, Int.reduceAdd, Int.reduceSub, Int.reduceMul, decide_eq_true_eq, decide_eq_false_iff_not]
        refine ⟨fun h2 => ?_, fun h2 => ?_⟩
        · have hxr : (0 : Int) ≤ x ∧ (x : Int) < 8 := ⟨by omega, h2⟩
          have hyr : (0 : Int) ≤ y ∧ (y : Int) < 8 := ⟨by omega, h1⟩
          have d0 := hG.dye y x 0 hyr.1 hyr.2 hxr.1 hxr.2 (by omega) (by omega)
          have d1 := hG.dye y x 1 hyr.1 hyr.2 hxr.1 hxr.2 (by omega) (by omega)
          have d2 := hG.dye y x 2 hyr.1 hyr.2 hxr.1 hxr.2 (by omega) (by omega)
          have e0 : shC S (66 + y * 24 + x * 3) = .int .i16 (S.dye y x 0) := by have := shC_dye0 (S := S) (y := (y : Int)) (x := (x : Int)) hyr.1 hyr.2 hxr.1 hxr.2; simpa only [Int.toNat_natCast] using this
          have e1 : shC S (66 + y * 24 + x * 3 + 1) = .int .i16 (S.dye y x 1) := by have := shC_dye1 (S := S) (y := (y : Int)) (x := (x : Int)) hyr.1 hyr.2 hxr.1 hxr.2; simpa only [Int.toNat_natCast] using this
          have e2 : shC S (66 + y * 24 + x * 3 + 2) = .int .i16 (S.dye y x 2) := by have := shC_dye2 (S := S) (y := (y : Int)) (x := (x : Int)) hyr.1 hyr.2 hxr.1 hxr.2; simpa only [Int.toNat_natCast] using this
          have l0 : 66 + y * 24 + x * 3 ≤ 265 := by omega
          have l1 : 66 + y * 24 + x * 3 ≤ 264 := by omega
          have l2 : 66 + y * 24 + x * 3 ≤ 263 := by omega
          refine T_unroll 3 ?_
          simp only [go_sem, Nat.reduceBEq, Nat.reduceLT, Nat.reduceLeDiff, Nat.reduceAdd, Nat.reduceMul, Nat.reduceSub, Nat.reduceMod, Nat.reduceDiv, Nat.reduceEqDiff, Int.reduceToNat, reduceIte, reduceCtorEq, Int.reduceLE, Int.reduceLT, Int.reduceEq, Int.reduceNeg, Int.reduceAdd, Int.reduceSub, Int.reduceMul]
          refine T_drawT hti 16 _ _ (by kernel_rfl) (by kernel_rfl) ?_
          simp only [go_sem, Nat.reduceBEq, Nat.reduceLT, Nat.reduceLeDiff, Nat.reduceAdd, Nat.reduceMul, Nat.reduceSub, Nat.reduceMod, Nat.reduceDiv, Nat.reduceEqDiff, Int.reduceToNat, reduceIte, reduceCtorEq, Int.reduceLE, Int.reduceLT, Int.reduceEq, Int.reduceNeg, Int.reduceAdd, Int.reduceSub, Int.reduceMul, hs, hi, hxr, hyr, e0, e1, e2, l0, l1, l2, w64 (n := S.dye y x 0) (by omega), w64 (n := dyeN S 8 0 (y * 8 + x) + S.dye y x 0) (by omega)]
          refine U_step ?_
          simp only [go_sem, Nat.reduceBEq, Nat.reduceLT, Nat.reduceLeDiff, Nat.reduceAdd, Nat.reduceMul, Nat.reduceSub, Nat.reduceMod, Nat.reduceDiv, Nat.reduceEqDiff, Int.reduceToNat, reduceIte, reduceCtorEq, Int.reduceLE, Int.reduceLT, Int.reduceEq, Int.reduceNeg, Int.reduceAdd, Int.reduceSub, Int.reduceMul]
          refine T_drawT hti 16 _ _ (by kernel_rfl) (by kernel_rfl) ?_
          simp only [go_sem, Nat.reduceBEq, Nat.reduceLT, Nat.reduceLeDiff, Nat.reduceAdd, Nat.reduceMul, Nat.reduceSub, Nat.reduceMod, Nat.reduceDiv, Nat.reduceEqDiff, Int.reduceToNat, reduceIte, reduceCtorEq, Int.reduceLE, Int.reduceLT, Int.reduceEq, Int.reduceNeg, Int.reduceAdd, Int.reduceSub, Int.reduceMul, hs, hi, hxr, hyr, e0, e1, e2, l0, l1, l2, w64 (n := S.dye y x 1) (by omega), w64 (n := dyeN S 8 1 (y * 8 + x) + S.dye y x 1) (by omega)]
          refine U_step ?_
          simp only [go_sem, Nat.reduceBEq, Nat.reduceLT, Nat.reduceLeDiff, Nat.reduceAdd, Nat.reduceMul, Nat.reduceSub, Nat.reduceMod, Nat.reduceDiv, Nat.reduceEqDiff, Int.reduceToNat, reduceIte, reduceCtorEq, Int.reduceLE, Int.reduceLT, Int.reduceEq, Int.reduceNeg, Int.reduceAdd, Int.reduceSub, Int.reduceMul]
          refine T_drawT hti 16 _ _ (by kernel_rfl) (by kernel_rfl) ?_
          simp only [go_sem, Nat.reduceBEq, Nat.reduceLT, Nat.reduceLeDiff, Nat.reduceAdd, Nat.reduceMul, Nat.reduceSub, Nat.reduceMod, Nat.reduceDiv, Nat.reduceEqDiff, Int.reduceToNat, reduceIte, reduceCtorEq, Int.reduceLE, Int.reduceLT, Int.reduceEq, Int.reduceNeg, Int.reduceAdd, Int.reduceSub, Int.reduceMul, hs, hi, hxr, hyr, e0, e1, e2, l0, l1, l2, w64 (n := S.dye y x 2) (by omega), w64 (n := dyeN S 8 2 (y * 8 + x) + S.dye y x 2) (by omega)]
          refine U_step ?_
          simp only [go_sem, Nat.reduceBEq, Nat.reduceLT, Nat.reduceLeDiff, Nat.reduceAdd, Nat.reduceMul, Nat.reduceSub, Nat.reduceMod, Nat.reduceDiv, Nat.reduceEqDiff, Int.reduceToNat, reduceIte, reduceCtorEq, Int.reduceLE, Int.reduceLT, Int.reduceEq, Int.reduceNeg, Int.reduceAdd, Int.reduceSub, Int.reduceMul]
          refine ⟨⟨x + 1, by omega⟩, by show 8 - (x + 1) < 8 - x; omega, ?_⟩
          rw [← dye8_next S 0 (y := y) (by omega), ← dye8_next S 1 (y := y) (by omega), ← dye8_next S 2 (y := y) (by omega)]
          refine Imp.id (by simp) ?_ ?_
          · simp only [go_sem, Nat.reduceBEq, Nat.reduceLT, Nat.reduceLeDiff, Nat.reduceAdd, Nat.reduceMul, Nat.reduceSub, Nat.reduceMod, Nat.reduceDiv, Nat.reduceEqDiff, Int.reduceToNat, reduceIte, reduceCtorEq, Int.reduceLE, Int.reduceLT, Int.reduceEq, Int.reduceNeg, Int.reduceAdd, Int.reduceSub, Int.reduceMul, w64 (n := (x : Int) + 1) (by omega), Int.natCast_add, Int.natCast_one]
            omega
          · (repeat (refine impH.cons0 (by first | (simp only [go_sem, Nat.reduceBEq, Nat.reduceLT, Nat.reduceLeDiff, Nat.reduceAdd, Nat.reduceMul, Nat.reduceSub, Nat.reduceMod, Nat.reduceDiv, Nat.reduceEqDiff, Int.reduceToNat, reduceIte, reduceCtorEq, Int.reduceLE, Int.reduceLT, Int.reduceEq, Int.reduceNeg, Int.reduceAdd, Int.reduceSub, Int.reduceMul]; done) | (simp only [go_sem, Nat.reduceBEq, Nat.reduceLT, Nat.reduceLeDiff, Nat.reduceAdd, Nat.reduceMul, Nat.reduceSub, Nat.reduceMod, Nat.reduceDiv, Nat.reduceEqDiff, Int.reduceToNat, reduceIte, reduceCtorEq, Int.reduceLE, Int.reduceLT, Int.reduceEq, Int.reduceNeg, Int.reduceAdd, Int.reduceSub, Int.reduceMul]; rfl)) (by simp) (SegLe.flat (Nat.le_refl _) id (.inr rfl) fun z hz => ⟨rfl, by first | exact shC_flat _ _ | exact brC_flat _ hz | exact pair_flat _ _ hz | exact cl_flat (l := [_, _, _, _, _]) (by simp [SV.flat]) hz | exact cl_flat (l := [_, _, _]) (by simp [SV.flat]) hz | trivial⟩) ?_)); exact impH.base0 hok (by simp) (by simp only [go_sem, Nat.reduceBEq, Nat.reduceLT, Nat.reduceLeDiff, Nat.reduceAdd, Nat.reduceMul, Nat.reduceSub, Nat.reduceMod, Nat.reduceDiv, Nat.reduceEqDiff, Int.reduceToNat, reduceIte, reduceCtorEq, Int.reduceLE, Int.reduceLT, Int.reduceEq, Int.reduceNeg, Int.reduceAdd, Int.reduceSub, Int.reduceMul, HExt_cons])
        · have hx8 : x = 8 := by omega
          subst hx8
          refine ⟨⟨y + 1, by omega⟩, by show 8 - (y + 1) < 8 - y; omega, ?_⟩
          rw [show y * 8 + 8 = (y + 1) * 8 by omega]
          refine Imp.id (by simp) ?_ ?_
          · simp only [go_sem, Nat.reduceBEq, Nat.reduceLT, Nat.reduceLeDiff, Nat.reduceAdd, Nat.reduceMul, Nat.reduceSub, Nat.reduceMod, Nat.reduceDiv, Nat.reduceEqDiff, Int.reduceToNat, reduceIte, reduceCtorEq, Int.reduceLE, Int.reduceLT, Int.reduceEq, Int.reduceNeg, Int.reduceAdd, Int.reduceSub, Int.reduceMul, w64 (n := (y : Int) + 1) (by omega), Int.natCast_add, Int.natCast_one]
            omega
          · (repeat (refine impH.cons0 (by first | (simp only [go_sem, Nat.reduceBEq, Nat.reduceLT, Nat.reduceLeDiff, Nat.reduceAdd, Nat.reduceMul, Nat.reduceSub, Nat.reduceMod, Nat.reduceDiv, Nat.reduceEqDiff, Int.reduceToNat, reduceIte, reduceCtorEq, Int.reduceLE, Int.reduceLT, Int.reduceEq, Int.reduceNeg, Int.reduceAdd, Int.reduceSub, Int.reduceMul]; done) | (simp only [go_sem, Nat.reduceBEq, Nat.reduceLT, Nat.reduceLeDiff, Nat.reduceAdd, Nat.reduceMul, Nat.reduceSub, Nat.reduceMod, Nat.reduceDiv, Nat.reduceEqDiff, Int.reduceToNat, reduceIte, reduceCtorEq, Int.reduceLE, Int.reduceLT, Int.reduceEq, Int.reduceNeg, Int.reduceAdd, Int.reduceSub, Int.reduceMul]; rfl)) (by simp) (SegLe.flat (Nat.le_refl _) id (.inr rfl) fun z hz => ⟨rfl, by first | exact shC_flat _ _ | exact brC_flat _ hz | exact pair_flat _ _ hz | exact cl_flat (l := [_, _, _, _, _]) (by simp [SV.flat]) hz | exact cl_flat (l := [_, _, _]) (by simp [SV.flat]) hz | trivial⟩) ?_)); exact impH.base0 hok (by simp) (by simp only [go_sem, Nat.reduceBEq, Nat.reduceLT, Nat.reduceLeDiff, Nat.reduceAdd, Nat.reduceMul, Nat.reduceSub, Nat.reduceMod, Nat.reduceDiv, Nat.reduceEqDiff, Int.reduceToNat, reduceIte, reduceCtorEq, Int.reduceLE, Int.reduceLT, Int.reduceEq, Int.reduceNeg, Int.reduceAdd, Int.reduceSub, Int.reduceMul, HExt_cons])
    · have hy8 : y = 8 := by omega
      subst hy8
      rfl
end
end Go.Proofs.Ytdbhfipkopfooaa.V

/- StainOf by the reference: the walk. -/
namespace Go.Proofs.Ytdbhfipkopfooaa.V
theorem spots_push {A : List (Int × Int)} {a : Int × Int} {c : Nat → SV} (hc0 : c 0 = .int .i8 a.1) (hc1 : c 1 = .int .i8 a.2) {z : Nat} (hz : z < (A ++ [a]).length * 2) : both (A.length * 2) (spotsC A) (news c 0) z = spotsC (A ++ [a]) z := by
  rw [List.length_append, List.length_singleton] at hz
  unfold both news
  split
  · rename_i h5; rw [spotsC_take (b := [a]) h5]
  · rename_i h5
    rcases (by omega : z = A.length * 2 ∨ z = A.length * 2 + 1) with rfl | rfl
    · rw [(spotsC_last _ _).1, Nat.sub_self, ← hc0]
    · rw [(spotsC_last _ _).2, Nat.add_sub_cancel_left, ← hc1]
section
variable (cx : Cx) (h : List (Nat × Seg)) (n : Nat)
theorem run2_Q (S : Sh) (W H : Nat) (hR : ShR S) (hG : Good S) (hW : S.wide = W) (hH : S.high = H) :
    CallQ Try.prog cx 62 [.agg 266 (shC S)] h n (.tup 2 (cl [.agg 266 (shC (runS S W H).1), .int .i64 (runS S W H).2])) :=
  CallE.toQ (by rw [lt_tup2]; exact ⟨shC_lt _ n, trivial⟩) fun K hK => run2_E cx h n _ S W H (shF_shC hR) hG hW hH K fun F' hF' => hK _ fun ρ => by
    simp only [den]
    congr 1
    refine arr_congr fun j hj => ?_
    rcases (by omega : j = 0 ∨ j = 1) with rfl | rfl
    · exact hF'.denC ρ
    · rfl
theorem until2_Q (S : Sh) (W H : Nat) (hR : ShR S) (hG : Good S) (hW : S.wide = W) (hH : S.high = H) :
    CallQ Try.prog cx 32 [.agg 266 (shC S)] h n (.tup 3 (cl [.agg 266 (shC (if (untilN W H 500 0 S).2.2 then (untilN W H 500 0 S).1 else sh0)), .int .i64 (untilN W H 500 0 S).2.1, .int .i64 (if (untilN W H 500 0 S).2.2 then 0 else 7)])) := by
  refine callQ_of_T (P := Try.prog) hti (nt := 23) (rs := [.cell 2 37, .tmp 3, .tmp 4]) rfl rfl Try.call32 Try.func32 rfl _ (by simp only [go_sem, and_self]) (Nat.le_of_ble_eq_true rfl) _ (by first | exact trivial | (refine lt_flat rfl ?_; simp [SV.flat]; done) | simp only [go_sem]) fun hok => ?_
  simp only [go_sem, Nat.reduceBEq, Nat.reduceLT, Nat.reduceLeDiff, Nat.reduceAdd, Nat.reduceMul, Nat.reduceSub, Nat.reduceMod, Nat.reduceDiv, Nat.reduceEqDiff, Int.reduceToNat, reduceIte, reduceCtorEq, Int.reduceLE, Int.reduceLT, Int.reduceEq, Int.reduceNeg, Int.reduceAdd, Int.reduceSub, Int.reduceMul]
  refine T_lp (ι := { p : Nat × Sh // p.1 ≤ 500 ∧ ShR p.2 ∧ Good p.2 ∧ p.2.wide = W ∧ p.2.high = H ∧ untilN W H (500 - p.1) p.1 p.2 = untilN W H 500 0 S })
    (fun p => ([(1, .ptr n 0), (2, .ptr (n + 1) 0), (5, .int .i64 p.1.1)], (n + 1, shS sh0) :: (n, shS p.1.2) :: h, n + 2)) (fun p => 500 - p.1.1) ⟨(0, S), by simp, hR, hG, hW, hH, rfl⟩ ?_ ?_
  · refine Imp.id (by simp) ?_ ?_
    · simp only [go_sem, Nat.reduceBEq, Nat.reduceLT, Nat.reduceLeDiff, Nat.reduceAdd, Nat.reduceMul, Nat.reduceSub, Nat.reduceMod, Nat.reduceDiv, Nat.reduceEqDiff, Int.reduceToNat, reduceIte, reduceCtorEq, Int.reduceLE, Int.reduceLT, Int.reduceEq, Int.reduceNeg, Int.reduceAdd, Int.reduceSub, Int.reduceMul]
      omega
    · (repeat (refine impH.cons0 (by first | (simp only [go_sem, Nat.reduceBEq, Nat.reduceLT, Nat.reduceLeDiff, Nat.reduceAdd, Nat.reduceMul, Nat.reduceSub, Nat.reduceMod, Nat.reduceDiv, Nat.reduceEqDiff, Int.reduceToNat, reduceIte, reduceCtorEq, Int.reduceLE, Int.reduceLT, Int.reduceEq, Int.reduceNeg, Int.reduceAdd, Int.reduceSub, Int.reduceMul]; done) | (simp only [go_sem, Nat.reduceBEq, Nat.reduceLT, Nat.reduceLeDiff, Nat.reduceAdd, Nat.reduceMul, Nat.reduceSub, Nat.reduceMod, Nat.reduceDiv, Nat.reduceEqDiff, Int.reduceToNat, reduceIte, reduceCtorEq, Int.reduceLE, Int.reduceLT, Int.reduceEq, Int.reduceNeg, Int.reduceAdd, Int.reduceSub, Int.reduceMul]; rfl)) (by simp) (SegLe.flat (Nat.le_refl _) id (.inr rfl) fun z hz => ⟨rfl, by first | exact shC_flat _ _ | exact brC_flat _ hz | exact pair_flat _ _ hz | exact cl_flat (l := [_, _, _, _, _]) (by simp [SV.flat]) hz | exact cl_flat (l := [_, _, _]) (by simp [SV.flat]) hz | trivial⟩) ?_)); exact impH.base0 hok (by simp) (by simp only [go_sem, Nat.reduceBEq, Nat.reduceLT, Nat.reduceLeDiff, Nat.reduceAdd, Nat.reduceMul, Nat.reduceSub, Nat.reduceMod, Nat.reduceDiv, Nat.reduceEqDiff, Int.reduceToNat, reduceIte, reduceCtorEq, Int.reduceLE, Int.reduceLT, Int.reduceEq, Int.reduceNeg, Int.reduceAdd, Int.reduceSub, Int.reduceMul, HExt_cons])
  · rintro ⟨⟨k, S1⟩, hk, hR1, hG1, hW1, hH1, he⟩
    simp only at hk hR1 hG1 hW1 hH1 he
    simp only [go_sem, Nat.reduceBEq, Nat.reduceLT, Nat.reduceLeDiff, Nat.reduceAdd, Nat.reduceMul, Nat.reduceSub, Nat.reduceMod, Nat.reduceDiv, Nat.reduceEqDiff, Int.reduceToNat, reduceIte, reduceCtorEq, Int.reduceLE, Int.reduceLT, Int.reduceEq, Int.reduceNeg, Int.reduceAdd, Int.reduceSub, Int.reduceMul]
    refine (run2_Q _ _ _ S1 W H hR1 hG1 hW1 hH1).A ?_
    obtain ⟨g1, g2, g3, g4⟩ := runS_good hG1 hW1 hH1
    by_cases h0 : (runS S1 W H).2 = 0
    · rw [untilN_stop h0] at he
      have hst := runS_still h0
      simp only [go_sem, Nat.reduceBEq, Nat.reduceLT, Nat.reduceLeDiff, Nat.reduceAdd, Nat.reduceMul, Nat.reduceSub, Nat.reduceMod, Nat.reduceDiv, Nat.reduceEqDiff, Int.reduceToNat, reduceIte, reduceCtorEq, Int.reduceLE, Int.reduceLT, Int.reduceEq, Int.reduceNeg, Int.reduceAdd, Int.reduceSub, Int.reduceMul, h0, ← he, hst, if_true]
    · by_cases h5 : k = 500
      · subst h5
        rw [Nat.sub_self, untilN_end h0] at he
        simp only [go_sem, Nat.reduceBEq, Nat.reduceLT, Nat.reduceLeDiff, Nat.reduceAdd, Nat.reduceMul, Nat.reduceSub, Nat.reduceMod, Nat.reduceDiv, Nat.reduceEqDiff, Int.reduceToNat, reduceIte, reduceCtorEq, Int.reduceLE, Int.reduceLT, Int.reduceEq, Int.reduceNeg, Int.reduceAdd, Int.reduceSub, Int.reduceMul, h0, ← he]
      · have hk5 : ¬ ((k : Int) = 500) := by omega
        rw [show 500 - k = (500 - (k + 1)) + 1 by omega, untilN_next h0] at he
        simp only [go_sem, Nat.reduceBEq, Nat.reduceLT, Nat.reduceLeDiff, Nat.reduceAdd, Nat.reduceMul, Nat.reduceSub, Nat.reduceMod, Nat.reduceDiv, Nat.reduceEqDiff, Int.reduceToNat, reduceIte, reduceCtorEq, Int.reduceLE, Int.reduceLT, Int.reduceEq, Int.reduceNeg, Int.reduceAdd, Int.reduceSub, Int.reduceMul, h0, hk5]
        refine ⟨⟨(k + 1, (runS S1 W H).1), by show k + 1 ≤ 500; omega, runN_R hR1 _ _, g1, g2.wide.trans hW1, g2.high.trans hH1, he⟩, by show 500 - (k + 1) < 500 - k; omega, ?_⟩
        refine Imp.id (by simp) ?_ ?_
        · simp only [go_sem, Nat.reduceBEq, Nat.reduceLT, Nat.reduceLeDiff, Nat.reduceAdd, Nat.reduceMul, Nat.reduceSub, Nat.reduceMod, Nat.reduceDiv, Nat.reduceEqDiff, Int.reduceToNat, reduceIte, reduceCtorEq, Int.reduceLE, Int.reduceLT, Int.reduceEq, Int.reduceNeg, Int.reduceAdd, Int.reduceSub, Int.reduceMul, w64 (n := (k : Int) + 1) (by omega), Int.natCast_add, Int.natCast_one]
          omega
        · (repeat (refine impH.cons0 (by first | (simp only [go_sem, Nat.reduceBEq, Nat.reduceLT, Nat.reduceLeDiff, Nat.reduceAdd, Nat.reduceMul, Nat.reduceSub, Nat.reduceMod, Nat.reduceDiv, Nat.reduceEqDiff, Int.reduceToNat, reduceIte, reduceCtorEq, Int.reduceLE, Int.reduceLT, Int.reduceEq, Int.reduceNeg, Int.reduceAdd, Int.reduceSub, Int.reduceMul]; done) | (simp only [go_sem, Nat.reduceBEq, Nat.reduceLT, Nat.reduceLeDiff, Nat.reduceAdd, Nat.reduceMul, Nat.reduceSub, Nat.reduceMod, Nat.reduceDiv, Nat.reduceEqDiff, Int.reduceToNat, reduceIte, reduceCtorEq, Int.reduceLE, Int.reduceLT, Int.reduceEq, Int.reduceNeg, Int.reduceAdd, Int.reduceSub, Int.reduceMul]; rfl)) (by simp) (SegLe.flat (Nat.le_refl _) id (.inr rfl) fun z hz => ⟨rfl, by first | exact shC_flat _ _ | exact brC_flat _ hz | exact pair_flat _ _ hz | exact cl_flat (l := [_, _, _, _, _]) (by simp [SV.flat]) hz | exact cl_flat (l := [_, _, _]) (by simp [SV.flat]) hz | trivial⟩) ?_)); exact impH.base0 hok (by simp) (by simp only [go_sem, Nat.reduceBEq, Nat.reduceLT, Nat.reduceLeDiff, Nat.reduceAdd, Nat.reduceMul, Nat.reduceSub, Nat.reduceMod, Nat.reduceDiv, Nat.reduceEqDiff, Int.reduceToNat, reduceIte, reduceCtorEq, Int.reduceLE, Int.reduceLT, Int.reduceEq, Int.reduceNeg, Int.reduceAdd, Int.reduceSub, Int.reduceMul, HExt_cons])
theorem dyed2_E (i : Nat) (S : Sh) (W H : Nat) (hs : hget h i = some (shS S)) (hi : i < n) (hR : ShR S) (hG : Good S) (hW : S.wide = W) (hH : S.high = H) (hW8 : W ≤ 8) (hH8 : H ≤ 8) (least : Int) (K : HK)
    (hK : ∀ V h' n', n ≤ n' → HExt n h h' → HOk n' h' → SpsOut h' n n' V (dyedL S W H least) → K V h' n') :
    CallE Try.prog cx 33 [.ptr i 0, .int .i64 least] h n K := by
  have hWH : H * W ≤ 64 := Nat.mul_le_mul hH8 hW8
  unfold dyedL at hK
  generalize hP : (fun a : Int × Int => decide (least ≤ darkB S a.1 a.2)) = P at hK
  have hPj : ∀ a, P a = decide (least ≤ darkB S a.1 a.2) := fun a => by rw [← hP]
  have hLl := cellsL_len W H
  have hLg := cellsL_get W H
  generalize cellsL W H = L at *
  refine CallE.hokE ?_
  refine callE_of_T (P := Try.prog) hti (nt := 33) (rs := [.tmp 4]) rfl rfl Try.call33 Try.func33 rfl _ (by simp only [go_sem, and_self]) (Nat.le_of_ble_eq_true rfl) _ fun hok => ?_
  simp only [go_sem, Nat.reduceBEq, Nat.reduceLT, Nat.reduceLeDiff, Nat.reduceAdd, Nat.reduceMul, Nat.reduceSub, Nat.reduceMod, Nat.reduceDiv, Nat.reduceEqDiff, Int.reduceToNat, reduceIte, reduceCtorEq, Int.reduceLE, Int.reduceLT, Int.reduceEq, Int.reduceNeg, Int.reduceAdd, Int.reduceSub, Int.reduceMul]
  refine callA_false (spots_E _ _ _ i 0 _ S W H (by simp only [go_sem, Nat.reduceBEq, Nat.reduceLT, Nat.reduceLeDiff, Nat.reduceAdd, Nat.reduceMul, Nat.reduceSub, Nat.reduceMod, Nat.reduceDiv, Nat.reduceEqDiff, Int.reduceToNat, reduceIte, reduceCtorEq, Int.reduceLE, Int.reduceLT, Int.reduceEq, Int.reduceNeg, Int.reduceAdd, Int.reduceSub, Int.reduceMul, hs, hi]) (by omega) (shAt_shC hR) hW hH hW8 hH8 _ fun cap0 hc1 hc2 => ?_)
  simp only [go_sem, Nat.reduceBEq, Nat.reduceLT, Nat.reduceLeDiff, Nat.reduceAdd, Nat.reduceMul, Nat.reduceSub, Nat.reduceMod, Nat.reduceDiv, Nat.reduceEqDiff, Int.reduceToNat, reduceIte, reduceCtorEq, Int.reduceLE, Int.reduceLT, Int.reduceEq, Int.reduceNeg, Int.reduceAdd, Int.reduceSub, Int.reduceMul]
  have ok1 : HOk (n + 1) ((n, ⟨H * W * 2, cellC W, true, some (39, cap0 * 2)⟩) :: h) := hok_cons (hok_up hok (by omega)) (by omega) fun k hk => cellC_flat W k
  refine T_lp (ι := { w : Nat × Nat // w.1 ≤ H * W ∧ ((L.take w.1).filter P).length ≤ w.2 ∧ w.2 ≤ maxLen })
    (fun w => ([(0, .ptr i 0), (1, .int .i64 least), (5, .sl n 0 (H * W) cap0), (6, .sl (n + 1) 0 ((L.take w.1.1).filter P).length w.1.2), (7, .int .i64 w.1.1)],
      (n + 1, ⟨((L.take w.1.1).filter P).length * 2, spotsC ((L.take w.1.1).filter P), true, some (39, w.1.2 * 2)⟩) :: (n, ⟨H * W * 2, cellC W, true, some (39, cap0 * 2)⟩) :: h, n + 2)) (fun w => H * W - w.1.1) ⟨(0, 0), by simp⟩ ?_ ?_
  · exact imp_oneE (s' := ⟨0, zrow (ti 39), true, some (39, 0)⟩) (n + 1) (n + 1) (Nat.le_add_right n 1) ok1 (by simp only [go_sem, Nat.reduceBEq, Nat.reduceLT, Nat.reduceLeDiff, Nat.reduceAdd, Nat.reduceMul, Nat.reduceSub, Nat.reduceMod, Nat.reduceDiv, Nat.reduceEqDiff, Int.reduceToNat, reduceIte, reduceCtorEq, Int.reduceLE, Int.reduceLT, Int.reduceEq, Int.reduceNeg, Int.reduceAdd, Int.reduceSub, Int.reduceMul, HExt_cons]) (by omega) (by simp only [go_sem, Nat.reduceBEq, Nat.reduceLT, Nat.reduceLeDiff, Nat.reduceAdd, Nat.reduceMul, Nat.reduceSub, Nat.reduceMod, Nat.reduceDiv, Nat.reduceEqDiff, Int.reduceToNat, reduceIte, reduceCtorEq, Int.reduceLE, Int.reduceLT, Int.reduceEq, Int.reduceNeg, Int.reduceAdd, Int.reduceSub, Int.reduceMul]) ⟨by simp, fun _ => rfl, .inr (by simp), fun k hk => by simp at hk⟩ (fun k hk => spotsC_flat _ _) (by simp only [go_sem, Nat.reduceBEq, Nat.reduceLT, Nat.reduceLeDiff, Nat.reduceAdd, Nat.reduceMul, Nat.reduceSub, Nat.reduceMod, Nat.reduceDiv, Nat.reduceEqDiff, Int.reduceToNat, reduceIte, reduceCtorEq, Int.reduceLE, Int.reduceLT, Int.reduceEq, Int.reduceNeg, Int.reduceAdd, Int.reduceSub, Int.reduceMul, hi, List.take_zero, List.filter_nil, List.length_nil]; omega)
  · rintro ⟨⟨k, cap⟩, hk, hcap, hm⟩
    simp only at hk hcap hm
    have hlen : ((L.take k).filter P).length ≤ k := filter_len P _ k
    simp only [go_sem, Nat.reduceBEq, Nat.reduceLT, Nat.reduceLeDiff, Nat.reduceAdd, Nat.reduceMul, Nat.reduceSub, Nat.reduceMod, Nat.reduceDiv, Nat.reduceEqDiff, Int.reduceToNat, reduceIte, reduceCtorEq, Int.reduceLE, Int.reduceLT, Int.reduceEq, Int.reduceNeg, Int.reduceAdd, Int.reduceSub, Int.reduceMul, decide_eq_true_eq, decide_eq_false_iff_not]
    refine ⟨fun h1 => ?_, fun h1 => ?_⟩
    · have hj : k < H * W := by omega
      have r1 : (0 : Int) ≤ k ∧ (k : Int) < ((H * W : Nat) : Int) := ⟨by omega, h1⟩
      have b1 : k * 2 ≤ H * W * 2 - 2 := by omega
      have b3 : 2 ≤ H * W * 2 := by omega
      obtain ⟨x0, x8, y0, y8⟩ := cell_in hG.small hW hH hj
      simp only [go_sem, Nat.reduceBEq, Nat.reduceLT, Nat.reduceLeDiff, Nat.reduceAdd, Nat.reduceMul, Nat.reduceSub, Nat.reduceMod, Nat.reduceDiv, Nat.reduceEqDiff, Int.reduceToNat, reduceIte, reduceCtorEq, Int.reduceLE, Int.reduceLT, Int.reduceEq, Int.reduceNeg, Int.reduceAdd, Int.reduceSub, Int.reduceMul, r1, b1, b3, cellC_x, cellC_y]
      refine ⟨by omega, (dark2_Q _ _ _ i S _ _ (by simp only [go_sem, Nat.reduceBEq, Nat.reduceLT, Nat.reduceLeDiff, Nat.reduceAdd, Nat.reduceMul, Nat.reduceSub, Nat.reduceMod, Nat.reduceDiv, Nat.reduceEqDiff, Int.reduceToNat, reduceIte, reduceCtorEq, Int.reduceLE, Int.reduceLT, Int.reduceEq, Int.reduceNeg, Int.reduceAdd, Int.reduceSub, Int.reduceMul, hs, hi]) (by omega) hG x0 x8 y0 y8).A ?_⟩
      have hPk : P (L.getD k (0, 0)) = decide (least ≤ darkB S ((k % W : Nat) : Int) ((k / W : Nat) : Int)) := by rw [hPj, hLg k hj]
      by_cases hl : least ≤ darkB S ((k % W : Nat) : Int) ((k / W : Nat) : Int)
      · have hf : (L.take (k + 1)).filter P = (L.take k).filter P ++ [L.getD k (0, 0)] := by
          rw [take_filter P _ k (by omega), hPk, decide_eq_true hl]; rfl
        simp only [go_sem, Nat.reduceBEq, Nat.reduceLT, Nat.reduceLeDiff, Nat.reduceAdd, Nat.reduceMul, Nat.reduceSub, Nat.reduceMod, Nat.reduceDiv, Nat.reduceEqDiff, Int.reduceToNat, reduceIte, reduceCtorEq, Int.reduceLE, Int.reduceLT, Int.reduceEq, Int.reduceNeg, Int.reduceAdd, Int.reduceSub, Int.reduceMul, hl, r1, b1, b3, cellC_x, cellC_y, ↓hok.del (show n ≤ n + 1 by simp)]
        refine ⟨by omega, ⟨hcap, hm, by omega⟩, fun cap' h3 h4 => ⟨⟨(k + 1, cap'), by show k + 1 ≤ H * W; omega, by simp only [hf, List.length_append, List.length_singleton]; exact h3, h4⟩, by show H * W - (k + 1) < H * W - k; omega, ?_⟩⟩
        simp only [hf]
        exact imp_oneE (n + 1) (n + 3) (Nat.le_add_right n 1) ok1 (by simp only [go_sem, Nat.reduceBEq, Nat.reduceLT, Nat.reduceLeDiff, Nat.reduceAdd, Nat.reduceMul, Nat.reduceSub, Nat.reduceMod, Nat.reduceDiv, Nat.reduceEqDiff, Int.reduceToNat, reduceIte, reduceCtorEq, Int.reduceLE, Int.reduceLT, Int.reduceEq, Int.reduceNeg, Int.reduceAdd, Int.reduceSub, Int.reduceMul, HExt_cons]) (by omega) (hget_hit _ _ _) ⟨by simp, fun _ => rfl, .inr rfl, fun z hz => spots_push (by rw [hLg k hj]; rfl) (by rw [hLg k hj]; rfl) hz⟩ (fun k hk => spotsC_flat _ _) (by simp only [go_sem, Nat.reduceBEq, Nat.reduceLT, Nat.reduceLeDiff, Nat.reduceAdd, Nat.reduceMul, Nat.reduceSub, Nat.reduceMod, Nat.reduceDiv, Nat.reduceEqDiff, Int.reduceToNat, reduceIte, reduceCtorEq, Int.reduceLE, Int.reduceLT, Int.reduceEq, Int.reduceNeg, Int.reduceAdd, Int.reduceSub, Int.reduceMul, hi, List.length_append, List.length_singleton, w64 (n := (k : Int) + 1) (by omega), Int.natCast_add, Int.natCast_one]; omega)
      · have hf : (L.take (k + 1)).filter P = (L.take k).filter P := by
          rw [take_filter P _ k (by omega), hPk, decide_eq_false hl]; simp
        simp only [go_sem, Nat.reduceBEq, Nat.reduceLT, Nat.reduceLeDiff, Nat.reduceAdd, Nat.reduceMul, Nat.reduceSub, Nat.reduceMod, Nat.reduceDiv, Nat.reduceEqDiff, Int.reduceToNat, reduceIte, reduceCtorEq, Int.reduceLE, Int.reduceLT, Int.reduceEq, Int.reduceNeg, Int.reduceAdd, Int.reduceSub, Int.reduceMul, hl]
        refine ⟨⟨(k + 1, cap), by show k + 1 ≤ H * W; omega, by simp only [hf]; exact hcap, hm⟩, by show H * W - (k + 1) < H * W - k; omega, ?_⟩
        simp only [hf]
        exact imp_oneE (n + 1) (n + 1) (Nat.le_add_right n 1) ok1 (by simp only [go_sem, Nat.reduceBEq, Nat.reduceLT, Nat.reduceLeDiff, Nat.reduceAdd, Nat.reduceMul, Nat.reduceSub, Nat.reduceMod, Nat.reduceDiv, Nat.reduceEqDiff, Int.reduceToNat, reduceIte, reduceCtorEq, Int.reduceLE, Int.reduceLT, Int.reduceEq, Int.reduceNeg, Int.reduceAdd, Int.reduceSub, Int.reduceMul, HExt_cons]) (by omega) (by simp only [go_sem, Nat.reduceBEq, Nat.reduceLT, Nat.reduceLeDiff, Nat.reduceAdd, Nat.reduceMul, Nat.reduceSub, Nat.reduceMod, Nat.reduceDiv, Nat.reduceEqDiff, Int.reduceToNat, reduceIte, reduceCtorEq, Int.reduceLE, Int.reduceLT, Int.reduceEq, Int.reduceNeg, Int.reduceAdd, Int.reduceSub, Int.reduceMul]) .rfl' (fun k hk => spotsC_flat _ _) (by simp only [go_sem, Nat.reduceBEq, Nat.reduceLT, Nat.reduceLeDiff, Nat.reduceAdd, Nat.reduceMul, Nat.reduceSub, Nat.reduceMod, Nat.reduceDiv, Nat.reduceEqDiff, Int.reduceToNat, reduceIte, reduceCtorEq, Int.reduceLE, Int.reduceLT, Int.reduceEq, Int.reduceNeg, Int.reduceAdd, Int.reduceSub, Int.reduceMul, hi, w64 (n := (k : Int) + 1) (by omega), Int.natCast_add, Int.natCast_one]; omega)
    · have hk4 : k = H * W := by omega
      subst hk4
      have ht : L.take (H * W) = L := by rw [← hLl]; exact List.take_length
      rw [ht]
      exact fun hok' => hK _ _ _ (by omega) (by simp only [go_sem, Nat.reduceBEq, Nat.reduceLT, Nat.reduceLeDiff, Nat.reduceAdd, Nat.reduceMul, Nat.reduceSub, Nat.reduceMod, Nat.reduceDiv, Nat.reduceEqDiff, Int.reduceToNat, reduceIte, reduceCtorEq, Int.reduceLE, Int.reduceLT, Int.reduceEq, Int.reduceNeg, Int.reduceAdd, Int.reduceSub, Int.reduceMul, HExt_cons]) hok' (.inr ⟨n + 1, cap, _, rfl, by omega, by omega, hget_hit _ _ _, rfl, rfl, fun k hk => rfl⟩)
theorem stain2_E (S : Sh) (x y ink amount water : Int) (hR : ShR S) (hx : -128 ≤ x ∧ x < 128) (hy : -128 ≤ y ∧ y < 128) (K : HK)
    (hK : ∀ V h' n', n ≤ n' → HExt n h h' → HOk n' h' → SpsOut h' n n' V (stainR S x y ink amount water).1 → K (.tup 2 (cl [V, .int .i64 (stainR S x y ink amount water).2])) h' n') :
    CallE Try.prog cx 7 [.agg 266 (shC S), spot x y, .int .i64 ink, .int .i64 amount, .int .i64 water] h n K := by
  refine CallE.hokE ?_
  have bad : ∀ (c : Int) (k cp : Nat) (z : Nat → SV) (ow : Option (Nat × Nat)) (h' : List (Nat × Seg)) (n' : Nat), stainR S x y ink amount water = ([], c) → n ≤ k → k < n' → n ≤ n' → hget h' k = some ⟨0, z, true, ow⟩ → HExt n h h' → HOk n' h' → K (.tup 2 (cl [.sl k 0 0 cp, .int .i64 c])) h' n' := fun c k cp z ow h' n' e hk hk' hn' hg hx hok' => by
    have := hK (.sl k 0 0 cp) h' n' hn' hx hok' (by rw [e]; exact .inr ⟨k, cp, _, rfl, hk, hk', hg, rfl, rfl, fun j hj => absurd hj (Nat.not_lt_zero j)⟩)
    rw [e] at this; exact this
  have no : ∀ c, codeI S (hasB S x y && false) = c → dropB S x y ink amount water = false → stainR S x y ink amount water = ([], c) ∧ ¬ c = 0 := fun c e hd => by
    by_cases hV : Valid S
    · rw [codeI_ok hV, Bool.and_false] at e
      exact ⟨by rw [stainR_range hV (by rw [hd]; simp), ← e]; rfl, by rw [← e]; simp⟩
    · rw [codeI_bad hV] at e
      exact ⟨by rw [stainR_bad hV, ← e], by rw [← e]; simp⟩
  refine callE_of_T (P := Try.prog) hti (nt := 84) (rs := [.tmp 10, .tmp 11]) rfl rfl Try.call7 Try.func7 rfl _ (by simp only [go_sem, and_self]) (Nat.le_of_ble_eq_true rfl) _ fun hok => ?_
  simp only [go_sem, Nat.reduceBEq, Nat.reduceLT, Nat.reduceLeDiff, Nat.reduceAdd, Nat.reduceMul, Nat.reduceSub, Nat.reduceMod, Nat.reduceDiv, Nat.reduceEqDiff, Int.reduceToNat, reduceIte, reduceCtorEq, Int.reduceLE, Int.reduceLT, Int.reduceEq, Int.reduceNeg, Int.reduceAdd, Int.reduceSub, Int.reduceMul]
  refine T_draw hti _ _ (by kernel_rfl) (by kernel_rfl) ?_
  simp only [go_sem, Nat.reduceBEq, Nat.reduceLT, Nat.reduceLeDiff, Nat.reduceAdd, Nat.reduceMul, Nat.reduceSub, Nat.reduceMod, Nat.reduceDiv, Nat.reduceEqDiff, Int.reduceToNat, reduceIte, reduceCtorEq, Int.reduceLE, Int.reduceLT, Int.reduceEq, Int.reduceNeg, Int.reduceAdd, Int.reduceSub, Int.reduceMul]
  refine (ink2_Q _ _ _ ink).A ?_
  by_cases h1 : 0 ≤ ink ∧ ink ≤ 2
  rotate_left
  · have hd : dropB S x y ink amount water = false := by simp [dropB, h1]
    simp only [go_sem, Nat.reduceBEq, Nat.reduceLT, Nat.reduceLeDiff, Nat.reduceAdd, Nat.reduceMul, Nat.reduceSub, Nat.reduceMod, Nat.reduceDiv, Nat.reduceEqDiff, Int.reduceToNat, reduceIte, reduceCtorEq, Int.reduceLE, Int.reduceLT, Int.reduceEq, Int.reduceNeg, Int.reduceAdd, Int.reduceSub, Int.reduceMul, h1]
    refine (asked2_Q _ _ _ n S x y false (by simp only [go_sem, Nat.reduceBEq, Nat.reduceLT, Nat.reduceLeDiff, Nat.reduceAdd, Nat.reduceMul, Nat.reduceSub, Nat.reduceMod, Nat.reduceDiv, Nat.reduceEqDiff, Int.reduceToNat, reduceIte, reduceCtorEq, Int.reduceLE, Int.reduceLT, Int.reduceEq, Int.reduceNeg, Int.reduceAdd, Int.reduceSub, Int.reduceMul]) (by omega) hR hx hy).A ?_
    generalize hc : codeI S (hasB S x y && false) = c
    obtain ⟨e1, e2⟩ := no c hc hd
    simp only [go_sem, Nat.reduceBEq, Nat.reduceLT, Nat.reduceLeDiff, Nat.reduceAdd, Nat.reduceMul, Nat.reduceSub, Nat.reduceMod, Nat.reduceDiv, Nat.reduceEqDiff, Int.reduceToNat, reduceIte, reduceCtorEq, Int.reduceLE, Int.reduceLT, Int.reduceEq, Int.reduceNeg, Int.reduceAdd, Int.reduceSub, Int.reduceMul, e2]
    exact fun hok' => bad c (n + 2) _ _ _ _ _ e1 (by omega) (by omega) (by omega) (by simp only [go_sem, Nat.reduceBEq, Nat.reduceLT, Nat.reduceLeDiff, Nat.reduceAdd, Nat.reduceMul, Nat.reduceSub, Nat.reduceMod, Nat.reduceDiv, Nat.reduceEqDiff, Int.reduceToNat, reduceIte, reduceCtorEq, Int.reduceLE, Int.reduceLT, Int.reduceEq, Int.reduceNeg, Int.reduceAdd, Int.reduceSub, Int.reduceMul]; rfl) (by simp only [go_sem, Nat.reduceBEq, Nat.reduceLT, Nat.reduceLeDiff, Nat.reduceAdd, Nat.reduceMul, Nat.reduceSub, Nat.reduceMod, Nat.reduceDiv, Nat.reduceEqDiff, Int.reduceToNat, reduceIte, reduceCtorEq, Int.reduceLE, Int.reduceLT, Int.reduceEq, Int.reduceNeg, Int.reduceAdd, Int.reduceSub, Int.reduceMul, HExt_cons]) hok'
  simp only [go_sem, Nat.reduceBEq, Nat.reduceLT, Nat.reduceLeDiff, Nat.reduceAdd, Nat.reduceMul, Nat.reduceSub, Nat.reduceMod, Nat.reduceDiv, Nat.reduceEqDiff, Int.reduceToNat, reduceIte, reduceCtorEq, Int.reduceLE, Int.reduceLT, Int.reduceEq, Int.reduceNeg, Int.reduceAdd, Int.reduceSub, Int.reduceMul, h1]
  refine (in_Q _ _ _ _ _ _).A ?_
  by_cases h2 : 0 ≤ amount ∧ amount ≤ 1000
  rotate_left
  · have hd : dropB S x y ink amount water = false := by simp [dropB, h2]
    simp only [go_sem, Nat.reduceBEq, Nat.reduceLT, Nat.reduceLeDiff, Nat.reduceAdd, Nat.reduceMul, Nat.reduceSub, Nat.reduceMod, Nat.reduceDiv, Nat.reduceEqDiff, Int.reduceToNat, reduceIte, reduceCtorEq, Int.reduceLE, Int.reduceLT, Int.reduceEq, Int.reduceNeg, Int.reduceAdd, Int.reduceSub, Int.reduceMul, h2]
    refine (asked2_Q _ _ _ n S x y false (by simp only [go_sem, Nat.reduceBEq, Nat.reduceLT, Nat.reduceLeDiff, Nat.reduceAdd, Nat.reduceMul, Nat.reduceSub, Nat.reduceMod, Nat.reduceDiv, Nat.reduceEqDiff, Int.reduceToNat, reduceIte, reduceCtorEq, Int.reduceLE, Int.reduceLT, Int.reduceEq, Int.reduceNeg, Int.reduceAdd, Int.reduceSub, Int.reduceMul]) (by omega) hR hx hy).A ?_
    generalize hc : codeI S (hasB S x y && false) = c
    obtain ⟨e1, e2⟩ := no c hc hd
    simp only [go_sem, Nat.reduceBEq, Nat.reduceLT, Nat.reduceLeDiff, Nat.reduceAdd, Nat.reduceMul, Nat.reduceSub, Nat.reduceMod, Nat.reduceDiv, Nat.reduceEqDiff, Int.reduceToNat, reduceIte, reduceCtorEq, Int.reduceLE, Int.reduceLT, Int.reduceEq, Int.reduceNeg, Int.reduceAdd, Int.reduceSub, Int.reduceMul, e2]
    exact fun hok' => bad c (n + 2) _ _ _ _ _ e1 (by omega) (by omega) (by omega) (by simp only [go_sem, Nat.reduceBEq, Nat.reduceLT, Nat.reduceLeDiff, Nat.reduceAdd, Nat.reduceMul, Nat.reduceSub, Nat.reduceMod, Nat.reduceDiv, Nat.reduceEqDiff, Int.reduceToNat, reduceIte, reduceCtorEq, Int.reduceLE, Int.reduceLT, Int.reduceEq, Int.reduceNeg, Int.reduceAdd, Int.reduceSub, Int.reduceMul]; rfl) (by simp only [go_sem, Nat.reduceBEq, Nat.reduceLT, Nat.reduceLeDiff, Nat.reduceAdd, Nat.reduceMul, Nat.reduceSub, Nat.reduceMod, Nat.reduceDiv, Nat.reduceEqDiff, Int.reduceToNat, reduceIte, reduceCtorEq, Int.reduceLE, Int.reduceLT, Int.reduceEq, Int.reduceNeg, Int.reduceAdd, Int.reduceSub, Int.reduceMul, HExt_cons]) hok'
  simp only [go_sem, Nat.reduceBEq, Nat.reduceLT, Nat.reduceLeDiff, Nat.reduceAdd, Nat.reduceMul, Nat.reduceSub, Nat.reduceMod, Nat.reduceDiv, Nat.reduceEqDiff, Int.reduceToNat, reduceIte, reduceCtorEq, Int.reduceLE, Int.reduceLT, Int.reduceEq, Int.reduceNeg, Int.reduceAdd, Int.reduceSub, Int.reduceMul, h2]
  refine (in_Q _ _ _ _ _ _).A ?_
  by_cases h3 : 0 ≤ water ∧ water ≤ 200
  rotate_left
  · have hd : dropB S x y ink amount water = false := by simp [dropB, h3]
    simp only [go_sem, Nat.reduceBEq, Nat.reduceLT, Nat.reduceLeDiff, Nat.reduceAdd, Nat.reduceMul, Nat.reduceSub, Nat.reduceMod, Nat.reduceDiv, Nat.reduceEqDiff, Int.reduceToNat, reduceIte, reduceCtorEq, Int.reduceLE, Int.reduceLT, Int.reduceEq, Int.reduceNeg, Int.reduceAdd, Int.reduceSub, Int.reduceMul, h3]
    refine (asked2_Q _ _ _ n S x y false (by simp only [go_sem, Nat.reduceBEq, Nat.reduceLT, Nat.reduceLeDiff, Nat.reduceAdd, Nat.reduceMul, Nat.reduceSub, Nat.reduceMod, Nat.reduceDiv, Nat.reduceEqDiff, Int.reduceToNat, reduceIte, reduceCtorEq, Int.reduceLE, Int.reduceLT, Int.reduceEq, Int.reduceNeg, Int.reduceAdd, Int.reduceSub, Int.reduceMul]) (by omega) hR hx hy).A ?_
    generalize hc : codeI S (hasB S x y && false) = c
    obtain ⟨e1, e2⟩ := no c hc hd
    simp only [go_sem, Nat.reduceBEq, Nat.reduceLT, Nat.reduceLeDiff, Nat.reduceAdd, Nat.reduceMul, Nat.reduceSub, Nat.reduceMod, Nat.reduceDiv, Nat.reduceEqDiff, Int.reduceToNat, reduceIte, reduceCtorEq, Int.reduceLE, Int.reduceLT, Int.reduceEq, Int.reduceNeg, Int.reduceAdd, Int.reduceSub, Int.reduceMul, e2]
    exact fun hok' => bad c (n + 2) _ _ _ _ _ e1 (by omega) (by omega) (by omega) (by simp only [go_sem, Nat.reduceBEq, Nat.reduceLT, Nat.reduceLeDiff, Nat.reduceAdd, Nat.reduceMul, Nat.reduceSub, Nat.reduceMod, Nat.reduceDiv, Nat.reduceEqDiff, Int.reduceToNat, reduceIte, reduceCtorEq, Int.reduceLE, Int.reduceLT, Int.reduceEq, Int.reduceNeg, Int.reduceAdd, Int.reduceSub, Int.reduceMul]; rfl) (by simp only [go_sem, Nat.reduceBEq, Nat.reduceLT, Nat.reduceLeDiff, Nat.reduceAdd, Nat.reduceMul, Nat.reduceSub, Nat.reduceMod, Nat.reduceDiv, Nat.reduceEqDiff, Int.reduceToNat, reduceIte, reduceCtorEq, Int.reduceLE, Int.reduceLT, Int.reduceEq, Int.reduceNeg, Int.reduceAdd, Int.reduceSub, Int.reduceMul, HExt_cons]) hok'
  simp only [go_sem, Nat.reduceBEq, Nat.reduceLT, Nat.reduceLeDiff, Nat.reduceAdd, Nat.reduceMul, Nat.reduceSub, Nat.reduceMod, Nat.reduceDiv, Nat.reduceEqDiff, Int.reduceToNat, reduceIte, reduceCtorEq, Int.reduceLE, Int.reduceLT, Int.reduceEq, Int.reduceNeg, Int.reduceAdd, Int.reduceSub, Int.reduceMul, h3]
  refine (asked2_Q _ _ _ n S x y true (by simp only [go_sem, Nat.reduceBEq, Nat.reduceLT, Nat.reduceLeDiff, Nat.reduceAdd, Nat.reduceMul, Nat.reduceSub, Nat.reduceMod, Nat.reduceDiv, Nat.reduceEqDiff, Int.reduceToNat, reduceIte, reduceCtorEq, Int.reduceLE, Int.reduceLT, Int.reduceEq, Int.reduceNeg, Int.reduceAdd, Int.reduceSub, Int.reduceMul]) (by omega) hR hx hy).A ?_
  have hdE : dropB S x y ink amount water = hasB S x y := by simp [dropB, h1, h2, h3]
  by_cases hV : Valid S
  rotate_left
  · rw [codeI_bad hV]
    simp only [go_sem, Nat.reduceBEq, Nat.reduceLT, Nat.reduceLeDiff, Nat.reduceAdd, Nat.reduceMul, Nat.reduceSub, Nat.reduceMod, Nat.reduceDiv, Nat.reduceEqDiff, Int.reduceToNat, reduceIte, reduceCtorEq, Int.reduceLE, Int.reduceLT, Int.reduceEq, Int.reduceNeg, Int.reduceAdd, Int.reduceSub, Int.reduceMul]
    exact fun hok' => bad 1 (n + 2) _ _ _ _ _ (stainR_bad hV) (by omega) (by omega) (by omega) (by simp only [go_sem, Nat.reduceBEq, Nat.reduceLT, Nat.reduceLeDiff, Nat.reduceAdd, Nat.reduceMul, Nat.reduceSub, Nat.reduceMod, Nat.reduceDiv, Nat.reduceEqDiff, Int.reduceToNat, reduceIte, reduceCtorEq, Int.reduceLE, Int.reduceLT, Int.reduceEq, Int.reduceNeg, Int.reduceAdd, Int.reduceSub, Int.reduceMul]; rfl) (by simp only [go_sem, Nat.reduceBEq, Nat.reduceLT, Nat.reduceLeDiff, Nat.reduceAdd, Nat.reduceMul, Nat.reduceSub, Nat.reduceMod, Nat.reduceDiv, Nat.reduceEqDiff, Int.reduceToNat, reduceIte, reduceCtorEq, Int.reduceLE, Int.reduceLT, Int.reduceEq, Int.reduceNeg, Int.reduceAdd, Int.reduceSub, Int.reduceMul, HExt_cons]) hok'
  rw [codeI_ok hV, Bool.and_true]
  obtain ⟨hW, hH, hW8, hH8⟩ := valid_sides hV.1
  by_cases hh : hasB S x y = true
  rotate_left
  · simp only [go_sem, Nat.reduceBEq, Nat.reduceLT, Nat.reduceLeDiff, Nat.reduceAdd, Nat.reduceMul, Nat.reduceSub, Nat.reduceMod, Nat.reduceDiv, Nat.reduceEqDiff, Int.reduceToNat, reduceIte, reduceCtorEq, Int.reduceLE, Int.reduceLT, Int.reduceEq, Int.reduceNeg, Int.reduceAdd, Int.reduceSub, Int.reduceMul, hh]
    exact fun hok' => bad 2 (n + 2) _ _ _ _ _ (stainR_range hV (by rw [hdE]; exact hh)) (by omega) (by omega) (by omega) (by simp only [go_sem, Nat.reduceBEq, Nat.reduceLT, Nat.reduceLeDiff, Nat.reduceAdd, Nat.reduceMul, Nat.reduceSub, Nat.reduceMod, Nat.reduceDiv, Nat.reduceEqDiff, Int.reduceToNat, reduceIte, reduceCtorEq, Int.reduceLE, Int.reduceLT, Int.reduceEq, Int.reduceNeg, Int.reduceAdd, Int.reduceSub, Int.reduceMul]; rfl) (by simp only [go_sem, Nat.reduceBEq, Nat.reduceLT, Nat.reduceLeDiff, Nat.reduceAdd, Nat.reduceMul, Nat.reduceSub, Nat.reduceMod, Nat.reduceDiv, Nat.reduceEqDiff, Int.reduceToNat, reduceIte, reduceCtorEq, Int.reduceLE, Int.reduceLT, Int.reduceEq, Int.reduceNeg, Int.reduceAdd, Int.reduceSub, Int.reduceMul, HExt_cons]) hok'
  have hd : dropB S x y ink amount water = true := by rw [hdE]; exact hh
  obtain ⟨x0, x8, y0, y8⟩ := hasB_in hV.1 hh
  simp only [go_sem, Nat.reduceBEq, Nat.reduceLT, Nat.reduceLeDiff, Nat.reduceAdd, Nat.reduceMul, Nat.reduceSub, Nat.reduceMod, Nat.reduceDiv, Nat.reduceEqDiff, Int.reduceToNat, reduceIte, reduceCtorEq, Int.reduceLE, Int.reduceLT, Int.reduceEq, Int.reduceNeg, Int.reduceAdd, Int.reduceSub, Int.reduceMul, hh]
  refine (sums2_Q _ _ _ n S (by simp only [go_sem, Nat.reduceBEq, Nat.reduceLT, Nat.reduceLeDiff, Nat.reduceAdd, Nat.reduceMul, Nat.reduceSub, Nat.reduceMod, Nat.reduceDiv, Nat.reduceEqDiff, Int.reduceToNat, reduceIte, reduceCtorEq, Int.reduceLE, Int.reduceLT, Int.reduceEq, Int.reduceNeg, Int.reduceAdd, Int.reduceSub, Int.reduceMul]) (by omega) hV.good).A ?_
  have d0 := dyeN_in hV.good hW hH (i := 0) (by omega) (by omega) _ (Nat.le_refl _)
  have d1 := dyeN_in hV.good hW hH (i := 1) (by omega) (by omega) _ (Nat.le_refl _)
  have d2 := dyeN_in hV.good hW hH (i := 2) (by omega) (by omega) _ (Nat.le_refl _)
  have w0 := water_in hV.good hW hH _ (Nat.le_refl _)
  have hHW : S.high.toNat * S.wide.toNat ≤ 64 := Nat.mul_le_mul hH8 hW8
  rw [dye8 hV hW hH (by omega) (by omega), dye8 hV hW hH (by omega) (by omega), dye8 hV hW hH (by omega) (by omega)]
  simp only [go_sem, Nat.reduceBEq, Nat.reduceLT, Nat.reduceLeDiff, Nat.reduceAdd, Nat.reduceMul, Nat.reduceSub, Nat.reduceMod, Nat.reduceDiv, Nat.reduceEqDiff, Int.reduceToNat, reduceIte, reduceCtorEq, Int.reduceLE, Int.reduceLT, Int.reduceEq, Int.reduceNeg, Int.reduceAdd, Int.reduceSub, Int.reduceMul]
  refine (water2_Q _ _ _ n 0 _ S (by simp only [go_sem, Nat.reduceBEq, Nat.reduceLT, Nat.reduceLeDiff, Nat.reduceAdd, Nat.reduceMul, Nat.reduceSub, Nat.reduceMod, Nat.reduceDiv, Nat.reduceEqDiff, Int.reduceToNat, reduceIte, reduceCtorEq, Int.reduceLE, Int.reduceLT, Int.reduceEq, Int.reduceNeg, Int.reduceAdd, Int.reduceSub, Int.reduceMul]) (by omega) (shAt_shC hR) hV.good).A ?_
  rw [water8 hV.1 hV.out hW hH]
  change 0 ≤ dyeSum S _ _ 0 ∧ dyeSum S _ _ 0 ≤ _ at d0
  change 0 ≤ dyeSum S _ _ 1 ∧ dyeSum S _ _ 1 ≤ _ at d1
  change 0 ≤ dyeSum S _ _ 2 ∧ dyeSum S _ _ 2 ≤ _ at d2
  change 0 ≤ V.water S _ _ ∧ _ at w0
  by_cases hw : 0 < V.water S S.wide.toNat S.high.toNat
  · simp only [go_sem, Nat.reduceBEq, Nat.reduceLT, Nat.reduceLeDiff, Nat.reduceAdd, Nat.reduceMul, Nat.reduceSub, Nat.reduceMod, Nat.reduceDiv, Nat.reduceEqDiff, Int.reduceToNat, reduceIte, reduceCtorEq, Int.reduceLE, Int.reduceLT, Int.reduceEq, Int.reduceNeg, Int.reduceAdd, Int.reduceSub, Int.reduceMul, hw]
    exact fun hok' => bad 4 (n + 3) _ _ _ _ _ (stainR_state hV hd fun h => by have := h.1.1; omega) (by omega) (by omega) (by omega) (by simp only [go_sem, Nat.reduceBEq, Nat.reduceLT, Nat.reduceLeDiff, Nat.reduceAdd, Nat.reduceMul, Nat.reduceSub, Nat.reduceMod, Nat.reduceDiv, Nat.reduceEqDiff, Int.reduceToNat, reduceIte, reduceCtorEq, Int.reduceLE, Int.reduceLT, Int.reduceEq, Int.reduceNeg, Int.reduceAdd, Int.reduceSub, Int.reduceMul]; rfl) (by simp only [go_sem, Nat.reduceBEq, Nat.reduceLT, Nat.reduceLeDiff, Nat.reduceAdd, Nat.reduceMul, Nat.reduceSub, Nat.reduceMod, Nat.reduceDiv, Nat.reduceEqDiff, Int.reduceToNat, reduceIte, reduceCtorEq, Int.reduceLE, Int.reduceLT, Int.reduceEq, Int.reduceNeg, Int.reduceAdd, Int.reduceSub, Int.reduceMul, HExt_cons]) hok'
  simp only [go_sem, Nat.reduceBEq, Nat.reduceLT, Nat.reduceLeDiff, Nat.reduceAdd, Nat.reduceMul, Nat.reduceSub, Nat.reduceMod, Nat.reduceDiv, Nat.reduceEqDiff, Int.reduceToNat, reduceIte, reduceCtorEq, Int.reduceLE, Int.reduceLT, Int.reduceEq, Int.reduceNeg, Int.reduceAdd, Int.reduceSub, Int.reduceMul, hw, w64 (n := dyeSum S S.wide.toNat S.high.toNat 0 + dyeSum S S.wide.toNat S.high.toNat 1) (by omega), w64 (n := dyeSum S S.wide.toNat S.high.toNat 0 + dyeSum S S.wide.toNat S.high.toNat 1 + dyeSum S S.wide.toNat S.high.toNat 2) (by omega)]
  by_cases hy' : 0 < dyeSum S S.wide.toNat S.high.toNat 0 + dyeSum S S.wide.toNat S.high.toNat 1 + dyeSum S S.wide.toNat S.high.toNat 2
  · simp only [go_sem, Nat.reduceBEq, Nat.reduceLT, Nat.reduceLeDiff, Nat.reduceAdd, Nat.reduceMul, Nat.reduceSub, Nat.reduceMod, Nat.reduceDiv, Nat.reduceEqDiff, Int.reduceToNat, reduceIte, reduceCtorEq, Int.reduceLE, Int.reduceLT, Int.reduceEq, Int.reduceNeg, Int.reduceAdd, Int.reduceSub, Int.reduceMul, hy']
    exact fun hok' => bad 4 (n + 3) _ _ _ _ _ (stainR_state hV hd fun h => by have := h.1.2; omega) (by omega) (by omega) (by omega) (by simp only [go_sem, Nat.reduceBEq, Nat.reduceLT, Nat.reduceLeDiff, Nat.reduceAdd, Nat.reduceMul, Nat.reduceSub, Nat.reduceMod, Nat.reduceDiv, Nat.reduceEqDiff, Int.reduceToNat, reduceIte, reduceCtorEq, Int.reduceLE, Int.reduceLT, Int.reduceEq, Int.reduceNeg, Int.reduceAdd, Int.reduceSub, Int.reduceMul]; rfl) (by simp only [go_sem, Nat.reduceBEq, Nat.reduceLT, Nat.reduceLeDiff, Nat.reduceAdd, Nat.reduceMul, Nat.reduceSub, Nat.reduceMod, Nat.reduceDiv, Nat.reduceEqDiff, Int.reduceToNat, reduceIte, reduceCtorEq, Int.reduceLE, Int.reduceLT, Int.reduceEq, Int.reduceNeg, Int.reduceAdd, Int.reduceSub, Int.reduceMul, HExt_cons]) hok'
  have hB : Blank S S.wide.toNat S.high.toNat := ⟨by omega, by omega, by omega, by omega⟩
  simp only [go_sem, Nat.reduceBEq, Nat.reduceLT, Nat.reduceLeDiff, Nat.reduceAdd, Nat.reduceMul, Nat.reduceSub, Nat.reduceMod, Nat.reduceDiv, Nat.reduceEqDiff, Int.reduceToNat, reduceIte, reduceCtorEq, Int.reduceLE, Int.reduceLT, Int.reduceEq, Int.reduceNeg, Int.reduceAdd, Int.reduceSub, Int.reduceMul, hy']
  refine (waxed2_Q _ _ _ n 0 _ S x y (by simp only [go_sem, Nat.reduceBEq, Nat.reduceLT, Nat.reduceLeDiff, Nat.reduceAdd, Nat.reduceMul, Nat.reduceSub, Nat.reduceMod, Nat.reduceDiv, Nat.reduceEqDiff, Int.reduceToNat, reduceIte, reduceCtorEq, Int.reduceLE, Int.reduceLT, Int.reduceEq, Int.reduceNeg, Int.reduceAdd, Int.reduceSub, Int.reduceMul]) (by omega) (shAt_shC hR) x0 (by omega) y0 y8).A ?_
  by_cases hwx : waxB S x y = true
  · simp only [go_sem, Nat.reduceBEq, Nat.reduceLT, Nat.reduceLeDiff, Nat.reduceAdd, Nat.reduceMul, Nat.reduceSub, Nat.reduceMod, Nat.reduceDiv, Nat.reduceEqDiff, Int.reduceToNat, reduceIte, reduceCtorEq, Int.reduceLE, Int.reduceLT, Int.reduceEq, Int.reduceNeg, Int.reduceAdd, Int.reduceSub, Int.reduceMul, hwx]
    exact fun hok' => bad 4 (n + 3) _ _ _ _ _ (stainR_state hV hd fun h => by rw [hwx] at h; cases h.2) (by omega) (by omega) (by omega) (by simp only [go_sem, Nat.reduceBEq, Nat.reduceLT, Nat.reduceLeDiff, Nat.reduceAdd, Nat.reduceMul, Nat.reduceSub, Nat.reduceMod, Nat.reduceDiv, Nat.reduceEqDiff, Int.reduceToNat, reduceIte, reduceCtorEq, Int.reduceLE, Int.reduceLT, Int.reduceEq, Int.reduceNeg, Int.reduceAdd, Int.reduceSub, Int.reduceMul]; rfl) (by simp only [go_sem, Nat.reduceBEq, Nat.reduceLT, Nat.reduceLeDiff, Nat.reduceAdd, Nat.reduceMul, Nat.reduceSub, Nat.reduceMod, Nat.reduceDiv, Nat.reduceEqDiff, Int.reduceToNat, reduceIte, reduceCtorEq, Int.reduceLE, Int.reduceLT, Int.reduceEq, Int.reduceNeg, Int.reduceAdd, Int.reduceSub, Int.reduceMul, HExt_cons]) hok'
  have hwf : waxB S x y = false := by simpa using hwx
  have k3 : ink < 3 := by omega
  simp only [go_sem, Nat.reduceBEq, Nat.reduceLT, Nat.reduceLeDiff, Nat.reduceAdd, Nat.reduceMul, Nat.reduceSub, Nat.reduceMod, Nat.reduceDiv, Nat.reduceEqDiff, Int.reduceToNat, reduceIte, reduceCtorEq, Int.reduceLE, Int.reduceLT, Int.reduceEq, Int.reduceNeg, Int.reduceAdd, Int.reduceSub, Int.reduceMul, hwf]
  refine T_drawT hti 11 _ _ (by kernel_rfl) (by kernel_rfl) ?_
  simp only [go_sem, Nat.reduceBEq, Nat.reduceLT, Nat.reduceLeDiff, Nat.reduceAdd, Nat.reduceMul, Nat.reduceSub, Nat.reduceMod, Nat.reduceDiv, Nat.reduceEqDiff, Int.reduceToNat, reduceIte, reduceCtorEq, Int.reduceLE, Int.reduceLT, Int.reduceEq, Int.reduceNeg, Int.reduceAdd, Int.reduceSub, Int.reduceMul, x0, x8, y0, y8, h1.1, k3, w16 (n := amount) (by omega)]
  refine T_drawT hti 9 _ _ (by kernel_rfl) (by kernel_rfl) ?_
  simp only [go_sem, Nat.reduceBEq, Nat.reduceLT, Nat.reduceLeDiff, Nat.reduceAdd, Nat.reduceMul, Nat.reduceSub, Nat.reduceMod, Nat.reduceDiv, Nat.reduceEqDiff, Int.reduceToNat, reduceIte, reduceCtorEq, Int.reduceLE, Int.reduceLT, Int.reduceEq, Int.reduceNeg, Int.reduceAdd, Int.reduceSub, Int.reduceMul, x0, x8, y0, y8, h1.1, k3, w16 (n := water) (by omega)]
  rw [show (S.setDye y x ink amount).setWet y x water = S.drop x y ink amount water from rfl]
  have hGd := drop_good (x := x) (y := y) (ink := ink) hV.good h2 h3
  have hRd : ShR (S.drop x y ink amount water) := (hR.setWet (by omega)).setDye (by omega)
  refine (until2_Q _ _ _ (S.drop x y ink amount water) _ _ hRd hGd hW hH).A ?_
  obtain ⟨u1, u2, u3⟩ := untilN_good (W := S.wide.toNat) (H := S.high.toNat) 500 0 (S.drop x y ink amount water) hGd hW hH
  have hr := stainR_run hV hd ⟨hB, hwf⟩
  have uR : ShR (untilN S.wide.toNat S.high.toNat 500 0 (S.drop x y ink amount water)).1 := untilN_R 500 0 _ hRd
  generalize hU : untilN S.wide.toNat S.high.toNat 500 0 (S.drop x y ink amount water) = U at *
  by_cases hu : U.2.2 = true
  rotate_left
  · rw [if_neg hu] at hr
    simp only [go_sem, Nat.reduceBEq, Nat.reduceLT, Nat.reduceLeDiff, Nat.reduceAdd, Nat.reduceMul, Nat.reduceSub, Nat.reduceMod, Nat.reduceDiv, Nat.reduceEqDiff, Int.reduceToNat, reduceIte, reduceCtorEq, Int.reduceLE, Int.reduceLT, Int.reduceEq, Int.reduceNeg, Int.reduceAdd, Int.reduceSub, Int.reduceMul, hu]
    exact fun hok' => bad 7 (n + 4) _ _ _ _ _ hr (by omega) (by omega) (by omega) (by simp only [go_sem, Nat.reduceBEq, Nat.reduceLT, Nat.reduceLeDiff, Nat.reduceAdd, Nat.reduceMul, Nat.reduceSub, Nat.reduceMod, Nat.reduceDiv, Nat.reduceEqDiff, Int.reduceToNat, reduceIte, reduceCtorEq, Int.reduceLE, Int.reduceLT, Int.reduceEq, Int.reduceNeg, Int.reduceAdd, Int.reduceSub, Int.reduceMul]; rfl) (by simp only [go_sem, Nat.reduceBEq, Nat.reduceLT, Nat.reduceLeDiff, Nat.reduceAdd, Nat.reduceMul, Nat.reduceSub, Nat.reduceMod, Nat.reduceDiv, Nat.reduceEqDiff, Int.reduceToNat, reduceIte, reduceCtorEq, Int.reduceLE, Int.reduceLT, Int.reduceEq, Int.reduceNeg, Int.reduceAdd, Int.reduceSub, Int.reduceMul, HExt_cons]) hok'
  rw [if_pos hu] at hr
  simp only [go_sem, Nat.reduceBEq, Nat.reduceLT, Nat.reduceLeDiff, Nat.reduceAdd, Nat.reduceMul, Nat.reduceSub, Nat.reduceMod, Nat.reduceDiv, Nat.reduceEqDiff, Int.reduceToNat, reduceIte, reduceCtorEq, Int.reduceLE, Int.reduceLT, Int.reduceEq, Int.reduceNeg, Int.reduceAdd, Int.reduceSub, Int.reduceMul, hu]
  refine callA_false (dyed2_E _ _ _ (n + 3) U.1 _ _ (by simp only [go_sem, Nat.reduceBEq, Nat.reduceLT, Nat.reduceLeDiff, Nat.reduceAdd, Nat.reduceMul, Nat.reduceSub, Nat.reduceMod, Nat.reduceDiv, Nat.reduceEqDiff, Int.reduceToNat, reduceIte, reduceCtorEq, Int.reduceLE, Int.reduceLT, Int.reduceEq, Int.reduceNeg, Int.reduceAdd, Int.reduceSub, Int.reduceMul]) (by omega) uR u1 (u2.wide.trans hW) (u2.high.trans hH) hW8 hH8 1 _ fun V h' n' hn' hx' hok' hV' => ?_)
  simp only [go_sem, Nat.reduceBEq, Nat.reduceLT, Nat.reduceLeDiff, Nat.reduceAdd, Nat.reduceMul, Nat.reduceSub, Nat.reduceMod, Nat.reduceDiv, Nat.reduceEqDiff, Int.reduceToNat, reduceIte, reduceCtorEq, Int.reduceLE, Int.reduceLT, Int.reduceEq, Int.reduceNeg, Int.reduceAdd, Int.reduceSub, Int.reduceMul, hV'.ok]
  intro hok2
  have := hK V h' n' (by omega) (HExt.tr (m' := n + 4) (by simp only [go_sem, Nat.reduceBEq, Nat.reduceLT, Nat.reduceLeDiff, Nat.reduceAdd, Nat.reduceMul, Nat.reduceSub, Nat.reduceMod, Nat.reduceDiv, Nat.reduceEqDiff, Int.reduceToNat, reduceIte, reduceCtorEq, Int.reduceLE, Int.reduceLT, Int.reduceEq, Int.reduceNeg, Int.reduceAdd, Int.reduceSub, Int.reduceMul, HExt_cons]) hx' (by omega)) hok2 (by rw [hr]; exact hV'.mono' (by omega))
  rw [hr] at this
  exact this
end
end Go.Proofs.Ytdbhfipkopfooaa.V

/- The law of StainOf: the walk. -/
namespace Go.Proofs.Ytdbhfipkopfooaa.V
theorem dyedL_len (S : Sh) {W H : Nat} (hW8 : W ≤ 8) (hH8 : H ≤ 8) (least : Int) : (dyedL S W H least).length ≤ 64 := by
  have : H * W ≤ 64 := Nat.mul_le_mul hH8 hW8
  have h2 := List.length_filter_le (fun a : Int × Int => decide (least ≤ darkB S a.1 a.2)) (cellsL W H)
  rw [cellsL_len] at h2
  unfold dyedL
  omega
theorem stainR_len (S : Sh) (x y ink amount water : Int) : (stainR S x y ink amount water).1.length ≤ 64 := by
  by_cases hV : Valid S
  rotate_left
  · rw [stainR_bad hV]; simp
  obtain ⟨hW, hH, hW8, hH8⟩ := valid_sides hV.1
  by_cases hd : dropB S x y ink amount water = true
  rotate_left
  · rw [stainR_range hV hd]; simp
  by_cases h3 : Blank S S.wide.toNat S.high.toNat ∧ waxB S x y = false
  rotate_left
  · rw [stainR_state hV hd h3]; simp
  rw [stainR_run hV hd h3]
  split
  · exact dyedL_len _ hW8 hH8 1
  · simp
section
variable (cx : Cx) (h : List (Nat × Seg)) (n : Nat)
theorem lawStain_Q (F : Nat → SV) (S : Sh) (hF : ShF F S) (x y : Int) (hx : -128 ≤ x ∧ x < 128) (hy : -128 ≤ y ∧ y < 128) (ink amount water : Int) :
    CallQ Try.prog cx 3 [.agg 266 F, spot x y, .int .i64 ink, .int .i64 amount, .int .i64 water] h n (.bool true) := by
  have hone := hF.ones
  have hRl := stainR_len S x y ink amount water
  refine callQ_of_T (P := Try.prog) hti (nt := 89) (rs := [.tmp 10]) rfl rfl Try.call3 Try.func3 rfl _ (by simp only [go_sem]) (Nat.le_of_ble_eq_true rfl) _ (by trivial) fun hok => ?_
  simp only [go_sem, Nat.reduceBEq, Nat.reduceLT, Nat.reduceLeDiff, Nat.reduceAdd, Nat.reduceMul, Nat.reduceSub, Nat.reduceMod, Nat.reduceDiv, Nat.reduceEqDiff, Int.reduceToNat, reduceIte, reduceCtorEq, Int.reduceLE, Int.reduceLT, Int.reduceEq, Int.reduceNeg, Int.reduceAdd, Int.reduceSub, Int.reduceMul, hone]
  generalize hRR : (stainR S x y ink amount water).1 = R at hRl
  generalize hcc : (stainR S x y ink amount water).2 = c
  refine T_drawG hti 13 [] (.b 0 0 (.b 0 2 (.b 0 4 (.b 0 5 (.b 0 6 (.b 1 1 (.b 1 3 (.b 2 7 (.b 0 8 (.b 0 9 (.b 0 10 (.b 0 11 (.b 0 12 (.f) .o) .o) .o) .o) .o) .o) .o) .o) .o) .o) .o) .o) .o) _ _ (by kernel_rfl) (by kernel_rfl) ?_
  simp only [go_sem, Nat.reduceBEq, Nat.reduceLT, Nat.reduceLeDiff, Nat.reduceAdd, Nat.reduceMul, Nat.reduceSub, Nat.reduceMod, Nat.reduceDiv, Nat.reduceEqDiff, Int.reduceToNat, reduceIte, reduceCtorEq, Int.reduceLE, Int.reduceLT, Int.reduceEq, Int.reduceNeg, Int.reduceAdd, Int.reduceSub, Int.reduceMul, hone]
  refine CallQ.F _ (fun h' n' hn hx => toSheet_Q _ h' n' F S hF) ?_
  simp only [go_sem, Nat.reduceBEq, Nat.reduceLT, Nat.reduceLeDiff, Nat.reduceAdd, Nat.reduceMul, Nat.reduceSub, Nat.reduceMod, Nat.reduceDiv, Nat.reduceEqDiff, Int.reduceToNat, reduceIte, reduceCtorEq, Int.reduceLE, Int.reduceLT, Int.reduceEq, Int.reduceNeg, Int.reduceAdd, Int.reduceSub, Int.reduceMul, hone]
  refine CallQ.F _ (fun h' n' hn hx => toSpot_Q _ h' n' x y) ?_
  simp only [go_sem, Nat.reduceBEq, Nat.reduceLT, Nat.reduceLeDiff, Nat.reduceAdd, Nat.reduceMul, Nat.reduceSub, Nat.reduceMod, Nat.reduceDiv, Nat.reduceEqDiff, Int.reduceToNat, reduceIte, reduceCtorEq, Int.reduceLE, Int.reduceLT, Int.reduceEq, Int.reduceNeg, Int.reduceAdd, Int.reduceSub, Int.reduceMul, hone]
  refine callA_false (stain2_E _ _ _ S x y ink amount water hF.R hx hy _ ?_)
  intro V1 h1 n1 hn1 hx1 ok1 I1
  rw [hRR] at I1
  rw [hcc]
  have V1o := I1.ok
  have g10 : hget h1 n = some ⟨266, F, true, none⟩ := hx1 n (by omega) _ (by simp only [go_sem, Nat.reduceBEq, Nat.reduceLT, Nat.reduceLeDiff, Nat.reduceAdd, Nat.reduceMul, Nat.reduceSub, Nat.reduceMod, Nat.reduceDiv, Nat.reduceEqDiff, Int.reduceToNat, reduceIte, reduceCtorEq, Int.reduceLE, Int.reduceLT, Int.reduceEq, Int.reduceNeg, Int.reduceAdd, Int.reduceSub, Int.reduceMul])
  have g11 : hget h1 (n + 1) = some ⟨2, cl [.int .i8 x, .int .i8 y], true, none⟩ := hx1 (n + 1) (by omega) _ (by simp only [go_sem, Nat.reduceBEq, Nat.reduceLT, Nat.reduceLeDiff, Nat.reduceAdd, Nat.reduceMul, Nat.reduceSub, Nat.reduceMod, Nat.reduceDiv, Nat.reduceEqDiff, Int.reduceToNat, reduceIte, reduceCtorEq, Int.reduceLE, Int.reduceLT, Int.reduceEq, Int.reduceNeg, Int.reduceAdd, Int.reduceSub, Int.reduceMul])
  have X1 : HExt n h h1 := HExt.tr (m' := n + 2) (by simp only [go_sem, Nat.reduceBEq, Nat.reduceLT, Nat.reduceLeDiff, Nat.reduceAdd, Nat.reduceMul, Nat.reduceSub, Nat.reduceMod, Nat.reduceDiv, Nat.reduceEqDiff, Int.reduceToNat, reduceIte, reduceCtorEq, Int.reduceLE, Int.reduceLT, Int.reduceEq, Int.reduceNeg, Int.reduceAdd, Int.reduceSub, Int.reduceMul, HExt_cons]) hx1 (by omega)
  simp only [go_sem, Nat.reduceBEq, Nat.reduceLT, Nat.reduceLeDiff, Nat.reduceAdd, Nat.reduceMul, Nat.reduceSub, Nat.reduceMod, Nat.reduceDiv, Nat.reduceEqDiff, Int.reduceToNat, reduceIte, reduceCtorEq, Int.reduceLE, Int.reduceLT, Int.reduceEq, Int.reduceNeg, Int.reduceAdd, Int.reduceSub, Int.reduceMul, V1o]
  refine ⟨⟨by omega, hx1⟩, ?_⟩
  refine T_drawG hti 13 [] (.b 0 0 (.b 0 2 (.b 0 4 (.b 0 5 (.b 0 6 (.b 1 1 (.b 1 3 (.b 2 7 (.b 0 8 (.b 0 9 (.b 0 10 (.b 0 11 (.b 0 12 (.f) .o) .o) .o) .o) .o) .o) .o) .o) .o) .o) .o) .o) .o) _ _ (by kernel_rfl) (by kernel_rfl) ?_
  simp only [go_sem, Nat.reduceBEq, Nat.reduceLT, Nat.reduceLeDiff, Nat.reduceAdd, Nat.reduceMul, Nat.reduceSub, Nat.reduceMod, Nat.reduceDiv, Nat.reduceEqDiff, Int.reduceToNat, reduceIte, reduceCtorEq, Int.reduceLE, Int.reduceLT, Int.reduceEq, Int.reduceNeg, Int.reduceAdd, Int.reduceSub, Int.reduceMul, hone, g10, g11]
  refine CallQ.F _ (fun h' n' hn hx => toSheet_Q _ h' n' F S hF) ?_
  simp only [go_sem, Nat.reduceBEq, Nat.reduceLT, Nat.reduceLeDiff, Nat.reduceAdd, Nat.reduceMul, Nat.reduceSub, Nat.reduceMod, Nat.reduceDiv, Nat.reduceEqDiff, Int.reduceToNat, reduceIte, reduceCtorEq, Int.reduceLE, Int.reduceLT, Int.reduceEq, Int.reduceNeg, Int.reduceAdd, Int.reduceSub, Int.reduceMul, hone, g10, g11]
  refine CallQ.F _ (fun h' n' hn hx => toSpot_Q _ h' n' x y) ?_
  simp only [go_sem, Nat.reduceBEq, Nat.reduceLT, Nat.reduceLeDiff, Nat.reduceAdd, Nat.reduceMul, Nat.reduceSub, Nat.reduceMod, Nat.reduceDiv, Nat.reduceEqDiff, Int.reduceToNat, reduceIte, reduceCtorEq, Int.reduceLE, Int.reduceLT, Int.reduceEq, Int.reduceNeg, Int.reduceAdd, Int.reduceSub, Int.reduceMul, hone]
  refine callA_false (stain_E _ _ _ S x y ink amount water hF.R _ ?_)
  intro V2 h2 n2 hn2 hx2 ok2 I2
  rw [hRR] at I2
  rw [hcc]
  have V2o := I2.ok
  have X2 := X1.tr hx2 (by omega)
  simp only [go_sem, Nat.reduceBEq, Nat.reduceLT, Nat.reduceLeDiff, Nat.reduceAdd, Nat.reduceMul, Nat.reduceSub, Nat.reduceMod, Nat.reduceDiv, Nat.reduceEqDiff, Int.reduceToNat, reduceIte, reduceCtorEq, Int.reduceLE, Int.reduceLT, Int.reduceEq, Int.reduceNeg, Int.reduceAdd, Int.reduceSub, Int.reduceMul, V1o, V2o]
  refine ⟨⟨by omega, hx2⟩, ?_⟩
  refine (eqSpots_Q _ _ _ V2 V1 R _ _ I2 (I1.ext (by omega) hx2) (by omega)).A ?_
  simp only [go_sem, Nat.reduceBEq, Nat.reduceLT, Nat.reduceLeDiff, Nat.reduceAdd, Nat.reduceMul, Nat.reduceSub, Nat.reduceMod, Nat.reduceDiv, Nat.reduceEqDiff, Int.reduceToNat, reduceIte, reduceCtorEq, Int.reduceLE, Int.reduceLT, Int.reduceEq, Int.reduceNeg, Int.reduceAdd, Int.reduceSub, Int.reduceMul, V1o, V2o]
  refine callA_false (markSpots_E _ _ _ V2 R n1 I2 (by omega) _ ?_)
  intro h4 ok4 keep4 I24
  have x4 : HExt n1 h1 h4 := keep4 _ _ (by omega) hx2
  have X4 : HExt n h h4 := X1.tr x4 (by omega)
  have I14 : SpsOut h4 (n + 2) n2 V1 R := I1.ext (by omega) x4
  have g40 : hget h4 n = some ⟨266, F, true, none⟩ := x4 n (by omega) _ g10
  have g41 : hget h4 (n + 1) = some ⟨2, cl [.int .i8 x, .int .i8 y], true, none⟩ := x4 (n + 1) (by omega) _ g11
  have posr : ¬ (2 * (R.length : Int) + 1 < 0) := by omega
  simp only [go_sem, Nat.reduceBEq, Nat.reduceLT, Nat.reduceLeDiff, Nat.reduceAdd, Nat.reduceMul, Nat.reduceSub, Nat.reduceMod, Nat.reduceDiv, Nat.reduceEqDiff, Int.reduceToNat, reduceIte, reduceCtorEq, Int.reduceLE, Int.reduceLT, Int.reduceEq, Int.reduceNeg, Int.reduceAdd, Int.reduceSub, Int.reduceMul, V1o, V2o]
  refine (heldSpots_Q _ _ _ V2 R.length _ I24 (by omega)).A ?_
  simp only [go_sem, Nat.reduceBEq, Nat.reduceLT, Nat.reduceLeDiff, Nat.reduceAdd, Nat.reduceMul, Nat.reduceSub, Nat.reduceMod, Nat.reduceDiv, Nat.reduceEqDiff, Int.reduceToNat, reduceIte, reduceCtorEq, Int.reduceLE, Int.reduceLT, Int.reduceEq, Int.reduceNeg, Int.reduceAdd, Int.reduceSub, Int.reduceMul, V1o, V2o, posr]
  refine T_drawG hti 13 [] (.b 0 0 (.b 0 2 (.b 0 4 (.b 0 5 (.b 0 6 (.b 1 1 (.b 1 3 (.b 2 7 (.b 0 8 (.b 0 9 (.b 0 10 (.b 0 11 (.b 0 12 (.f) .o) .o) .o) .o) .o) .o) .o) .o) .o) .o) .o) .o) .o) _ _ (by kernel_rfl) (by kernel_rfl) ?_
  simp only [go_sem, Nat.reduceBEq, Nat.reduceLT, Nat.reduceLeDiff, Nat.reduceAdd, Nat.reduceMul, Nat.reduceSub, Nat.reduceMod, Nat.reduceDiv, Nat.reduceEqDiff, Int.reduceToNat, reduceIte, reduceCtorEq, Int.reduceLE, Int.reduceLT, Int.reduceEq, Int.reduceNeg, Int.reduceAdd, Int.reduceSub, Int.reduceMul, hone, g40, g41]
  refine CallQ.F _ (fun h' n' hn hx => toSheet_Q _ h' n' F S hF) ?_
  simp only [go_sem, Nat.reduceBEq, Nat.reduceLT, Nat.reduceLeDiff, Nat.reduceAdd, Nat.reduceMul, Nat.reduceSub, Nat.reduceMod, Nat.reduceDiv, Nat.reduceEqDiff, Int.reduceToNat, reduceIte, reduceCtorEq, Int.reduceLE, Int.reduceLT, Int.reduceEq, Int.reduceNeg, Int.reduceAdd, Int.reduceSub, Int.reduceMul, hone, g40, g41]
  refine CallQ.F _ (fun h' n' hn hx => toSpot_Q _ h' n' x y) ?_
  simp only [go_sem, Nat.reduceBEq, Nat.reduceLT, Nat.reduceLeDiff, Nat.reduceAdd, Nat.reduceMul, Nat.reduceSub, Nat.reduceMod, Nat.reduceDiv, Nat.reduceEqDiff, Int.reduceToNat, reduceIte, reduceCtorEq, Int.reduceLE, Int.reduceLT, Int.reduceEq, Int.reduceNeg, Int.reduceAdd, Int.reduceSub, Int.reduceMul, hone]
  refine callA_false (stain_E _ _ _ S x y ink amount water hF.R _ ?_)
  intro V3 h5 n5 hn5 hx5 ok5 I35
  rw [hRR] at I35
  rw [hcc]
  have V3o := I35.ok
  have X5 := X4.tr hx5 (by omega)
  simp only [go_sem, Nat.reduceBEq, Nat.reduceLT, Nat.reduceLeDiff, Nat.reduceAdd, Nat.reduceMul, Nat.reduceSub, Nat.reduceMod, Nat.reduceDiv, Nat.reduceEqDiff, Int.reduceToNat, reduceIte, reduceCtorEq, Int.reduceLE, Int.reduceLT, Int.reduceEq, Int.reduceNeg, Int.reduceAdd, Int.reduceSub, Int.reduceMul, V1o, V2o, V3o]
  refine ⟨⟨by omega, hx5⟩, ?_⟩
  refine (eqSpots_Q _ _ _ V3 V1 R _ _ I35 (I14.ext (by omega) hx5) (by omega)).A ?_
  simp only [go_sem, Nat.reduceBEq, Nat.reduceLT, Nat.reduceLeDiff, Nat.reduceAdd, Nat.reduceMul, Nat.reduceSub, Nat.reduceMod, Nat.reduceDiv, Nat.reduceEqDiff, Int.reduceToNat, reduceIte, reduceCtorEq, Int.reduceLE, Int.reduceLT, Int.reduceEq, Int.reduceNeg, Int.reduceAdd, Int.reduceSub, Int.reduceMul, V1o, V2o, V3o]
  refine (heldSpots_Q _ _ _ V2 R.length _ (I24.ext (by omega) hx5) (by omega)).A ?_
  simp only [go_sem, Nat.reduceBEq, Nat.reduceLT, Nat.reduceLeDiff, Nat.reduceAdd, Nat.reduceMul, Nat.reduceSub, Nat.reduceMod, Nat.reduceDiv, Nat.reduceEqDiff, Int.reduceToNat, reduceIte, reduceCtorEq, Int.reduceLE, Int.reduceLT, Int.reduceEq, Int.reduceNeg, Int.reduceAdd, Int.reduceSub, Int.reduceMul, V1o, V2o, V3o, posr]
  exact X5
end
end Go.Proofs.Ytdbhfipkopfooaa.V
