/- Part 3 of the texts that this proof stands on: a symbolic walk over the program, what its functions and the reference's do, plain laws. -/
import Derived.Test.YtckefhnobflhcaaDoorZsxb
import Derived.Test.YtckefhnobflhcaaDoorZsxa
import Derived.Test.YtckefhnobflhcaaDoorV17
set_option linter.all false

/- Stacks, by the reference: small functions, validity. -/
namespace Go.Proofs.YtckefhnobflhcaaDoor.V
/-- A stack as it should be. -/
def StOk1 (L : List Sh) (i : Nat) : Prop := Valid (L.getD i sh0) ∧ (L.getD i sh0).wide = (L.getD 0 sh0).wide ∧ (L.getD i sh0).high = (L.getD 0 sh0).high
def StOk (L : List Sh) : Prop := L.length ≤ 6 ∧ ∀ i, i < L.length → StOk1 L i
open Classical in
noncomputable def stokB (L : List Sh) : Bool := decide (StOk L)
theorem stokB_t {L : List Sh} (h : StOk L) : stokB L = true := by simp [stokB, h]
theorem stokB_f {L : List Sh} (h : ¬ StOk L) : stokB L = false := by simp [stokB, h]
theorem stokB_len {L : List Sh} (h : ∀ i, i < L.length → StOk1 L i) : decide ((L.length : Int) ≤ 6) = stokB L := by
  by_cases h6 : L.length ≤ 6
  · rw [stokB_t ⟨h6, h⟩]; simp; omega
  · rw [stokB_f (fun hk => h6 hk.1)]; simp; omega
section
variable (cx : Cx) (h : List (Nat × Seg)) (n : Nat)
set_option maxRecDepth 100000 in
theorem stok2_Q (A : SV) (L : List Sh) (hA : StArg h n A L) (hLR : StR L) (hm9 : L.length ≤ 10000000) : CallQ Tryd.prog cx 29 [A] h n (.bool (stokB L)) := by
  rcases hA with ⟨rfl, rfl⟩ | ⟨i, cap, s, rfl, hi, hs, hL⟩
  · have e : stokB [] = true := stokB_t ⟨by simp, fun i hi => by simp at hi⟩
    refine callQ_of_T (P := Tryd.prog) hti (nt := 42) (rs := [.tmp 2]) rfl rfl Tryd.call29 Tryd.func29 rfl _ (by simp only [go_sem, and_self]) (Nat.le_of_ble_eq_true rfl) _ (by first | exact trivial | (refine lt_flat rfl ?_; simp [SV.flat]; done) | simp only [go_sem]) fun hok => ?_
    simp only [go_sem, Nat.reduceLT, e]
    refine T_unroll 0 ?_
    simp only [go_sem, Nat.reduceLT, Int.reduceLE, Int.reduceLT]
  have hn := hL.1
  refine callQ_of_T (P := Tryd.prog) hti (nt := 42) (rs := [.tmp 2]) rfl rfl Tryd.call29 Tryd.func29 rfl _ (by simp only [go_sem, and_self]) (Nat.le_of_ble_eq_true rfl) _ (by first | exact trivial | (refine lt_flat rfl ?_; simp [SV.flat]; done) | simp only [go_sem]) fun hok => ?_
  simp only [go_sem, Nat.reduceLT]
  refine T_lp (ι := { q : Nat // q ≤ L.length ∧ ∀ k, k < q → StOk1 L k }) (fun q => ([(0, .sl i 0 L.length cap), (3, .int .i64 q.1)], h, n)) (fun q => L.length - q.1) ⟨0, by omega, fun k hk => absurd hk (Nat.not_lt_zero k)⟩ ?_ ?_
  · refine Imp.id (by simp) ?_ (impH.base0 hok (by simp) HExt.rfl)
    simp only [go_sem, Nat.reduceLT]
    exact hi
  · rintro ⟨q, hq, hall⟩
    simp only [go_sem, Nat.reduceLT, decide_eq_true_eq, decide_eq_false_iff_not]
    refine ⟨fun h1 => ?_, fun h1 => ?_⟩
    · have r1 : (0 : Int) ≤ q ∧ (q : Int) < L.length := ⟨by omega, by omega⟩
      have r0 : (0 : Int) < L.length := by omega
      have b1 : q * 266 ≤ s.n - 1 := by omega
      have b2 : q * 266 + 1 ≤ s.n - 1 := by omega
      have b5 : 1 ≤ s.n := by omega
      have b6 : 2 ≤ s.n := by omega
      have hq1 : q < L.length := by omega
      have hS := hL.sh hLR hq1
      have hS0 := hL.sh hLR (i := 0) (by omega)
      have ew := hS.wide; have eh := hS.high
      have ew0 := hS0.wide; have eh0 := hS0.high
      simp only [Nat.zero_mul, Nat.zero_add] at ew0 eh0
      have fin : ¬ StOk1 L q → stokB L = false := fun h2 => stokB_f fun h3 => h2 (h3.2 q hq1)
      refine T_draw hti _ _ (by kernel_rfl) (by kernel_rfl) ?_
      simp only [go_sem, Nat.reduceLT, r1, r0]
      refine (ok2_Q _ _ _ i (q * 266) s (L.getD q sh0) hs (by omega) hS).A ?_
      by_cases hV : Valid (L.getD q sh0)
      rotate_left
      · simp only [go_sem, Nat.reduceLT, validB_false hV, fin (fun h => hV h.1)]
      by_cases hw : (L.getD q sh0).wide = (L.getD 0 sh0).wide
      rotate_left
      · simp only [go_sem, Nat.reduceLT, Nat.reduceMul, Int.reduceToNat, reduceCtorEq, Int.reduceLE, validB_true hV, hs, hi, r1, r0, ew, eh, ew0, eh0, b1, b2, b5, b6, hw, fin (fun h => hw h.2.1)]
        (try omega)
      rw [hw] at ew
      by_cases hh : (L.getD q sh0).high = (L.getD 0 sh0).high
      rotate_left
      · simp only [go_sem, Nat.reduceLT, Nat.reduceMul, Int.reduceToNat, reduceCtorEq, Int.reduceLE, validB_true hV, hs, hi, r1, r0, ew, eh, ew0, eh0, b1, b2, b5, b6, hh, fin (fun h => hh h.2.2)]
        (try omega)
      rw [hh] at eh
      simp only [go_sem, Nat.reduceLT, Nat.reduceMul, Int.reduceToNat, reduceCtorEq, Int.reduceLE, validB_true hV, hs, hi, r1, r0, ew, eh, ew0, eh0, b1, b2, b5, b6]
      refine ⟨by omega, by omega, ⟨q + 1, by omega, fun k hk => by rcases (by omega : k < q ∨ k = q) with h | rfl; exact hall k h; exact ⟨hV, hw, hh⟩⟩, by show L.length - (q + 1) < L.length - q; omega, ?_⟩
      refine Imp.id (by simp) ?_ (impH.base0 hok (by simp) HExt.rfl)
      simp only [go_sem, Nat.reduceLT, w64 (n := (q : Int) + 1) (by omega), Int.natCast_add, Int.natCast_one]
      exact hi
    · have hq' : q = L.length := by omega
      subst hq'
      have := stokB_len hall
      simp only [go_sem, this]
end
end Go.Proofs.YtckefhnobflhcaaDoor.V

/- Validity of a stack: the program's own walk. -/
namespace Go.Proofs.YtckefhnobflhcaaDoor.V
section
variable (cx : Cx) (h : List (Nat × Seg)) (n : Nat)
theorem sameSides_Q (F F' : Nat → SV) (S S' : Sh) (hF : ShF F S) (hF' : ShF F' S') : CallQ Tryd.prog cx 58 [.agg 266 F, .agg 266 F'] h n (.bool (decide (S.wide = S'.wide) && decide (S.high = S'.high))) := by
  have hone := hF.ones; have hone' := hF'.ones
  refine callQ_of_T (P := Tryd.prog) hti (nt := 17) (rs := [.tmp 4]) rfl rfl Tryd.call58 Tryd.func58 rfl _ (by simp only [go_sem, and_self]) (Nat.le_of_ble_eq_true rfl) _ (by first | exact trivial | (refine lt_flat rfl ?_; simp [SV.flat]; done) | simp only [go_sem]) fun hok => ?_
  simp only [go_sem, Nat.reduceLT, Nat.reduceLeDiff, reduceCtorEq, hone, hone', hF.wide, hF.high, hF'.wide, hF'.high]
  by_cases hw : S.wide = S'.wide
  · simp only [go_sem, reduceCtorEq, hw]
  · simp only [go_sem, hw]
theorem validSt1_Q (F : Nat → SV) (S : Sh) (hF : ShF F S) (iv i cap : Nat) (L : List Sh) (s : Seg) (hv : hget h iv = some ⟨1, cl [.sl i 0 L.length cap], true, none⟩) (hvi : iv < n) (hs : hget h i = some s) (hi : i < n) (hL : StAt s L) (hLR : StR L) (h0 : 0 < L.length) :
    CallQ Tryd.prog cx 57 [.agg 266 F, .ptr iv 0] h n (.bool (!(validB S && (decide (S.wide = (L.getD 0 sh0).wide) && decide (S.high = (L.getD 0 sh0).high))))) := by
  have hone := hF.ones
  have hS0 := hL.sh hLR h0
  rw [Nat.zero_mul] at hS0
  have hSF : ShF s.c (L.getD 0 sh0) := by have := hS0.2; simpa only [Nat.zero_add] using this
  have hone0 := hSF.ones
  have hl := hS0.1
  have r0 : (0 : Int) < L.length := by omega
  refine callQ_of_T (P := Tryd.prog) hti (nt := 15) (rs := [.tmp 3]) rfl rfl Tryd.call57 Tryd.func57 rfl _ (by simp only [go_sem, and_self]) (Nat.le_of_ble_eq_true rfl) _ (by first | exact trivial | (refine lt_flat rfl ?_; simp [SV.flat]; done) | simp only [go_sem]) fun hok => ?_
  simp only [go_sem, Nat.reduceLT, hone]
  refine T_draw hti _ _ (by kernel_rfl) (by kernel_rfl) ?_
  simp only [go_sem, Nat.reduceLT, hone]
  refine (valid_Q _ _ _ F S hF).A ?_
  by_cases hV : Valid S
  rotate_left
  · simp only [go_sem, Nat.reduceLT, validB_false hV]
  have b1 : 266 ≤ s.n := hl
  simp only [go_sem, Nat.reduceLT, Nat.reduceMul, Int.reduceToNat, Int.reduceLE, validB_true hV, hv, hvi, hs, hi, hone, hone0, r0, b1]
  refine (sameSides_Q _ _ _ F s.c S (L.getD 0 sh0) hF hSF).A ?_
  simp only [go_sem, Nat.reduceLT, Bool.true_and]
end
end Go.Proofs.YtckefhnobflhcaaDoor.V

/- A function asked of the sheets of a stack. -/
namespace Go.Proofs.YtckefhnobflhcaaDoor.V
section
variable (cx : Cx) (h : List (Nat × Seg)) (n : Nat)
set_option maxRecDepth 100000 in
theorem indexSt_Q (i cap : Nat) (L : List Sh) (s : Seg) (f a b : Nat) (G F : Nat → SV) (p : Nat → Bool) (r : Int)
    (hs : hget h i = some s) (hi : i < n) (hm9 : L.length ≤ 10000000) (hL : StAt s L) (hLR : StR L) (hF : (SV.fn f a G b F).lt n)
    (hr0 : r = -1 → ∀ j, j < L.length → p j = false) (hr1 : r ≠ -1 → 0 ≤ r ∧ r < L.length ∧ p r.toNat = true ∧ ∀ j : Nat, (j : Int) < r → p j = false)
    (hp : ∀ j, j < L.length → ∀ nt n0, CallQ Tryd.prog ⟨cx.w0, cx.W, nt, n0⟩ f (lst a G ++ [.agg 266 fun k => s.c (j * 266 + k)] ++ lst b F) h n (.bool (p j))) :
    CallQ Tryd.prog cx 70 [.sl i 0 L.length cap, .fn f a G b F] h n (.int .i64 r) := by
  have hn := hL.1
  refine callQ_of_T (P := Tryd.prog) hti (nt := 19) (rs := [.tmp 4]) rfl rfl Tryd.call70 Tryd.func70 rfl _ (by simp only [go_sem, and_self]) (Nat.le_of_ble_eq_true rfl) _ (by first | exact trivial | (refine lt_flat rfl ?_; simp [SV.flat]; done) | simp only [go_sem]) fun hok => ?_
  simp only [go_sem, Nat.reduceLT, Int.reduceNeg]
  refine T_lp (ι := { j : Nat // j ≤ L.length ∧ ∀ k, k < j → p k = false })
    (fun j => ([(0, .sl i 0 L.length cap), (1, .fn f a G b F), (7, .int .i64 L.length), (8, .int .i64 j.1)], h, n)) (fun j => L.length - j.1) ⟨0, by simp⟩ ?_ ?_
  · refine Imp.id (by simp) ?_ ?_
    · simp only [go_sem, Nat.reduceLT]
      exact ⟨hi, hF⟩
    · exact impH.base0 hok (by simp) (by simp only [go_sem])
  · rintro ⟨j, hj, hall⟩
    simp only [go_sem, Nat.reduceLT, Int.reduceNeg, decide_eq_true_eq, decide_eq_false_iff_not]
    refine ⟨fun h1 => ?_, fun h1 => ?_⟩
    · have hj1 : j < L.length := by omega
      have r1 : (0 : Int) ≤ j ∧ (j : Int) < L.length := ⟨by omega, by omega⟩
      have b1 : j * 266 ≤ s.n - 266 := by omega
      have b3 : 266 ≤ s.n := by omega
      have b6 : j * 266 + 266 ≤ s.n := by omega
      have hSF : ShF (fun k => s.c (j * 266 + k)) (L.getD j sh0) := (hL.sh hLR hj1).2
      have hone := hSF.ones
      simp only [go_sem, Nat.reduceLT, Int.reduceNeg, hs, hi, r1, b1, b3, b6, hone]
      refine (hp j hj1 _ _).A ?_
      cases hpj : p j
      · simp only [go_sem, Nat.reduceLT, Int.reduceNeg]
        refine ⟨⟨j + 1, by omega, fun k hk => by rcases (by omega : k < j ∨ k = j) with h | rfl; exact hall k h; exact hpj⟩, by show L.length - (j + 1) < L.length - j; omega, ?_⟩
        refine Imp.id (by simp) ?_ (impH.base0 hok (by simp) HExt.rfl)
        simp only [go_sem, Nat.reduceLT, w64 (n := (j : Int) + 1) (by omega), Int.natCast_add, Int.natCast_one]
        exact ⟨hi, hF⟩
      · have e : r = j := by
          rcases (by omega : r = -1 ∨ r ≠ -1) with hr | hr
          · have := hr0 hr j hj1; rw [this] at hpj; cases hpj
          · obtain ⟨r0, r1', r2, r3⟩ := hr1 hr
            rcases (by omega : (j : Int) < r ∨ r < j ∨ r = j) with h | h | h
            · rw [r3 j h] at hpj; cases hpj
            · have := hall r.toNat (by omega)
              rw [r2] at this; cases this
            · exact h
        simp only [go_sem, Nat.reduceLT, Int.reduceNeg, e]
    · have e : r = -1 := by
        rcases (by omega : r = -1 ∨ r ≠ -1) with hr | hr
        · exact hr
        · obtain ⟨r0, r1, r2, r3⟩ := hr1 hr
          have := hall r.toNat (by omega)
          rw [r2] at this; cases this
      rw [e]
end
end Go.Proofs.YtckefhnobflhcaaDoor.V

/- A valid stack: the program's own walk. -/
namespace Go.Proofs.YtckefhnobflhcaaDoor.V
section
variable (cx : Cx) (h : List (Nat × Seg)) (n : Nat)
theorem indexSt0_Q (f a b : Nat) (G F : Nat → SV) (hF : (SV.fn f a G b F).lt n) :
    CallQ Tryd.prog cx 70 [.nils, .fn f a G b F] h n (.int .i64 (-1)) := by
  refine callQ_of_T (P := Tryd.prog) hti (nt := 19) (rs := [.tmp 4]) rfl rfl Tryd.call70 Tryd.func70 rfl _ (by simp only [go_sem, and_self]) (Nat.le_of_ble_eq_true rfl) _ (by first | exact trivial | (refine lt_flat rfl ?_; simp [SV.flat]; done) | simp only [go_sem]) fun hok => ?_
  simp only [go_sem, Nat.reduceLT, Int.reduceNeg]
  refine T_unroll 0 ?_
  simp only [go_sem, Nat.reduceLT, Int.reduceLT, Int.reduceNeg]
theorem containsSt_Q (A : SV) (f a b : Nat) (G F : Nat → SV) (r : Int) (hAo : A.ok = True) (hc : ∀ nt n0, CallQ Tryd.prog ⟨cx.w0, cx.W, nt, n0⟩ 70 [A, .fn f a G b F] h n (.int .i64 r)) :
    CallQ Tryd.prog cx 56 [A, .fn f a G b F] h n (.bool (decide (0 ≤ r))) := by
  refine callQ_of_T (P := Tryd.prog) hti (nt := 9) (rs := [.tmp 4]) rfl rfl Tryd.call56 Tryd.func56 rfl _ (by simp only [go_sem, hAo]) (Nat.le_of_ble_eq_true rfl) _ (by trivial) fun hok => ?_
  simp only [go_sem, Nat.reduceLT, hAo]
  refine (hc _ _).A ?_
  simp only [go_sem, Nat.reduceLT]
theorem fstN_ex (p : Nat → Bool) : ∀ m : Nat, ∃ r : Int, (r = -1 → ∀ j : Nat, j < m → p j = false) ∧ (r ≠ -1 → 0 ≤ r ∧ r < m ∧ p r.toNat = true ∧ ∀ j : Nat, (j : Int) < r → p j = false)
  | 0 => ⟨-1, fun _ j hj => absurd hj (Nat.not_lt_zero j), fun h => absurd rfl h⟩
  | m + 1 => by
    obtain ⟨r, h0, h1⟩ := fstN_ex p m
    by_cases hr : r = -1
    · by_cases hp : p m = true
      · exact ⟨m, fun e => by omega, fun _ => ⟨by omega, by omega, by rw [Int.toNat_natCast]; exact hp, fun j hj => h0 hr j (by omega)⟩⟩
      · refine ⟨-1, fun _ j hj => ?_, fun h => absurd rfl h⟩
        rcases (by omega : j < m ∨ j = m) with h | rfl
        · exact h0 hr j h
        · simpa using hp
    · obtain ⟨a, b, c, d⟩ := h1 hr
      exact ⟨r, fun e => absurd e hr, fun _ => ⟨a, by omega, c, d⟩⟩
theorem validStack_Q (A : SV) (L : List Sh) (hA : StArg h n A L) (hLR : StR L) (hm9 : L.length ≤ 10000000) : CallQ Tryd.prog cx 31 [A] h n (.bool (stokB L)) := by
  rcases hA with ⟨rfl, rfl⟩ | ⟨i, cap, s, rfl, hi, hs, hL⟩
  · have e : stokB [] = true := stokB_t ⟨by simp, fun i hi => by simp at hi⟩
    refine callQ_of_T (P := Tryd.prog) hti (nt := 12) (rs := [.tmp 2]) rfl rfl Tryd.call31 Tryd.func31 rfl _ (by simp only [go_sem, and_self]) (Nat.le_of_ble_eq_true rfl) _ (by first | exact trivial | (refine lt_flat rfl ?_; simp [SV.flat]; done) | simp only [go_sem]) fun hok => ?_
    simp only [go_sem, Nat.reduceLT, Int.reduceLE, e]
    refine (containsSt_Q _ _ _ .nils _ _ _ _ _ (-1) rfl fun nt n0 => indexSt0_Q _ _ _ _ _ _ _ _ ?_).A ?_
    · exact fn_lt (xs := []) (ys := [.ptr n 0]) (fun v hv => by cases hv) (fun v hv => by simp at hv; subst hv; show n < _; omega)
    · simp only [go_sem, Nat.reduceLT, Int.reduceLE, Int.reduceNeg]
  refine callQ_of_T (P := Tryd.prog) hti (nt := 12) (rs := [.tmp 2]) rfl rfl Tryd.call31 Tryd.func31 rfl _ (by simp only [go_sem, and_self]) (Nat.le_of_ble_eq_true rfl) _ (by first | exact trivial | (refine lt_flat rfl ?_; simp [SV.flat]; done) | simp only [go_sem]) fun hok => ?_
  by_cases h6 : L.length ≤ 6
  rotate_left
  · have h6' : ¬ ((L.length : Int) ≤ 6) := by omega
    simp only [go_sem, Nat.reduceLT, h6', stokB_f (fun hk : StOk L => h6 hk.1)]
  have h6' : (L.length : Int) ≤ 6 := by omega
  simp only [go_sem, Nat.reduceLT, h6']
  obtain ⟨r, hr0, hr1⟩ := fstN_ex (fun j => !(validB (L.getD j sh0) && (decide ((L.getD j sh0).wide = (L.getD 0 sh0).wide) && decide ((L.getD j sh0).high = (L.getD 0 sh0).high)))) L.length
  refine (containsSt_Q _ _ _ (.sl i 0 L.length cap) _ _ _ _ _ r rfl fun nt n0 => indexSt_Q _ _ _ i cap L s _ _ _ _ _ (fun j => !(validB (L.getD j sh0) && (decide ((L.getD j sh0).wide = (L.getD 0 sh0).wide) && decide ((L.getD j sh0).high = (L.getD 0 sh0).high)))) r (by simp only [go_sem, hs, hi]) (by omega) hm9 hL hLR ?_ hr0 hr1 fun j hj nt n0 => ?_).A ?_
  · exact fn_lt (xs := []) (ys := [.ptr n 0]) (fun v hv => by cases hv) (fun v hv => by simp at hv; subst hv; show n < _; omega)
  · exact validSt1_Q _ _ _ _ _ (hL.sh hLR hj).2 n i cap L s (by simp only [go_sem]) (by omega) (by simp only [go_sem, hs, hi]) (by omega) hL hLR (by omega)
  · have key : (!decide (0 ≤ r)) = stokB L := by
      by_cases hr : r = -1
      · rw [stokB_t ⟨h6, fun j hj => by
          have := hr0 hr j hj
          simp only [Bool.not_eq_false', Bool.and_eq_true, decide_eq_true_eq] at this
          exact ⟨by simpa [validB] using this.1, this.2⟩⟩]
        subst hr; rfl
      · obtain ⟨r0, r1, r2, _⟩ := hr1 hr
        rw [stokB_f (fun hk => by
          obtain ⟨k1, k2, k3⟩ := hk.2 r.toNat (by omega)
          rw [validB_true k1, decide_eq_true k2, decide_eq_true k3] at r2
          cases r2)]
        simp [r0]
    simp only [go_sem, Nat.reduceLT]
    rw [← key]
end
end Go.Proofs.YtckefhnobflhcaaDoor.V

/- The law's stacks: copied. -/
namespace Go.Proofs.YtckefhnobflhcaaDoor.V
section
variable (cx : Cx) (h : List (Nat × Seg)) (n : Nat)
theorem szStack_Q (A : SV) (L : List Sh) (hA : StArg h n A L) (left : Int) (hl : -9223372036854775808 ≤ left - L.length) (hl2 : left - L.length < 9223372036854775808) :
    CallQ Tryd.prog cx 12 [A, .int .i64 left] h n (.int .i64 (if left - L.length < 0 then -1 else left - L.length)) := by
  rcases hA with ⟨rfl, rfl⟩ | ⟨i, cap, s, rfl, hi, hs, hL⟩
  · refine callQ_of_T (P := Tryd.prog) hti (nt := 12) (rs := [.tmp 4]) rfl rfl Tryd.call12 Tryd.func12 rfl _ (by simp only [go_sem, and_self]) (Nat.le_of_ble_eq_true rfl) _ (by first | exact trivial | (refine lt_flat rfl ?_; simp [SV.flat]; done) | simp only [go_sem]) fun hok => ?_
    simp only [List.length_nil] at hl hl2
    by_cases hn : left < 0
    · simp only [go_sem, Nat.reduceLT, reduceIte, Int.reduceNeg, w64 (n := left) (by omega), hn, Int.sub_zero, Int.natCast_zero]
    · simp only [go_sem, Nat.reduceLT, reduceIte, Int.reduceNeg, w64 (n := left) (by omega), hn, Int.sub_zero, Int.natCast_zero]
  · refine callQ_of_T (P := Tryd.prog) hti (nt := 12) (rs := [.tmp 4]) rfl rfl Tryd.call12 Tryd.func12 rfl _ (by simp only [go_sem, and_self]) (Nat.le_of_ble_eq_true rfl) _ (by first | exact trivial | (refine lt_flat rfl ?_; simp [SV.flat]; done) | simp only [go_sem]) fun hok => ?_
    by_cases hn : left - L.length < 0
    · simp only [go_sem, Nat.reduceLT, reduceIte, Int.reduceNeg, w64 (n := left - L.length) ⟨hl, hl2⟩, hn]
    · simp only [go_sem, Nat.reduceLT, reduceIte, Int.reduceNeg, w64 (n := left - L.length) ⟨hl, hl2⟩, hn]
set_option maxRecDepth 100000 in
theorem toStack_E (A : SV) (L : List Sh) (hA : StArg h n A L) (hLR : StR L) (hm9 : L.length ≤ 10000000) (K : HK) (hK : K (.sl n 0 L.length L.length) ((n, stS L (some (33, L.length * 266))) :: h) (n + 1)) :
    CallE Tryd.prog cx 14 [A] h n K := by
  have fl : ∀ q z, (if z < q * 266 then stC L z else shC sh0 (z % 266)).flat := fun q z => by split; exact stC_flat _ _; exact shC_flat _ _
  refine CallE.imp0 (K := fun r h1 n1 => r = .sl n 0 L.length L.length ∧ n + 1 ≤ n1 ∧ HExt n h h1 ∧ ∃ s, hget h1 n = some s ∧ s.n = L.length * 266 ∧ s.rw = true ∧ s.own = some (33, L.length * 266) ∧ ∀ z, z < L.length * 266 → s.c z = stC L z) ?_ ?_
  rotate_left
  · rintro hok r h1 n1 ⟨rfl, hn, hx, s, hs, s1, s2, s3, s4⟩
    exact ⟨_, (n, stS L (some (33, L.length * 266))) :: h, n + 1, by omega, by simp only [ren_nil], by simp [SV.lt], impH.cons0 hs (by omega) (SegLe.flat (by simp [s1, stS]) (fun _ => s2) (.inr s3.symm) fun z hz => ⟨s4 z hz, stC_flat _ _⟩) (impH.base0 hok (by omega) hx), hK⟩
  rcases hA with ⟨rfl, rfl⟩ | ⟨i, cap, s, rfl, hi, hs, hL⟩
  · refine callE_of_T (P := Tryd.prog) hti (nt := 23) (rs := [.tmp 2]) rfl rfl Tryd.call14 Tryd.func14 rfl _ (by simp only [go_sem, and_self]) (Nat.le_of_ble_eq_true rfl) _ fun hok => ?_
    simp only [go_sem, Nat.reduceLT, Nat.reduceLeDiff, Nat.reduceMul, Int.reduceToNat, Int.reduceLE]
    refine T_unroll 0 ?_
    simp only [go_sem, Nat.reduceLT, Int.reduceLT, HExt_cons, Option.some.injEq, exists_eq_left']
    intro z hz
    omega
  · have hn := hL.1
    refine callE_of_T (P := Tryd.prog) hti (nt := 23) (rs := [.tmp 2]) rfl rfl Tryd.call14 Tryd.func14 rfl _ (by simp only [go_sem, and_self]) (Nat.le_of_ble_eq_true rfl) _ fun hok => ?_
    simp only [go_sem, Nat.reduceLT, Nat.reduceLeDiff]
    refine ⟨by omega, ?_⟩
    refine T_lp (ι := { q : Nat // q ≤ L.length })
      (fun q => ([(0, .sl i 0 L.length cap), (3, .sl n 0 L.length L.length), (4, .int .i64 q.1)], (n, ⟨L.length * 266, fun z => if z < q.1 * 266 then stC L z else shC sh0 (z % 266), true, some (33, L.length * 266)⟩) :: h, n + 1)) (fun q => L.length - q.1) ⟨0, by omega⟩ ?_ ?_
    · refine Imp.id (by simp) ?_ ?_
      · simp only [go_sem, Nat.reduceLT]
        omega
      · refine impH.cons0 (hget_hit _ _ _) (by simp) (SegLe.flat (Nat.le_refl _) id (.inr rfl) fun z hz => ⟨?_, fl 0 z⟩) (impH.base0 hok (by simp) (HExt.rfl.cons (Nat.le_refl n)))
        show _ = if z < 0 * 266 then stC L z else shC sh0 (z % 266)
        rw [if_neg (by omega)]
        rfl
    · rintro ⟨q, hq⟩
      simp only [go_sem, Nat.reduceLT, decide_eq_true_eq, decide_eq_false_iff_not]
      refine ⟨fun h1 => ?_, fun h1 => ?_⟩
      · have r1 : (0 : Int) ≤ q ∧ (q : Int) < L.length := ⟨by omega, by omega⟩
        have b1 : q * 266 ≤ s.n - 266 := by omega
        have b2 : q * 266 ≤ L.length * 266 - 266 := by omega
        have b3 : 266 ≤ s.n := by omega
        have b4 : 266 ≤ L.length * 266 := by omega
        have b5 : q * 266 + 266 ≤ L.length * 266 := by omega
        have b6 : q * 266 + 266 ≤ s.n := by omega
        have hSF : ShF (fun j => s.c (q * 266 + j)) (L.getD q sh0) := (hL.sh hLR (by omega)).2
        have hone := hSF.ones
        simp only [go_sem, Nat.reduceLT, hs, hi, r1, b1, b3, b6, hone]
        refine (toSheet_Q _ _ _ _ (L.getD q sh0) hSF).A ?_
        simp only [go_sem, Nat.reduceLT, r1, b2, b4, b5]
        refine ⟨⟨q + 1, by omega⟩, by show L.length - (q + 1) < L.length - q; omega, ?_⟩
        refine Imp.id (by simp) ?_ ?_
        · simp only [go_sem, Nat.reduceLT, w64 (n := (q : Int) + 1) (by omega), Int.natCast_add, Int.natCast_one]
          exact ⟨by omega, by omega⟩
        · refine impH.cons0 (hget_hit _ _ _) (by simp) (SegLe.flat (Nat.le_refl _) id (.inr rfl) fun z hz => ⟨?_, fl (q + 1) z⟩) (impH.base0 hok (by simp) (HExt.rfl.cons (Nat.le_refl n)))
          exact part_agg (C := stC L) (Z := fun z => shC sh0 (z % 266)) (sz := 266) (F := shC (L.getD q sh0)) (fun j hj => (stC_at L q hj).symm) (by omega) hz
      · have hq' : q = L.length := by omega
        subst hq'
        simp only [go_sem, HExt_cons, Option.some.injEq, exists_eq_left']
        intro z hz
        rw [if_pos hz]
end
end Go.Proofs.YtckefhnobflhcaaDoor.V

/- The law's stacks: compared. -/
namespace Go.Proofs.YtckefhnobflhcaaDoor.V
section
variable (cx : Cx) (h : List (Nat × Seg)) (n : Nat)
set_option maxRecDepth 100000 in
theorem eqStack_Q (i cap i' cap' : Nat) (L : List Sh) (s s' : Seg) (hs : hget h i = some s) (hi : i < n) (hL : StAt s L) (hs' : hget h i' = some s') (hi' : i' < n) (hL' : StAt s' L) (hLR : StR L) (hm9 : L.length ≤ 10000000) :
    CallQ Tryd.prog cx 16 [.sl i 0 L.length cap, .sl i' 0 L.length cap'] h n (.bool true) := by
  have hn := hL.1; have hn' := hL'.1
  refine callQ_of_T (P := Tryd.prog) hti (nt := 27) (rs := [.tmp 4]) rfl rfl Tryd.call16 Tryd.func16 rfl _ (by simp only [go_sem, and_self]) (Nat.le_of_ble_eq_true rfl) _ (by first | exact trivial | (refine lt_flat rfl ?_; simp [SV.flat]; done) | simp only [go_sem]) fun hok => ?_
  simp only [go_sem, Nat.reduceLT]
  refine T_lp (ι := { q : Nat // q ≤ L.length }) (fun q => ([(0, .sl i 0 L.length cap), (1, .sl i' 0 L.length cap'), (5, .int .i64 q.1)], h, n)) (fun q => L.length - q.1) ⟨0, by omega⟩ ?_ ?_
  · refine Imp.id (by simp) ?_ (impH.base0 hok (by simp) HExt.rfl)
    simp only [go_sem, Nat.reduceLT]
    exact ⟨hi, hi'⟩
  · rintro ⟨q, hq⟩
    simp only [go_sem, Nat.reduceLT, decide_eq_true_eq, decide_eq_false_iff_not]
    refine ⟨fun h1 => ?_, fun h1 => ?_⟩
    · have r1 : (0 : Int) ≤ q ∧ (q : Int) < L.length := ⟨by omega, by omega⟩
      have b1 : q * 266 ≤ s.n - 266 := by omega
      have b2 : q * 266 ≤ s'.n - 266 := by omega
      have b3 : 266 ≤ s.n := by omega
      have b4 : 266 ≤ s'.n := by omega
      have b5 : q * 266 + 266 ≤ s.n := by omega
      have b6 : q * 266 + 266 ≤ s'.n := by omega
      have hSF : ShF (fun j => s.c (q * 266 + j)) (L.getD q sh0) := (hL.sh hLR (by omega)).2
      have hSF' : ShF (fun j => s'.c (q * 266 + j)) (L.getD q sh0) := (hL'.sh hLR (by omega)).2
      have hone := hSF.ones
      have hone' := hSF'.ones
      refine T_draw hti _ _ (by kernel_rfl) (by kernel_rfl) ?_
      simp only [go_sem, Nat.reduceLT, hs, hs', r1, b1, b2, b3, b4, b5, b6, hone, hone']
      refine (eqSheet_Q _ _ _ _ _ (L.getD q sh0) hSF hSF').A ?_
      simp only [go_sem, Nat.reduceLT]
      refine ⟨⟨q + 1, by omega⟩, by show L.length - (q + 1) < L.length - q; omega, ?_⟩
      refine Imp.id (by simp) ?_ (impH.base0 hok (by simp) HExt.rfl)
      simp only [go_sem, Nat.reduceLT, w64 (n := (q : Int) + 1) (by omega), Int.natCast_add, Int.natCast_one]
      exact ⟨hi, hi'⟩
    · simp only [go_sem]
end
end Go.Proofs.YtckefhnobflhcaaDoor.V
