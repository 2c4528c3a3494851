/- Part 5 of the texts that this proof stands on: a symbolic walk over the program, what its functions and the reference's do, plain laws. -/
import Derived.Test.YtjepjeaecmioaaaZtud
import Derived.Test.YtjepjeaecmioaaaZtuc
import Derived.Test.YtjepjeaecmioaaaV17
set_option linter.all false

/- The darkest cell, by the program; copies of stacks; times until. -/
namespace Go.Proofs.Ytjepjeaecmioaaa.V
/-- The first cell of which the greatest number is told. -/
def mostP (v : Int → Int → Int) (W : Nat) : Nat → (Int × Int) × Int
  | 0 => ((0, 0), 0)
  | j + 1 => if (mostP v W j).2 < v ((j % W : Nat) : Int) ((j / W : Nat) : Int) then ((((j % W : Nat) : Int), ((j / W : Nat) : Int)), v ((j % W : Nat) : Int) ((j / W : Nat) : Int)) else mostP v W j
theorem mostP_dark (S : Sh) (W : Nat) : ∀ j, (mostP (darkB S) W j).2 = mostN S W j
  | 0 => rfl
  | j + 1 => by
    simp only [mostP, mostN]
    rw [← mostP_dark S W j]
    split
    · simp only; omega
    · omega
/-- A stack of good sheets has sides. -/
theorem stOk_good {L : List Sh} (hk : StOk L) (hR : StR L) : PGood L (L.getD 0 sh0).wide.toNat (L.getD 0 sh0).high.toNat := by
  intro i hi
  obtain ⟨h1, h2, h3⟩ := hk.2 i hi
  obtain ⟨h0, _, _⟩ := hk.2 0 (by omega)
  obtain ⟨hW, hH, _, _⟩ := valid_sides h0.1
  exact ⟨h1.good, hR i hi, h2.trans hW, h3.trans hH⟩
/-- How often a stack passes until its top is light. -/
def timesU (share level : Int) (W H : Nat) : Nat → Int → List Sh → Int × Int
  | 0, _, _ => (0, 6)
  | r + 1, k, L => if mostN (L.getD 0 sh0) W (H * W) ≤ level then (k, 0) else timesU share level W H r (k + 1) (passS share W H L).L
noncomputable def timesR (L : List Sh) (share level : Int) : Int × Int :=
  if stAskC L share (decide (0 ≤ level ∧ level ≤ 3000)) = 0 then (if L = [] then (0, 4) else timesU share level (L.getD 0 sh0).wide.toNat (L.getD 0 sh0).high.toNat 101 0 L) else (0, stAskC L share (decide (0 ≤ level ∧ level ≤ 3000)))
theorem stAsk_ok {L : List Sh} {share : Int} {b : Bool} (h : stAskC L share b = 0) : StOk L ∧ (1 ≤ share ∧ share ≤ 15) ∧ b = true := by
  unfold stAskC at h
  split at h
  · rename_i h1
    split at h
    · rename_i h2
      simp only [Bool.and_eq_true, decide_eq_true_eq] at h2
      exact ⟨by simpa [stokB] using h1, h2.1, h2.2⟩
    · cases h
  · cases h
section
variable (cx : Cx) (h : List (Nat × Seg)) (n : Nat)
/-- A function that is asked for a number of a spot. -/
def AsksI (cx : Cx) (h : List (Nat × Seg)) (n f a b : Nat) (G F : Nat → SV) (x y : Int) (q : Int) : Prop :=
  ∀ nt n0 h' n', n ≤ n' → HExt n h h' → CallQ Try.prog ⟨cx.w0, cx.W, nt, n0⟩ f (lst a G ++ [spot x y] ++ lst b F) h' n' (.int .i64 q)
theorem most_Q (i o : Nat) (s : Seg) (S : Sh) (W H : Nat) (f a b : Nat) (G F : Nat → SV) (v : Int → Int → Int) (hs : hget h i = some s) (hi : i < n) (hS : ShAt s o S) (hsm : Small S) (hW : S.wide = W) (hH : S.high = H) (hF : (SV.fn f a G b F).lt n)
    (hv : ∀ j, j < H * W → AsksI cx h n f a b G F ((j % W : Nat) : Int) ((j / W : Nat) : Int) (v ((j % W : Nat) : Int) ((j / W : Nat) : Int))) :
    CallQ Try.prog cx 68 [.ptr i o, .fn f a G b F] h n (.tup 2 (cl [spot (mostP v W (H * W)).1.1 (mostP v W (H * W)).1.2, .int .i64 (mostP v W (H * W)).2])) := by
  have hWH : W ≤ 8 ∧ H ≤ 8 := by unfold Small at hsm; omega
  have hWH2 : H * W ≤ 64 := Nat.mul_le_mul hWH.2 hWH.1
  have hF3 : (SV.fn f a G b F).lt (n + 3) = True := eq_true (SV.lt_mono (by omega) _ hF)
  refine callQ_of_T (P := Try.prog) hti (nt := 30) (rs := [.cell 4 53, .tmp 5]) rfl rfl Try.call68 Try.func68 rfl _ (by simp only [go_sem, and_self]) (Nat.le_of_ble_eq_true rfl) _ (by first | exact trivial | (refine lt_flat rfl ?_; simp [SV.flat]; done) | simp only [go_sem]) fun hok => ?_
  simp only [go_sem, Nat.reduceBEq, Nat.reduceLT, Nat.reduceLeDiff, Nat.reduceAdd, Nat.reduceMul, Nat.reduceSub, Nat.reduceMod, Nat.reduceDiv, Nat.reduceEqDiff, Int.reduceToNat, reduceIte, reduceCtorEq, Int.reduceLE, Int.reduceLT, Int.reduceEq, Int.reduceNeg, Int.reduceAdd, Int.reduceSub, Int.reduceMul]
  refine callA_false (cells_E _ _ _ i o s S W H (by first | (simp only [go_sem, Nat.reduceBEq, Nat.reduceLT, Nat.reduceLeDiff, Nat.reduceAdd, Nat.reduceMul, Nat.reduceSub, Nat.reduceMod, Nat.reduceDiv, Nat.reduceEqDiff, Int.reduceToNat, reduceIte, reduceCtorEq, Int.reduceLE, Int.reduceLT, Int.reduceEq, Int.reduceNeg, Int.reduceAdd, Int.reduceSub, Int.reduceMul, hs, hi]; done) | (simp only [go_sem, Nat.reduceBEq, Nat.reduceLT, Nat.reduceLeDiff, Nat.reduceAdd, Nat.reduceMul, Nat.reduceSub, Nat.reduceMod, Nat.reduceDiv, Nat.reduceEqDiff, Int.reduceToNat, reduceIte, reduceCtorEq, Int.reduceLE, Int.reduceLT, Int.reduceEq, Int.reduceNeg, Int.reduceAdd, Int.reduceSub, Int.reduceMul, hs, hi]; rfl)) (by omega) hS hW hH hWH.1 hWH.2 _ fun cap hc1 hc2 => ?_)
  simp only [go_sem, Nat.reduceBEq, Nat.reduceLT, Nat.reduceLeDiff, Nat.reduceAdd, Nat.reduceMul, Nat.reduceSub, Nat.reduceMod, Nat.reduceDiv, Nat.reduceEqDiff, Int.reduceToNat, reduceIte, reduceCtorEq, Int.reduceLE, Int.reduceLT, Int.reduceEq, Int.reduceNeg, Int.reduceAdd, Int.reduceSub, Int.reduceMul]
  refine T_lp (ι := { j : Nat // j ≤ H * W })
    (fun j => ([(0, .ptr i o), (1, .fn f a G b F), (4, .ptr n 0), (6, .ptr (n + 1) 0), (7, .int .i64 (mostP v W j.1).2), (13, .sl (n + 2) 0 (H * W) cap), (14, .int .i64 ((H * W : Nat) : Int)), (15, .int .i64 j.1)],
      (n + 2, ⟨H * W * 2, cellC W, true, none⟩) :: (n + 1, ⟨2, cl [.int .i8 (mostP v W j.1).1.1, .int .i8 (mostP v W j.1).1.2], true, none⟩) :: (n, ⟨2, cl [.int .i8 0, .int .i8 0], true, none⟩) :: h, n + 3)) (fun j => H * W - j.1) ⟨0, Nat.zero_le _⟩ ?_ ?_
  · refine Imp.id (by simp) ?_ ?_
    · simp only [go_sem, Nat.reduceBEq, Nat.reduceLT, Nat.reduceLeDiff, Nat.reduceAdd, Nat.reduceMul, Nat.reduceSub, Nat.reduceMod, Nat.reduceDiv, Nat.reduceEqDiff, Int.reduceToNat, reduceIte, reduceCtorEq, Int.reduceLE, Int.reduceLT, Int.reduceEq, Int.reduceNeg, Int.reduceAdd, Int.reduceSub, Int.reduceMul, mostP, hF3]
      omega
    · (repeat (refine impH.cons0 (by first | (simp only [go_sem, Nat.reduceBEq, Nat.reduceLT, Nat.reduceLeDiff, Nat.reduceAdd, Nat.reduceMul, Nat.reduceSub, Nat.reduceMod, Nat.reduceDiv, Nat.reduceEqDiff, Int.reduceToNat, reduceIte, reduceCtorEq, Int.reduceLE, Int.reduceLT, Int.reduceEq, Int.reduceNeg, Int.reduceAdd, Int.reduceSub, Int.reduceMul, hget_hset_self]; done) | (simp only [go_sem, Nat.reduceBEq, Nat.reduceLT, Nat.reduceLeDiff, Nat.reduceAdd, Nat.reduceMul, Nat.reduceSub, Nat.reduceMod, Nat.reduceDiv, Nat.reduceEqDiff, Int.reduceToNat, reduceIte, reduceCtorEq, Int.reduceLE, Int.reduceLT, Int.reduceEq, Int.reduceNeg, Int.reduceAdd, Int.reduceSub, Int.reduceMul, hget_hset_self]; rfl)) (by simp) ?_ ?_; · exact SegLe.flat (Nat.le_refl _) id (by first | exact .inr rfl | exact .inl rfl) fun z hz => ⟨by first | rfl | exact dC_zero hz | exact dC_cl (by rfl) (by rfl) (by rfl) hz, by first | exact shC_flat _ _ | exact brC_flat _ hz | exact pair_flat _ _ hz | exact cellC_flat _ _ | exact dC_flat _ _ | exact stC_flat _ _ | exact cl_flat (l := [_, _, _, _, _]) (by simp [SV.flat]) hz | exact cl_flat (l := [_, _, _]) (by simp [SV.flat]) hz | trivial⟩)); exact impH.base0 (by first | exact hok | exact hok_set hok (fun k hk => stC_flat _ _) | exact hok_set hok (fun k hk => shC_flat _ _)) (by simp) (by first | (simp only [go_sem, Nat.reduceBEq, Nat.reduceLT, Nat.reduceLeDiff, Nat.reduceAdd, Nat.reduceMul, Nat.reduceSub, Nat.reduceMod, Nat.reduceDiv, Nat.reduceEqDiff, Int.reduceToNat, reduceIte, reduceCtorEq, Int.reduceLE, Int.reduceLT, Int.reduceEq, Int.reduceNeg, Int.reduceAdd, Int.reduceSub, Int.reduceMul, HExt_cons]; done) | (simp only [go_sem, Nat.reduceBEq, Nat.reduceLT, Nat.reduceLeDiff, Nat.reduceAdd, Nat.reduceMul, Nat.reduceSub, Nat.reduceMod, Nat.reduceDiv, Nat.reduceEqDiff, Int.reduceToNat, reduceIte, reduceCtorEq, Int.reduceLE, Int.reduceLT, Int.reduceEq, Int.reduceNeg, Int.reduceAdd, Int.reduceSub, Int.reduceMul, HExt_cons]; exact HExt.rfl))
  · rintro ⟨j, hj⟩
    simp only [go_sem, Nat.reduceBEq, Nat.reduceLT, Nat.reduceLeDiff, Nat.reduceAdd, Nat.reduceMul, Nat.reduceSub, Nat.reduceMod, Nat.reduceDiv, Nat.reduceEqDiff, Int.reduceToNat, reduceIte, reduceCtorEq, Int.reduceLE, Int.reduceLT, Int.reduceEq, Int.reduceNeg, Int.reduceAdd, Int.reduceSub, Int.reduceMul, hi, cellC_x, cellC_y, decide_eq_true_eq, decide_eq_false_iff_not]
    refine ⟨fun h1 => ⟨⟨by omega, h1⟩, by omega, ?_⟩, fun h1 => ?_⟩
    · refine (hv j (by omega) _ _ _ (n + 4) (by omega) (by simp only [go_sem, Nat.reduceBEq, Nat.reduceLT, Nat.reduceLeDiff, Nat.reduceAdd, Nat.reduceMul, Nat.reduceSub, Nat.reduceMod, Nat.reduceDiv, Nat.reduceEqDiff, Int.reduceToNat, reduceIte, reduceCtorEq, Int.reduceLE, Int.reduceLT, Int.reduceEq, Int.reduceNeg, Int.reduceAdd, Int.reduceSub, Int.reduceMul, HExt_cons])).A ?_
      by_cases hl : (mostP v W j).2 < v ((j % W : Nat) : Int) ((j / W : Nat) : Int)
      · simp only [go_sem, Nat.reduceBEq, Nat.reduceLT, Nat.reduceLeDiff, Nat.reduceAdd, Nat.reduceMul, Nat.reduceSub, Nat.reduceMod, Nat.reduceDiv, Nat.reduceEqDiff, Int.reduceToNat, reduceIte, reduceCtorEq, Int.reduceLE, Int.reduceLT, Int.reduceEq, Int.reduceNeg, Int.reduceAdd, Int.reduceSub, Int.reduceMul, hl]
        have e : mostP v W (j + 1) = ((((j % W : Nat) : Int), ((j / W : Nat) : Int)), v ((j % W : Nat) : Int) ((j / W : Nat) : Int)) := by simp only [mostP]; rw [if_pos hl]
        refine ⟨⟨j + 1, by omega⟩, by show H * W - (j + 1) < H * W - j; omega, ?_⟩
        simp only [e]
        refine Imp.id (by simp) ?_ ?_
        · simp only [go_sem, Nat.reduceBEq, Nat.reduceLT, Nat.reduceLeDiff, Nat.reduceAdd, Nat.reduceMul, Nat.reduceSub, Nat.reduceMod, Nat.reduceDiv, Nat.reduceEqDiff, Int.reduceToNat, reduceIte, reduceCtorEq, Int.reduceLE, Int.reduceLT, Int.reduceEq, Int.reduceNeg, Int.reduceAdd, Int.reduceSub, Int.reduceMul, w64 (n := (j : Int) + 1) (by omega), Int.natCast_add, Int.natCast_one, hF3]
          omega
        · (repeat (refine impH.cons0 (by first | (simp only [go_sem, Nat.reduceBEq, Nat.reduceLT, Nat.reduceLeDiff, Nat.reduceAdd, Nat.reduceMul, Nat.reduceSub, Nat.reduceMod, Nat.reduceDiv, Nat.reduceEqDiff, Int.reduceToNat, reduceIte, reduceCtorEq, Int.reduceLE, Int.reduceLT, Int.reduceEq, Int.reduceNeg, Int.reduceAdd, Int.reduceSub, Int.reduceMul, hget_hset_self]; done) | (simp only [go_sem, Nat.reduceBEq, Nat.reduceLT, Nat.reduceLeDiff, Nat.reduceAdd, Nat.reduceMul, Nat.reduceSub, Nat.reduceMod, Nat.reduceDiv, Nat.reduceEqDiff, Int.reduceToNat, reduceIte, reduceCtorEq, Int.reduceLE, Int.reduceLT, Int.reduceEq, Int.reduceNeg, Int.reduceAdd, Int.reduceSub, Int.reduceMul, hget_hset_self]; rfl)) (by simp) ?_ ?_; · exact SegLe.flat (Nat.le_refl _) id (by first | exact .inr rfl | exact .inl rfl) fun z hz => ⟨by first | rfl | exact dC_zero hz | exact dC_cl (by rfl) (by rfl) (by rfl) hz, by first | exact shC_flat _ _ | exact brC_flat _ hz | exact pair_flat _ _ hz | exact cellC_flat _ _ | exact dC_flat _ _ | exact stC_flat _ _ | exact cl_flat (l := [_, _, _, _, _]) (by simp [SV.flat]) hz | exact cl_flat (l := [_, _, _]) (by simp [SV.flat]) hz | trivial⟩)); exact impH.base0 (by first | exact hok | exact hok_set hok (fun k hk => stC_flat _ _) | exact hok_set hok (fun k hk => shC_flat _ _)) (by simp) (by first | (simp only [go_sem, Nat.reduceBEq, Nat.reduceLT, Nat.reduceLeDiff, Nat.reduceAdd, Nat.reduceMul, Nat.reduceSub, Nat.reduceMod, Nat.reduceDiv, Nat.reduceEqDiff, Int.reduceToNat, reduceIte, reduceCtorEq, Int.reduceLE, Int.reduceLT, Int.reduceEq, Int.reduceNeg, Int.reduceAdd, Int.reduceSub, Int.reduceMul, HExt_cons]; done) | (simp only [go_sem, Nat.reduceBEq, Nat.reduceLT, Nat.reduceLeDiff, Nat.reduceAdd, Nat.reduceMul, Nat.reduceSub, Nat.reduceMod, Nat.reduceDiv, Nat.reduceEqDiff, Int.reduceToNat, reduceIte, reduceCtorEq, Int.reduceLE, Int.reduceLT, Int.reduceEq, Int.reduceNeg, Int.reduceAdd, Int.reduceSub, Int.reduceMul, HExt_cons]; exact HExt.rfl))
      · simp only [go_sem, Nat.reduceBEq, Nat.reduceLT, Nat.reduceLeDiff, Nat.reduceAdd, Nat.reduceMul, Nat.reduceSub, Nat.reduceMod, Nat.reduceDiv, Nat.reduceEqDiff, Int.reduceToNat, reduceIte, reduceCtorEq, Int.reduceLE, Int.reduceLT, Int.reduceEq, Int.reduceNeg, Int.reduceAdd, Int.reduceSub, Int.reduceMul, hl]
        have e : mostP v W (j + 1) = mostP v W j := by simp only [mostP]; rw [if_neg hl]
        refine ⟨⟨j + 1, by omega⟩, by show H * W - (j + 1) < H * W - j; omega, ?_⟩
        simp only [e]
        refine Imp.id (by simp) ?_ ?_
        · simp only [go_sem, Nat.reduceBEq, Nat.reduceLT, Nat.reduceLeDiff, Nat.reduceAdd, Nat.reduceMul, Nat.reduceSub, Nat.reduceMod, Nat.reduceDiv, Nat.reduceEqDiff, Int.reduceToNat, reduceIte, reduceCtorEq, Int.reduceLE, Int.reduceLT, Int.reduceEq, Int.reduceNeg, Int.reduceAdd, Int.reduceSub, Int.reduceMul, w64 (n := (j : Int) + 1) (by omega), Int.natCast_add, Int.natCast_one, hF3]
          omega
        · (repeat (refine impH.cons0 (by first | (simp only [go_sem, Nat.reduceBEq, Nat.reduceLT, Nat.reduceLeDiff, Nat.reduceAdd, Nat.reduceMul, Nat.reduceSub, Nat.reduceMod, Nat.reduceDiv, Nat.reduceEqDiff, Int.reduceToNat, reduceIte, reduceCtorEq, Int.reduceLE, Int.reduceLT, Int.reduceEq, Int.reduceNeg, Int.reduceAdd, Int.reduceSub, Int.reduceMul, hget_hset_self]; done) | (simp only [go_sem, Nat.reduceBEq, Nat.reduceLT, Nat.reduceLeDiff, Nat.reduceAdd, Nat.reduceMul, Nat.reduceSub, Nat.reduceMod, Nat.reduceDiv, Nat.reduceEqDiff, Int.reduceToNat, reduceIte, reduceCtorEq, Int.reduceLE, Int.reduceLT, Int.reduceEq, Int.reduceNeg, Int.reduceAdd, Int.reduceSub, Int.reduceMul, hget_hset_self]; rfl)) (by simp) ?_ ?_; · exact SegLe.flat (Nat.le_refl _) id (by first | exact .inr rfl | exact .inl rfl) fun z hz => ⟨by first | rfl | exact dC_zero hz | exact dC_cl (by rfl) (by rfl) (by rfl) hz, by first | exact shC_flat _ _ | exact brC_flat _ hz | exact pair_flat _ _ hz | exact cellC_flat _ _ | exact dC_flat _ _ | exact stC_flat _ _ | exact cl_flat (l := [_, _, _, _, _]) (by simp [SV.flat]) hz | exact cl_flat (l := [_, _, _]) (by simp [SV.flat]) hz | trivial⟩)); exact impH.base0 (by first | exact hok | exact hok_set hok (fun k hk => stC_flat _ _) | exact hok_set hok (fun k hk => shC_flat _ _)) (by simp) (by first | (simp only [go_sem, Nat.reduceBEq, Nat.reduceLT, Nat.reduceLeDiff, Nat.reduceAdd, Nat.reduceMul, Nat.reduceSub, Nat.reduceMod, Nat.reduceDiv, Nat.reduceEqDiff, Int.reduceToNat, reduceIte, reduceCtorEq, Int.reduceLE, Int.reduceLT, Int.reduceEq, Int.reduceNeg, Int.reduceAdd, Int.reduceSub, Int.reduceMul, HExt_cons]; done) | (simp only [go_sem, Nat.reduceBEq, Nat.reduceLT, Nat.reduceLeDiff, Nat.reduceAdd, Nat.reduceMul, Nat.reduceSub, Nat.reduceMod, Nat.reduceDiv, Nat.reduceEqDiff, Int.reduceToNat, reduceIte, reduceCtorEq, Int.reduceLE, Int.reduceLT, Int.reduceEq, Int.reduceNeg, Int.reduceAdd, Int.reduceSub, Int.reduceMul, HExt_cons]; exact HExt.rfl))
    · have hj2 : j = H * W := by omega
      subst hj2
      rfl
theorem isDarker_Q (i o : Nat) (s : Seg) (S : Sh) (W H : Nat) (level : Int) (hs : hget h i = some s) (hi : i < n) (hS : ShAt s o S) (hG : Good S) (hW : S.wide = W) (hH : S.high = H) :
    CallQ Try.prog cx 34 [.ptr i o, .int .i64 level] h n (.bool (decide (level < mostN S W (H * W)))) := by
  have hsm := hG.small
  refine callQ_of_T (P := Try.prog) hti (nt := 17) (rs := [.tmp 4]) rfl rfl Try.call34 Try.func34 rfl _ (by simp only [go_sem, and_self]) (Nat.le_of_ble_eq_true rfl) _ (by first | exact trivial | (refine lt_flat rfl ?_; simp [SV.flat]; done) | simp only [go_sem]) fun hok => ?_
  simp only [go_sem, Nat.reduceBEq, Nat.reduceLT, Nat.reduceLeDiff, Nat.reduceAdd, Nat.reduceMul, Nat.reduceSub, Nat.reduceMod, Nat.reduceDiv, Nat.reduceEqDiff, Int.reduceToNat, reduceIte, reduceCtorEq, Int.reduceLE, Int.reduceLT, Int.reduceEq, Int.reduceNeg, Int.reduceAdd, Int.reduceSub, Int.reduceMul]
  refine (most_Q _ _ _ i o s S W H _ _ _ _ _ (darkB S) (by first | (simp only [go_sem, Nat.reduceBEq, Nat.reduceLT, Nat.reduceLeDiff, Nat.reduceAdd, Nat.reduceMul, Nat.reduceSub, Nat.reduceMod, Nat.reduceDiv, Nat.reduceEqDiff, Int.reduceToNat, reduceIte, reduceCtorEq, Int.reduceLE, Int.reduceLT, Int.reduceEq, Int.reduceNeg, Int.reduceAdd, Int.reduceSub, Int.reduceMul, hs, hi]; done) | (simp only [go_sem, Nat.reduceBEq, Nat.reduceLT, Nat.reduceLeDiff, Nat.reduceAdd, Nat.reduceMul, Nat.reduceSub, Nat.reduceMod, Nat.reduceDiv, Nat.reduceEqDiff, Int.reduceToNat, reduceIte, reduceCtorEq, Int.reduceLE, Int.reduceLT, Int.reduceEq, Int.reduceNeg, Int.reduceAdd, Int.reduceSub, Int.reduceMul, hs, hi]; rfl)) (by omega) hS hsm hW hH ?_ fun j hj nt n0 h' n' hn hx => ?_).A ?_
  · exact fn_lt (xs := [.ptr i o]) (ys := []) (fun v hv => by simp at hv; subst hv; show i < _; omega) (fun v hv => by cases hv)
  · obtain ⟨x0, x8, y0, y8⟩ := cell_in hsm hW hH hj
    exact dark_Q _ _ _ i o s S _ _ (hx i (by omega) _ hs) (by omega) hS hG x0 x8 y0 y8
  · simp only [go_sem, Nat.reduceBEq, Nat.reduceLT, Nat.reduceLeDiff, Nat.reduceAdd, Nat.reduceMul, Nat.reduceSub, Nat.reduceMod, Nat.reduceDiv, Nat.reduceEqDiff, Int.reduceToNat, reduceIte, reduceCtorEq, Int.reduceLE, Int.reduceLT, Int.reduceEq, Int.reduceNeg, Int.reduceAdd, Int.reduceSub, Int.reduceMul, mostP_dark]
set_option maxRecDepth 100000 in
theorem cloneC_E (i cap : Nat) (L : List Sh) (s : Seg) (hs : hget h i = some s) (hi : i < n) (hL : StAt s L) (hm9 : L.length ≤ 10000000) (K : HK)
    (hK : ∀ cap', L.length ≤ cap' → cap' ≤ maxLen → K (.sl n 0 L.length cap') ((n, stS L none) :: h) (n + 1)) :
    CallE Try.prog cx 33 [.sl i 0 L.length cap] h n K := by
  have hn := hL.1
  refine CallE.imp1 (K := fun r h1 n1 => ∃ cap', L.length ≤ cap' ∧ cap' ≤ maxLen ∧ r = .sl (n + 1) 0 L.length cap' ∧ n1 = n + 2 ∧ HExt n h h1 ∧ ∃ t, hget h1 (n + 1) = some t ∧ t.n = L.length * 266 ∧ t.rw = true ∧ ∀ k, k < L.length * 266 → t.c k = stC L k) ?_ ?_
  · refine callE_of_T (P := Try.prog) hti (nt := 8) (rs := [.tmp 2]) rfl rfl Try.call33 Try.func33 rfl _ (by simp only [go_sem, and_self]) (Nat.le_of_ble_eq_true rfl) _ fun hok => ?_
    simp only [go_sem, Nat.reduceBEq, Nat.reduceLT, Nat.reduceLeDiff, Nat.reduceAdd, Nat.reduceMul, Nat.reduceSub, Nat.reduceMod, Nat.reduceDiv, Nat.reduceEqDiff, Int.reduceToNat, reduceIte, reduceCtorEq, Int.reduceLE, Int.reduceLT, Int.reduceEq, Int.reduceNeg, Int.reduceAdd, Int.reduceSub, Int.reduceMul, hs, hi, ↓hok.del (Nat.le_refl n)]
    refine ⟨⟨⟨trivial, Nat.succ_pos 265, ?_, ?_⟩, by omega⟩, fun cap' c1 c2 => ?_⟩
    · show 0 + L.length * 266 ≤ s.n
      omega
    · refine allP_iff.2 fun j hj => ?_
      have hj : j < L.length * 266 := hj
      show (s.c (0 + j)).one
      rw [Nat.zero_add, hL.2 j hj]
      exact (stC_flat L j).one
    · refine ⟨cap', c1, c2, rfl, _, rfl, rfl, rfl, fun k hk => ?_⟩
      refine Eq.trans ?_ (hL.2 k hk)
      simp only [both, news, Nat.not_lt_zero, if_false, Nat.sub_zero, Nat.zero_add]
  · rintro hok r h1 n1 ⟨cap', c1, c2, rfl, rfl, hx, t, ht, t1, t2, t3⟩
    exact ⟨n + 1, .sl n 0 L.length cap', (n, stS L none) :: h, n + 1, by omega, by omega, by simp only [ren_sl, sig_hit], Nat.lt_succ_self n,
      impH.cons1 ht (Nat.lt_succ_self n) (SegLe.flat (by rw [t1]; exact Nat.le_refl _) (fun _ => t2) (.inl rfl) fun k hk => ⟨t3 k hk, stC_flat _ _⟩) (impH.base1 hok (by simp) (Nat.le_refl n) hx), hK cap' c1 c2⟩
end
end Go.Proofs.Ytjepjeaecmioaaa.V

/- Times until: both walks. -/
namespace Go.Proofs.Ytjepjeaecmioaaa.V
theorem timesR_bad {L : List Sh} {share level c : Int} (h : stAskC L share (decide (0 ≤ level ∧ level ≤ 3000)) = c) (hc : c ≠ 0) : timesR L share level = (0, c) := by
  unfold timesR; rw [h, if_neg hc]
theorem timesR_none {L : List Sh} {share level : Int} (h : stAskC L share (decide (0 ≤ level ∧ level ≤ 3000)) = 0) (h0 : L = []) : timesR L share level = (0, 4) := by
  unfold timesR; rw [if_pos h, if_pos h0]
theorem timesR_go {L : List Sh} {share level : Int} (h : stAskC L share (decide (0 ≤ level ∧ level ≤ 3000)) = 0) (h0 : L ≠ []) : timesR L share level = timesU share level (L.getD 0 sh0).wide.toNat (L.getD 0 sh0).high.toNat 101 0 L := by
  unfold timesR; rw [if_pos h, if_neg h0]
theorem timesU_stop {share level k : Int} {W H r : Nat} {L : List Sh} (h : mostN (L.getD 0 sh0) W (H * W) ≤ level) : timesU share level W H (r + 1) k L = (k, 0) := by simp only [timesU]; rw [if_pos h]
theorem timesU_next {share level k : Int} {W H r : Nat} {L : List Sh} (h : ¬ mostN (L.getD 0 sh0) W (H * W) ≤ level) : timesU share level W H (r + 1) k L = timesU share level W H r (k + 1) (passS share W H L).L := by simp only [timesU]; rw [if_neg h]
theorem codeSt_ask (L : List Sh) (share : Int) (b : Bool) : codeSt L (decide (1 ≤ share ∧ share ≤ 15) && b) = stAskC L share b := by
  unfold codeSt stAskC
  rfl
theorem stS_at {L : List Sh} {own : Option (Nat × Nat)} : StAt (stS L own) L := ⟨Nat.le_refl _, fun _ _ => rfl⟩
theorem PGood.at0 {L : List Sh} {W H : Nat} (h : PGood L W H) (h0 : 0 < L.length) : ShAt (stS L none) 0 (L.getD 0 sh0) := by
  have := shAt_stS (own := none) h0 (h 0 h0).R
  rwa [Nat.zero_mul] at this
section
variable (cx : Cx) (h : List (Nat × Seg)) (n : Nat)
theorem pass2L_E (i cap0 len : Nat) (L : List Sh) (hlen : L.length = len) (W H : Nat) (share : Int) (hs : hget h i = some (stS L none)) (hi : i < n) (hG : PGood L W H) (hsh : 1 ≤ share ∧ share ≤ 15) (hm9 : L.length ≤ 10000000) (K : HK)
    (hK : K (.tup 2 (cl [d3 (passS share W H L).d, .int .i64 (passS share W H L).w])) (hset h i (stS (passS share W H L).L none)) n) :
    CallE Try.prog cx 29 [.sl i 0 len cap0, .int .i64 share] h n K := by subst hlen; exact pass2_E cx h n i cap0 L W H share hs hi hG hsh hm9 K hK
theorem passL_E (i cap0 len : Nat) (L : List Sh) (hlen : L.length = len) (W H : Nat) (share : Int) (hs : hget h i = some (stS L none)) (hi : i < n) (hG : PGood L W H) (hsh : 1 ≤ share ∧ share ≤ 15) (hm9 : L.length ≤ 10000000) (K : HK)
    (hK : K (.tup 2 (cl [d3 (passS share W H L).d, .int .i64 (passS share W H L).w])) (hset h i (stS (passS share W H L).L none)) n) :
    CallE Try.prog cx 35 [.sl i 0 len cap0, .int .i64 share] h n K := by subst hlen; exact pass_E cx h n i cap0 L W H share hs hi hG hsh hm9 K hK
set_option maxRecDepth 100000 in
theorem times2_Q (i cap : Nat) (L : List Sh) (s : Seg) (share level : Int) (hs : hget h i = some s) (hi : i < n) (hL : StAt s L) (hLR : StR L) (hm9 : L.length ≤ 10000000) :
    CallQ Try.prog cx 8 [.sl i 0 L.length cap, .int .i64 share, .int .i64 level] h n (.tup 2 (cl [.int .i64 (timesR L share level).1, .int .i64 (timesR L share level).2])) := by
  have hn := hL.1
  refine callQ_of_T (P := Try.prog) hti (nt := 38) (rs := [.tmp 6, .tmp 7]) rfl rfl Try.call8 Try.func8 rfl _ (by simp only [go_sem, and_self]) (Nat.le_of_ble_eq_true rfl) _ (by first | exact trivial | (refine lt_flat rfl ?_; simp [SV.flat]; done) | simp only [go_sem]) fun hok => ?_
  simp only [go_sem, Nat.reduceBEq, Nat.reduceLT, Nat.reduceLeDiff, Nat.reduceAdd, Nat.reduceMul, Nat.reduceSub, Nat.reduceMod, Nat.reduceDiv, Nat.reduceEqDiff, Int.reduceToNat, reduceIte, reduceCtorEq, Int.reduceLE, Int.reduceLT, Int.reduceEq, Int.reduceNeg, Int.reduceAdd, Int.reduceSub, Int.reduceMul]
  refine (level2_Q _ _ _ level).A ?_
  simp only [go_sem, Nat.reduceBEq, Nat.reduceLT, Nat.reduceLeDiff, Nat.reduceAdd, Nat.reduceMul, Nat.reduceSub, Nat.reduceMod, Nat.reduceDiv, Nat.reduceEqDiff, Int.reduceToNat, reduceIte, reduceCtorEq, Int.reduceLE, Int.reduceLT, Int.reduceEq, Int.reduceNeg, Int.reduceAdd, Int.reduceSub, Int.reduceMul]
  refine (stAsked2_Q _ _ _ _ L (.inr ⟨i, cap, s, rfl, hi, hs, hL⟩) hLR hm9 share _).A ?_
  by_cases hc : stAskC L share (decide (0 ≤ level ∧ level ≤ 3000)) = 0
  rotate_left
  · rw [timesR_bad rfl hc]
    simp only [go_sem, Nat.reduceBEq, Nat.reduceLT, Nat.reduceLeDiff, Nat.reduceAdd, Nat.reduceMul, Nat.reduceSub, Nat.reduceMod, Nat.reduceDiv, Nat.reduceEqDiff, Int.reduceToNat, reduceIte, reduceCtorEq, Int.reduceLE, Int.reduceLT, Int.reduceEq, Int.reduceNeg, Int.reduceAdd, Int.reduceSub, Int.reduceMul, hc]
  by_cases h0 : L = []
  · rw [timesR_none hc h0]
    subst h0
    simp only [go_sem, Nat.reduceBEq, Nat.reduceLT, Nat.reduceLeDiff, Nat.reduceAdd, Nat.reduceMul, Nat.reduceSub, Nat.reduceMod, Nat.reduceDiv, Nat.reduceEqDiff, Int.reduceToNat, reduceIte, reduceCtorEq, Int.reduceLE, Int.reduceLT, Int.reduceEq, Int.reduceNeg, Int.reduceAdd, Int.reduceSub, Int.reduceMul, hc, List.length_nil]
  have hl : 0 < L.length := List.length_pos_iff.2 h0
  have e0 : ((L.length : Int) = 0) = False := eq_false (by omega)
  obtain ⟨hk, hsh, _⟩ := stAsk_ok hc
  have hG := stOk_good hk hLR
  rw [timesR_go hc h0]
  generalize (L.getD 0 sh0).wide.toNat = W at *
  generalize (L.getD 0 sh0).high.toNat = H at *
  generalize hRR : timesU share level W H 101 0 L = R
  simp only [go_sem, Nat.reduceBEq, Nat.reduceLT, Nat.reduceLeDiff, Nat.reduceAdd, Nat.reduceMul, Nat.reduceSub, Nat.reduceMod, Nat.reduceDiv, Nat.reduceEqDiff, Int.reduceToNat, reduceIte, reduceCtorEq, Int.reduceLE, Int.reduceLT, Int.reduceEq, Int.reduceNeg, Int.reduceAdd, Int.reduceSub, Int.reduceMul, hc, e0, hs, hi, ↓hok.del (Nat.le_refl n)]
  refine ⟨⟨⟨trivial, Nat.succ_pos 265, ?_, ?_⟩, by omega⟩, fun cap' c1 c2 => ?_⟩
  · show 0 + L.length * 266 ≤ s.n
    omega
  · refine allP_iff.2 fun j hj => ?_
    have hj : j < L.length * 266 := hj
    show (s.c (0 + j)).one
    rw [Nat.zero_add, hL.2 j hj]
    exact (stC_flat L j).one
  refine T_lp (ι := { p : Nat × List Sh // p.1 ≤ 101 ∧ PGood p.2 W H ∧ p.2.length = L.length ∧ timesU share level W H (101 - p.1) p.1 p.2 = R })
    (fun p => ([(0, .sl i 0 L.length cap), (1, .int .i64 share), (2, .int .i64 level), (6, .int .i64 0), (7, .int .i64 0), (9, .sl (n + 1) 0 L.length cap'), (10, .int .i64 p.1.1)],
      (n + 1, stS p.1.2 none) :: h, n + 2)) (fun p => 101 - p.1.1) ⟨(0, L), by simp, hG, rfl, hRR⟩ ?_ ?_
  · refine Imp.id (by simp) ?_ ?_
    · simp only [go_sem, Nat.reduceBEq, Nat.reduceLT, Nat.reduceLeDiff, Nat.reduceAdd, Nat.reduceMul, Nat.reduceSub, Nat.reduceMod, Nat.reduceDiv, Nat.reduceEqDiff, Int.reduceToNat, reduceIte, reduceCtorEq, Int.reduceLE, Int.reduceLT, Int.reduceEq, Int.reduceNeg, Int.reduceAdd, Int.reduceSub, Int.reduceMul]
      omega
    · refine impH.cons0 (hget_hit _ _ _) (by simp) (SegLe.flat (Nat.le_refl _) id (.inl rfl) fun z hz => ⟨?_, stC_flat _ _⟩) (impH.base0 hok (by simp) (by simp only [go_sem, Nat.reduceBEq, Nat.reduceLT, Nat.reduceLeDiff, Nat.reduceAdd, Nat.reduceMul, Nat.reduceSub, Nat.reduceMod, Nat.reduceDiv, Nat.reduceEqDiff, Int.reduceToNat, reduceIte, reduceCtorEq, Int.reduceLE, Int.reduceLT, Int.reduceEq, Int.reduceNeg, Int.reduceAdd, Int.reduceSub, Int.reduceMul, HExt_cons]))
      refine Eq.trans ?_ (hL.2 z hz)
      simp only [both, news, Nat.not_lt_zero, if_false, Nat.sub_zero, Nat.zero_add]
  · rintro ⟨⟨k, C⟩, hk1, hC, hCl, hU⟩
    simp only at hk1 hC hCl hU
    by_cases hk2 : k = 101
    · subst hk2
      simp only [go_sem, Nat.reduceBEq, Nat.reduceLT, Nat.reduceLeDiff, Nat.reduceAdd, Nat.reduceMul, Nat.reduceSub, Nat.reduceMod, Nat.reduceDiv, Nat.reduceEqDiff, Int.reduceToNat, reduceIte, reduceCtorEq, Int.reduceLE, Int.reduceLT, Int.reduceEq, Int.reduceNeg, Int.reduceAdd, Int.reduceSub, Int.reduceMul, show ¬ ((101 : Nat) : Int) ≤ 100 by omega]
      rw [← hU]
      rfl
    have e1 : ((k : Int) ≤ 100) = True := eq_true (by omega)
    have r0 : (0 : Int) < L.length := by omega
    simp only [go_sem, Nat.reduceBEq, Nat.reduceLT, Nat.reduceLeDiff, Nat.reduceAdd, Nat.reduceMul, Nat.reduceSub, Nat.reduceMod, Nat.reduceDiv, Nat.reduceEqDiff, Int.reduceToNat, reduceIte, reduceCtorEq, Int.reduceLE, Int.reduceLT, Int.reduceEq, Int.reduceNeg, Int.reduceAdd, Int.reduceSub, Int.reduceMul, e1, r0]
    rw [show 101 - k = (100 - k) + 1 by omega] at hU
    refine (darkest2_Q _ _ _ (n + 1) (stS C none) (C.getD 0 sh0) W H (by simp only [go_sem, Nat.reduceBEq, Nat.reduceLT, Nat.reduceLeDiff, Nat.reduceAdd, Nat.reduceMul, Nat.reduceSub, Nat.reduceMod, Nat.reduceDiv, Nat.reduceEqDiff, Int.reduceToNat, reduceIte, reduceCtorEq, Int.reduceLE, Int.reduceLT, Int.reduceEq, Int.reduceNeg, Int.reduceAdd, Int.reduceSub, Int.reduceMul]) (by omega) (hC.at0 (by omega)) (hC 0 (by omega)).good (hC 0 (by omega)).wide (hC 0 (by omega)).high).A ?_
    by_cases hd : mostN (C.getD 0 sh0) W (H * W) ≤ level
    · rw [timesU_stop hd] at hU
      simp only [go_sem, Nat.reduceBEq, Nat.reduceLT, Nat.reduceLeDiff, Nat.reduceAdd, Nat.reduceMul, Nat.reduceSub, Nat.reduceMod, Nat.reduceDiv, Nat.reduceEqDiff, Int.reduceToNat, reduceIte, reduceCtorEq, Int.reduceLE, Int.reduceLT, Int.reduceEq, Int.reduceNeg, Int.reduceAdd, Int.reduceSub, Int.reduceMul, hd]
      rw [← hU]
    rw [timesU_next hd] at hU
    simp only [go_sem, Nat.reduceBEq, Nat.reduceLT, Nat.reduceLeDiff, Nat.reduceAdd, Nat.reduceMul, Nat.reduceSub, Nat.reduceMod, Nat.reduceDiv, Nat.reduceEqDiff, Int.reduceToNat, reduceIte, reduceCtorEq, Int.reduceLE, Int.reduceLT, Int.reduceEq, Int.reduceNeg, Int.reduceAdd, Int.reduceSub, Int.reduceMul, hd]
    refine callA_false (pass2L_E _ _ _ (n + 1) cap' _ C hCl W H share (by simp only [go_sem, Nat.reduceBEq, Nat.reduceLT, Nat.reduceLeDiff, Nat.reduceAdd, Nat.reduceMul, Nat.reduceSub, Nat.reduceMod, Nat.reduceDiv, Nat.reduceEqDiff, Int.reduceToNat, reduceIte, reduceCtorEq, Int.reduceLE, Int.reduceLT, Int.reduceEq, Int.reduceNeg, Int.reduceAdd, Int.reduceSub, Int.reduceMul]) (by omega) hC hsh (by omega) _ ?_)
    obtain ⟨t1, t2⟩ := passS_ok hsh hC
    simp only [go_sem, Nat.reduceBEq, Nat.reduceLT, Nat.reduceLeDiff, Nat.reduceAdd, Nat.reduceMul, Nat.reduceSub, Nat.reduceMod, Nat.reduceDiv, Nat.reduceEqDiff, Int.reduceToNat, reduceIte, reduceCtorEq, Int.reduceLE, Int.reduceLT, Int.reduceEq, Int.reduceNeg, Int.reduceAdd, Int.reduceSub, Int.reduceMul]
    refine ⟨⟨(k + 1, (passS share W H C).L), by show k + 1 ≤ 101; omega, t1, t2.trans hCl, by rw [← hU]; show timesU share level W H (101 - (k + 1)) ((k + 1 : Nat) : Int) _ = _; rw [show 101 - (k + 1) = 100 - k by omega]; rfl⟩, by show 101 - (k + 1) < 101 - k; omega, ?_⟩
    refine Imp.id (by simp) ?_ ?_
    · simp only [go_sem, Nat.reduceBEq, Nat.reduceLT, Nat.reduceLeDiff, Nat.reduceAdd, Nat.reduceMul, Nat.reduceSub, Nat.reduceMod, Nat.reduceDiv, Nat.reduceEqDiff, Int.reduceToNat, reduceIte, reduceCtorEq, Int.reduceLE, Int.reduceLT, Int.reduceEq, Int.reduceNeg, Int.reduceAdd, Int.reduceSub, Int.reduceMul, w64 (n := (k : Int) + 1) (by omega), Int.natCast_add, Int.natCast_one, hCl]
      omega
    · (repeat (refine impH.cons0 (by first | (simp only [go_sem, Nat.reduceBEq, Nat.reduceLT, Nat.reduceLeDiff, Nat.reduceAdd, Nat.reduceMul, Nat.reduceSub, Nat.reduceMod, Nat.reduceDiv, Nat.reduceEqDiff, Int.reduceToNat, reduceIte, reduceCtorEq, Int.reduceLE, Int.reduceLT, Int.reduceEq, Int.reduceNeg, Int.reduceAdd, Int.reduceSub, Int.reduceMul, hget_hset_self]; done) | (simp only [go_sem, Nat.reduceBEq, Nat.reduceLT, Nat.reduceLeDiff, Nat.reduceAdd, Nat.reduceMul, Nat.reduceSub, Nat.reduceMod, Nat.reduceDiv, Nat.reduceEqDiff, Int.reduceToNat, reduceIte, reduceCtorEq, Int.reduceLE, Int.reduceLT, Int.reduceEq, Int.reduceNeg, Int.reduceAdd, Int.reduceSub, Int.reduceMul, hget_hset_self]; rfl)) (by simp) ?_ ?_; · exact SegLe.flat (Nat.le_refl _) id (by first | exact .inr rfl | exact .inl rfl) fun z hz => ⟨by first | rfl | exact dC_zero hz | exact dC_cl (by rfl) (by rfl) (by rfl) hz, by first | exact shC_flat _ _ | exact brC_flat _ hz | exact pair_flat _ _ hz | exact cellC_flat _ _ | exact dC_flat _ _ | exact stC_flat _ _ | exact cl_flat (l := [_, _, _, _, _]) (by simp [SV.flat]) hz | exact cl_flat (l := [_, _, _]) (by simp [SV.flat]) hz | trivial⟩)); exact impH.base0 (by first | exact hok | exact hok_set hok (fun k hk => stC_flat _ _) | exact hok_set hok (fun k hk => shC_flat _ _)) (by simp) (by first | (simp only [go_sem, Nat.reduceBEq, Nat.reduceLT, Nat.reduceLeDiff, Nat.reduceAdd, Nat.reduceMul, Nat.reduceSub, Nat.reduceMod, Nat.reduceDiv, Nat.reduceEqDiff, Int.reduceToNat, reduceIte, reduceCtorEq, Int.reduceLE, Int.reduceLT, Int.reduceEq, Int.reduceNeg, Int.reduceAdd, Int.reduceSub, Int.reduceMul, HExt_cons]; done) | (simp only [go_sem, Nat.reduceBEq, Nat.reduceLT, Nat.reduceLeDiff, Nat.reduceAdd, Nat.reduceMul, Nat.reduceSub, Nat.reduceMod, Nat.reduceDiv, Nat.reduceEqDiff, Int.reduceToNat, reduceIte, reduceCtorEq, Int.reduceLE, Int.reduceLT, Int.reduceEq, Int.reduceNeg, Int.reduceAdd, Int.reduceSub, Int.reduceMul, HExt_cons]; exact HExt.rfl))
set_option maxRecDepth 100000 in
theorem times_Q (i cap : Nat) (L : List Sh) (s : Seg) (share level : Int) (hs : hget h i = some s) (hi : i < n) (hL : StAt s L) (hLR : StR L) (hm9 : L.length ≤ 10000000) :
    CallQ Try.prog cx 10 [.sl i 0 L.length cap, .int .i64 share, .int .i64 level] h n (.tup 2 (cl [.int .i64 (timesR L share level).1, .int .i64 (timesR L share level).2])) := by
  have hn := hL.1
  refine callQ_of_T (P := Try.prog) hti (nt := 44) (rs := [.tmp 6, .tmp 7]) rfl rfl Try.call10 Try.func10 rfl _ (by simp only [go_sem, and_self]) (Nat.le_of_ble_eq_true rfl) _ (by first | exact trivial | (refine lt_flat rfl ?_; simp [SV.flat]; done) | simp only [go_sem]) fun hok => ?_
  simp only [go_sem, Nat.reduceBEq, Nat.reduceLT, Nat.reduceLeDiff, Nat.reduceAdd, Nat.reduceMul, Nat.reduceSub, Nat.reduceMod, Nat.reduceDiv, Nat.reduceEqDiff, Int.reduceToNat, reduceIte, reduceCtorEq, Int.reduceLE, Int.reduceLT, Int.reduceEq, Int.reduceNeg, Int.reduceAdd, Int.reduceSub, Int.reduceMul]
  refine (isShare_Q _ _ _ share).A ?_
  by_cases hs1 : 1 ≤ share ∧ share ≤ 15
  rotate_left
  · have hc : stAskC L share (decide (0 ≤ level ∧ level ≤ 3000)) = codeSt L false := by rw [← codeSt_ask, decide_eq_false hs1, Bool.false_and]
    have hc0 : codeSt L false ≠ 0 := by unfold codeSt; split <;> simp
    simp only [go_sem, Nat.reduceBEq, Nat.reduceLT, Nat.reduceLeDiff, Nat.reduceAdd, Nat.reduceMul, Nat.reduceSub, Nat.reduceMod, Nat.reduceDiv, Nat.reduceEqDiff, Int.reduceToNat, reduceIte, reduceCtorEq, Int.reduceLE, Int.reduceLT, Int.reduceEq, Int.reduceNeg, Int.reduceAdd, Int.reduceSub, Int.reduceMul, hs1]
    refine (codeSt_Q _ _ _ _ L (.inr ⟨i, cap, s, rfl, hi, hs, hL⟩) hLR hm9 false).A ?_
    rw [timesR_bad hc hc0]
    simp only [go_sem, Nat.reduceBEq, Nat.reduceLT, Nat.reduceLeDiff, Nat.reduceAdd, Nat.reduceMul, Nat.reduceSub, Nat.reduceMod, Nat.reduceDiv, Nat.reduceEqDiff, Int.reduceToNat, reduceIte, reduceCtorEq, Int.reduceLE, Int.reduceLT, Int.reduceEq, Int.reduceNeg, Int.reduceAdd, Int.reduceSub, Int.reduceMul, hc0]
  simp only [go_sem, Nat.reduceBEq, Nat.reduceLT, Nat.reduceLeDiff, Nat.reduceAdd, Nat.reduceMul, Nat.reduceSub, Nat.reduceMod, Nat.reduceDiv, Nat.reduceEqDiff, Int.reduceToNat, reduceIte, reduceCtorEq, Int.reduceLE, Int.reduceLT, Int.reduceEq, Int.reduceNeg, Int.reduceAdd, Int.reduceSub, Int.reduceMul, hs1]
  refine (isLevel_Q _ _ _ level).A ?_
  simp only [go_sem, Nat.reduceBEq, Nat.reduceLT, Nat.reduceLeDiff, Nat.reduceAdd, Nat.reduceMul, Nat.reduceSub, Nat.reduceMod, Nat.reduceDiv, Nat.reduceEqDiff, Int.reduceToNat, reduceIte, reduceCtorEq, Int.reduceLE, Int.reduceLT, Int.reduceEq, Int.reduceNeg, Int.reduceAdd, Int.reduceSub, Int.reduceMul]
  have hask : codeSt L (decide (0 ≤ level ∧ level ≤ 3000)) = stAskC L share (decide (0 ≤ level ∧ level ≤ 3000)) := by rw [← codeSt_ask, decide_eq_true hs1, Bool.true_and]
  refine (codeSt_Q _ _ _ _ L (.inr ⟨i, cap, s, rfl, hi, hs, hL⟩) hLR hm9 _).A ?_
  rw [hask]
  by_cases hc : stAskC L share (decide (0 ≤ level ∧ level ≤ 3000)) = 0
  rotate_left
  · rw [timesR_bad rfl hc]
    simp only [go_sem, Nat.reduceBEq, Nat.reduceLT, Nat.reduceLeDiff, Nat.reduceAdd, Nat.reduceMul, Nat.reduceSub, Nat.reduceMod, Nat.reduceDiv, Nat.reduceEqDiff, Int.reduceToNat, reduceIte, reduceCtorEq, Int.reduceLE, Int.reduceLT, Int.reduceEq, Int.reduceNeg, Int.reduceAdd, Int.reduceSub, Int.reduceMul, hc]
  by_cases h0 : L = []
  · rw [timesR_none hc h0]
    subst h0
    simp only [go_sem, Nat.reduceBEq, Nat.reduceLT, Nat.reduceLeDiff, Nat.reduceAdd, Nat.reduceMul, Nat.reduceSub, Nat.reduceMod, Nat.reduceDiv, Nat.reduceEqDiff, Int.reduceToNat, reduceIte, reduceCtorEq, Int.reduceLE, Int.reduceLT, Int.reduceEq, Int.reduceNeg, Int.reduceAdd, Int.reduceSub, Int.reduceMul, hc, List.length_nil]
  have hl : 0 < L.length := List.length_pos_iff.2 h0
  have e0 : ((L.length : Int) = 0) = False := eq_false (by omega)
  obtain ⟨hk, hsh, _⟩ := stAsk_ok hc
  have hG := stOk_good hk hLR
  rw [timesR_go hc h0]
  generalize (L.getD 0 sh0).wide.toNat = W at *
  generalize (L.getD 0 sh0).high.toNat = H at *
  generalize hRR : timesU share level W H 101 0 L = R
  simp only [go_sem, Nat.reduceBEq, Nat.reduceLT, Nat.reduceLeDiff, Nat.reduceAdd, Nat.reduceMul, Nat.reduceSub, Nat.reduceMod, Nat.reduceDiv, Nat.reduceEqDiff, Int.reduceToNat, reduceIte, reduceCtorEq, Int.reduceLE, Int.reduceLT, Int.reduceEq, Int.reduceNeg, Int.reduceAdd, Int.reduceSub, Int.reduceMul, hc, e0]
  refine callA_false (cloneC_E _ _ _ i cap L s (by simp only [go_sem, Nat.reduceBEq, Nat.reduceLT, Nat.reduceLeDiff, Nat.reduceAdd, Nat.reduceMul, Nat.reduceSub, Nat.reduceMod, Nat.reduceDiv, Nat.reduceEqDiff, Int.reduceToNat, reduceIte, reduceCtorEq, Int.reduceLE, Int.reduceLT, Int.reduceEq, Int.reduceNeg, Int.reduceAdd, Int.reduceSub, Int.reduceMul, hs, hi]) (by omega) hL hm9 _ fun cap' c1 c2 => ?_)
  simp only [go_sem, Nat.reduceBEq, Nat.reduceLT, Nat.reduceLeDiff, Nat.reduceAdd, Nat.reduceMul, Nat.reduceSub, Nat.reduceMod, Nat.reduceDiv, Nat.reduceEqDiff, Int.reduceToNat, reduceIte, reduceCtorEq, Int.reduceLE, Int.reduceLT, Int.reduceEq, Int.reduceNeg, Int.reduceAdd, Int.reduceSub, Int.reduceMul]
  refine T_lp (ι := { p : Nat × List Sh // p.1 ≤ 101 ∧ PGood p.2 W H ∧ p.2.length = L.length ∧ timesU share level W H (101 - p.1) p.1 p.2 = R })
    (fun p => ([(0, .sl i 0 L.length cap), (1, .int .i64 share), (2, .int .i64 level), (6, .int .i64 0), (7, .int .i64 0), (9, .sl n 0 L.length cap'), (31, .int .i64 p.1.1)],
      (n, stS p.1.2 none) :: h, n + 1)) (fun p => 101 - p.1.1) ⟨(0, L), by simp, hG, rfl, hRR⟩ ?_ ?_
  · refine Imp.id (by simp) ?_ ?_
    · simp only [go_sem, Nat.reduceBEq, Nat.reduceLT, Nat.reduceLeDiff, Nat.reduceAdd, Nat.reduceMul, Nat.reduceSub, Nat.reduceMod, Nat.reduceDiv, Nat.reduceEqDiff, Int.reduceToNat, reduceIte, reduceCtorEq, Int.reduceLE, Int.reduceLT, Int.reduceEq, Int.reduceNeg, Int.reduceAdd, Int.reduceSub, Int.reduceMul]
      omega
    · (repeat (refine impH.cons0 (by first | (simp only [go_sem, Nat.reduceBEq, Nat.reduceLT, Nat.reduceLeDiff, Nat.reduceAdd, Nat.reduceMul, Nat.reduceSub, Nat.reduceMod, Nat.reduceDiv, Nat.reduceEqDiff, Int.reduceToNat, reduceIte, reduceCtorEq, Int.reduceLE, Int.reduceLT, Int.reduceEq, Int.reduceNeg, Int.reduceAdd, Int.reduceSub, Int.reduceMul, hget_hset_self]; done) | (simp only [go_sem, Nat.reduceBEq, Nat.reduceLT, Nat.reduceLeDiff, Nat.reduceAdd, Nat.reduceMul, Nat.reduceSub, Nat.reduceMod, Nat.reduceDiv, Nat.reduceEqDiff, Int.reduceToNat, reduceIte, reduceCtorEq, Int.reduceLE, Int.reduceLT, Int.reduceEq, Int.reduceNeg, Int.reduceAdd, Int.reduceSub, Int.reduceMul, hget_hset_self]; rfl)) (by simp) ?_ ?_; · exact SegLe.flat (Nat.le_refl _) id (by first | exact .inr rfl | exact .inl rfl) fun z hz => ⟨by first | rfl | exact dC_zero hz | exact dC_cl (by rfl) (by rfl) (by rfl) hz, by first | exact shC_flat _ _ | exact brC_flat _ hz | exact pair_flat _ _ hz | exact cellC_flat _ _ | exact dC_flat _ _ | exact stC_flat _ _ | exact cl_flat (l := [_, _, _, _, _]) (by simp [SV.flat]) hz | exact cl_flat (l := [_, _, _]) (by simp [SV.flat]) hz | trivial⟩)); exact impH.base0 (by first | exact hok | exact hok_set hok (fun k hk => stC_flat _ _) | exact hok_set hok (fun k hk => shC_flat _ _)) (by simp) (by first | (simp only [go_sem, Nat.reduceBEq, Nat.reduceLT, Nat.reduceLeDiff, Nat.reduceAdd, Nat.reduceMul, Nat.reduceSub, Nat.reduceMod, Nat.reduceDiv, Nat.reduceEqDiff, Int.reduceToNat, reduceIte, reduceCtorEq, Int.reduceLE, Int.reduceLT, Int.reduceEq, Int.reduceNeg, Int.reduceAdd, Int.reduceSub, Int.reduceMul, HExt_cons]; done) | (simp only [go_sem, Nat.reduceBEq, Nat.reduceLT, Nat.reduceLeDiff, Nat.reduceAdd, Nat.reduceMul, Nat.reduceSub, Nat.reduceMod, Nat.reduceDiv, Nat.reduceEqDiff, Int.reduceToNat, reduceIte, reduceCtorEq, Int.reduceLE, Int.reduceLT, Int.reduceEq, Int.reduceNeg, Int.reduceAdd, Int.reduceSub, Int.reduceMul, HExt_cons]; exact HExt.rfl))
  · rintro ⟨⟨k, C⟩, hk1, hC, hCl, hU⟩
    simp only at hk1 hC hCl hU
    by_cases hk2 : k = 101
    · subst hk2
      simp only [go_sem, Nat.reduceBEq, Nat.reduceLT, Nat.reduceLeDiff, Nat.reduceAdd, Nat.reduceMul, Nat.reduceSub, Nat.reduceMod, Nat.reduceDiv, Nat.reduceEqDiff, Int.reduceToNat, reduceIte, reduceCtorEq, Int.reduceLE, Int.reduceLT, Int.reduceEq, Int.reduceNeg, Int.reduceAdd, Int.reduceSub, Int.reduceMul, show ¬ ((101 : Nat) : Int) < 101 by omega]
      rw [← hU]
      rfl
    have e1 : ((k : Int) < 101) = True := eq_true (by omega)
    have r0 : (0 : Int) < L.length := by omega
    simp only [go_sem, Nat.reduceBEq, Nat.reduceLT, Nat.reduceLeDiff, Nat.reduceAdd, Nat.reduceMul, Nat.reduceSub, Nat.reduceMod, Nat.reduceDiv, Nat.reduceEqDiff, Int.reduceToNat, reduceIte, reduceCtorEq, Int.reduceLE, Int.reduceLT, Int.reduceEq, Int.reduceNeg, Int.reduceAdd, Int.reduceSub, Int.reduceMul, e1, r0]
    rw [show 101 - k = (100 - k) + 1 by omega] at hU
    refine (isDarker_Q _ _ _ n 0 (stS C none) (C.getD 0 sh0) W H level (by simp only [go_sem, Nat.reduceBEq, Nat.reduceLT, Nat.reduceLeDiff, Nat.reduceAdd, Nat.reduceMul, Nat.reduceSub, Nat.reduceMod, Nat.reduceDiv, Nat.reduceEqDiff, Int.reduceToNat, reduceIte, reduceCtorEq, Int.reduceLE, Int.reduceLT, Int.reduceEq, Int.reduceNeg, Int.reduceAdd, Int.reduceSub, Int.reduceMul]) (by omega) (hC.at0 (by omega)) (hC 0 (by omega)).good (hC 0 (by omega)).wide (hC 0 (by omega)).high).A ?_
    by_cases hd : mostN (C.getD 0 sh0) W (H * W) ≤ level
    · rw [timesU_stop hd] at hU
      simp only [go_sem, Nat.reduceBEq, Nat.reduceLT, Nat.reduceLeDiff, Nat.reduceAdd, Nat.reduceMul, Nat.reduceSub, Nat.reduceMod, Nat.reduceDiv, Nat.reduceEqDiff, Int.reduceToNat, reduceIte, reduceCtorEq, Int.reduceLE, Int.reduceLT, Int.reduceEq, Int.reduceNeg, Int.reduceAdd, Int.reduceSub, Int.reduceMul, show ¬ level < mostN (C.getD 0 sh0) W (H * W) by omega]
      rw [← hU]
    rw [timesU_next hd] at hU
    simp only [go_sem, Nat.reduceBEq, Nat.reduceLT, Nat.reduceLeDiff, Nat.reduceAdd, Nat.reduceMul, Nat.reduceSub, Nat.reduceMod, Nat.reduceDiv, Nat.reduceEqDiff, Int.reduceToNat, reduceIte, reduceCtorEq, Int.reduceLE, Int.reduceLT, Int.reduceEq, Int.reduceNeg, Int.reduceAdd, Int.reduceSub, Int.reduceMul, show level < mostN (C.getD 0 sh0) W (H * W) by omega]
    refine callA_false (passL_E _ _ _ n cap' _ C hCl W H share (by simp only [go_sem, Nat.reduceBEq, Nat.reduceLT, Nat.reduceLeDiff, Nat.reduceAdd, Nat.reduceMul, Nat.reduceSub, Nat.reduceMod, Nat.reduceDiv, Nat.reduceEqDiff, Int.reduceToNat, reduceIte, reduceCtorEq, Int.reduceLE, Int.reduceLT, Int.reduceEq, Int.reduceNeg, Int.reduceAdd, Int.reduceSub, Int.reduceMul]) (by omega) hC hsh (by omega) _ ?_)
    obtain ⟨t1, t2⟩ := passS_ok hsh hC
    simp only [go_sem, Nat.reduceBEq, Nat.reduceLT, Nat.reduceLeDiff, Nat.reduceAdd, Nat.reduceMul, Nat.reduceSub, Nat.reduceMod, Nat.reduceDiv, Nat.reduceEqDiff, Int.reduceToNat, reduceIte, reduceCtorEq, Int.reduceLE, Int.reduceLT, Int.reduceEq, Int.reduceNeg, Int.reduceAdd, Int.reduceSub, Int.reduceMul]
    refine ⟨⟨(k + 1, (passS share W H C).L), by show k + 1 ≤ 101; omega, t1, t2.trans hCl, by rw [← hU]; show timesU share level W H (101 - (k + 1)) ((k + 1 : Nat) : Int) _ = _; rw [show 101 - (k + 1) = 100 - k by omega]; rfl⟩, by show 101 - (k + 1) < 101 - k; omega, ?_⟩
    refine Imp.id (by simp) ?_ ?_
    · simp only [go_sem, Nat.reduceBEq, Nat.reduceLT, Nat.reduceLeDiff, Nat.reduceAdd, Nat.reduceMul, Nat.reduceSub, Nat.reduceMod, Nat.reduceDiv, Nat.reduceEqDiff, Int.reduceToNat, reduceIte, reduceCtorEq, Int.reduceLE, Int.reduceLT, Int.reduceEq, Int.reduceNeg, Int.reduceAdd, Int.reduceSub, Int.reduceMul, w64 (n := (k : Int) + 1) (by omega), Int.natCast_add, Int.natCast_one, hCl]
      omega
    · (repeat (refine impH.cons0 (by first | (simp only [go_sem, Nat.reduceBEq, Nat.reduceLT, Nat.reduceLeDiff, Nat.reduceAdd, Nat.reduceMul, Nat.reduceSub, Nat.reduceMod, Nat.reduceDiv, Nat.reduceEqDiff, Int.reduceToNat, reduceIte, reduceCtorEq, Int.reduceLE, Int.reduceLT, Int.reduceEq, Int.reduceNeg, Int.reduceAdd, Int.reduceSub, Int.reduceMul, hget_hset_self]; done) | (simp only [go_sem, Nat.reduceBEq, Nat.reduceLT, Nat.reduceLeDiff, Nat.reduceAdd, Nat.reduceMul, Nat.reduceSub, Nat.reduceMod, Nat.reduceDiv, Nat.reduceEqDiff, Int.reduceToNat, reduceIte, reduceCtorEq, Int.reduceLE, Int.reduceLT, Int.reduceEq, Int.reduceNeg, Int.reduceAdd, Int.reduceSub, Int.reduceMul, hget_hset_self]; rfl)) (by simp) ?_ ?_; · exact SegLe.flat (Nat.le_refl _) id (by first | exact .inr rfl | exact .inl rfl) fun z hz => ⟨by first | rfl | exact dC_zero hz | exact dC_cl (by rfl) (by rfl) (by rfl) hz, by first | exact shC_flat _ _ | exact brC_flat _ hz | exact pair_flat _ _ hz | exact cellC_flat _ _ | exact dC_flat _ _ | exact stC_flat _ _ | exact cl_flat (l := [_, _, _, _, _]) (by simp [SV.flat]) hz | exact cl_flat (l := [_, _, _]) (by simp [SV.flat]) hz | trivial⟩)); exact impH.base0 (by first | exact hok | exact hok_set hok (fun k hk => stC_flat _ _) | exact hok_set hok (fun k hk => shC_flat _ _)) (by simp) (by first | (simp only [go_sem, Nat.reduceBEq, Nat.reduceLT, Nat.reduceLeDiff, Nat.reduceAdd, Nat.reduceMul, Nat.reduceSub, Nat.reduceMod, Nat.reduceDiv, Nat.reduceEqDiff, Int.reduceToNat, reduceIte, reduceCtorEq, Int.reduceLE, Int.reduceLT, Int.reduceEq, Int.reduceNeg, Int.reduceAdd, Int.reduceSub, Int.reduceMul, HExt_cons]; done) | (simp only [go_sem, Nat.reduceBEq, Nat.reduceLT, Nat.reduceLeDiff, Nat.reduceAdd, Nat.reduceMul, Nat.reduceSub, Nat.reduceMod, Nat.reduceDiv, Nat.reduceEqDiff, Int.reduceToNat, reduceIte, reduceCtorEq, Int.reduceLE, Int.reduceLT, Int.reduceEq, Int.reduceNeg, Int.reduceAdd, Int.reduceSub, Int.reduceMul, HExt_cons]; exact HExt.rfl))
end
end Go.Proofs.Ytjepjeaecmioaaa.V

/- The law's stacks: copied. -/
namespace Go.Proofs.Ytjepjeaecmioaaa.V
theorem zStack (L : List Sh) (z : Nat) : zrow (ti 51) z = if z < 0 * 266 then stC L z else shC sh0 (z % 266) := by
  rw [if_neg (by omega)]
  simp only [go_sem, Nat.reduceBEq, Nat.reduceLT, Nat.reduceLeDiff, Nat.reduceAdd, Nat.reduceMul, Nat.reduceSub, Nat.reduceMod, Nat.reduceDiv, Nat.reduceEqDiff, Int.reduceToNat, reduceIte, reduceCtorEq, Int.reduceLE, Int.reduceLT, Int.reduceEq, Int.reduceNeg, Int.reduceAdd, Int.reduceSub, Int.reduceMul, zrow_mk]
section
variable (cx : Cx) (h : List (Nat × Seg)) (n : Nat)
theorem szStack_Q (A : SV) (L : List Sh) (hA : StArg h n A L) (left : Int) (hl : -9223372036854775808 ≤ left - L.length) (hl2 : left - L.length < 9223372036854775808) :
    CallQ Try.prog cx 7 [A, .int .i64 left] h n (.int .i64 (if left - L.length < 0 then -1 else left - L.length)) := by
  rcases hA with ⟨rfl, rfl⟩ | ⟨i, cap, s, rfl, hi, hs, hL⟩
  · refine callQ_of_T (P := Try.prog) hti (nt := 12) (rs := [.tmp 4]) rfl rfl Try.call7 Try.func7 rfl _ (by simp only [go_sem, and_self]) (Nat.le_of_ble_eq_true rfl) _ (by first | exact trivial | (refine lt_flat rfl ?_; simp [SV.flat]; done) | simp only [go_sem]) fun hok => ?_
    simp only [List.length_nil] at hl hl2
    by_cases hn : left < 0
    · simp only [go_sem, Nat.reduceBEq, Nat.reduceLT, Nat.reduceLeDiff, Nat.reduceAdd, Nat.reduceMul, Nat.reduceSub, Nat.reduceMod, Nat.reduceDiv, Nat.reduceEqDiff, Int.reduceToNat, reduceIte, reduceCtorEq, Int.reduceLE, Int.reduceLT, Int.reduceEq, Int.reduceNeg, Int.reduceAdd, Int.reduceSub, Int.reduceMul, w64 (n := left) (by omega), hn, Int.sub_zero, Int.natCast_zero]
    · simp only [go_sem, Nat.reduceBEq, Nat.reduceLT, Nat.reduceLeDiff, Nat.reduceAdd, Nat.reduceMul, Nat.reduceSub, Nat.reduceMod, Nat.reduceDiv, Nat.reduceEqDiff, Int.reduceToNat, reduceIte, reduceCtorEq, Int.reduceLE, Int.reduceLT, Int.reduceEq, Int.reduceNeg, Int.reduceAdd, Int.reduceSub, Int.reduceMul, w64 (n := left) (by omega), hn, Int.sub_zero, Int.natCast_zero]
  · refine callQ_of_T (P := Try.prog) hti (nt := 12) (rs := [.tmp 4]) rfl rfl Try.call7 Try.func7 rfl _ (by simp only [go_sem, and_self]) (Nat.le_of_ble_eq_true rfl) _ (by first | exact trivial | (refine lt_flat rfl ?_; simp [SV.flat]; done) | simp only [go_sem]) fun hok => ?_
    by_cases hn : left - L.length < 0
    · simp only [go_sem, Nat.reduceBEq, Nat.reduceLT, Nat.reduceLeDiff, Nat.reduceAdd, Nat.reduceMul, Nat.reduceSub, Nat.reduceMod, Nat.reduceDiv, Nat.reduceEqDiff, Int.reduceToNat, reduceIte, reduceCtorEq, Int.reduceLE, Int.reduceLT, Int.reduceEq, Int.reduceNeg, Int.reduceAdd, Int.reduceSub, Int.reduceMul, w64 (n := left - L.length) ⟨hl, hl2⟩, hn]
    · simp only [go_sem, Nat.reduceBEq, Nat.reduceLT, Nat.reduceLeDiff, Nat.reduceAdd, Nat.reduceMul, Nat.reduceSub, Nat.reduceMod, Nat.reduceDiv, Nat.reduceEqDiff, Int.reduceToNat, reduceIte, reduceCtorEq, Int.reduceLE, Int.reduceLT, Int.reduceEq, Int.reduceNeg, Int.reduceAdd, Int.reduceSub, Int.reduceMul, w64 (n := left - L.length) ⟨hl, hl2⟩, hn]
set_option maxRecDepth 100000 in
theorem toStack_E (A : SV) (L : List Sh) (hA : StArg h n A L) (hLR : StR L) (hm9 : L.length ≤ 10000000) (K : HK) (hK : K (.sl n 0 L.length L.length) ((n, stS L (some (51, L.length * 266))) :: h) (n + 1)) :
    CallE Try.prog cx 9 [A] h n K := by
  have fl : ∀ q z, (if z < q * 266 then stC L z else shC sh0 (z % 266)).flat := fun q z => by split; exact stC_flat _ _; exact shC_flat _ _
  refine CallE.imp0 (K := fun r h1 n1 => r = .sl n 0 L.length L.length ∧ n + 1 ≤ n1 ∧ HExt n h h1 ∧ ∃ s, hget h1 n = some s ∧ s.n = L.length * 266 ∧ s.rw = true ∧ s.own = some (51, L.length * 266) ∧ ∀ z, z < L.length * 266 → s.c z = stC L z) ?_ ?_
  rotate_left
  · rintro hok r h1 n1 ⟨rfl, hn, hx, s, hs, s1, s2, s3, s4⟩
    exact ⟨_, (n, stS L (some (51, L.length * 266))) :: h, n + 1, by omega, by simp only [ren_nil], by simp [SV.lt], impH.cons0 hs (by omega) (SegLe.flat (by simp [s1, stS]) (fun _ => s2) (.inr s3.symm) fun z hz => ⟨s4 z hz, stC_flat _ _⟩) (impH.base0 hok (by omega) hx), hK⟩
  rcases hA with ⟨rfl, rfl⟩ | ⟨i, cap, s, rfl, hi, hs, hL⟩
  · refine callE_of_T (P := Try.prog) hti (nt := 23) (rs := [.tmp 2]) rfl rfl Try.call9 Try.func9 rfl _ (by simp only [go_sem, and_self]) (Nat.le_of_ble_eq_true rfl) _ fun hok => ?_
    simp only [go_sem, Nat.reduceBEq, Nat.reduceLT, Nat.reduceLeDiff, Nat.reduceAdd, Nat.reduceMul, Nat.reduceSub, Nat.reduceMod, Nat.reduceDiv, Nat.reduceEqDiff, Int.reduceToNat, reduceIte, reduceCtorEq, Int.reduceLE, Int.reduceLT, Int.reduceEq, Int.reduceNeg, Int.reduceAdd, Int.reduceSub, Int.reduceMul]
    refine T_unroll 0 ?_
    simp only [go_sem, Nat.reduceBEq, Nat.reduceLT, Nat.reduceLeDiff, Nat.reduceAdd, Nat.reduceMul, Nat.reduceSub, Nat.reduceMod, Nat.reduceDiv, Nat.reduceEqDiff, Int.reduceToNat, reduceIte, reduceCtorEq, Int.reduceLE, Int.reduceLT, Int.reduceEq, Int.reduceNeg, Int.reduceAdd, Int.reduceSub, Int.reduceMul, HExt_cons, Option.some.injEq, exists_eq_left']
    intro z hz
    omega
  · have hn := hL.1
    refine callE_of_T (P := Try.prog) hti (nt := 23) (rs := [.tmp 2]) rfl rfl Try.call9 Try.func9 rfl _ (by simp only [go_sem, and_self]) (Nat.le_of_ble_eq_true rfl) _ fun hok => ?_
    simp only [go_sem, Nat.reduceBEq, Nat.reduceLT, Nat.reduceLeDiff, Nat.reduceAdd, Nat.reduceMul, Nat.reduceSub, Nat.reduceMod, Nat.reduceDiv, Nat.reduceEqDiff, Int.reduceToNat, reduceIte, reduceCtorEq, Int.reduceLE, Int.reduceLT, Int.reduceEq, Int.reduceNeg, Int.reduceAdd, Int.reduceSub, Int.reduceMul]
    refine ⟨by omega, ?_⟩
    refine T_lp (ι := { q : Nat // q ≤ L.length })
      (fun q => ([(0, .sl i 0 L.length cap), (3, .sl n 0 L.length L.length), (4, .int .i64 q.1)], (n, ⟨L.length * 266, fun z => if z < q.1 * 266 then stC L z else shC sh0 (z % 266), true, some (51, L.length * 266)⟩) :: h, n + 1)) (fun q => L.length - q.1) ⟨0, by omega⟩ ?_ ?_
    · refine Imp.id (by simp) ?_ ?_
      · simp only [go_sem, Nat.reduceBEq, Nat.reduceLT, Nat.reduceLeDiff, Nat.reduceAdd, Nat.reduceMul, Nat.reduceSub, Nat.reduceMod, Nat.reduceDiv, Nat.reduceEqDiff, Int.reduceToNat, reduceIte, reduceCtorEq, Int.reduceLE, Int.reduceLT, Int.reduceEq, Int.reduceNeg, Int.reduceAdd, Int.reduceSub, Int.reduceMul]
        omega
      · refine impH.cons0 (hget_hit _ _ _) (by simp) (SegLe.flat (Nat.le_refl _) id (.inr rfl) fun z hz => ⟨?_, fl 0 z⟩) (impH.base0 hok (by simp) (HExt.rfl.cons (Nat.le_refl n)))
        show _ = if z < 0 * 266 then stC L z else shC sh0 (z % 266)
        rw [if_neg (by omega)]
        rfl
    · rintro ⟨q, hq⟩
      simp only [go_sem, Nat.reduceBEq, Nat.reduceLT, Nat.reduceLeDiff, Nat.reduceAdd, Nat.reduceMul, Nat.reduceSub, Nat.reduceMod, Nat.reduceDiv, Nat.reduceEqDiff, Int.reduceToNat, reduceIte, reduceCtorEq, Int.reduceLE, Int.reduceLT, Int.reduceEq, Int.reduceNeg, Int.reduceAdd, Int.reduceSub, Int.reduceMul, decide_eq_true_eq, decide_eq_false_iff_not]
      refine ⟨fun h1 => ?_, fun h1 => ?_⟩
      · have r1 : (0 : Int) ≤ q ∧ (q : Int) < L.length := ⟨by omega, by omega⟩
        have b1 : q * 266 ≤ s.n - 266 := by omega
        have b2 : q * 266 ≤ L.length * 266 - 266 := by omega
        have b3 : 266 ≤ s.n := by omega
        have b4 : 266 ≤ L.length * 266 := by omega
        have b5 : q * 266 + 266 ≤ L.length * 266 := by omega
        have b6 : q * 266 + 266 ≤ s.n := by omega
        have hSF : ShF (fun j => s.c (q * 266 + j)) (L.getD q sh0) := (hL.sh hLR (by omega)).2
        have hone := hSF.ones
        simp only [go_sem, Nat.reduceBEq, Nat.reduceLT, Nat.reduceLeDiff, Nat.reduceAdd, Nat.reduceMul, Nat.reduceSub, Nat.reduceMod, Nat.reduceDiv, Nat.reduceEqDiff, Int.reduceToNat, reduceIte, reduceCtorEq, Int.reduceLE, Int.reduceLT, Int.reduceEq, Int.reduceNeg, Int.reduceAdd, Int.reduceSub, Int.reduceMul, hs, hi, r1, b1, b3, b6, hone]
        refine (toSheet_Q _ _ _ _ (L.getD q sh0) hSF).A ?_
        simp only [go_sem, Nat.reduceBEq, Nat.reduceLT, Nat.reduceLeDiff, Nat.reduceAdd, Nat.reduceMul, Nat.reduceSub, Nat.reduceMod, Nat.reduceDiv, Nat.reduceEqDiff, Int.reduceToNat, reduceIte, reduceCtorEq, Int.reduceLE, Int.reduceLT, Int.reduceEq, Int.reduceNeg, Int.reduceAdd, Int.reduceSub, Int.reduceMul, r1, b2, b4, b5]
        refine ⟨⟨q + 1, by omega⟩, by show L.length - (q + 1) < L.length - q; omega, ?_⟩
        refine Imp.id (by simp) ?_ ?_
        · simp only [go_sem, Nat.reduceBEq, Nat.reduceLT, Nat.reduceLeDiff, Nat.reduceAdd, Nat.reduceMul, Nat.reduceSub, Nat.reduceMod, Nat.reduceDiv, Nat.reduceEqDiff, Int.reduceToNat, reduceIte, reduceCtorEq, Int.reduceLE, Int.reduceLT, Int.reduceEq, Int.reduceNeg, Int.reduceAdd, Int.reduceSub, Int.reduceMul, w64 (n := (q : Int) + 1) (by omega), Int.natCast_add, Int.natCast_one]
          exact ⟨by omega, by omega⟩
        · refine impH.cons0 (hget_hit _ _ _) (by simp) (SegLe.flat (Nat.le_refl _) id (.inr rfl) fun z hz => ⟨?_, fl (q + 1) z⟩) (impH.base0 hok (by simp) (HExt.rfl.cons (Nat.le_refl n)))
          exact part_agg (C := stC L) (Z := fun z => shC sh0 (z % 266)) (sz := 266) (F := shC (L.getD q sh0)) (fun j hj => (stC_at L q hj).symm) (by omega) hz
      · have hq' : q = L.length := by omega
        subst hq'
        simp only [go_sem, Nat.reduceBEq, Nat.reduceLT, Nat.reduceLeDiff, Nat.reduceAdd, Nat.reduceMul, Nat.reduceSub, Nat.reduceMod, Nat.reduceDiv, Nat.reduceEqDiff, Int.reduceToNat, reduceIte, reduceCtorEq, Int.reduceLE, Int.reduceLT, Int.reduceEq, Int.reduceNeg, Int.reduceAdd, Int.reduceSub, Int.reduceMul, HExt_cons, Option.some.injEq, exists_eq_left']
        intro z hz
        rw [if_pos hz]
end
end Go.Proofs.Ytjepjeaecmioaaa.V

/- The law's stacks: compared. -/
namespace Go.Proofs.Ytjepjeaecmioaaa.V
section
variable (cx : Cx) (h : List (Nat × Seg)) (n : Nat)
set_option maxRecDepth 100000 in
theorem eqStack_Q (i cap i' cap' : Nat) (L : List Sh) (s s' : Seg) (hs : hget h i = some s) (hi : i < n) (hL : StAt s L) (hs' : hget h i' = some s') (hi' : i' < n) (hL' : StAt s' L) (hLR : StR L) (hm9 : L.length ≤ 10000000) :
    CallQ Try.prog cx 11 [.sl i 0 L.length cap, .sl i' 0 L.length cap'] h n (.bool true) := by
  have hn := hL.1; have hn' := hL'.1
  refine callQ_of_T (P := Try.prog) hti (nt := 27) (rs := [.tmp 4]) rfl rfl Try.call11 Try.func11 rfl _ (by simp only [go_sem, and_self]) (Nat.le_of_ble_eq_true rfl) _ (by first | exact trivial | (refine lt_flat rfl ?_; simp [SV.flat]; done) | simp only [go_sem]) fun hok => ?_
  simp only [go_sem, Nat.reduceBEq, Nat.reduceLT, Nat.reduceLeDiff, Nat.reduceAdd, Nat.reduceMul, Nat.reduceSub, Nat.reduceMod, Nat.reduceDiv, Nat.reduceEqDiff, Int.reduceToNat, reduceIte, reduceCtorEq, Int.reduceLE, Int.reduceLT, Int.reduceEq, Int.reduceNeg, Int.reduceAdd, Int.reduceSub, Int.reduceMul]
  refine T_lp (ι := { q : Nat // q ≤ L.length }) (fun q => ([(0, .sl i 0 L.length cap), (1, .sl i' 0 L.length cap'), (5, .int .i64 q.1)], h, n)) (fun q => L.length - q.1) ⟨0, by omega⟩ ?_ ?_
  · refine Imp.id (by simp) ?_ (impH.base0 hok (by simp) HExt.rfl)
    simp only [go_sem, Nat.reduceBEq, Nat.reduceLT, Nat.reduceLeDiff, Nat.reduceAdd, Nat.reduceMul, Nat.reduceSub, Nat.reduceMod, Nat.reduceDiv, Nat.reduceEqDiff, Int.reduceToNat, reduceIte, reduceCtorEq, Int.reduceLE, Int.reduceLT, Int.reduceEq, Int.reduceNeg, Int.reduceAdd, Int.reduceSub, Int.reduceMul]
    exact ⟨hi, hi'⟩
  · rintro ⟨q, hq⟩
    simp only [go_sem, Nat.reduceBEq, Nat.reduceLT, Nat.reduceLeDiff, Nat.reduceAdd, Nat.reduceMul, Nat.reduceSub, Nat.reduceMod, Nat.reduceDiv, Nat.reduceEqDiff, Int.reduceToNat, reduceIte, reduceCtorEq, Int.reduceLE, Int.reduceLT, Int.reduceEq, Int.reduceNeg, Int.reduceAdd, Int.reduceSub, Int.reduceMul, decide_eq_true_eq, decide_eq_false_iff_not]
    refine ⟨fun h1 => ?_, fun h1 => ?_⟩
    · have r1 : (0 : Int) ≤ q ∧ (q : Int) < L.length := ⟨by omega, by omega⟩
      have b1 : q * 266 ≤ s.n - 266 := by omega
      have b2 : q * 266 ≤ s'.n - 266 := by omega
      have b3 : 266 ≤ s.n := by omega
      have b4 : 266 ≤ s'.n := by omega
      have b5 : q * 266 + 266 ≤ s.n := by omega
      have b6 : q * 266 + 266 ≤ s'.n := by omega
      have hSF : ShF (fun j => s.c (q * 266 + j)) (L.getD q sh0) := (hL.sh hLR (by omega)).2
      have hSF' : ShF (fun j => s'.c (q * 266 + j)) (L.getD q sh0) := (hL'.sh hLR (by omega)).2
      have hone := hSF.ones
      have hone' := hSF'.ones
      refine T_draw hti _ _ (by kernel_rfl) (by kernel_rfl) ?_
      simp only [go_sem, Nat.reduceBEq, Nat.reduceLT, Nat.reduceLeDiff, Nat.reduceAdd, Nat.reduceMul, Nat.reduceSub, Nat.reduceMod, Nat.reduceDiv, Nat.reduceEqDiff, Int.reduceToNat, reduceIte, reduceCtorEq, Int.reduceLE, Int.reduceLT, Int.reduceEq, Int.reduceNeg, Int.reduceAdd, Int.reduceSub, Int.reduceMul, hs, hs', r1, b1, b2, b3, b4, b5, b6, hone, hone']
      refine (eqSheet_Q _ _ _ _ _ (L.getD q sh0) hSF hSF').A ?_
      simp only [go_sem, Nat.reduceBEq, Nat.reduceLT, Nat.reduceLeDiff, Nat.reduceAdd, Nat.reduceMul, Nat.reduceSub, Nat.reduceMod, Nat.reduceDiv, Nat.reduceEqDiff, Int.reduceToNat, reduceIte, reduceCtorEq, Int.reduceLE, Int.reduceLT, Int.reduceEq, Int.reduceNeg, Int.reduceAdd, Int.reduceSub, Int.reduceMul]
      refine ⟨⟨q + 1, by omega⟩, by show L.length - (q + 1) < L.length - q; omega, ?_⟩
      refine Imp.id (by simp) ?_ (impH.base0 hok (by simp) HExt.rfl)
      simp only [go_sem, Nat.reduceBEq, Nat.reduceLT, Nat.reduceLeDiff, Nat.reduceAdd, Nat.reduceMul, Nat.reduceSub, Nat.reduceMod, Nat.reduceDiv, Nat.reduceEqDiff, Int.reduceToNat, reduceIte, reduceCtorEq, Int.reduceLE, Int.reduceLT, Int.reduceEq, Int.reduceNeg, Int.reduceAdd, Int.reduceSub, Int.reduceMul, w64 (n := (q : Int) + 1) (by omega), Int.natCast_add, Int.natCast_one]
      exact ⟨hi, hi'⟩
    · simp only [go_sem, Nat.reduceBEq, Nat.reduceLT, Nat.reduceLeDiff, Nat.reduceAdd, Nat.reduceMul, Nat.reduceSub, Nat.reduceMod, Nat.reduceDiv, Nat.reduceEqDiff, Int.reduceToNat, reduceIte, reduceCtorEq, Int.reduceLE, Int.reduceLT, Int.reduceEq, Int.reduceNeg, Int.reduceAdd, Int.reduceSub, Int.reduceMul]
end
end Go.Proofs.Ytjepjeaecmioaaa.V

/- The law of TimesUntil: the walk. -/
namespace Go.Proofs.Ytjepjeaecmioaaa.V
section
variable (cx : Cx) (h : List (Nat × Seg)) (n : Nat)
set_option maxRecDepth 100000 in
theorem lawTimes_Q (A : SV) (L : List Sh) (hA : StArg h n A L) (hLR : StR L) (hm : L.length ≤ 9223372036854775807) (share level : Int) :
    CallQ Try.prog cx 3 [A, .int .i64 share, .int .i64 level] h n (.bool true) := by
  have hAo := hA.ok
  refine callQ_of_T (P := Try.prog) hti (nt := 48) (rs := [.tmp 6]) rfl rfl Try.call3 Try.func3 rfl _ (by simp only [go_sem, hAo]) (Nat.le_of_ble_eq_true rfl) _ (by trivial) fun hok => ?_
  simp only [go_sem, Nat.reduceBEq, Nat.reduceLT, Nat.reduceLeDiff, Nat.reduceAdd, Nat.reduceMul, Nat.reduceSub, Nat.reduceMod, Nat.reduceDiv, Nat.reduceEqDiff, Int.reduceToNat, reduceIte, reduceCtorEq, Int.reduceLE, Int.reduceLT, Int.reduceEq, Int.reduceNeg, Int.reduceAdd, Int.reduceSub, Int.reduceMul, hAo]
  refine (szStack_Q _ _ _ A L hA 1048576 (by omega) (by omega)).A ?_
  by_cases hs : 1048576 - (L.length : Int) < 0
  · simp only [go_sem, Nat.reduceBEq, Nat.reduceLT, Nat.reduceLeDiff, Nat.reduceAdd, Nat.reduceMul, Nat.reduceSub, Nat.reduceMod, Nat.reduceDiv, Nat.reduceEqDiff, Int.reduceToNat, reduceIte, reduceCtorEq, Int.reduceLE, Int.reduceLT, Int.reduceEq, Int.reduceNeg, Int.reduceAdd, Int.reduceSub, Int.reduceMul, hAo, hs]
  have hm9 : L.length ≤ 10000000 := by omega
  simp only [go_sem, Nat.reduceBEq, Nat.reduceLT, Nat.reduceLeDiff, Nat.reduceAdd, Nat.reduceMul, Nat.reduceSub, Nat.reduceMod, Nat.reduceDiv, Nat.reduceEqDiff, Int.reduceToNat, reduceIte, reduceCtorEq, Int.reduceLE, Int.reduceLT, Int.reduceEq, Int.reduceNeg, Int.reduceAdd, Int.reduceSub, Int.reduceMul, hAo, hs]
  refine callA_false (toStack_E _ _ _ A L hA hLR hm9 _ ?_)
  simp only [go_sem, Nat.reduceBEq, Nat.reduceLT, Nat.reduceLeDiff, Nat.reduceAdd, Nat.reduceMul, Nat.reduceSub, Nat.reduceMod, Nat.reduceDiv, Nat.reduceEqDiff, Int.reduceToNat, reduceIte, reduceCtorEq, Int.reduceLE, Int.reduceLT, Int.reduceEq, Int.reduceNeg, Int.reduceAdd, Int.reduceSub, Int.reduceMul, hAo]
  refine (times2_Q _ _ _ n _ L _ share level (by simp only [go_sem, Nat.reduceBEq, Nat.reduceLT, Nat.reduceLeDiff, Nat.reduceAdd, Nat.reduceMul, Nat.reduceSub, Nat.reduceMod, Nat.reduceDiv, Nat.reduceEqDiff, Int.reduceToNat, reduceIte, reduceCtorEq, Int.reduceLE, Int.reduceLT, Int.reduceEq, Int.reduceNeg, Int.reduceAdd, Int.reduceSub, Int.reduceMul]; rfl) (by omega) stS_at hLR hm9).A ?_
  simp only [go_sem, Nat.reduceBEq, Nat.reduceLT, Nat.reduceLeDiff, Nat.reduceAdd, Nat.reduceMul, Nat.reduceSub, Nat.reduceMod, Nat.reduceDiv, Nat.reduceEqDiff, Int.reduceToNat, reduceIte, reduceCtorEq, Int.reduceLE, Int.reduceLT, Int.reduceEq, Int.reduceNeg, Int.reduceAdd, Int.reduceSub, Int.reduceMul, hAo]
  refine callA_false (toStack_E _ _ _ A L (hA.ext (by omega) (by simp only [go_sem, Nat.reduceBEq, Nat.reduceLT, Nat.reduceLeDiff, Nat.reduceAdd, Nat.reduceMul, Nat.reduceSub, Nat.reduceMod, Nat.reduceDiv, Nat.reduceEqDiff, Int.reduceToNat, reduceIte, reduceCtorEq, Int.reduceLE, Int.reduceLT, Int.reduceEq, Int.reduceNeg, Int.reduceAdd, Int.reduceSub, Int.reduceMul, HExt_cons])) hLR hm9 _ ?_)
  simp only [go_sem, Nat.reduceBEq, Nat.reduceLT, Nat.reduceLeDiff, Nat.reduceAdd, Nat.reduceMul, Nat.reduceSub, Nat.reduceMod, Nat.reduceDiv, Nat.reduceEqDiff, Int.reduceToNat, reduceIte, reduceCtorEq, Int.reduceLE, Int.reduceLT, Int.reduceEq, Int.reduceNeg, Int.reduceAdd, Int.reduceSub, Int.reduceMul, hAo]
  refine (times_Q _ _ _ (n + 1) _ L _ share level (by simp only [go_sem, Nat.reduceBEq, Nat.reduceLT, Nat.reduceLeDiff, Nat.reduceAdd, Nat.reduceMul, Nat.reduceSub, Nat.reduceMod, Nat.reduceDiv, Nat.reduceEqDiff, Int.reduceToNat, reduceIte, reduceCtorEq, Int.reduceLE, Int.reduceLT, Int.reduceEq, Int.reduceNeg, Int.reduceAdd, Int.reduceSub, Int.reduceMul]; rfl) (by omega) stS_at hLR hm9).A ?_
  simp only [go_sem, Nat.reduceBEq, Nat.reduceLT, Nat.reduceLeDiff, Nat.reduceAdd, Nat.reduceMul, Nat.reduceSub, Nat.reduceMod, Nat.reduceDiv, Nat.reduceEqDiff, Int.reduceToNat, reduceIte, reduceCtorEq, Int.reduceLE, Int.reduceLT, Int.reduceEq, Int.reduceNeg, Int.reduceAdd, Int.reduceSub, Int.reduceMul, hAo]
  refine callA_false (toStack_E _ _ _ A L (hA.ext (by omega) (by simp only [go_sem, Nat.reduceBEq, Nat.reduceLT, Nat.reduceLeDiff, Nat.reduceAdd, Nat.reduceMul, Nat.reduceSub, Nat.reduceMod, Nat.reduceDiv, Nat.reduceEqDiff, Int.reduceToNat, reduceIte, reduceCtorEq, Int.reduceLE, Int.reduceLT, Int.reduceEq, Int.reduceNeg, Int.reduceAdd, Int.reduceSub, Int.reduceMul, HExt_cons])) hLR hm9 _ ?_)
  simp only [go_sem, Nat.reduceBEq, Nat.reduceLT, Nat.reduceLeDiff, Nat.reduceAdd, Nat.reduceMul, Nat.reduceSub, Nat.reduceMod, Nat.reduceDiv, Nat.reduceEqDiff, Int.reduceToNat, reduceIte, reduceCtorEq, Int.reduceLE, Int.reduceLT, Int.reduceEq, Int.reduceNeg, Int.reduceAdd, Int.reduceSub, Int.reduceMul, hAo]
  refine (eqStack_Q _ _ _ (n + 1) _ (n + 2) _ L _ _ (by simp only [go_sem, Nat.reduceBEq, Nat.reduceLT, Nat.reduceLeDiff, Nat.reduceAdd, Nat.reduceMul, Nat.reduceSub, Nat.reduceMod, Nat.reduceDiv, Nat.reduceEqDiff, Int.reduceToNat, reduceIte, reduceCtorEq, Int.reduceLE, Int.reduceLT, Int.reduceEq, Int.reduceNeg, Int.reduceAdd, Int.reduceSub, Int.reduceMul]; rfl) (by omega) stS_at (by simp only [go_sem, Nat.reduceBEq, Nat.reduceLT, Nat.reduceLeDiff, Nat.reduceAdd, Nat.reduceMul, Nat.reduceSub, Nat.reduceMod, Nat.reduceDiv, Nat.reduceEqDiff, Int.reduceToNat, reduceIte, reduceCtorEq, Int.reduceLE, Int.reduceLT, Int.reduceEq, Int.reduceNeg, Int.reduceAdd, Int.reduceSub, Int.reduceMul]; rfl) (by omega) stS_at hLR hm9).A ?_
  simp only [go_sem, Nat.reduceBEq, Nat.reduceLT, Nat.reduceLeDiff, Nat.reduceAdd, Nat.reduceMul, Nat.reduceSub, Nat.reduceMod, Nat.reduceDiv, Nat.reduceEqDiff, Int.reduceToNat, reduceIte, reduceCtorEq, Int.reduceLE, Int.reduceLT, Int.reduceEq, Int.reduceNeg, Int.reduceAdd, Int.reduceSub, Int.reduceMul, HExt_cons]
end
end Go.Proofs.Ytjepjeaecmioaaa.V
