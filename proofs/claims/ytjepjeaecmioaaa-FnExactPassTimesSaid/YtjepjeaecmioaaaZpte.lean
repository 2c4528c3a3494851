/- Part 5 of the texts that this proof stands on: a symbolic walk over the program, what its functions and the reference's do, plain laws. -/
import Derived.Test.YtjepjeaecmioaaaZptd
import Derived.Test.YtjepjeaecmioaaaZptc
import Derived.Test.YtjepjeaecmioaaaV17
set_option linter.all false

/- The darkest cell, by the program; copies of stacks; times until. -/
namespace Go.Proofs.Ytjepjeaecmioaaa.V
/-- The first cell of which the greatest number is told. -/
def mostP (v : Int → Int → Int) (W : Nat) : Nat → (Int × Int) × Int
  | 0 => ((0, 0), 0)
  | j + 1 => if (mostP v W j).2 < v ((j % W : Nat) : Int) ((j / W : Nat) : Int) then ((((j % W : Nat) : Int), ((j / W : Nat) : Int)), v ((j % W : Nat) : Int) ((j / W : Nat) : Int)) else mostP v W j
theorem mostP_dark (S : Sh) (W : Nat) : ∀ j, (mostP (darkB S) W j).2 = mostN S W j
  | 0 => rfl
  | j + 1 => by
    simp only [mostP, mostN]
    rw [← mostP_dark S W j]
    split
    · simp only; omega
    · omega
/-- A stack of good sheets has sides. -/
theorem stOk_good {L : List Sh} (hk : StOk L) (hR : StR L) : PGood L (L.getD 0 sh0).wide.toNat (L.getD 0 sh0).high.toNat := by
  intro i hi
  obtain ⟨h1, h2, h3⟩ := hk.2 i hi
  obtain ⟨h0, _, _⟩ := hk.2 0 (by omega)
  obtain ⟨hW, hH, _, _⟩ := valid_sides h0.1
  exact ⟨h1.good, hR i hi, h2.trans hW, h3.trans hH⟩
/-- How often a stack passes until its top is light. -/
def timesU (share level : Int) (W H : Nat) : Nat → Int → List Sh → Int × Int
  | 0, _, _ => (0, 6)
  | r + 1, k, L => if mostN (L.getD 0 sh0) W (H * W) ≤ level then (k, 0) else timesU share level W H r (k + 1) (passS share W H L).L
noncomputable def timesR (L : List Sh) (share level : Int) : Int × Int :=
  if stAskC L share (decide (0 ≤ level ∧ level ≤ 3000)) = 0 then (if L = [] then (0, 4) else timesU share level (L.getD 0 sh0).wide.toNat (L.getD 0 sh0).high.toNat 101 0 L) else (0, stAskC L share (decide (0 ≤ level ∧ level ≤ 3000)))
theorem stAsk_ok {L : List Sh} {share : Int} {b : Bool} (h : stAskC L share b = 0) : StOk L ∧ (1 ≤ share ∧ share ≤ 15) ∧ b = true := by
  unfold stAskC at h
  split at h
  · rename_i h1
    split at h
    · rename_i h2
      simp only [Bool.and_eq_true, decide_eq_true_eq] at h2
      exact ⟨by simpa [stokB] using h1, h2.1, h2.2⟩
    · cases h
  · cases h
section
variable (cx : Cx) (h : List (Nat × Seg)) (n : Nat)
/-- A function that is asked for a number of a spot. -/
def AsksI (cx : Cx) (h : List (Nat × Seg)) (n f a b : Nat) (G F : Nat → SV) (x y : Int) (q : Int) : Prop :=
  ∀ nt n0 h' n', n ≤ n' → HExt n h h' → CallQ Try.prog ⟨cx.w0, cx.W, nt, n0⟩ f (lst a G ++ [spot x y] ++ lst b F) h' n' (.int .i64 q)
theorem most_Q (i o : Nat) (s : Seg) (S : Sh) (W H : Nat) (f a b : Nat) (G F : Nat → SV) (v : Int → Int → Int) (hs : hget h i = some s) (hi : i < n) (hS : ShAt s o S) (hsm : Small S) (hW : S.wide = W) (hH : S.high = H) (hF : (SV.fn f a G b F).lt n)
    (hv : ∀ j, j < H * W → AsksI cx h n f a b G F ((j % W : Nat) : Int) ((j / W : Nat) : Int) (v ((j % W : Nat) : Int) ((j / W : Nat) : Int))) :
    CallQ Try.prog cx 68 [.ptr i o, .fn f a G b F] h n (.tup 2 (cl [spot (mostP v W (H * W)).1.1 (mostP v W (H * W)).1.2, .int .i64 (mostP v W (H * W)).2])) := by
  have hWH : W ≤ 8 ∧ H ≤ 8 := by unfold Small at hsm; omega
  have hWH2 : H * W ≤ 64 := Nat.mul_le_mul hWH.2 hWH.1
  have hF3 : (SV.fn f a G b F).lt (n + 3) = True := eq_true (SV.lt_mono (by omega) _ hF)
  refine callQ_of_T (P := Try.prog) hti (nt := 30) (rs := [.cell 4 53, .tmp 5]) rfl rfl Try.call68 Try.func68 rfl _ (by simp only [go_sem, and_self]) (Nat.le_of_ble_eq_true rfl) _ (by first | exact trivial | (refine lt_flat rfl ?_; simp [SV.flat]; done) | simp only [go_sem]) fun hok => ?_
  simp only [go_sem, Nat.reduceBEq, Nat.reduceLT, Nat.reduceLeDiff, Nat.reduceAdd, Nat.reduceMul, Nat.reduceSub, Nat.reduceMod, Nat.reduceDiv, Nat.reduceEqDiff, Int.reduceToNat, reduceIte, reduceCtorEq, Int.reduceLE, Int.reduceLT, Int.reduceEq, Int.reduceNeg, Int.reduceAdd, Int.reduceSub, Int.reduceMul]
  refine callA_false (cells_E _ _ _ i o s S W H (by first | (simp only [go_sem, Nat.reduceBEq, Nat.reduceLT, Nat.reduceLeDiff, Nat.reduceAdd, Nat.reduceMul, Nat.reduceSub, Nat.reduceMod, Nat.reduceDiv, Nat.reduceEqDiff, Int.reduceToNat, reduceIte, reduceCtorEq, Int.reduceLE, Int.reduceLT, Int.reduceEq, Int.reduceNeg, Int.reduceAdd, Int.reduceSub, Int.reduceMul, hs, hi]; done) | (simp only [go_sem, Nat.reduceBEq, Nat.reduceLT, Nat.reduceLeDiff, Nat.reduceAdd, Nat.reduceMul, Nat.reduceSub, Nat.reduceMod, Nat.reduceDiv, Nat.reduceEqDiff, Int.reduceToNat, reduceIte, reduceCtorEq, Int.reduceLE, Int.reduceLT, Int.reduceEq, Int.reduceNeg, Int.reduceAdd, Int.reduceSub, Int.reduceMul, hs, hi]; rfl)) (by omega) hS hW hH hWH.1 hWH.2 _ fun cap hc1 hc2 => ?_)
  simp only [go_sem, Nat.reduceBEq, Nat.reduceLT, Nat.reduceLeDiff, Nat.reduceAdd, Nat.reduceMul, Nat.reduceSub, Nat.reduceMod, Nat.reduceDiv, Nat.reduceEqDiff, Int.reduceToNat, reduceIte, reduceCtorEq, Int.reduceLE, Int.reduceLT, Int.reduceEq, Int.reduceNeg, Int.reduceAdd, Int.reduceSub, Int.reduceMul]
  refine T_lp (ι := { j : Nat // j ≤ H * W })
    (fun j => ([(0, .ptr i o), (1, .fn f a G b F), (4, .ptr n 0), (6, .ptr (n + 1) 0), (7, .int .i64 (mostP v W j.1).2), (13, .sl (n + 2) 0 (H * W) cap), (14, .int .i64 ((H * W : Nat) : Int)), (15, .int .i64 j.1)],
      (n + 2, ⟨H * W * 2, cellC W, true, none⟩) :: (n + 1, ⟨2, cl [.int .i8 (mostP v W j.1).1.1, .int .i8 (mostP v W j.1).1.2], true, none⟩) :: (n, ⟨2, cl [.int .i8 0, .int .i8 0], true, none⟩) :: h, n + 3)) (fun j => H * W - j.1) ⟨0, Nat.zero_le _⟩ ?_ ?_
  · refine Imp.id (by simp) ?_ ?_
    · simp only [go_sem, Nat.reduceBEq, Nat.reduceLT, Nat.reduceLeDiff, Nat.reduceAdd, Nat.reduceMul, Nat.reduceSub, Nat.reduceMod, Nat.reduceDiv, Nat.reduceEqDiff, Int.reduceToNat, reduceIte, reduceCtorEq, Int.reduceLE, Int.reduceLT, Int.reduceEq, Int.reduceNeg, Int.reduceAdd, Int.reduceSub, Int.reduceMul, mostP, hF3]
      omega
    · (repeat (refine impH.cons0 (by first | (simp only [go_sem, Nat.reduceBEq, Nat.reduceLT, Nat.reduceLeDiff, Nat.reduceAdd, Nat.reduceMul, Nat.reduceSub, Nat.reduceMod, Nat.reduceDiv, Nat.reduceEqDiff, Int.reduceToNat, reduceIte, reduceCtorEq, Int.reduceLE, Int.reduceLT, Int.reduceEq, Int.reduceNeg, Int.reduceAdd, Int.reduceSub, Int.reduceMul, hget_hset_self]; done) | (simp only [go_sem, Nat.reduceBEq, Nat.reduceLT, Nat.reduceLeDiff, Nat.reduceAdd, Nat.reduceMul, Nat.reduceSub, Nat.reduceMod, Nat.reduceDiv, Nat.reduceEqDiff, Int.reduceToNat, reduceIte, reduceCtorEq, Int.reduceLE, Int.reduceLT, Int.reduceEq, Int.reduceNeg, Int.reduceAdd, Int.reduceSub, Int.reduceMul, hget_hset_self]; rfl)) (by simp) ?_ ?_; · exact SegLe.flat (Nat.le_refl _) id (by first | exact .inr rfl | exact .inl rfl) fun z hz => ⟨by first | rfl | exact dC_zero hz | exact dC_cl (by rfl) (by rfl) (by rfl) hz, by first | exact shC_flat _ _ | exact brC_flat _ hz | exact pair_flat _ _ hz | exact cellC_flat _ _ | exact dC_flat _ _ | exact stC_flat _ _ | exact cl_flat (l := [_, _, _, _, _]) (by simp [SV.flat]) hz | exact cl_flat (l := [_, _, _]) (by simp [SV.flat]) hz | trivial⟩)); exact impH.base0 (by first | exact hok | exact hok_set hok (fun k hk => stC_flat _ _) | exact hok_set hok (fun k hk => shC_flat _ _)) (by simp) (by first | (simp only [go_sem, Nat.reduceBEq, Nat.reduceLT, Nat.reduceLeDiff, Nat.reduceAdd, Nat.reduceMul, Nat.reduceSub, Nat.reduceMod, Nat.reduceDiv, Nat.reduceEqDiff, Int.reduceToNat, reduceIte, reduceCtorEq, Int.reduceLE, Int.reduceLT, Int.reduceEq, Int.reduceNeg, Int.reduceAdd, Int.reduceSub, Int.reduceMul, HExt_cons]; done) | (simp only [go_sem, Nat.reduceBEq, Nat.reduceLT, Nat.reduceLeDiff, Nat.reduceAdd, Nat.reduceMul, Nat.reduceSub, Nat.reduceMod, Nat.reduceDiv, Nat.reduceEqDiff, Int.reduceToNat, reduceIte, reduceCtorEq, Int.reduceLE, Int.reduceLT, Int.reduceEq, Int.reduceNeg, Int.reduceAdd, Int.reduceSub, Int.reduceMul, HExt_cons]; exact HExt.rfl))
  · rintro ⟨j, hj⟩
    simp only [go_sem, Nat.reduceBEq, Nat.reduceLT, Nat.reduceLeDiff, Nat.reduceAdd, Nat.reduceMul, Nat.reduceSub, Nat.reduceMod, Nat.reduceDiv, Nat.reduceEqDiff, Int.reduceToNat, reduceIte, reduceCtorEq, Int.reduceLE, Int.reduceLT, Int.reduceEq, Int.reduceNeg, Int.reduceAdd, Int.reduceSub, Int.reduceMul, hi, cellC_x, cellC_y, decide_eq_true_eq, decide_eq_false_iff_not]
    refine ⟨fun h1 => ⟨⟨by omega, h1⟩, by omega, ?_⟩, fun h1 => ?_⟩
    · refine (hv j (by omega) _ _ _ (n + 4) (by omega) (by simp only [go_sem, Nat.reduceBEq, Nat.reduceLT, Nat.reduceLeDiff, Nat.reduceAdd, Nat.reduceMul, Nat.reduceSub, Nat.reduceMod, Nat.reduceDiv, Nat.reduceEqDiff, Int.reduceToNat, reduceIte, reduceCtorEq, Int.reduceLE, Int.reduceLT, Int.reduceEq, Int.reduceNeg, Int.reduceAdd, Int.reduceSub, Int.reduceMul, HExt_cons])).A ?_
      by_cases hl : (mostP v W j).2 < v ((j % W : Nat) : Int) ((j / W : Nat) : Int)
      · simp only [go_sem, Nat.reduceBEq, Nat.reduceLT, Nat.reduceLeDiff, Nat.reduceAdd, Nat.reduceMul, Nat.reduceSub, Nat.reduceMod, Nat.reduceDiv, Nat.reduceEqDiff, Int.reduceToNat, reduceIte, reduceCtorEq, Int.reduceLE, Int.reduceLT, Int.reduceEq, Int.reduceNeg, Int.reduceAdd, Int.reduceSub, Int.reduceMul, hl]
        have e : mostP v W (j + 1) = ((((j % W : Nat) : Int), ((j / W : Nat) : Int)), v ((j % W : Nat) : Int) ((j / W : Nat) : Int)) := by simp only [mostP]; rw [if_pos hl]
        refine ⟨⟨j + 1, by omega⟩, by show H * W - (j + 1) < H * W - j; omega, ?_⟩
        simp only [e]
        refine Imp.id (by simp) ?_ ?_
        · simp only [go_sem, Nat.reduceBEq, Nat.reduceLT, Nat.reduceLeDiff, Nat.reduceAdd, Nat.reduceMul, Nat.reduceSub, Nat.reduceMod, Nat.reduceDiv, Nat.reduceEqDiff, Int.reduceToNat, reduceIte, reduceCtorEq, Int.reduceLE, Int.reduceLT, Int.reduceEq, Int.reduceNeg, Int.reduceAdd, Int.reduceSub, Int.reduceMul, w64 (n := (j : Int) + 1) (by omega), Int.natCast_add, Int.natCast_one, hF3]
          omega
        · (repeat (refine impH.cons0 (by first | (simp only [go_sem, Nat.reduceBEq, Nat.reduceLT, Nat.reduceLeDiff, Nat.reduceAdd, Nat.reduceMul, Nat.reduceSub, Nat.reduceMod, Nat.reduceDiv, Nat.reduceEqDiff, Int.reduceToNat, reduceIte, reduceCtorEq, Int.reduceLE, Int.reduceLT, Int.reduceEq, Int.reduceNeg, Int.reduceAdd, Int.reduceSub, Int.reduceMul, hget_hset_self]; done) | (simp only [go_sem, Nat.reduceBEq, Nat.reduceLT, Nat.reduceLeDiff, Nat.reduceAdd, Nat.reduceMul, Nat.reduceSub, Nat.reduceMod, Nat.reduceDiv, Nat.reduceEqDiff, Int.reduceToNat, reduceIte, reduceCtorEq, Int.reduceLE, Int.reduceLT, Int.reduceEq, Int.reduceNeg, Int.reduceAdd, Int.reduceSub, Int.reduceMul, hget_hset_self]; rfl)) (by simp) ?_ ?_; · exact SegLe.flat (Nat.le_refl _) id (by first | exact .inr rfl | exact .inl rfl) fun z hz => ⟨by first | rfl | exact dC_zero hz | exact dC_cl (by rfl) (by rfl) (by rfl) hz, by first | exact shC_flat _ _ | exact brC_flat _ hz | exact pair_flat _ _ hz | exact cellC_flat _ _ | exact dC_flat _ _ | exact stC_flat _ _ | exact cl_flat (l := [_, _, _, _, _]) (by simp [SV.flat]) hz | exact cl_flat (l := [_, _, _]) (by simp [SV.flat]) hz | trivial⟩)); exact impH.base0 (by first | exact hok | exact hok_set hok (fun k hk => stC_flat _ _) | exact hok_set hok (fun k hk => shC_flat _ _)) (by simp) (by first | (simp only [go_sem, Nat.reduceBEq, Nat.reduceLT, Nat.reduceLeDiff, Nat.reduceAdd, Nat.reduceMul, Nat.reduceSub, Nat.reduceMod, Nat.reduceDiv, Nat.reduceEqDiff, Int.reduceToNat, reduceIte, reduceCtorEq, Int.reduceLE, Int.reduceLT, Int.reduceEq, Int.reduceNeg, Int.reduceAdd, Int.reduceSub, Int.reduceMul, HExt_cons]; done) | (simp only [go_sem, Nat.reduceBEq, Nat.reduceLT, Nat.reduceLeDiff, Nat.reduceAdd, Nat.reduceMul, Nat.reduceSub, Nat.reduceMod, Nat.reduceDiv, Nat.reduceEqDiff, Int.reduceToNat, reduceIte, reduceCtorEq, Int.reduceLE, Int.reduceLT, Int.reduceEq, Int.reduceNeg, Int.reduceAdd, Int.reduceSub, Int.reduceMul, HExt_cons]; exact HExt.rfl))
      · simp only [go_sem, Nat.reduceBEq, Nat.reduceLT, Nat.reduceLeDiff, Nat.reduceAdd, Nat.reduceMul, Nat.reduceSub, Nat.reduceMod, Nat.reduceDiv, Nat.reduceEqDiff, Int.reduceToNat, reduceIte, reduceCtorEq, Int.reduceLE, Int.reduceLT, Int.reduceEq, Int.reduceNeg, Int.reduceAdd, Int.reduceSub, Int.reduceMul, hl]
        have e : mostP v W (j + 1) = mostP v W j := by simp only [mostP]; rw [if_neg hl]
        refine ⟨⟨j + 1, by omega⟩, by show H * W - (j + 1) < H * W - j; omega, ?_⟩
        simp only [e]
        refine Imp.id (by simp) ?_ ?_
        · simp only [go_sem, Nat.reduceBEq, Nat.reduceLT, Nat.reduceLeDiff, Nat.reduceAdd, Nat.reduceMul, Nat.reduceSub, Nat.reduceMod, Nat.reduceDiv, Nat.reduceEqDiff, Int.reduceToNat, reduceIte, reduceCtorEq, Int.reduceLE, Int.reduceLT, Int.reduceEq, Int.reduceNeg, Int.reduceAdd, Int.reduceSub, Int.reduceMul, w64 (n := (j : Int) + 1) (by omega), Int.natCast_add, Int.natCast_one, hF3]
          omega
        · (repeat (refine impH.cons0 (by first | (simp only [go_sem, Nat.reduceBEq, Nat.reduceLT, Nat.reduceLeDiff, Nat.reduceAdd, Nat.reduceMul, Nat.reduceSub, Nat.reduceMod, Nat.reduceDiv, Nat.reduceEqDiff, Int.reduceToNat, reduceIte, reduceCtorEq, Int.reduceLE, Int.reduceLT, Int.reduceEq, Int.reduceNeg, Int.reduceAdd, Int.reduceSub, Int.reduceMul, hget_hset_self]; done) | (simp only [go_sem, Nat.reduceBEq, Nat.reduceLT, Nat.reduceLeDiff, Nat.reduceAdd, Nat.reduceMul, Nat.reduceSub, Nat.reduceMod, Nat.reduceDiv, Nat.reduceEqDiff, Int.reduceToNat, reduceIte, reduceCtorEq, Int.reduceLE, Int.reduceLT, Int.reduceEq, Int.reduceNeg, Int.reduceAdd, Int.reduceSub, Int.reduceMul, hget_hset_self]; rfl)) (by simp) ?_ ?_; · exact SegLe.flat (Nat.le_refl _) id (by first | exact .inr rfl | exact .inl rfl) fun z hz => ⟨by first | rfl | exact dC_zero hz | exact dC_cl (by rfl) (by rfl) (by rfl) hz, by first | exact shC_flat _ _ | exact brC_flat _ hz | exact pair_flat _ _ hz | exact cellC_flat _ _ | exact dC_flat _ _ | exact stC_flat _ _ | exact cl_flat (l := [_, _, _, _, _]) (by simp [SV.flat]) hz | exact cl_flat (l := [_, _, _]) (by simp [SV.flat]) hz | trivial⟩)); exact impH.base0 (by first | exact hok | exact hok_set hok (fun k hk => stC_flat _ _) | exact hok_set hok (fun k hk => shC_flat _ _)) (by simp) (by first | (simp only [go_sem, Nat.reduceBEq, Nat.reduceLT, Nat.reduceLeDiff, Nat.reduceAdd, Nat.reduceMul, Nat.reduceSub, Nat.reduceMod, Nat.reduceDiv, Nat.reduceEqDiff, Int.reduceToNat, reduceIte, reduceCtorEq, Int.reduceLE, Int.reduceLT, Int.reduceEq, Int.reduceNeg, Int.reduceAdd, Int.reduceSub, Int.reduceMul, HExt_cons]; done) | (simp only [go_sem, Nat.reduceBEq, Nat.reduceLT, Nat.reduceLeDiff, Nat.reduceAdd, Nat.reduceMul, Nat.reduceSub, Nat.reduceMod, Nat.reduceDiv, Nat.reduceEqDiff, Int.reduceToNat, reduceIte, reduceCtorEq, Int.reduceLE, Int.reduceLT, Int.reduceEq, Int.reduceNeg, Int.reduceAdd, Int.reduceSub, Int.reduceMul, HExt_cons]; exact HExt.rfl))
    · have hj2 : j = H * W := by omega
      subst hj2
      rfl
theorem isDarker_Q (i o : Nat) (s : Seg) (S : Sh) (W H : Nat) (level : Int) (hs : hget h i = some s) (hi : i < n) (hS : ShAt s o S) (hG : Good S) (hW : S.wide = W) (hH : S.high = H) :
    CallQ Try.prog cx 34 [.ptr i o, .int .i64 level] h n (.bool (decide (level < mostN S W (H * W)))) := by
  have hsm := hG.small
  refine callQ_of_T (P := Try.prog) hti (nt := 17) (rs := [.tmp 4]) rfl rfl Try.call34 Try.func34 rfl _ (by simp only [go_sem, and_self]) (Nat.le_of_ble_eq_true rfl) _ (by first | exact trivial | (refine lt_flat rfl ?_; simp [SV.flat]; done) | simp only [go_sem]) fun hok => ?_
  simp only [go_sem, Nat.reduceBEq, Nat.reduceLT, Nat.reduceLeDiff, Nat.reduceAdd, Nat.reduceMul, Nat.reduceSub, Nat.reduceMod, Nat.reduceDiv, Nat.reduceEqDiff, Int.reduceToNat, reduceIte, reduceCtorEq, Int.reduceLE, Int.reduceLT, Int.reduceEq, Int.reduceNeg, Int.reduceAdd, Int.reduceSub, Int.reduceMul]
  refine (most_Q _ _ _ i o s S W H _ _ _ _ _ (darkB S) (by first | (simp only [go_sem, Nat.reduceBEq, Nat.reduceLT, Nat.reduceLeDiff, Nat.reduceAdd, Nat.reduceMul, Nat.reduceSub, Nat.reduceMod, Nat.reduceDiv, Nat.reduceEqDiff, Int.reduceToNat, reduceIte, reduceCtorEq, Int.reduceLE, Int.reduceLT, Int.reduceEq, Int.reduceNeg, Int.reduceAdd, Int.reduceSub, Int.reduceMul, hs, hi]; done) | (simp only [go_sem, Nat.reduceBEq, Nat.reduceLT, Nat.reduceLeDiff, Nat.reduceAdd, Nat.reduceMul, Nat.reduceSub, Nat.reduceMod, Nat.reduceDiv, Nat.reduceEqDiff, Int.reduceToNat, reduceIte, reduceCtorEq, Int.reduceLE, Int.reduceLT, Int.reduceEq, Int.reduceNeg, Int.reduceAdd, Int.reduceSub, Int.reduceMul, hs, hi]; rfl)) (by omega) hS hsm hW hH ?_ fun j hj nt n0 h' n' hn hx => ?_).A ?_
  · exact fn_lt (xs := [.ptr i o]) (ys := []) (fun v hv => by simp at hv; subst hv; show i < _; omega) (fun v hv => by cases hv)
  · obtain ⟨x0, x8, y0, y8⟩ := cell_in hsm hW hH hj
    exact dark_Q _ _ _ i o s S _ _ (hx i (by omega) _ hs) (by omega) hS hG x0 x8 y0 y8
  · simp only [go_sem, Nat.reduceBEq, Nat.reduceLT, Nat.reduceLeDiff, Nat.reduceAdd, Nat.reduceMul, Nat.reduceSub, Nat.reduceMod, Nat.reduceDiv, Nat.reduceEqDiff, Int.reduceToNat, reduceIte, reduceCtorEq, Int.reduceLE, Int.reduceLT, Int.reduceEq, Int.reduceNeg, Int.reduceAdd, Int.reduceSub, Int.reduceMul, mostP_dark]
set_option maxRecDepth 100000 in
theorem cloneC_E (i cap : Nat) (L : List Sh) (s : Seg) (hs : hget h i = some s) (hi : i < n) (hL : StAt s L) (hm9 : L.length ≤ 10000000) (K : HK)
    (hK : ∀ cap', L.length ≤ cap' → cap' ≤ maxLen → K (.sl n 0 L.length cap') ((n, stS L none) :: h) (n + 1)) :
    CallE Try.prog cx 33 [.sl i 0 L.length cap] h n K := by
  have hn := hL.1
  refine CallE.imp1 (K := fun r h1 n1 => ∃ cap', L.length ≤ cap' ∧ cap' ≤ maxLen ∧ r = .sl (n + 1) 0 L.length cap' ∧ n1 = n + 2 ∧ HExt n h h1 ∧ ∃ t, hget h1 (n + 1) = some t ∧ t.n = L.length * 266 ∧ t.rw = true ∧ ∀ k, k < L.length * 266 → t.c k = stC L k) ?_ ?_
  · refine callE_of_T (P := Try.prog) hti (nt := 8) (rs := [.tmp 2]) rfl rfl Try.call33 Try.func33 rfl _ (by simp only [go_sem, and_self]) (Nat.le_of_ble_eq_true rfl) _ fun hok => ?_
    simp only [go_sem, Nat.reduceBEq, Nat.reduceLT, Nat.reduceLeDiff, Nat.reduceAdd, Nat.reduceMul, Nat.reduceSub, Nat.reduceMod, Nat.reduceDiv, Nat.reduceEqDiff, Int.reduceToNat, reduceIte, reduceCtorEq, Int.reduceLE, Int.reduceLT, Int.reduceEq, Int.reduceNeg, Int.reduceAdd, Int.reduceSub, Int.reduceMul, hs, hi, ↓hok.del (Nat.le_refl n)]
    refine ⟨⟨⟨trivial, Nat.succ_pos 265, ?_, ?_⟩, by omega⟩, fun cap' c1 c2 => ?_⟩
    · show 0 + L.length * 266 ≤ s.n
      omega
    · refine allP_iff.2 fun j hj => ?_
      have hj : j < L.length * 266 := hj
      show (s.c (0 + j)).one
      rw [Nat.zero_add, hL.2 j hj]
      exact (stC_flat L j).one
    · refine ⟨cap', c1, c2, rfl, _, rfl, rfl, rfl, fun k hk => ?_⟩
      refine Eq.trans ?_ (hL.2 k hk)
      simp only [both, news, Nat.not_lt_zero, if_false, Nat.sub_zero, Nat.zero_add]
  · rintro hok r h1 n1 ⟨cap', c1, c2, rfl, rfl, hx, t, ht, t1, t2, t3⟩
    exact ⟨n + 1, .sl n 0 L.length cap', (n, stS L none) :: h, n + 1, by omega, by omega, by simp only [ren_sl, sig_hit], Nat.lt_succ_self n,
      impH.cons1 ht (Nat.lt_succ_self n) (SegLe.flat (by rw [t1]; exact Nat.le_refl _) (fun _ => t2) (.inl rfl) fun k hk => ⟨t3 k hk, stC_flat _ _⟩) (impH.base1 hok (by simp) (Nat.le_refl n) hx), hK cap' c1 c2⟩
end
end Go.Proofs.Ytjepjeaecmioaaa.V

/- Times until: both walks. -/
namespace Go.Proofs.Ytjepjeaecmioaaa.V
theorem timesR_bad {L : List Sh} {share level c : Int} (h : stAskC L share (decide (0 ≤ level ∧ level ≤ 3000)) = c) (hc : c ≠ 0) : timesR L share level = (0, c) := by
  unfold timesR; rw [h, if_neg hc]
theorem timesR_none {L : List Sh} {share level : Int} (h : stAskC L share (decide (0 ≤ level ∧ level ≤ 3000)) = 0) (h0 : L = []) : timesR L share level = (0, 4) := by
  unfold timesR; rw [if_pos h, if_pos h0]
theorem timesR_go {L : List Sh} {share level : Int} (h : stAskC L share (decide (0 ≤ level ∧ level ≤ 3000)) = 0) (h0 : L ≠ []) : timesR L share level = timesU share level (L.getD 0 sh0).wide.toNat (L.getD 0 sh0).high.toNat 101 0 L := by
  unfold timesR; rw [if_pos h, if_neg h0]
theorem timesU_stop {share level k : Int} {W H r : Nat} {L : List Sh} (h : mostN (L.getD 0 sh0) W (H * W) ≤ level) : timesU share level W H (r + 1) k L = (k, 0) := by simp only [timesU]; rw [if_pos h]
theorem timesU_next {share level k : Int} {W H r : Nat} {L : List Sh} (h : ¬ mostN (L.getD 0 sh0) W (H * W) ≤ level) : timesU share level W H (r + 1) k L = timesU share level W H r (k + 1) (passS share W H L).L := by simp only [timesU]; rw [if_neg h]
theorem codeSt_ask (L : List Sh) (share : Int) (b : Bool) : codeSt L (decide (1 ≤ share ∧ share ≤ 15) && b) = stAskC L share b := by
  unfold codeSt stAskC
  rfl
theorem stS_at {L : List Sh} {own : Option (Nat × Nat)} : StAt (stS L own) L := ⟨Nat.le_refl _, fun _ _ => rfl⟩
theorem PGood.at0 {L : List Sh} {W H : Nat} (h : PGood L W H) (h0 : 0 < L.length) : ShAt (stS L none) 0 (L.getD 0 sh0) := by
  have := shAt_stS (own := none) h0 (h 0 h0).R
  rwa [Nat.zero_mul] at this
section
variable (cx : Cx) (h : List (Nat × Seg)) (n : Nat)
theorem pass2L_E (i cap0 len : Nat) (L : List Sh) (hlen : L.length = len) (W H : Nat) (share : Int) (hs : hget h i = some (stS L none)) (hi : i < n) (hG : PGood L W H) (hsh : 1 ≤ share ∧ share ≤ 15) (hm9 : L.length ≤ 10000000) (K : HK)
    (hK : K (.tup 2 (cl [d3 (passS share W H L).d, .int .i64 (passS share W H L).w])) (hset h i (stS (passS share W H L).L none)) n) :
    CallE Try.prog cx 29 [.sl i 0 len cap0, .int .i64 share] h n K := by subst hlen; exact pass2_E cx h n i cap0 L W H share hs hi hG hsh hm9 K hK
theorem passL_E (i cap0 len : Nat) (L : List Sh) (hlen : L.length = len) (W H : Nat) (share : Int) (hs : hget h i = some (stS L none)) (hi : i < n) (hG : PGood L W H) (hsh : 1 ≤ share ∧ share ≤ 15) (hm9 : L.length ≤ 10000000) (K : HK)
    (hK : K (.tup 2 (cl [d3 (passS share W H L).d, .int .i64 (passS share W H L).w])) (hset h i (stS (passS share W H L).L none)) n) :
    CallE Try.prog cx 35 [.sl i 0 len cap0, .int .i64 share] h n K := by subst hlen; exact pass_E cx h n i cap0 L W H share hs hi hG hsh hm9 K hK
set_option maxRecDepth 100000 in
theorem times2_Q (i cap : Nat) (L : List Sh) (s : Seg) (share level : Int) (hs : hget h i = some s) (hi : i < n) (hL : StAt s L) (hLR : StR L) (hm9 : L.length ≤ 10000000) :
    CallQ Try.prog cx 8 [.sl i 0 L.length cap, .int .i64 share, .int .i64 level] h n (.tup 2 (cl [.int .i64 (timesR L share level).1, .int .i64 (timesR L share level).2])) := by
  have hn := hL.1
  refine callQ_of_T (P := Try.prog) hti (nt := 38) (rs := [.tmp 6, .tmp 7]) rfl rfl Try.call8 Try.func8 rfl _ (by simp only [go_sem, and_self]) (Nat.le_of_ble_eq_true rfl) _ (by first | exact trivial | (refine lt_flat rfl ?_; simp [SV.flat]; done) | simp only [go_sem]) fun hok => ?_
  simp only [go_sem, Nat.reduceBEq, Nat.reduceLT, Nat.reduceLeDiff, Nat.reduceAdd, Nat.reduceMul, Nat.reduceSub, Nat.reduceMod, Nat.reduceDiv, Nat.reduceEqDiff, Int.reduceToNat, reduceIte, reduceCtorEq, Int.reduceLE, Int.reduceLT, Int.reduceEq, Int.reduceNeg, Int.reduceAdd, Int.reduceSub, Int.reduceMul]
  refine (level2_Q _ _ _ level).A ?_
  simp only [go_sem, Nat.reduceBEq, Nat.reduceLT, Nat.reduceLeDiff, Nat.reduceAdd, Nat.reduceMul, Nat.reduceSub, Nat.reduceMod, Nat.reduceDiv, Nat.reduceEqDiff, Int.reduceToNat, reduceIte, reduceCtorEq, Int.reduceLE, Int.reduceLT, Int.reduceEq, Int.reduceNeg, Int.reduceAdd, Int.reduceSub, Int.reduceMul]
  refine (stAsked2_Q _ _ _ _ L (.inr ⟨i, cap, s, rfl, hi, hs, hL⟩) hLR hm9 share _).A ?_
  by_cases hc : stAskC L share (decide (0 ≤ level ∧ level ≤ 3000)) = 0
  rotate_left
  · rw [timesR_bad rfl hc]
    simp only [go_sem, Nat.reduceBEq, Nat.reduceLT, Nat.reduceLeDiff, Nat.reduceAdd, Nat.reduceMul, Nat.reduceSub, Nat.reduceMod, Nat.reduceDiv, Nat.reduceEqDiff, Int.reduceToNat, reduceIte, reduceCtorEq, Int.reduceLE, Int.reduceLT, Int.reduceEq, Int.reduceNeg, Int.reduceAdd, Int.reduceSub, Int.reduceMul, hc]
  by_cases h0 : L = []
  · rw [timesR_none hc h0]
    subst h0
    simp only [go_sem, Nat.reduceBEq, Nat.reduceLT, Nat.reduceLeDiff, Nat.reduceAdd, Nat.reduceMul, Nat.reduceSub, Nat.reduceMod, Nat.reduceDiv, Nat.reduceEqDiff, Int.reduceToNat, reduceIte, reduceCtorEq, Int.reduceLE, Int.reduceLT, Int.reduceEq, Int.reduceNeg, Int.reduceAdd, Int.reduceSub, Int.reduceMul, hc, List.length_nil]
  have hl : 0 < L.length := List.length_pos_iff.2 h0
  have e0 : ((L.length : Int) = 0) = False := eq_false (by omega)
  obtain ⟨hk, hsh, _⟩ := stAsk_ok hc
  have hG := stOk_good hk hLR
  rw [timesR_go hc h0]
  generalize (L.getD 0 sh0).wide.toNat = W at *
  generalize (L.getD 0 sh0).high.toNat = H at *
  generalize hRR : timesU share level W H 101 0 L = R
  simp only [go_sem, Nat.reduceBEq, Nat.reduceLT, Nat.reduceLeDiff, Nat.reduceAdd, Nat.reduceMul, Nat.reduceSub, Nat.reduceMod, Nat.reduceDiv, Nat.reduceEqDiff, Int.reduceToNat, reduceIte, reduceCtorEq, Int.reduceLE, Int.reduceLT, Int.reduceEq, Int.reduceNeg, Int.reduceAdd, Int.reduceSub, Int.reduceMul, hc, e0, hs, hi, ↓hok.del (Nat.le_refl n)]
  refine ⟨⟨⟨trivial, Nat.succ_pos 265, ?_, ?_⟩, by omega⟩, fun cap' c1 c2 => ?_⟩
  · show 0 + L.length * 266 ≤ s.n
    omega
  · refine allP_iff.2 fun j hj => ?_
    have hj : j < L.length * 266 := hj
    show (s.c (0 + j)).one
    rw [Nat.zero_add, hL.2 j hj]
    exact (stC_flat L j).one
  refine T_lp (ι := { p : Nat × List Sh // p.1 ≤ 101 ∧ PGood p.2 W H ∧ p.2.length = L.length ∧ timesU share level W H (101 - p.1) p.1 p.2 = R })
    (fun p => ([(0, .sl i 0 L.length cap), (1, .int .i64 share), (2, .int .i64 level), (6, .int .i64 0), (7, .int .i64 0), (9, .sl (n + 1) 0 L.length cap'), (10, .int .i64 p.1.1)],
      (n + 1, stS p.1.2 none) :: h, n + 2)) (fun p => 101 - p.1.1) ⟨(0, L), by simp, hG, rfl, hRR⟩ ?_ ?_
  · refine Imp.id (by simp) ?_ ?_
    · simp only [go_sem, Nat.reduceBEq, Nat.reduceLT, Nat.reduceLeDiff, Nat.reduceAdd, Nat.reduceMul, Nat.reduceSub, Nat.reduceMod, Nat.reduceDiv, Nat.reduceEqDiff, Int.reduceToNat, reduceIte, reduceCtorEq, Int.reduceLE, Int.reduceLT, Int.reduceEq, Int.reduceNeg, Int.reduceAdd, Int.reduceSub, Int.reduceMul]
      omega
    · refine impH.cons0 (hget_hit _ _ _) (by simp) (SegLe.flat (Nat.le_refl _) id (.inl rfl) fun z hz => ⟨?_, stC_flat _ _⟩) (impH.base0 hok (by simp) (by simp only [go_sem, Nat.reduceBEq, Nat.reduceLT, Nat.reduceLeDiff, Nat.reduceAdd, Nat.reduceMul, Nat.reduceSub, Nat.reduceMod, Nat.reduceDiv, Nat.reduceEqDiff, Int.reduceToNat, reduceIte, reduceCtorEq, Int.reduceLE, Int.reduceLT, Int.reduceEq, Int.reduceNeg, Int.reduceAdd, Int.reduceSub, Int.reduceMul, HExt_cons]))
      refine Eq.trans ?_ (hL.2 z hz)
      simp only [both, news, Nat.not_lt_zero, if_false, Nat.sub_zero, Nat.zero_add]
  · rintro ⟨⟨k, C⟩, hk1, hC, hCl, hU⟩
    simp only at hk1 hC hCl hU
    by_cases hk2 : k = 101
    · subst hk2
      simp only [go_sem, Nat.reduceBEq, Nat.reduceLT, Nat.reduceLeDiff, Nat.reduceAdd, Nat.reduceMul, Nat.reduceSub, Nat.reduceMod, Nat.reduceDiv, Nat.reduceEqDiff, Int.reduceToNat, reduceIte, reduceCtorEq, Int.reduceLE, Int.reduceLT, Int.reduceEq, Int.reduceNeg, Int.reduceAdd, Int.reduceSub, Int.reduceMul, show ¬ ((101 : Nat) : Int) ≤ 100 by omega]
      rw [← hU]
      rfl
    have e1 : ((k : Int) ≤ 100) = True := eq_true (by omega)
    have r0 : (0 : Int) < L.length := by omega
    simp only [go_sem, Nat.reduceBEq, Nat.reduceLT, Nat.reduceLeDiff, Nat.reduceAdd, Nat.reduceMul, Nat.reduceSub, Nat.reduceMod, Nat.reduceDiv, Nat.reduceEqDiff, Int.reduceToNat, reduceIte, reduceCtorEq, Int.reduceLE, Int.reduceLT, Int.reduceEq, Int.reduceNeg, Int.reduceAdd, Int.reduceSub, Int.reduceMul, e1, r0]
    rw [show 101 - k = (100 - k) + 1 by omega] at hU
    refine (darkest2_Q _ _ _ (n + 1) (stS C none) (C.getD 0 sh0) W H (by simp only [go_sem, Nat.reduceBEq, Nat.reduceLT, Nat.reduceLeDiff, Nat.reduceAdd, Nat.reduceMul, Nat.reduceSub, Nat.reduceMod, Nat.reduceDiv, Nat.reduceEqDiff, Int.reduceToNat, reduceIte, reduceCtorEq, Int.reduceLE, Int.reduceLT, Int.reduceEq, Int.reduceNeg, Int.reduceAdd, Int.reduceSub, Int.reduceMul]) (by omega) (hC.at0 (by omega)) (hC 0 (by omega)).good (hC 0 (by omega)).wide (hC 0 (by omega)).high).A ?_
    by_cases hd : mostN (C.getD 0 sh0) W (H * W) ≤ level
    · rw [timesU_stop hd] at hU
      simp only [go_sem, Nat.reduceBEq, Nat.reduceLT, Nat.reduceLeDiff, Nat.reduceAdd, Nat.reduceMul, Nat.reduceSub, Nat.reduceMod, Nat.reduceDiv, Nat.reduceEqDiff, Int.reduceToNat, reduceIte, reduceCtorEq, Int.reduceLE, Int.reduceLT, Int.reduceEq, Int.reduceNeg, Int.reduceAdd, Int.reduceSub, Int.reduceMul, hd]
      rw [← hU]
    rw [timesU_next hd] at hU
    simp only [go_sem, Nat.reduceBEq, Nat.reduceLT, Nat.reduceLeDiff, Nat.reduceAdd, Nat.reduceMul, Nat.reduceSub, Nat.reduceMod, Nat.reduceDiv, Nat.reduceEqDiff, Int.reduceToNat, reduceIte, reduceCtorEq, Int.reduceLE, Int.reduceLT, Int.reduceEq, Int.reduceNeg, Int.reduceAdd, Int.reduceSub, Int.reduceMul, hd]
    refine callA_false (pass2L_E _ _ _ (n + 1) cap' _ C hCl W H share (by simp only [go_sem, Nat.reduceBEq, Nat.reduceLT, Nat.reduceLeDiff, Nat.reduceAdd, Nat.reduceMul, Nat.reduceSub, Nat.reduceMod, Nat.reduceDiv, Nat.reduceEqDiff, Int.reduceToNat, reduceIte, reduceCtorEq, Int.reduceLE, Int.reduceLT, Int.reduceEq, Int.reduceNeg, Int.reduceAdd, Int.reduceSub, Int.reduceMul]) (by omega) hC hsh (by omega) _ ?_)
    obtain ⟨t1, t2⟩ := passS_ok hsh hC
    simp only [go_sem, Nat.reduceBEq, Nat.reduceLT, Nat.reduceLeDiff, Nat.reduceAdd, Nat.reduceMul, Nat.reduceSub, Nat.reduceMod, Nat.reduceDiv, Nat.reduceEqDiff, Int.reduceToNat, reduceIte, reduceCtorEq, Int.reduceLE, Int.reduceLT, Int.reduceEq, Int.reduceNeg, Int.reduceAdd, Int.reduceSub, Int.reduceMul]
    refine ⟨⟨(k + 1, (passS share W H C).L), by show k + 1 ≤ 101; omega, t1, t2.trans hCl, by rw [← hU]; show timesU share level W H (101 - (k + 1)) ((k + 1 : Nat) : Int) _ = _; rw [show 101 - (k + 1) = 100 - k by omega]; rfl⟩, by show 101 - (k + 1) < 101 - k; omega, ?_⟩
    refine Imp.id (by simp) ?_ ?_
    · simp only [go_sem, Nat.reduceBEq, Nat.reduceLT, Nat.reduceLeDiff, Nat.reduceAdd, Nat.reduceMul, Nat.reduceSub, Nat.reduceMod, Nat.reduceDiv, Nat.reduceEqDiff, Int.reduceToNat, reduceIte, reduceCtorEq, Int.reduceLE, Int.reduceLT, Int.reduceEq, Int.reduceNeg, Int.reduceAdd, Int.reduceSub, Int.reduceMul, w64 (n := (k : Int) + 1) (by omega), Int.natCast_add, Int.natCast_one, hCl]
      omega
    · (repeat (refine impH.cons0 (by first | (simp only [go_sem, Nat.reduceBEq, Nat.reduceLT, Nat.reduceLeDiff, Nat.reduceAdd, Nat.reduceMul, Nat.reduceSub, Nat.reduceMod, Nat.reduceDiv, Nat.reduceEqDiff, Int.reduceToNat, reduceIte, reduceCtorEq, Int.reduceLE, Int.reduceLT, Int.reduceEq, Int.reduceNeg, Int.reduceAdd, Int.reduceSub, Int.reduceMul, hget_hset_self]; done) | (simp only [go_sem, Nat.reduceBEq, Nat.reduceLT, Nat.reduceLeDiff, Nat.reduceAdd, Nat.reduceMul, Nat.reduceSub, Nat.reduceMod, Nat.reduceDiv, Nat.reduceEqDiff, Int.reduceToNat, reduceIte, reduceCtorEq, Int.reduceLE, Int.reduceLT, Int.reduceEq, Int.reduceNeg, Int.reduceAdd, Int.reduceSub, Int.reduceMul, hget_hset_self]; rfl)) (by simp) ?_ ?_; · exact SegLe.flat (Nat.le_refl _) id (by first | exact .inr rfl | exact .inl rfl) fun z hz => ⟨by first | rfl | exact dC_zero hz | exact dC_cl (by rfl) (by rfl) (by rfl) hz, by first | exact shC_flat _ _ | exact brC_flat _ hz | exact pair_flat _ _ hz | exact cellC_flat _ _ | exact dC_flat _ _ | exact stC_flat _ _ | exact cl_flat (l := [_, _, _, _, _]) (by simp [SV.flat]) hz | exact cl_flat (l := [_, _, _]) (by simp [SV.flat]) hz | trivial⟩)); exact impH.base0 (by first | exact hok | exact hok_set hok (fun k hk => stC_flat _ _) | exact hok_set hok (fun k hk => shC_flat _ _)) (by simp) (by first | (simp only [go_sem, Nat.reduceBEq, Nat.reduceLT, Nat.reduceLeDiff, Nat.reduceAdd, Nat.reduceMul, Nat.reduceSub, Nat.reduceMod, Nat.reduceDiv, Nat.reduceEqDiff, Int.reduceToNat, reduceIte, reduceCtorEq, Int.reduceLE, Int.reduceLT, Int.reduceEq, Int.reduceNeg, Int.reduceAdd, Int.reduceSub, Int.reduceMul, HExt_cons]; done) | (simp only [go_sem, Nat.reduceBEq, Nat.reduceLT, Nat.reduceLeDiff, Nat.reduceAdd, Nat.reduceMul, Nat.reduceSub, Nat.reduceMod, Nat.reduceDiv, Nat.reduceEqDiff, Int.reduceToNat, reduceIte, reduceCtorEq, Int.reduceLE, Int.reduceLT, Int.reduceEq, Int.reduceNeg, Int.reduceAdd, Int.reduceSub, Int.reduceMul, HExt_cons]; exact HExt.rfl))
set_option maxRecDepth 100000 in
theorem times_Q (i cap : Nat) (L : List Sh) (s : Seg) (share level : Int) (hs : hget h i = some s) (hi : i < n) (hL : StAt s L) (hLR : StR L) (hm9 : L.length ≤ 10000000) :
    CallQ Try.prog cx 10 [.sl i 0 L.length cap, .int .i64 share, .int .i64 level] h n (.tup 2 (cl [.int .i64 (timesR L share level).1, .int .i64 (timesR L share level).2])) := by
  have hn := hL.1
  refine callQ_of_T (P := Try.prog) hti (nt := 44) (rs := [.tmp 6, .tmp 7]) rfl rfl Try.call10 Try.func10 rfl _ (by simp only [go_sem, and_self]) (Nat.le_of_ble_eq_true rfl) _ (by first | exact trivial | (refine lt_flat rfl ?_; simp [SV.flat]; done) | simp only [go_sem]) fun hok => ?_
  simp only [go_sem, Nat.reduceBEq, Nat.reduceLT, Nat.reduceLeDiff, Nat.reduceAdd, Nat.reduceMul, Nat.reduceSub, Nat.reduceMod, Nat.reduceDiv, Nat.reduceEqDiff, Int.reduceToNat, reduceIte, reduceCtorEq, Int.reduceLE, Int.reduceLT, Int.reduceEq, Int.reduceNeg, Int.reduceAdd, Int.reduceSub, Int.reduceMul]
  refine (isShare_Q _ _ _ share).A ?_
  by_cases hs1 : 1 ≤ share ∧ share ≤ 15
  rotate_left
  · have hc : stAskC L share (decide (0 ≤ level ∧ level ≤ 3000)) = codeSt L false := by rw [← codeSt_ask, decide_eq_false hs1, Bool.false_and]
    have hc0 : codeSt L false ≠ 0 := by unfold codeSt; split <;> simp
    simp only [go_sem, Nat.reduceBEq, Nat.reduceLT, Nat.reduceLeDiff, Nat.reduceAdd, Nat.reduceMul, Nat.reduceSub, Nat.reduceMod, Nat.reduceDiv, Nat.reduceEqDiff, Int.reduceToNat, reduceIte, reduceCtorEq, Int.reduceLE, Int.reduceLT, Int.reduceEq, Int.reduceNeg, Int.reduceAdd, Int.reduceSub, Int.reduceMul, hs1]
    refine (codeSt_Q _ _ _ _ L (.inr ⟨i, cap, s, rfl, hi, hs, hL⟩) hLR hm9 false).A ?_
    rw [timesR_bad hc hc0]
    simp only [go_sem, Nat.reduceBEq, Nat.reduceLT, Nat.reduceLeDiff, Nat.reduceAdd, Nat.reduceMul, Nat.reduceSub, Nat.reduceMod, Nat.reduceDiv, Nat.reduceEqDiff, Int.reduceToNat, reduceIte, reduceCtorEq, Int.reduceLE, Int.reduceLT, Int.reduceEq, Int.reduceNeg, Int.reduceAdd, Int.reduceSub, Int.reduceMul, hc0]
  simp only [go_sem, Nat.reduceBEq, Nat.reduceLT, Nat.reduceLeDiff, Nat.reduceAdd, Nat.reduceMul, Nat.reduceSub, Nat.reduceMod, Nat.reduceDiv, Nat.reduceEqDiff, Int.reduceToNat, reduceIte, reduceCtorEq, Int.reduceLE, Int.reduceLT, Int.reduceEq, Int.reduceNeg, Int.reduceAdd, Int.reduceSub, Int.reduceMul, hs1]
  refine (isLevel_Q _ _ _ level).A ?_
  simp only [go_sem, Nat.reduceBEq, Nat.reduceLT, Nat.reduceLeDiff, Nat.reduceAdd, Nat.reduceMul, Nat.reduceSub, Nat.reduceMod, Nat.reduceDiv, Nat.reduceEqDiff, Int.reduceToNat, reduceIte, reduceCtorEq, Int.reduceLE, Int.reduceLT, Int.reduceEq, Int.reduceNeg, Int.reduceAdd, Int.reduceSub, Int.reduceMul]
  have hask : codeSt L (decide (0 ≤ level ∧ level ≤ 3000)) = stAskC L share (decide (0 ≤ level ∧ level ≤ 3000)) := by rw [← codeSt_ask, decide_eq_true hs1, Bool.true_and]
  refine (codeSt_Q _ _ _ _ L (.inr ⟨i, cap, s, rfl, hi, hs, hL⟩) hLR hm9 _).A ?_
  rw [hask]
  by_cases hc : stAskC L share (decide (0 ≤ level ∧ level ≤ 3000)) = 0
  rotate_left
  · rw [timesR_bad rfl hc]
    simp only [go_sem, Nat.reduceBEq, Nat.reduceLT, Nat.reduceLeDiff, Nat.reduceAdd, Nat.reduceMul, Nat.reduceSub, Nat.reduceMod, Nat.reduceDiv, Nat.reduceEqDiff, Int.reduceToNat, reduceIte, reduceCtorEq, Int.reduceLE, Int.reduceLT, Int.reduceEq, Int.reduceNeg, Int.reduceAdd, Int.reduceSub, Int.reduceMul, hc]
  by_cases h0 : L = []
  · rw [timesR_none hc h0]
    subst h0
    simp only [go_sem, Nat.reduceBEq, Nat.reduceLT, Nat.reduceLeDiff, Nat.reduceAdd, Nat.reduceMul, Nat.reduceSub, Nat.reduceMod, Nat.reduceDiv, Nat.reduceEqDiff, Int.reduceToNat, reduceIte, reduceCtorEq, Int.reduceLE, Int.reduceLT, Int.reduceEq, Int.reduceNeg, Int.reduceAdd, Int.reduceSub, Int.reduceMul, hc, List.length_nil]
  have hl : 0 < L.length := List.length_pos_iff.2 h0
  have e0 : ((L.length : Int) = 0) = False := eq_false (by omega)
  obtain ⟨hk, hsh, _⟩ := stAsk_ok hc
  have hG := stOk_good hk hLR
  rw [timesR_go hc h0]
  generalize (L.getD 0 sh0).wide.toNat = W at *
  generalize (L.getD 0 sh0).high.toNat = H at *
  generalize hRR : timesU share level W H 101 0 L = R
  simp only [go_sem, Nat.reduceBEq, Nat.reduceLT, Nat.reduceLeDiff, Nat.reduceAdd, Nat.reduceMul, Nat.reduceSub, Nat.reduceMod, Nat.reduceDiv, Nat.reduceEqDiff, Int.reduceToNat, reduceIte, reduceCtorEq, Int.reduceLE, Int.reduceLT, Int.reduceEq, Int.reduceNeg, Int.reduceAdd, Int.reduceSub, Int.reduceMul, hc, e0]
  refine callA_false (cloneC_E _ _ _ i cap L s (by simp only [go_sem, Nat.reduceBEq, Nat.reduceLT, Nat.reduceLeDiff, Nat.reduceAdd, Nat.reduceMul, Nat.reduceSub, Nat.reduceMod, Nat.reduceDiv, Nat.reduceEqDiff, Int.reduceToNat, reduceIte, reduceCtorEq, Int.reduceLE, Int.reduceLT, Int.reduceEq, Int.reduceNeg, Int.reduceAdd, Int.reduceSub, Int.reduceMul, hs, hi]) (by omega) hL hm9 _ fun cap' c1 c2 => ?_)
  simp only [go_sem, Nat.reduceBEq, Nat.reduceLT, Nat.reduceLeDiff, Nat.reduceAdd, Nat.reduceMul, Nat.reduceSub, Nat.reduceMod, Nat.reduceDiv, Nat.reduceEqDiff, Int.reduceToNat, reduceIte, reduceCtorEq, Int.reduceLE, Int.reduceLT, Int.reduceEq, Int.reduceNeg, Int.reduceAdd, Int.reduceSub, Int.reduceMul]
  refine T_lp (ι := { p : Nat × List Sh // p.1 ≤ 101 ∧ PGood p.2 W H ∧ p.2.length = L.length ∧ timesU share level W H (101 - p.1) p.1 p.2 = R })
    (fun p => ([(0, .sl i 0 L.length cap), (1, .int .i64 share), (2, .int .i64 level), (6, .int .i64 0), (7, .int .i64 0), (9, .sl n 0 L.length cap'), (31, .int .i64 p.1.1)],
      (n, stS p.1.2 none) :: h, n + 1)) (fun p => 101 - p.1.1) ⟨(0, L), by simp, hG, rfl, hRR⟩ ?_ ?_
  · refine Imp.id (by simp) ?_ ?_
    · simp only [go_sem, Nat.reduceBEq, Nat.reduceLT, Nat.reduceLeDiff, Nat.reduceAdd, Nat.reduceMul, Nat.reduceSub, Nat.reduceMod, Nat.reduceDiv, Nat.reduceEqDiff, Int.reduceToNat, reduceIte, reduceCtorEq, Int.reduceLE, Int.reduceLT, Int.reduceEq, Int.reduceNeg, Int.reduceAdd, Int.reduceSub, Int.reduceMul]
      omega
    · (repeat (refine impH.cons0 (by first | (simp only [go_sem, Nat.reduceBEq, Nat.reduceLT, Nat.reduceLeDiff, Nat.reduceAdd, Nat.reduceMul, Nat.reduceSub, Nat.reduceMod, Nat.reduceDiv, Nat.reduceEqDiff, Int.reduceToNat, reduceIte, reduceCtorEq, Int.reduceLE, Int.reduceLT, Int.reduceEq, Int.reduceNeg, Int.reduceAdd, Int.reduceSub, Int.reduceMul, hget_hset_self]; done) | (simp only [go_sem, Nat.reduceBEq, Nat.reduceLT, Nat.reduceLeDiff, Nat.reduceAdd, Nat.reduceMul, Nat.reduceSub, Nat.reduceMod, Nat.reduceDiv, Nat.reduceEqDiff, Int.reduceToNat, reduceIte, reduceCtorEq, Int.reduceLE, Int.reduceLT, Int.reduceEq, Int.reduceNeg, Int.reduceAdd, Int.reduceSub, Int.reduceMul, hget_hset_self]; rfl)) (by simp) ?_ ?_; · exact SegLe.flat (Nat.le_refl _) id (by first | exact .inr rfl | exact .inl rfl) fun z hz => ⟨by first | rfl | exact dC_zero hz | exact dC_cl (by rfl) (by rfl) (by rfl) hz, by first | exact shC_flat _ _ | exact brC_flat _ hz | exact pair_flat _ _ hz | exact cellC_flat _ _ | exact dC_flat _ _ | exact stC_flat _ _ | exact cl_flat (l := [_, _, _, _, _]) (by simp [SV.flat]) hz | exact cl_flat (l := [_, _, _]) (by simp [SV.flat]) hz | trivial⟩)); exact impH.base0 (by first | exact hok | exact hok_set hok (fun k hk => stC_flat _ _) | exact hok_set hok (fun k hk => shC_flat _ _)) (by simp) (by first | (simp only [go_sem, Nat.reduceBEq, Nat.reduceLT, Nat.reduceLeDiff, Nat.reduceAdd, Nat.reduceMul, Nat.reduceSub, Nat.reduceMod, Nat.reduceDiv, Nat.reduceEqDiff, Int.reduceToNat, reduceIte, reduceCtorEq, Int.reduceLE, Int.reduceLT, Int.reduceEq, Int.reduceNeg, Int.reduceAdd, Int.reduceSub, Int.reduceMul, HExt_cons]; done) | (simp only [go_sem, Nat.reduceBEq, Nat.reduceLT, Nat.reduceLeDiff, Nat.reduceAdd, Nat.reduceMul, Nat.reduceSub, Nat.reduceMod, Nat.reduceDiv, Nat.reduceEqDiff, Int.reduceToNat, reduceIte, reduceCtorEq, Int.reduceLE, Int.reduceLT, Int.reduceEq, Int.reduceNeg, Int.reduceAdd, Int.reduceSub, Int.reduceMul, HExt_cons]; exact HExt.rfl))
  · rintro ⟨⟨k, C⟩, hk1, hC, hCl, hU⟩
    simp only at hk1 hC hCl hU
    by_cases hk2 : k = 101
    · subst hk2
      simp only [go_sem, Nat.reduceBEq, Nat.reduceLT, Nat.reduceLeDiff, Nat.reduceAdd, Nat.reduceMul, Nat.reduceSub, Nat.reduceMod, Nat.reduceDiv, Nat.reduceEqDiff, Int.reduceToNat, reduceIte, reduceCtorEq, Int.reduceLE, Int.reduceLT, Int.reduceEq, Int.reduceNeg, Int.reduceAdd, Int.reduceSub, Int.reduceMul, show ¬ ((101 : Nat) : Int) < 101 by omega]
      rw [← hU]
      rfl
    have e1 : ((k : Int) < 101) = True := eq_true (by omega)
    have r0 : (0 : Int) < L.length := by omega
    simp only [go_sem, Nat.reduceBEq, Nat.reduceLT, Nat.reduceLeDiff, Nat.reduceAdd, Nat.reduceMul, Nat.reduceSub, Nat.reduceMod, Nat.reduceDiv, Nat.reduceEqDiff, Int.reduceToNat, reduceIte, reduceCtorEq, Int.reduceLE, Int.reduceLT, Int.reduceEq, Int.reduceNeg, Int.reduceAdd, Int.reduceSub, Int.reduceMul, e1, r0]
    rw [show 101 - k = (100 - k) + 1 by omega] at hU
    refine (isDarker_Q _ _ _ n 0 (stS C none) (C.getD 0 sh0) W H level (by simp only [go_sem, Nat.reduceBEq, Nat.reduceLT, Nat.reduceLeDiff, Nat.reduceAdd, Nat.reduceMul, Nat.reduceSub, Nat.reduceMod, Nat.reduceDiv, Nat.reduceEqDiff, Int.reduceToNat, reduceIte, reduceCtorEq, Int.reduceLE, Int.reduceLT, Int.reduceEq, Int.reduceNeg, Int.reduceAdd, Int.reduceSub, Int.reduceMul]) (by omega) (hC.at0 (by omega)) (hC 0 (by omega)).good (hC 0 (by omega)).wide (hC 0 (by omega)).high).A ?_
    by_cases hd : mostN (C.getD 0 sh0) W (H * W) ≤ level
    · rw [timesU_stop hd] at hU
      simp only [go_sem, Nat.reduceBEq, Nat.reduceLT, Nat.reduceLeDiff, Nat.reduceAdd, Nat.reduceMul, Nat.reduceSub, Nat.reduceMod, Nat.reduceDiv, Nat.reduceEqDiff, Int.reduceToNat, reduceIte, reduceCtorEq, Int.reduceLE, Int.reduceLT, Int.reduceEq, Int.reduceNeg, Int.reduceAdd, Int.reduceSub, Int.reduceMul, show ¬ level < mostN (C.getD 0 sh0) W (H * W) by omega]
      rw [← hU]
    rw [timesU_next hd] at hU
    simp only [go_sem, Nat.reduceBEq, Nat.reduceLT, Nat.reduceLeDiff, Nat.reduceAdd, Nat.reduceMul, Nat.reduceSub, Nat.reduceMod, Nat.reduceDiv, Nat.reduceEqDiff, Int.reduceToNat, reduceIte, reduceCtorEq, Int.reduceLE, Int.reduceLT, Int.reduceEq, Int.reduceNeg, Int.reduceAdd, Int.reduceSub, Int.reduceMul, show level < mostN (C.getD 0 sh0) W (H * W) by omega]
    refine callA_false (passL_E _ _ _ n cap' _ C hCl W H share (by simp only [go_sem, Nat.reduceBEq, Nat.reduceLT, Nat.reduceLeDiff, Nat.reduceAdd, Nat.reduceMul, Nat.reduceSub, Nat.reduceMod, Nat.reduceDiv, Nat.reduceEqDiff, Int.reduceToNat, reduceIte, reduceCtorEq, Int.reduceLE, Int.reduceLT, Int.reduceEq, Int.reduceNeg, Int.reduceAdd, Int.reduceSub, Int.reduceMul]) (by omega) hC hsh (by omega) _ ?_)
    obtain ⟨t1, t2⟩ := passS_ok hsh hC
    simp only [go_sem, Nat.reduceBEq, Nat.reduceLT, Nat.reduceLeDiff, Nat.reduceAdd, Nat.reduceMul, Nat.reduceSub, Nat.reduceMod, Nat.reduceDiv, Nat.reduceEqDiff, Int.reduceToNat, reduceIte, reduceCtorEq, Int.reduceLE, Int.reduceLT, Int.reduceEq, Int.reduceNeg, Int.reduceAdd, Int.reduceSub, Int.reduceMul]
    refine ⟨⟨(k + 1, (passS share W H C).L), by show k + 1 ≤ 101; omega, t1, t2.trans hCl, by rw [← hU]; show timesU share level W H (101 - (k + 1)) ((k + 1 : Nat) : Int) _ = _; rw [show 101 - (k + 1) = 100 - k by omega]; rfl⟩, by show 101 - (k + 1) < 101 - k; omega, ?_⟩
    refine Imp.id (by simp) ?_ ?_
    · simp only [go_sem, Nat.reduceBEq, Nat.reduceLT, Nat.reduceLeDiff, Nat.reduceAdd, Nat.reduceMul, Nat.reduceSub, Nat.reduceMod, Nat.reduceDiv, Nat.reduceEqDiff, Int.reduceToNat, reduceIte, reduceCtorEq, Int.reduceLE, Int.reduceLT, Int.reduceEq, Int.reduceNeg, Int.reduceAdd, Int.reduceSub, Int.reduceMul, w64 (n := (k : Int) + 1) (by omega), Int.natCast_add, Int.natCast_one, hCl]
      omega
    · (repeat (refine impH.cons0 (by first | (simp only [go_sem, Nat.reduceBEq, Nat.reduceLT, Nat.reduceLeDiff, Nat.reduceAdd, Nat.reduceMul, Nat.reduceSub, Nat.reduceMod, Nat.reduceDiv, Nat.reduceEqDiff, Int.reduceToNat, reduceIte, reduceCtorEq, Int.reduceLE, Int.reduceLT, Int.reduceEq, Int.reduceNeg, Int.reduceAdd, Int.reduceSub, Int.reduceMul, hget_hset_self]; done) | (simp only [go_sem, Nat.reduceBEq, Nat.reduceLT, Nat.reduceLeDiff, Nat.reduceAdd, Nat.reduceMul, Nat.reduceSub, Nat.reduceMod, Nat.reduceDiv, Nat.reduceEqDiff, Int.reduceToNat, reduceIte, reduceCtorEq, Int.reduceLE, Int.reduceLT, Int.reduceEq, Int.reduceNeg, Int.reduceAdd, Int.reduceSub, Int.reduceMul, hget_hset_self]; rfl)) (by simp) ?_ ?_; · exact SegLe.flat (Nat.le_refl _) id (by first | exact .inr rfl | exact .inl rfl) fun z hz => ⟨by first | rfl | exact dC_zero hz | exact dC_cl (by rfl) (by rfl) (by rfl) hz, by first | exact shC_flat _ _ | exact brC_flat _ hz | exact pair_flat _ _ hz | exact cellC_flat _ _ | exact dC_flat _ _ | exact stC_flat _ _ | exact cl_flat (l := [_, _, _, _, _]) (by simp [SV.flat]) hz | exact cl_flat (l := [_, _, _]) (by simp [SV.flat]) hz | trivial⟩)); exact impH.base0 (by first | exact hok | exact hok_set hok (fun k hk => stC_flat _ _) | exact hok_set hok (fun k hk => shC_flat _ _)) (by simp) (by first | (simp only [go_sem, Nat.reduceBEq, Nat.reduceLT, Nat.reduceLeDiff, Nat.reduceAdd, Nat.reduceMul, Nat.reduceSub, Nat.reduceMod, Nat.reduceDiv, Nat.reduceEqDiff, Int.reduceToNat, reduceIte, reduceCtorEq, Int.reduceLE, Int.reduceLT, Int.reduceEq, Int.reduceNeg, Int.reduceAdd, Int.reduceSub, Int.reduceMul, HExt_cons]; done) | (simp only [go_sem, Nat.reduceBEq, Nat.reduceLT, Nat.reduceLeDiff, Nat.reduceAdd, Nat.reduceMul, Nat.reduceSub, Nat.reduceMod, Nat.reduceDiv, Nat.reduceEqDiff, Int.reduceToNat, reduceIte, reduceCtorEq, Int.reduceLE, Int.reduceLT, Int.reduceEq, Int.reduceNeg, Int.reduceAdd, Int.reduceSub, Int.reduceMul, HExt_cons]; exact HExt.rfl))
end
end Go.Proofs.Ytjepjeaecmioaaa.V

/- Passing several times: both walks. -/
namespace Go.Proofs.Ytjepjeaecmioaaa.V
/-- A stack that a call has made. -/
def StOut (h : List (Nat × Seg)) (lo n : Nat) (V : SV) (L : List Sh) : Prop :=
  (V = .nils ∧ L = []) ∨ ∃ i cap s, V = .sl i 0 L.length cap ∧ lo ≤ i ∧ i < n ∧ hget h i = some s ∧ s.rw = true ∧ s.n = L.length * 266 ∧ ∀ k, k < L.length * 266 → s.c k = stC L k
theorem StOut.ok {h : List (Nat × Seg)} {lo n : Nat} {V : SV} {L : List Sh} (hA : StOut h lo n V L) : V.ok = True := by
  rcases hA with ⟨rfl, rfl⟩ | ⟨i, cap, s, rfl, _⟩ <;> rfl
theorem StOut.mono {h h' : List (Nat × Seg)} {lo n n' : Nat} {V : SV} {L : List Sh} (hA : StOut h lo n V L) (hn : n ≤ n') (hx : ∀ i, lo ≤ i → i < n → ∀ t, hget h i = some t → hget h' i = some t) : StOut h' lo n' V L := by
  rcases hA with h1 | ⟨i, cap, s, rfl, h1, h2, h3, h4⟩
  · exact .inl h1
  · exact .inr ⟨i, cap, s, rfl, h1, by omega, hx i h1 h2 s h3, h4⟩
theorem StOut.ext {h h' : List (Nat × Seg)} {lo n n' : Nat} {V : SV} {L : List Sh} (hA : StOut h lo n V L) (hn : n ≤ n') (hx : HExt n h h') : StOut h' lo n' V L := hA.mono hn fun i _ hi => hx i hi
theorem StOut.mono' {h : List (Nat × Seg)} {lo lo' n : Nat} {V : SV} {L : List Sh} (hA : StOut h lo n V L) (hl : lo' ≤ lo) : StOut h lo' n V L := by
  rcases hA with h1 | ⟨i, cap, s, rfl, h1, h2⟩
  · exact .inl h1
  · exact .inr ⟨i, cap, s, rfl, by omega, h2⟩
def passT (share : Int) (W H : Nat) (L : List Sh) : Nat → Pst
  | 0 => ⟨L, fun _ => 0, 0⟩
  | k + 1 => ⟨(passS share W H (passT share W H L k).L).L, addD (passT share W H L k).d (passS share W H (passT share W H L k).L).d, IntKind.i64.wrap ((passT share W H L k).w + (passS share W H (passT share W H L k).L).w)⟩
theorem passT_ok {share : Int} (hsh : 1 ≤ share ∧ share ≤ 15) {W H : Nat} {L : List Sh} (hG : PGood L W H) : ∀ k, PGood (passT share W H L k).L W H ∧ (passT share W H L k).L.length = L.length
  | 0 => ⟨hG, rfl⟩
  | k + 1 => by
    obtain ⟨h1, h2⟩ := passT_ok hsh hG k
    obtain ⟨h3, h4⟩ := passS_ok hsh h1
    exact ⟨h3, h4.trans h2⟩
noncomputable def passR (L : List Sh) (share times : Int) : Pst × Int :=
  if stAskC L share (decide (0 ≤ times ∧ times ≤ 100)) = 0 then (passT share (L.getD 0 sh0).wide.toNat (L.getD 0 sh0).high.toNat L times.toNat, 0) else (⟨[], fun _ => 0, 0⟩, stAskC L share (decide (0 ≤ times ∧ times ≤ 100)))
theorem passR_bad {L : List Sh} {share times : Int} (h : ¬ stAskC L share (decide (0 ≤ times ∧ times ≤ 100)) = 0) : passR L share times = (⟨[], fun _ => 0, 0⟩, stAskC L share (decide (0 ≤ times ∧ times ≤ 100))) := by unfold passR; rw [if_neg h]
theorem passR_go {L : List Sh} {share times : Int} (h : stAskC L share (decide (0 ≤ times ∧ times ≤ 100)) = 0) : passR L share times = (passT share (L.getD 0 sh0).wide.toNat (L.getD 0 sh0).high.toNat L times.toNat, 0) := by unfold passR; rw [if_pos h]
theorem passR_len {L : List Sh} {share times : Int} (hR : StR L) : (passR L share times).1.L.length ≤ 6 := by
  by_cases h : stAskC L share (decide (0 ≤ times ∧ times ≤ 100)) = 0
  · rw [passR_go h]
    obtain ⟨hk, hsh, _⟩ := stAsk_ok h
    have := (passT_ok hsh (stOk_good hk hR) times.toNat).2
    have h6 := hk.1
    show (passT _ _ _ _ _).L.length ≤ 6
    omega
  · rw [passR_bad h]; simp
theorem passR_R {L : List Sh} {share times : Int} (hR : StR L) : StR (passR L share times).1.L := by
  by_cases h : stAskC L share (decide (0 ≤ times ∧ times ≤ 100)) = 0
  · rw [passR_go h]
    obtain ⟨hk, hsh, _⟩ := stAsk_ok h
    exact (passT_ok hsh (stOk_good hk hR) times.toNat).1.stR
  · rw [passR_bad h]; intro i hi; simp at hi
section
variable (cx : Cx) (h : List (Nat × Seg)) (n : Nat)
set_option maxRecDepth 100000 in
theorem passTimes2_E (i cap : Nat) (L : List Sh) (s : Seg) (share times : Int) (hs : hget h i = some s) (hi : i < n) (hL : StAt s L) (hLR : StR L) (hm9 : L.length ≤ 10000000) (K : HK)
    (hK : ∀ V h' n', n ≤ n' → HExt n h h' → HOk n' h' → StOut h' n n' V (passR L share times).1.L → K (.tup 4 (cl [V, d3 (passR L share times).1.d, .int .i64 (passR L share times).1.w, .int .i64 (passR L share times).2])) h' n') :
    CallE Try.prog cx 12 [.sl i 0 L.length cap, .int .i64 share, .int .i64 times] h n K := by
  have hn := hL.1
  refine CallE.hokE ?_
  refine callE_of_T (P := Try.prog) hti (nt := 51) (rs := [.tmp 6, .cell 7 31, .tmp 8, .tmp 9]) rfl rfl Try.call12 Try.func12 rfl _ (by simp only [go_sem, and_self]) (Nat.le_of_ble_eq_true rfl) _ fun hok => ?_
  simp only [go_sem, Nat.reduceBEq, Nat.reduceLT, Nat.reduceLeDiff, Nat.reduceAdd, Nat.reduceMul, Nat.reduceSub, Nat.reduceMod, Nat.reduceDiv, Nat.reduceEqDiff, Int.reduceToNat, reduceIte, reduceCtorEq, Int.reduceLE, Int.reduceLT, Int.reduceEq, Int.reduceNeg, Int.reduceAdd, Int.reduceSub, Int.reduceMul]
  refine (in_Q _ _ _ _ _ _).A ?_
  simp only [go_sem, Nat.reduceBEq, Nat.reduceLT, Nat.reduceLeDiff, Nat.reduceAdd, Nat.reduceMul, Nat.reduceSub, Nat.reduceMod, Nat.reduceDiv, Nat.reduceEqDiff, Int.reduceToNat, reduceIte, reduceCtorEq, Int.reduceLE, Int.reduceLT, Int.reduceEq, Int.reduceNeg, Int.reduceAdd, Int.reduceSub, Int.reduceMul]
  refine (stAsked2_Q _ _ _ _ L (.inr ⟨i, cap, s, rfl, by omega, by simp only [go_sem, Nat.reduceBEq, Nat.reduceLT, Nat.reduceLeDiff, Nat.reduceAdd, Nat.reduceMul, Nat.reduceSub, Nat.reduceMod, Nat.reduceDiv, Nat.reduceEqDiff, Int.reduceToNat, reduceIte, reduceCtorEq, Int.reduceLE, Int.reduceLT, Int.reduceEq, Int.reduceNeg, Int.reduceAdd, Int.reduceSub, Int.reduceMul, hs, hi], hL⟩) hLR hm9 share _).A ?_
  by_cases hc : stAskC L share (decide (0 ≤ times ∧ times ≤ 100)) = 0
  rotate_left
  · simp only [go_sem, Nat.reduceBEq, Nat.reduceLT, Nat.reduceLeDiff, Nat.reduceAdd, Nat.reduceMul, Nat.reduceSub, Nat.reduceMod, Nat.reduceDiv, Nat.reduceEqDiff, Int.reduceToNat, reduceIte, reduceCtorEq, Int.reduceLE, Int.reduceLT, Int.reduceEq, Int.reduceNeg, Int.reduceAdd, Int.reduceSub, Int.reduceMul, hc]
    intro hok'
    have := hK (.sl (n + 1) 0 0 0) _ _ (by omega) (by simp only [go_sem, Nat.reduceBEq, Nat.reduceLT, Nat.reduceLeDiff, Nat.reduceAdd, Nat.reduceMul, Nat.reduceSub, Nat.reduceMod, Nat.reduceDiv, Nat.reduceEqDiff, Int.reduceToNat, reduceIte, reduceCtorEq, Int.reduceLE, Int.reduceLT, Int.reduceEq, Int.reduceNeg, Int.reduceAdd, Int.reduceSub, Int.reduceMul, HExt_cons]) hok' (by rw [passR_bad hc]; exact .inr ⟨n + 1, 0, _, rfl, by omega, by omega, (by first | (simp only [go_sem, Nat.reduceBEq, Nat.reduceLT, Nat.reduceLeDiff, Nat.reduceAdd, Nat.reduceMul, Nat.reduceSub, Nat.reduceMod, Nat.reduceDiv, Nat.reduceEqDiff, Int.reduceToNat, reduceIte, reduceCtorEq, Int.reduceLE, Int.reduceLT, Int.reduceEq, Int.reduceNeg, Int.reduceAdd, Int.reduceSub, Int.reduceMul]; done) | (simp only [go_sem, Nat.reduceBEq, Nat.reduceLT, Nat.reduceLeDiff, Nat.reduceAdd, Nat.reduceMul, Nat.reduceSub, Nat.reduceMod, Nat.reduceDiv, Nat.reduceEqDiff, Int.reduceToNat, reduceIte, reduceCtorEq, Int.reduceLE, Int.reduceLT, Int.reduceEq, Int.reduceNeg, Int.reduceAdd, Int.reduceSub, Int.reduceMul]; rfl)), rfl, rfl, fun k hk => by simp at hk⟩)
    rw [passR_bad hc] at this
    exact this
  obtain ⟨hk, hsh, hb⟩ := stAsk_ok hc
  have ht : 0 ≤ times ∧ times ≤ 100 := by simpa using hb
  obtain ⟨T, rfl⟩ : ∃ T : Nat, times = T := ⟨times.toNat, by omega⟩
  have hG := stOk_good hk hLR
  have hgo := passR_go hc
  rw [Int.toNat_natCast] at hgo
  rw [hgo] at hK
  generalize (L.getD 0 sh0).wide.toNat = W at *
  generalize (L.getD 0 sh0).high.toNat = H at *
  have hd0 : hdel h (n + 1) = h := hok.del (by omega)
  simp only [go_sem, Nat.reduceBEq, Nat.reduceLT, Nat.reduceLeDiff, Nat.reduceAdd, Nat.reduceMul, Nat.reduceSub, Nat.reduceMod, Nat.reduceDiv, Nat.reduceEqDiff, Int.reduceToNat, reduceIte, reduceCtorEq, Int.reduceLE, Int.reduceLT, Int.reduceEq, Int.reduceNeg, Int.reduceAdd, Int.reduceSub, Int.reduceMul, hc, hs, hi, hd0]
  refine ⟨⟨⟨trivial, Nat.succ_pos 265, ?_, ?_⟩, by omega⟩, fun cap' c1 c2 => ?_⟩
  · show 0 + L.length * 266 ≤ s.n
    omega
  · refine allP_iff.2 fun j hj => ?_
    have hj : j < L.length * 266 := hj
    show (s.c (0 + j)).one
    rw [Nat.zero_add, hL.2 j hj]
    exact (stC_flat L j).one
  refine T_lp (ι := { k : Nat // k ≤ T })
    (fun k => ([(1, .int .i64 share), (2, .int .i64 T), (6, .nils), (7, .ptr n 0), (11, .sl (n + 2) 0 L.length cap'), (12, .ptr (n + 3) 0), (13, .int .i64 (passT share W H L k.1).w), (14, .int .i64 k.1)],
      (n + 3, ⟨3, cl [.int .i64 ((passT share W H L k.1).d 0), .int .i64 ((passT share W H L k.1).d 1), .int .i64 ((passT share W H L k.1).d 2)], true, none⟩) :: (n + 2, stS (passT share W H L k.1).L none) :: (n, ⟨3, cl [.int .i64 0, .int .i64 0, .int .i64 0], true, none⟩) :: h, n + 4)) (fun k => T - k.1) ⟨0, Nat.zero_le _⟩ ?_ ?_
  · refine Imp.id (by simp) ?_ ?_
    · simp only [go_sem, Nat.reduceBEq, Nat.reduceLT, Nat.reduceLeDiff, Nat.reduceAdd, Nat.reduceMul, Nat.reduceSub, Nat.reduceMod, Nat.reduceDiv, Nat.reduceEqDiff, Int.reduceToNat, reduceIte, reduceCtorEq, Int.reduceLE, Int.reduceLT, Int.reduceEq, Int.reduceNeg, Int.reduceAdd, Int.reduceSub, Int.reduceMul, passT]
      omega
    · refine impH.cons0 (by first | (simp only [go_sem, Nat.reduceBEq, Nat.reduceLT, Nat.reduceLeDiff, Nat.reduceAdd, Nat.reduceMul, Nat.reduceSub, Nat.reduceMod, Nat.reduceDiv, Nat.reduceEqDiff, Int.reduceToNat, reduceIte, reduceCtorEq, Int.reduceLE, Int.reduceLT, Int.reduceEq, Int.reduceNeg, Int.reduceAdd, Int.reduceSub, Int.reduceMul]; done) | (simp only [go_sem, Nat.reduceBEq, Nat.reduceLT, Nat.reduceLeDiff, Nat.reduceAdd, Nat.reduceMul, Nat.reduceSub, Nat.reduceMod, Nat.reduceDiv, Nat.reduceEqDiff, Int.reduceToNat, reduceIte, reduceCtorEq, Int.reduceLE, Int.reduceLT, Int.reduceEq, Int.reduceNeg, Int.reduceAdd, Int.reduceSub, Int.reduceMul]; rfl)) (by simp) ?_ (impH.cons0 (by first | (simp only [go_sem, Nat.reduceBEq, Nat.reduceLT, Nat.reduceLeDiff, Nat.reduceAdd, Nat.reduceMul, Nat.reduceSub, Nat.reduceMod, Nat.reduceDiv, Nat.reduceEqDiff, Int.reduceToNat, reduceIte, reduceCtorEq, Int.reduceLE, Int.reduceLT, Int.reduceEq, Int.reduceNeg, Int.reduceAdd, Int.reduceSub, Int.reduceMul]; done) | (simp only [go_sem, Nat.reduceBEq, Nat.reduceLT, Nat.reduceLeDiff, Nat.reduceAdd, Nat.reduceMul, Nat.reduceSub, Nat.reduceMod, Nat.reduceDiv, Nat.reduceEqDiff, Int.reduceToNat, reduceIte, reduceCtorEq, Int.reduceLE, Int.reduceLT, Int.reduceEq, Int.reduceNeg, Int.reduceAdd, Int.reduceSub, Int.reduceMul]; rfl)) (by simp) ?_ (impH.cons0 (by first | (simp only [go_sem, Nat.reduceBEq, Nat.reduceLT, Nat.reduceLeDiff, Nat.reduceAdd, Nat.reduceMul, Nat.reduceSub, Nat.reduceMod, Nat.reduceDiv, Nat.reduceEqDiff, Int.reduceToNat, reduceIte, reduceCtorEq, Int.reduceLE, Int.reduceLT, Int.reduceEq, Int.reduceNeg, Int.reduceAdd, Int.reduceSub, Int.reduceMul]; done) | (simp only [go_sem, Nat.reduceBEq, Nat.reduceLT, Nat.reduceLeDiff, Nat.reduceAdd, Nat.reduceMul, Nat.reduceSub, Nat.reduceMod, Nat.reduceDiv, Nat.reduceEqDiff, Int.reduceToNat, reduceIte, reduceCtorEq, Int.reduceLE, Int.reduceLT, Int.reduceEq, Int.reduceNeg, Int.reduceAdd, Int.reduceSub, Int.reduceMul]; rfl)) (by simp) ?_ (impH.base0 hok (by simp) (by simp only [go_sem, Nat.reduceBEq, Nat.reduceLT, Nat.reduceLeDiff, Nat.reduceAdd, Nat.reduceMul, Nat.reduceSub, Nat.reduceMod, Nat.reduceDiv, Nat.reduceEqDiff, Int.reduceToNat, reduceIte, reduceCtorEq, Int.reduceLE, Int.reduceLT, Int.reduceEq, Int.reduceNeg, Int.reduceAdd, Int.reduceSub, Int.reduceMul, HExt_cons]))))
      · exact SegLe.flat (Nat.le_refl _) id (.inr rfl) fun z hz => ⟨rfl, cl_flat (l := [_, _, _]) (by simp [SV.flat]) hz⟩
      · refine SegLe.flat (Nat.le_refl _) id (.inl rfl) fun z hz => ⟨?_, stC_flat _ _⟩
        refine Eq.trans ?_ (hL.2 z hz)
        simp only [both, news, Nat.not_lt_zero, if_false, Nat.sub_zero, Nat.zero_add]
      · exact SegLe.flat (Nat.le_refl _) id (.inr rfl) fun z hz => ⟨rfl, cl_flat (l := [_, _, _]) (by simp [SV.flat]) hz⟩
  · rintro ⟨k, hk1⟩
    obtain ⟨hC, hCl⟩ := passT_ok hsh hG k
    have hsucc : passT share W H L (k + 1) = ⟨(passS share W H (passT share W H L k).L).L, addD (passT share W H L k).d (passS share W H (passT share W H L k).L).d, IntKind.i64.wrap ((passT share W H L k).w + (passS share W H (passT share W H L k).L).w)⟩ := rfl
    simp only [go_sem, Nat.reduceBEq, Nat.reduceLT, Nat.reduceLeDiff, Nat.reduceAdd, Nat.reduceMul, Nat.reduceSub, Nat.reduceMod, Nat.reduceDiv, Nat.reduceEqDiff, Int.reduceToNat, reduceIte, reduceCtorEq, Int.reduceLE, Int.reduceLT, Int.reduceEq, Int.reduceNeg, Int.reduceAdd, Int.reduceSub, Int.reduceMul, decide_eq_true_eq, decide_eq_false_iff_not]
    refine ⟨fun h1 => ?_, fun h1 => ?_⟩
    · generalize hCC : passT share W H L k = C at *
      refine callA_false (pass2L_E _ _ _ (n + 2) cap' _ C.L hCl W H share (by first | (simp only [go_sem, Nat.reduceBEq, Nat.reduceLT, Nat.reduceLeDiff, Nat.reduceAdd, Nat.reduceMul, Nat.reduceSub, Nat.reduceMod, Nat.reduceDiv, Nat.reduceEqDiff, Int.reduceToNat, reduceIte, reduceCtorEq, Int.reduceLE, Int.reduceLT, Int.reduceEq, Int.reduceNeg, Int.reduceAdd, Int.reduceSub, Int.reduceMul]; done) | (simp only [go_sem, Nat.reduceBEq, Nat.reduceLT, Nat.reduceLeDiff, Nat.reduceAdd, Nat.reduceMul, Nat.reduceSub, Nat.reduceMod, Nat.reduceDiv, Nat.reduceEqDiff, Int.reduceToNat, reduceIte, reduceCtorEq, Int.reduceLE, Int.reduceLT, Int.reduceEq, Int.reduceNeg, Int.reduceAdd, Int.reduceSub, Int.reduceMul]; rfl)) (by omega) hC hsh (by omega) _ ?_)
      generalize passS share W H C.L = P at *
      simp only [go_sem, Nat.reduceBEq, Nat.reduceLT, Nat.reduceLeDiff, Nat.reduceAdd, Nat.reduceMul, Nat.reduceSub, Nat.reduceMod, Nat.reduceDiv, Nat.reduceEqDiff, Int.reduceToNat, reduceIte, reduceCtorEq, Int.reduceLE, Int.reduceLT, Int.reduceEq, Int.reduceNeg, Int.reduceAdd, Int.reduceSub, Int.reduceMul]
      refine (plus2_Q _ _ _ C.d P.d).A ?_
      simp only [go_sem, Nat.reduceBEq, Nat.reduceLT, Nat.reduceLeDiff, Nat.reduceAdd, Nat.reduceMul, Nat.reduceSub, Nat.reduceMod, Nat.reduceDiv, Nat.reduceEqDiff, Int.reduceToNat, reduceIte, reduceCtorEq, Int.reduceLE, Int.reduceLT, Int.reduceEq, Int.reduceNeg, Int.reduceAdd, Int.reduceSub, Int.reduceMul]
      refine ⟨⟨k + 1, by omega⟩, by show T - (k + 1) < T - k; omega, ?_⟩
      rw [hsucc]
      refine Imp.id (by simp) ?_ ?_
      · simp only [go_sem, Nat.reduceBEq, Nat.reduceLT, Nat.reduceLeDiff, Nat.reduceAdd, Nat.reduceMul, Nat.reduceSub, Nat.reduceMod, Nat.reduceDiv, Nat.reduceEqDiff, Int.reduceToNat, reduceIte, reduceCtorEq, Int.reduceLE, Int.reduceLT, Int.reduceEq, Int.reduceNeg, Int.reduceAdd, Int.reduceSub, Int.reduceMul, w64 (n := (k : Int) + 1) (by omega), Int.natCast_add, Int.natCast_one]
        omega
      · (repeat (refine impH.cons0 (by first | (simp only [go_sem, Nat.reduceBEq, Nat.reduceLT, Nat.reduceLeDiff, Nat.reduceAdd, Nat.reduceMul, Nat.reduceSub, Nat.reduceMod, Nat.reduceDiv, Nat.reduceEqDiff, Int.reduceToNat, reduceIte, reduceCtorEq, Int.reduceLE, Int.reduceLT, Int.reduceEq, Int.reduceNeg, Int.reduceAdd, Int.reduceSub, Int.reduceMul, hget_hset_self]; done) | (simp only [go_sem, Nat.reduceBEq, Nat.reduceLT, Nat.reduceLeDiff, Nat.reduceAdd, Nat.reduceMul, Nat.reduceSub, Nat.reduceMod, Nat.reduceDiv, Nat.reduceEqDiff, Int.reduceToNat, reduceIte, reduceCtorEq, Int.reduceLE, Int.reduceLT, Int.reduceEq, Int.reduceNeg, Int.reduceAdd, Int.reduceSub, Int.reduceMul, hget_hset_self]; rfl)) (by simp) ?_ ?_; · exact SegLe.flat (Nat.le_refl _) id (by first | exact .inr rfl | exact .inl rfl) fun z hz => ⟨by first | rfl | exact dC_zero hz | exact dC_cl (by rfl) (by rfl) (by rfl) hz, by first | exact shC_flat _ _ | exact brC_flat _ hz | exact pair_flat _ _ hz | exact cellC_flat _ _ | exact dC_flat _ _ | exact stC_flat _ _ | exact cl_flat (l := [_, _, _, _, _]) (by simp [SV.flat]) hz | exact cl_flat (l := [_, _, _]) (by simp [SV.flat]) hz | trivial⟩)); exact impH.base0 (by first | exact hok | exact hok_set hok (fun k hk => stC_flat _ _) | exact hok_set hok (fun k hk => shC_flat _ _)) (by simp) (by first | (simp only [go_sem, Nat.reduceBEq, Nat.reduceLT, Nat.reduceLeDiff, Nat.reduceAdd, Nat.reduceMul, Nat.reduceSub, Nat.reduceMod, Nat.reduceDiv, Nat.reduceEqDiff, Int.reduceToNat, reduceIte, reduceCtorEq, Int.reduceLE, Int.reduceLT, Int.reduceEq, Int.reduceNeg, Int.reduceAdd, Int.reduceSub, Int.reduceMul, HExt_cons]; done) | (simp only [go_sem, Nat.reduceBEq, Nat.reduceLT, Nat.reduceLeDiff, Nat.reduceAdd, Nat.reduceMul, Nat.reduceSub, Nat.reduceMod, Nat.reduceDiv, Nat.reduceEqDiff, Int.reduceToNat, reduceIte, reduceCtorEq, Int.reduceLE, Int.reduceLT, Int.reduceEq, Int.reduceNeg, Int.reduceAdd, Int.reduceSub, Int.reduceMul, HExt_cons]; exact HExt.rfl))
    · have hk2 : k = T := by omega
      subst hk2
      refine T_drawG hti 7 [4] (.b 0 0 (.b 0 1 (.b 0 2 (.b 0 3 (.b 4 4 (.b 0 5 (.b 0 6 (.f) .o) .o) .o) .o) .o) .o) .o) _ _ (by kernel_rfl) (by kernel_rfl) ?_
      simp only [go_sem, Nat.reduceBEq, Nat.reduceLT, Nat.reduceLeDiff, Nat.reduceAdd, Nat.reduceMul, Nat.reduceSub, Nat.reduceMod, Nat.reduceDiv, Nat.reduceEqDiff, Int.reduceToNat, reduceIte, reduceCtorEq, Int.reduceLE, Int.reduceLT, Int.reduceEq, Int.reduceNeg, Int.reduceAdd, Int.reduceSub, Int.reduceMul]
      exact fun hok' => hK _ _ _ (by omega) (by simp only [go_sem, Nat.reduceBEq, Nat.reduceLT, Nat.reduceLeDiff, Nat.reduceAdd, Nat.reduceMul, Nat.reduceSub, Nat.reduceMod, Nat.reduceDiv, Nat.reduceEqDiff, Int.reduceToNat, reduceIte, reduceCtorEq, Int.reduceLE, Int.reduceLT, Int.reduceEq, Int.reduceNeg, Int.reduceAdd, Int.reduceSub, Int.reduceMul, HExt_cons]) hok' (.inr ⟨n + 2, cap', _, by rw [hCl], by omega, by omega, (by first | (simp only [go_sem, Nat.reduceBEq, Nat.reduceLT, Nat.reduceLeDiff, Nat.reduceAdd, Nat.reduceMul, Nat.reduceSub, Nat.reduceMod, Nat.reduceDiv, Nat.reduceEqDiff, Int.reduceToNat, reduceIte, reduceCtorEq, Int.reduceLE, Int.reduceLT, Int.reduceEq, Int.reduceNeg, Int.reduceAdd, Int.reduceSub, Int.reduceMul]; done) | (simp only [go_sem, Nat.reduceBEq, Nat.reduceLT, Nat.reduceLeDiff, Nat.reduceAdd, Nat.reduceMul, Nat.reduceSub, Nat.reduceMod, Nat.reduceDiv, Nat.reduceEqDiff, Int.reduceToNat, reduceIte, reduceCtorEq, Int.reduceLE, Int.reduceLT, Int.reduceEq, Int.reduceNeg, Int.reduceAdd, Int.reduceSub, Int.reduceMul]; rfl)), rfl, rfl, fun _ _ => rfl⟩)
set_option maxRecDepth 100000 in
theorem passTimes_E (i cap : Nat) (L : List Sh) (s : Seg) (share times : Int) (hs : hget h i = some s) (hi : i < n) (hL : StAt s L) (hLR : StR L) (hm9 : L.length ≤ 10000000) (K : HK)
    (hK : ∀ V h' n', n ≤ n' → HExt n h h' → HOk n' h' → StOut h' n n' V (passR L share times).1.L → K (.tup 4 (cl [V, d3 (passR L share times).1.d, .int .i64 (passR L share times).1.w, .int .i64 (passR L share times).2])) h' n') :
    CallE Try.prog cx 13 [.sl i 0 L.length cap, .int .i64 share, .int .i64 times] h n K := by
  have hn := hL.1
  refine CallE.hokE ?_
  refine callE_of_T (P := Try.prog) hti (nt := 49) (rs := [.tmp 6, .cell 7 31, .tmp 8, .tmp 9]) rfl rfl Try.call13 Try.func13 rfl _ (by simp only [go_sem, and_self]) (Nat.le_of_ble_eq_true rfl) _ fun hok => ?_
  simp only [go_sem, Nat.reduceBEq, Nat.reduceLT, Nat.reduceLeDiff, Nat.reduceAdd, Nat.reduceMul, Nat.reduceSub, Nat.reduceMod, Nat.reduceDiv, Nat.reduceEqDiff, Int.reduceToNat, reduceIte, reduceCtorEq, Int.reduceLE, Int.reduceLT, Int.reduceEq, Int.reduceNeg, Int.reduceAdd, Int.reduceSub, Int.reduceMul]
  refine (isShare_Q _ _ _ share).A ?_
  have bad : ∀ h' n', n + 1 ≤ n' → HExt n h h' → ¬ stAskC L share (decide (0 ≤ times ∧ times ≤ 100)) = 0 → HOk n' h' → K (.tup 4 (cl [.nils, d3 fun _ => 0, .int .i64 0, .int .i64 (stAskC L share (decide (0 ≤ times ∧ times ≤ 100)))])) h' n' := fun h' n' hn' hx hc hok' => by
    have := hK .nils h' n' (by omega) hx hok' (by rw [passR_bad hc]; exact .inl ⟨rfl, rfl⟩)
    rw [passR_bad hc] at this
    exact this
  by_cases hs1 : 1 ≤ share ∧ share ≤ 15
  rotate_left
  · have hc : stAskC L share (decide (0 ≤ times ∧ times ≤ 100)) = codeSt L false := by rw [← codeSt_ask, decide_eq_false hs1, Bool.false_and]
    have hc0 : codeSt L false ≠ 0 := by unfold codeSt; split <;> simp
    simp only [go_sem, Nat.reduceBEq, Nat.reduceLT, Nat.reduceLeDiff, Nat.reduceAdd, Nat.reduceMul, Nat.reduceSub, Nat.reduceMod, Nat.reduceDiv, Nat.reduceEqDiff, Int.reduceToNat, reduceIte, reduceCtorEq, Int.reduceLE, Int.reduceLT, Int.reduceEq, Int.reduceNeg, Int.reduceAdd, Int.reduceSub, Int.reduceMul, hs1]
    refine (codeSt_Q _ _ _ _ L (.inr ⟨i, cap, s, rfl, by omega, by simp only [go_sem, Nat.reduceBEq, Nat.reduceLT, Nat.reduceLeDiff, Nat.reduceAdd, Nat.reduceMul, Nat.reduceSub, Nat.reduceMod, Nat.reduceDiv, Nat.reduceEqDiff, Int.reduceToNat, reduceIte, reduceCtorEq, Int.reduceLE, Int.reduceLT, Int.reduceEq, Int.reduceNeg, Int.reduceAdd, Int.reduceSub, Int.reduceMul, hs, hi], hL⟩) hLR hm9 false).A ?_
    simp only [go_sem, Nat.reduceBEq, Nat.reduceLT, Nat.reduceLeDiff, Nat.reduceAdd, Nat.reduceMul, Nat.reduceSub, Nat.reduceMod, Nat.reduceDiv, Nat.reduceEqDiff, Int.reduceToNat, reduceIte, reduceCtorEq, Int.reduceLE, Int.reduceLT, Int.reduceEq, Int.reduceNeg, Int.reduceAdd, Int.reduceSub, Int.reduceMul, hc0]
    rw [← hc] at hc0 ⊢
    exact fun hok' => bad _ _ (by omega) (by simp only [go_sem, Nat.reduceBEq, Nat.reduceLT, Nat.reduceLeDiff, Nat.reduceAdd, Nat.reduceMul, Nat.reduceSub, Nat.reduceMod, Nat.reduceDiv, Nat.reduceEqDiff, Int.reduceToNat, reduceIte, reduceCtorEq, Int.reduceLE, Int.reduceLT, Int.reduceEq, Int.reduceNeg, Int.reduceAdd, Int.reduceSub, Int.reduceMul, HExt_cons]) hc0 hok'
  simp only [go_sem, Nat.reduceBEq, Nat.reduceLT, Nat.reduceLeDiff, Nat.reduceAdd, Nat.reduceMul, Nat.reduceSub, Nat.reduceMod, Nat.reduceDiv, Nat.reduceEqDiff, Int.reduceToNat, reduceIte, reduceCtorEq, Int.reduceLE, Int.reduceLT, Int.reduceEq, Int.reduceNeg, Int.reduceAdd, Int.reduceSub, Int.reduceMul, hs1]
  refine (within_Q _ _ _ _ _ _).A ?_
  simp only [go_sem, Nat.reduceBEq, Nat.reduceLT, Nat.reduceLeDiff, Nat.reduceAdd, Nat.reduceMul, Nat.reduceSub, Nat.reduceMod, Nat.reduceDiv, Nat.reduceEqDiff, Int.reduceToNat, reduceIte, reduceCtorEq, Int.reduceLE, Int.reduceLT, Int.reduceEq, Int.reduceNeg, Int.reduceAdd, Int.reduceSub, Int.reduceMul]
  have hask : codeSt L (decide (0 ≤ times ∧ times ≤ 100)) = stAskC L share (decide (0 ≤ times ∧ times ≤ 100)) := by rw [← codeSt_ask, decide_eq_true hs1, Bool.true_and]
  refine (codeSt_Q _ _ _ _ L (.inr ⟨i, cap, s, rfl, by omega, by simp only [go_sem, Nat.reduceBEq, Nat.reduceLT, Nat.reduceLeDiff, Nat.reduceAdd, Nat.reduceMul, Nat.reduceSub, Nat.reduceMod, Nat.reduceDiv, Nat.reduceEqDiff, Int.reduceToNat, reduceIte, reduceCtorEq, Int.reduceLE, Int.reduceLT, Int.reduceEq, Int.reduceNeg, Int.reduceAdd, Int.reduceSub, Int.reduceMul, hs, hi], hL⟩) hLR hm9 _).A ?_
  rw [hask]
  by_cases hc : stAskC L share (decide (0 ≤ times ∧ times ≤ 100)) = 0
  rotate_left
  · simp only [go_sem, Nat.reduceBEq, Nat.reduceLT, Nat.reduceLeDiff, Nat.reduceAdd, Nat.reduceMul, Nat.reduceSub, Nat.reduceMod, Nat.reduceDiv, Nat.reduceEqDiff, Int.reduceToNat, reduceIte, reduceCtorEq, Int.reduceLE, Int.reduceLT, Int.reduceEq, Int.reduceNeg, Int.reduceAdd, Int.reduceSub, Int.reduceMul, hc]
    exact fun hok' => bad _ _ (by omega) (by simp only [go_sem, Nat.reduceBEq, Nat.reduceLT, Nat.reduceLeDiff, Nat.reduceAdd, Nat.reduceMul, Nat.reduceSub, Nat.reduceMod, Nat.reduceDiv, Nat.reduceEqDiff, Int.reduceToNat, reduceIte, reduceCtorEq, Int.reduceLE, Int.reduceLT, Int.reduceEq, Int.reduceNeg, Int.reduceAdd, Int.reduceSub, Int.reduceMul, HExt_cons]) hc hok'
  obtain ⟨hk, hsh, hb⟩ := stAsk_ok hc
  have ht : 0 ≤ times ∧ times ≤ 100 := by simpa using hb
  obtain ⟨T, rfl⟩ : ∃ T : Nat, times = T := ⟨times.toNat, by omega⟩
  have hG := stOk_good hk hLR
  have hgo := passR_go hc
  rw [Int.toNat_natCast] at hgo
  rw [hgo] at hK
  clear bad
  generalize (L.getD 0 sh0).wide.toNat = W at *
  generalize (L.getD 0 sh0).high.toNat = H at *
  simp only [go_sem, Nat.reduceBEq, Nat.reduceLT, Nat.reduceLeDiff, Nat.reduceAdd, Nat.reduceMul, Nat.reduceSub, Nat.reduceMod, Nat.reduceDiv, Nat.reduceEqDiff, Int.reduceToNat, reduceIte, reduceCtorEq, Int.reduceLE, Int.reduceLT, Int.reduceEq, Int.reduceNeg, Int.reduceAdd, Int.reduceSub, Int.reduceMul, hc]
  refine callA_false (cloneC_E _ _ _ i cap L s (by simp only [go_sem, Nat.reduceBEq, Nat.reduceLT, Nat.reduceLeDiff, Nat.reduceAdd, Nat.reduceMul, Nat.reduceSub, Nat.reduceMod, Nat.reduceDiv, Nat.reduceEqDiff, Int.reduceToNat, reduceIte, reduceCtorEq, Int.reduceLE, Int.reduceLT, Int.reduceEq, Int.reduceNeg, Int.reduceAdd, Int.reduceSub, Int.reduceMul, hs, hi]) (by omega) hL hm9 _ fun cap' c1 c2 => ?_)
  simp only [go_sem, Nat.reduceBEq, Nat.reduceLT, Nat.reduceLeDiff, Nat.reduceAdd, Nat.reduceMul, Nat.reduceSub, Nat.reduceMod, Nat.reduceDiv, Nat.reduceEqDiff, Int.reduceToNat, reduceIte, reduceCtorEq, Int.reduceLE, Int.reduceLT, Int.reduceEq, Int.reduceNeg, Int.reduceAdd, Int.reduceSub, Int.reduceMul]
  refine T_lp (ι := { k : Nat // k ≤ T })
    (fun k => ([(1, .int .i64 share), (2, .int .i64 T), (6, .nils), (7, .ptr n 0), (11, .sl (n + 1) 0 L.length cap'), (12, .ptr (n + 2) 0), (13, .int .i64 (passT share W H L k.1).w), (31, .int .i64 T), (32, .int .i64 k.1)],
      (n + 2, ⟨3, cl [.int .i64 ((passT share W H L k.1).d 0), .int .i64 ((passT share W H L k.1).d 1), .int .i64 ((passT share W H L k.1).d 2)], true, none⟩) :: (n + 1, stS (passT share W H L k.1).L none) :: (n, ⟨3, cl [.int .i64 0, .int .i64 0, .int .i64 0], true, none⟩) :: h, n + 3)) (fun k => T - k.1) ⟨0, Nat.zero_le _⟩ ?_ ?_
  · refine Imp.id (by simp) ?_ ?_
    · simp only [go_sem, Nat.reduceBEq, Nat.reduceLT, Nat.reduceLeDiff, Nat.reduceAdd, Nat.reduceMul, Nat.reduceSub, Nat.reduceMod, Nat.reduceDiv, Nat.reduceEqDiff, Int.reduceToNat, reduceIte, reduceCtorEq, Int.reduceLE, Int.reduceLT, Int.reduceEq, Int.reduceNeg, Int.reduceAdd, Int.reduceSub, Int.reduceMul, passT]
      omega
    · (repeat (refine impH.cons0 (by first | (simp only [go_sem, Nat.reduceBEq, Nat.reduceLT, Nat.reduceLeDiff, Nat.reduceAdd, Nat.reduceMul, Nat.reduceSub, Nat.reduceMod, Nat.reduceDiv, Nat.reduceEqDiff, Int.reduceToNat, reduceIte, reduceCtorEq, Int.reduceLE, Int.reduceLT, Int.reduceEq, Int.reduceNeg, Int.reduceAdd, Int.reduceSub, Int.reduceMul, hget_hset_self]; done) | (simp only [go_sem, Nat.reduceBEq, Nat.reduceLT, Nat.reduceLeDiff, Nat.reduceAdd, Nat.reduceMul, Nat.reduceSub, Nat.reduceMod, Nat.reduceDiv, Nat.reduceEqDiff, Int.reduceToNat, reduceIte, reduceCtorEq, Int.reduceLE, Int.reduceLT, Int.reduceEq, Int.reduceNeg, Int.reduceAdd, Int.reduceSub, Int.reduceMul, hget_hset_self]; rfl)) (by simp) ?_ ?_; · exact SegLe.flat (Nat.le_refl _) id (by first | exact .inr rfl | exact .inl rfl) fun z hz => ⟨by first | rfl | exact dC_zero hz | exact dC_cl (by rfl) (by rfl) (by rfl) hz, by first | exact shC_flat _ _ | exact brC_flat _ hz | exact pair_flat _ _ hz | exact cellC_flat _ _ | exact dC_flat _ _ | exact stC_flat _ _ | exact cl_flat (l := [_, _, _, _, _]) (by simp [SV.flat]) hz | exact cl_flat (l := [_, _, _]) (by simp [SV.flat]) hz | trivial⟩)); exact impH.base0 (by first | exact hok | exact hok_set hok (fun k hk => stC_flat _ _) | exact hok_set hok (fun k hk => shC_flat _ _)) (by simp) (by first | (simp only [go_sem, Nat.reduceBEq, Nat.reduceLT, Nat.reduceLeDiff, Nat.reduceAdd, Nat.reduceMul, Nat.reduceSub, Nat.reduceMod, Nat.reduceDiv, Nat.reduceEqDiff, Int.reduceToNat, reduceIte, reduceCtorEq, Int.reduceLE, Int.reduceLT, Int.reduceEq, Int.reduceNeg, Int.reduceAdd, Int.reduceSub, Int.reduceMul, HExt_cons]; done) | (simp only [go_sem, Nat.reduceBEq, Nat.reduceLT, Nat.reduceLeDiff, Nat.reduceAdd, Nat.reduceMul, Nat.reduceSub, Nat.reduceMod, Nat.reduceDiv, Nat.reduceEqDiff, Int.reduceToNat, reduceIte, reduceCtorEq, Int.reduceLE, Int.reduceLT, Int.reduceEq, Int.reduceNeg, Int.reduceAdd, Int.reduceSub, Int.reduceMul, HExt_cons]; exact HExt.rfl))
  · rintro ⟨k, hk1⟩
    obtain ⟨hC, hCl⟩ := passT_ok hsh hG k
    have hsucc : passT share W H L (k + 1) = ⟨(passS share W H (passT share W H L k).L).L, addD (passT share W H L k).d (passS share W H (passT share W H L k).L).d, IntKind.i64.wrap ((passT share W H L k).w + (passS share W H (passT share W H L k).L).w)⟩ := rfl
    simp only [go_sem, Nat.reduceBEq, Nat.reduceLT, Nat.reduceLeDiff, Nat.reduceAdd, Nat.reduceMul, Nat.reduceSub, Nat.reduceMod, Nat.reduceDiv, Nat.reduceEqDiff, Int.reduceToNat, reduceIte, reduceCtorEq, Int.reduceLE, Int.reduceLT, Int.reduceEq, Int.reduceNeg, Int.reduceAdd, Int.reduceSub, Int.reduceMul, decide_eq_true_eq, decide_eq_false_iff_not]
    refine ⟨fun h1 => ?_, fun h1 => ?_⟩
    · generalize hCC : passT share W H L k = C at *
      refine callA_false (passL_E _ _ _ (n + 1) cap' _ C.L hCl W H share (by first | (simp only [go_sem, Nat.reduceBEq, Nat.reduceLT, Nat.reduceLeDiff, Nat.reduceAdd, Nat.reduceMul, Nat.reduceSub, Nat.reduceMod, Nat.reduceDiv, Nat.reduceEqDiff, Int.reduceToNat, reduceIte, reduceCtorEq, Int.reduceLE, Int.reduceLT, Int.reduceEq, Int.reduceNeg, Int.reduceAdd, Int.reduceSub, Int.reduceMul]; done) | (simp only [go_sem, Nat.reduceBEq, Nat.reduceLT, Nat.reduceLeDiff, Nat.reduceAdd, Nat.reduceMul, Nat.reduceSub, Nat.reduceMod, Nat.reduceDiv, Nat.reduceEqDiff, Int.reduceToNat, reduceIte, reduceCtorEq, Int.reduceLE, Int.reduceLT, Int.reduceEq, Int.reduceNeg, Int.reduceAdd, Int.reduceSub, Int.reduceMul]; rfl)) (by omega) hC hsh (by omega) _ ?_)
      generalize passS share W H C.L = P at *
      simp only [go_sem, Nat.reduceBEq, Nat.reduceLT, Nat.reduceLeDiff, Nat.reduceAdd, Nat.reduceMul, Nat.reduceSub, Nat.reduceMod, Nat.reduceDiv, Nat.reduceEqDiff, Int.reduceToNat, reduceIte, reduceCtorEq, Int.reduceLE, Int.reduceLT, Int.reduceEq, Int.reduceNeg, Int.reduceAdd, Int.reduceSub, Int.reduceMul]
      refine callA_false (plus_E _ _ _ (n + 2) C.d P.d none (by simp only [go_sem, Nat.reduceBEq, Nat.reduceLT, Nat.reduceLeDiff, Nat.reduceAdd, Nat.reduceMul, Nat.reduceSub, Nat.reduceMod, Nat.reduceDiv, Nat.reduceEqDiff, Int.reduceToNat, reduceIte, reduceCtorEq, Int.reduceLE, Int.reduceLT, Int.reduceEq, Int.reduceNeg, Int.reduceAdd, Int.reduceSub, Int.reduceMul]) (by omega) _ ?_)
      simp only [go_sem, Nat.reduceBEq, Nat.reduceLT, Nat.reduceLeDiff, Nat.reduceAdd, Nat.reduceMul, Nat.reduceSub, Nat.reduceMod, Nat.reduceDiv, Nat.reduceEqDiff, Int.reduceToNat, reduceIte, reduceCtorEq, Int.reduceLE, Int.reduceLT, Int.reduceEq, Int.reduceNeg, Int.reduceAdd, Int.reduceSub, Int.reduceMul]
      refine ⟨⟨k + 1, by omega⟩, by show T - (k + 1) < T - k; omega, ?_⟩
      rw [hsucc]
      refine Imp.id (by simp) ?_ ?_
      · simp only [go_sem, Nat.reduceBEq, Nat.reduceLT, Nat.reduceLeDiff, Nat.reduceAdd, Nat.reduceMul, Nat.reduceSub, Nat.reduceMod, Nat.reduceDiv, Nat.reduceEqDiff, Int.reduceToNat, reduceIte, reduceCtorEq, Int.reduceLE, Int.reduceLT, Int.reduceEq, Int.reduceNeg, Int.reduceAdd, Int.reduceSub, Int.reduceMul, w64 (n := (k : Int) + 1) (by omega), Int.natCast_add, Int.natCast_one]
        omega
      · (repeat (refine impH.cons0 (by first | (simp only [go_sem, Nat.reduceBEq, Nat.reduceLT, Nat.reduceLeDiff, Nat.reduceAdd, Nat.reduceMul, Nat.reduceSub, Nat.reduceMod, Nat.reduceDiv, Nat.reduceEqDiff, Int.reduceToNat, reduceIte, reduceCtorEq, Int.reduceLE, Int.reduceLT, Int.reduceEq, Int.reduceNeg, Int.reduceAdd, Int.reduceSub, Int.reduceMul, hget_hset_self]; done) | (simp only [go_sem, Nat.reduceBEq, Nat.reduceLT, Nat.reduceLeDiff, Nat.reduceAdd, Nat.reduceMul, Nat.reduceSub, Nat.reduceMod, Nat.reduceDiv, Nat.reduceEqDiff, Int.reduceToNat, reduceIte, reduceCtorEq, Int.reduceLE, Int.reduceLT, Int.reduceEq, Int.reduceNeg, Int.reduceAdd, Int.reduceSub, Int.reduceMul, hget_hset_self]; rfl)) (by simp) ?_ ?_; · exact SegLe.flat (Nat.le_refl _) id (by first | exact .inr rfl | exact .inl rfl) fun z hz => ⟨by first | rfl | exact dC_zero hz | exact dC_cl (by rfl) (by rfl) (by rfl) hz, by first | exact shC_flat _ _ | exact brC_flat _ hz | exact pair_flat _ _ hz | exact cellC_flat _ _ | exact dC_flat _ _ | exact stC_flat _ _ | exact cl_flat (l := [_, _, _, _, _]) (by simp [SV.flat]) hz | exact cl_flat (l := [_, _, _]) (by simp [SV.flat]) hz | trivial⟩)); exact impH.base0 (by first | exact hok | exact hok_set hok (fun k hk => stC_flat _ _) | exact hok_set hok (fun k hk => shC_flat _ _)) (by simp) (by first | (simp only [go_sem, Nat.reduceBEq, Nat.reduceLT, Nat.reduceLeDiff, Nat.reduceAdd, Nat.reduceMul, Nat.reduceSub, Nat.reduceMod, Nat.reduceDiv, Nat.reduceEqDiff, Int.reduceToNat, reduceIte, reduceCtorEq, Int.reduceLE, Int.reduceLT, Int.reduceEq, Int.reduceNeg, Int.reduceAdd, Int.reduceSub, Int.reduceMul, HExt_cons]; done) | (simp only [go_sem, Nat.reduceBEq, Nat.reduceLT, Nat.reduceLeDiff, Nat.reduceAdd, Nat.reduceMul, Nat.reduceSub, Nat.reduceMod, Nat.reduceDiv, Nat.reduceEqDiff, Int.reduceToNat, reduceIte, reduceCtorEq, Int.reduceLE, Int.reduceLT, Int.reduceEq, Int.reduceNeg, Int.reduceAdd, Int.reduceSub, Int.reduceMul, HExt_cons]; exact HExt.rfl))
    · have hk2 : k = T := by omega
      subst hk2
      refine T_drawG hti 7 [4] (.b 0 0 (.b 0 1 (.b 0 2 (.b 0 3 (.b 4 4 (.b 0 5 (.b 0 6 (.f) .o) .o) .o) .o) .o) .o) .o) _ _ (by kernel_rfl) (by kernel_rfl) ?_
      simp only [go_sem, Nat.reduceBEq, Nat.reduceLT, Nat.reduceLeDiff, Nat.reduceAdd, Nat.reduceMul, Nat.reduceSub, Nat.reduceMod, Nat.reduceDiv, Nat.reduceEqDiff, Int.reduceToNat, reduceIte, reduceCtorEq, Int.reduceLE, Int.reduceLT, Int.reduceEq, Int.reduceNeg, Int.reduceAdd, Int.reduceSub, Int.reduceMul]
      exact fun hok' => hK _ _ _ (by omega) (by simp only [go_sem, Nat.reduceBEq, Nat.reduceLT, Nat.reduceLeDiff, Nat.reduceAdd, Nat.reduceMul, Nat.reduceSub, Nat.reduceMod, Nat.reduceDiv, Nat.reduceEqDiff, Int.reduceToNat, reduceIte, reduceCtorEq, Int.reduceLE, Int.reduceLT, Int.reduceEq, Int.reduceNeg, Int.reduceAdd, Int.reduceSub, Int.reduceMul, HExt_cons]) hok' (.inr ⟨n + 1, cap', _, by rw [hCl], by omega, by omega, (by first | (simp only [go_sem, Nat.reduceBEq, Nat.reduceLT, Nat.reduceLeDiff, Nat.reduceAdd, Nat.reduceMul, Nat.reduceSub, Nat.reduceMod, Nat.reduceDiv, Nat.reduceEqDiff, Int.reduceToNat, reduceIte, reduceCtorEq, Int.reduceLE, Int.reduceLT, Int.reduceEq, Int.reduceNeg, Int.reduceAdd, Int.reduceSub, Int.reduceMul]; done) | (simp only [go_sem, Nat.reduceBEq, Nat.reduceLT, Nat.reduceLeDiff, Nat.reduceAdd, Nat.reduceMul, Nat.reduceSub, Nat.reduceMod, Nat.reduceDiv, Nat.reduceEqDiff, Int.reduceToNat, reduceIte, reduceCtorEq, Int.reduceLE, Int.reduceLT, Int.reduceEq, Int.reduceNeg, Int.reduceAdd, Int.reduceSub, Int.reduceMul]; rfl)), rfl, rfl, fun _ _ => rfl⟩)
end
end Go.Proofs.Ytjepjeaecmioaaa.V

/- The law's stacks: copied. -/
namespace Go.Proofs.Ytjepjeaecmioaaa.V
theorem zStack (L : List Sh) (z : Nat) : zrow (ti 51) z = if z < 0 * 266 then stC L z else shC sh0 (z % 266) := by
  rw [if_neg (by omega)]
  simp only [go_sem, Nat.reduceBEq, Nat.reduceLT, Nat.reduceLeDiff, Nat.reduceAdd, Nat.reduceMul, Nat.reduceSub, Nat.reduceMod, Nat.reduceDiv, Nat.reduceEqDiff, Int.reduceToNat, reduceIte, reduceCtorEq, Int.reduceLE, Int.reduceLT, Int.reduceEq, Int.reduceNeg, Int.reduceAdd, Int.reduceSub, Int.reduceMul, zrow_mk]
section
variable (cx : Cx) (h : List (Nat × Seg)) (n : Nat)
theorem szStack_Q (A : SV) (L : List Sh) (hA : StArg h n A L) (left : Int) (hl : -9223372036854775808 ≤ left - L.length) (hl2 : left - L.length < 9223372036854775808) :
    CallQ Try.prog cx 7 [A, .int .i64 left] h n (.int .i64 (if left - L.length < 0 then -1 else left - L.length)) := by
  rcases hA with ⟨rfl, rfl⟩ | ⟨i, cap, s, rfl, hi, hs, hL⟩
  · refine callQ_of_T (P := Try.prog) hti (nt := 12) (rs := [.tmp 4]) rfl rfl Try.call7 Try.func7 rfl _ (by simp only [go_sem, and_self]) (Nat.le_of_ble_eq_true rfl) _ (by first | exact trivial | (refine lt_flat rfl ?_; simp [SV.flat]; done) | simp only [go_sem]) fun hok => ?_
    simp only [List.length_nil] at hl hl2
    by_cases hn : left < 0
    · simp only [go_sem, Nat.reduceBEq, Nat.reduceLT, Nat.reduceLeDiff, Nat.reduceAdd, Nat.reduceMul, Nat.reduceSub, Nat.reduceMod, Nat.reduceDiv, Nat.reduceEqDiff, Int.reduceToNat, reduceIte, reduceCtorEq, Int.reduceLE, Int.reduceLT, Int.reduceEq, Int.reduceNeg, Int.reduceAdd, Int.reduceSub, Int.reduceMul, w64 (n := left) (by omega), hn, Int.sub_zero, Int.natCast_zero]
    · simp only [go_sem, Nat.reduceBEq, Nat.reduceLT, Nat.reduceLeDiff, Nat.reduceAdd, Nat.reduceMul, Nat.reduceSub, Nat.reduceMod, Nat.reduceDiv, Nat.reduceEqDiff, Int.reduceToNat, reduceIte, reduceCtorEq, Int.reduceLE, Int.reduceLT, Int.reduceEq, Int.reduceNeg, Int.reduceAdd, Int.reduceSub, Int.reduceMul, w64 (n := left) (by omega), hn, Int.sub_zero, Int.natCast_zero]
  · refine callQ_of_T (P := Try.prog) hti (nt := 12) (rs := [.tmp 4]) rfl rfl Try.call7 Try.func7 rfl _ (by simp only [go_sem, and_self]) (Nat.le_of_ble_eq_true rfl) _ (by first | exact trivial | (refine lt_flat rfl ?_; simp [SV.flat]; done) | simp only [go_sem]) fun hok => ?_
    by_cases hn : left - L.length < 0
    · simp only [go_sem, Nat.reduceBEq, Nat.reduceLT, Nat.reduceLeDiff, Nat.reduceAdd, Nat.reduceMul, Nat.reduceSub, Nat.reduceMod, Nat.reduceDiv, Nat.reduceEqDiff, Int.reduceToNat, reduceIte, reduceCtorEq, Int.reduceLE, Int.reduceLT, Int.reduceEq, Int.reduceNeg, Int.reduceAdd, Int.reduceSub, Int.reduceMul, w64 (n := left - L.length) ⟨hl, hl2⟩, hn]
    · simp only [go_sem, Nat.reduceBEq, Nat.reduceLT, Nat.reduceLeDiff, Nat.reduceAdd, Nat.reduceMul, Nat.reduceSub, Nat.reduceMod, Nat.reduceDiv, Nat.reduceEqDiff, Int.reduceToNat, reduceIte, reduceCtorEq, Int.reduceLE, Int.reduceLT, Int.reduceEq, Int.reduceNeg, Int.reduceAdd, Int.reduceSub, Int.reduceMul, w64 (n := left - L.length) ⟨hl, hl2⟩, hn]
set_option maxRecDepth 100000 in
theorem toStack_E (A : SV) (L : List Sh) (hA : StArg h n A L) (hLR : StR L) (hm9 : L.length ≤ 10000000) (K : HK) (hK : K (.sl n 0 L.length L.length) ((n, stS L (some (51, L.length * 266))) :: h) (n + 1)) :
    CallE Try.prog cx 9 [A] h n K := by
  have fl : ∀ q z, (if z < q * 266 then stC L z else shC sh0 (z % 266)).flat := fun q z => by split; exact stC_flat _ _; exact shC_flat _ _
  refine CallE.imp0 (K := fun r h1 n1 => r = .sl n 0 L.length L.length ∧ n + 1 ≤ n1 ∧ HExt n h h1 ∧ ∃ s, hget h1 n = some s ∧ s.n = L.length * 266 ∧ s.rw = true ∧ s.own = some (51, L.length * 266) ∧ ∀ z, z < L.length * 266 → s.c z = stC L z) ?_ ?_
  rotate_left
  · rintro hok r h1 n1 ⟨rfl, hn, hx, s, hs, s1, s2, s3, s4⟩
    exact ⟨_, (n, stS L (some (51, L.length * 266))) :: h, n + 1, by omega, by simp only [ren_nil], by simp [SV.lt], impH.cons0 hs (by omega) (SegLe.flat (by simp [s1, stS]) (fun _ => s2) (.inr s3.symm) fun z hz => ⟨s4 z hz, stC_flat _ _⟩) (impH.base0 hok (by omega) hx), hK⟩
  rcases hA with ⟨rfl, rfl⟩ | ⟨i, cap, s, rfl, hi, hs, hL⟩
  · refine callE_of_T (P := Try.prog) hti (nt := 23) (rs := [.tmp 2]) rfl rfl Try.call9 Try.func9 rfl _ (by simp only [go_sem, and_self]) (Nat.le_of_ble_eq_true rfl) _ fun hok => ?_
    simp only [go_sem, Nat.reduceBEq, Nat.reduceLT, Nat.reduceLeDiff, Nat.reduceAdd, Nat.reduceMul, Nat.reduceSub, Nat.reduceMod, Nat.reduceDiv, Nat.reduceEqDiff, Int.reduceToNat, reduceIte, reduceCtorEq, Int.reduceLE, Int.reduceLT, Int.reduceEq, Int.reduceNeg, Int.reduceAdd, Int.reduceSub, Int.reduceMul]
    refine T_unroll 0 ?_
    simp only [go_sem, Nat.reduceBEq, Nat.reduceLT, Nat.reduceLeDiff, Nat.reduceAdd, Nat.reduceMul, Nat.reduceSub, Nat.reduceMod, Nat.reduceDiv, Nat.reduceEqDiff, Int.reduceToNat, reduceIte, reduceCtorEq, Int.reduceLE, Int.reduceLT, Int.reduceEq, Int.reduceNeg, Int.reduceAdd, Int.reduceSub, Int.reduceMul, HExt_cons, Option.some.injEq, exists_eq_left']
    intro z hz
    omega
  · have hn := hL.1
    refine callE_of_T (P := Try.prog) hti (nt := 23) (rs := [.tmp 2]) rfl rfl Try.call9 Try.func9 rfl _ (by simp only [go_sem, and_self]) (Nat.le_of_ble_eq_true rfl) _ fun hok => ?_
    simp only [go_sem, Nat.reduceBEq, Nat.reduceLT, Nat.reduceLeDiff, Nat.reduceAdd, Nat.reduceMul, Nat.reduceSub, Nat.reduceMod, Nat.reduceDiv, Nat.reduceEqDiff, Int.reduceToNat, reduceIte, reduceCtorEq, Int.reduceLE, Int.reduceLT, Int.reduceEq, Int.reduceNeg, Int.reduceAdd, Int.reduceSub, Int.reduceMul]
    refine ⟨by omega, ?_⟩
    refine T_lp (ι := { q : Nat // q ≤ L.length })
      (fun q => ([(0, .sl i 0 L.length cap), (3, .sl n 0 L.length L.length), (4, .int .i64 q.1)], (n, ⟨L.length * 266, fun z => if z < q.1 * 266 then stC L z else shC sh0 (z % 266), true, some (51, L.length * 266)⟩) :: h, n + 1)) (fun q => L.length - q.1) ⟨0, by omega⟩ ?_ ?_
    · refine Imp.id (by simp) ?_ ?_
      · simp only [go_sem, Nat.reduceBEq, Nat.reduceLT, Nat.reduceLeDiff, Nat.reduceAdd, Nat.reduceMul, Nat.reduceSub, Nat.reduceMod, Nat.reduceDiv, Nat.reduceEqDiff, Int.reduceToNat, reduceIte, reduceCtorEq, Int.reduceLE, Int.reduceLT, Int.reduceEq, Int.reduceNeg, Int.reduceAdd, Int.reduceSub, Int.reduceMul]
        omega
      · refine impH.cons0 (hget_hit _ _ _) (by simp) (SegLe.flat (Nat.le_refl _) id (.inr rfl) fun z hz => ⟨?_, fl 0 z⟩) (impH.base0 hok (by simp) (HExt.rfl.cons (Nat.le_refl n)))
        show _ = if z < 0 * 266 then stC L z else shC sh0 (z % 266)
        rw [if_neg (by omega)]
        rfl
    · rintro ⟨q, hq⟩
      simp only [go_sem, Nat.reduceBEq, Nat.reduceLT, Nat.reduceLeDiff, Nat.reduceAdd, Nat.reduceMul, Nat.reduceSub, Nat.reduceMod, Nat.reduceDiv, Nat.reduceEqDiff, Int.reduceToNat, reduceIte, reduceCtorEq, Int.reduceLE, Int.reduceLT, Int.reduceEq, Int.reduceNeg, Int.reduceAdd, Int.reduceSub, Int.reduceMul, decide_eq_true_eq, decide_eq_false_iff_not]
      refine ⟨fun h1 => ?_, fun h1 => ?_⟩
      · have r1 : (0 : Int) ≤ q ∧ (q : Int) < L.length := ⟨by omega, by omega⟩
        have b1 : q * 266 ≤ s.n - 266 := by omega
        have b2 : q * 266 ≤ L.length * 266 - 266 := by omega
        have b3 : 266 ≤ s.n := by omega
        have b4 : 266 ≤ L.length * 266 := by omega
        have b5 : q * 266 + 266 ≤ L.length * 266 := by omega
        have b6 : q * 266 + 266 ≤ s.n := by omega
        have hSF : ShF (fun j => s.c (q * 266 + j)) (L.getD q sh0) := (hL.sh hLR (by omega)).2
        have hone := hSF.ones
        simp only [go_sem, Nat.reduceBEq, Nat.reduceLT, Nat.reduceLeDiff, Nat.reduceAdd, Nat.reduceMul, Nat.reduceSub, Nat.reduceMod, Nat.reduceDiv, Nat.reduceEqDiff, Int.reduceToNat, reduceIte, reduceCtorEq, Int.reduceLE, Int.reduceLT, Int.reduceEq, Int.reduceNeg, Int.reduceAdd, Int.reduceSub, Int.reduceMul, hs, hi, r1, b1, b3, b6, hone]
        refine (toSheet_Q _ _ _ _ (L.getD q sh0) hSF).A ?_
        simp only [go_sem, Nat.reduceBEq, Nat.reduceLT, Nat.reduceLeDiff, Nat.reduceAdd, Nat.reduceMul, Nat.reduceSub, Nat.reduceMod, Nat.reduceDiv, Nat.reduceEqDiff, Int.reduceToNat, reduceIte, reduceCtorEq, Int.reduceLE, Int.reduceLT, Int.reduceEq, Int.reduceNeg, Int.reduceAdd, Int.reduceSub, Int.reduceMul, r1, b2, b4, b5]
        refine ⟨⟨q + 1, by omega⟩, by show L.length - (q + 1) < L.length - q; omega, ?_⟩
        refine Imp.id (by simp) ?_ ?_
        · simp only [go_sem, Nat.reduceBEq, Nat.reduceLT, Nat.reduceLeDiff, Nat.reduceAdd, Nat.reduceMul, Nat.reduceSub, Nat.reduceMod, Nat.reduceDiv, Nat.reduceEqDiff, Int.reduceToNat, reduceIte, reduceCtorEq, Int.reduceLE, Int.reduceLT, Int.reduceEq, Int.reduceNeg, Int.reduceAdd, Int.reduceSub, Int.reduceMul, w64 (n := (q : Int) + 1) (by omega), Int.natCast_add, Int.natCast_one]
          exact ⟨by omega, by omega⟩
        · refine impH.cons0 (hget_hit _ _ _) (by simp) (SegLe.flat (Nat.le_refl _) id (.inr rfl) fun z hz => ⟨?_, fl (q + 1) z⟩) (impH.base0 hok (by simp) (HExt.rfl.cons (Nat.le_refl n)))
          exact part_agg (C := stC L) (Z := fun z => shC sh0 (z % 266)) (sz := 266) (F := shC (L.getD q sh0)) (fun j hj => (stC_at L q hj).symm) (by omega) hz
      · have hq' : q = L.length := by omega
        subst hq'
        simp only [go_sem, Nat.reduceBEq, Nat.reduceLT, Nat.reduceLeDiff, Nat.reduceAdd, Nat.reduceMul, Nat.reduceSub, Nat.reduceMod, Nat.reduceDiv, Nat.reduceEqDiff, Int.reduceToNat, reduceIte, reduceCtorEq, Int.reduceLE, Int.reduceLT, Int.reduceEq, Int.reduceNeg, Int.reduceAdd, Int.reduceSub, Int.reduceMul, HExt_cons, Option.some.injEq, exists_eq_left']
        intro z hz
        rw [if_pos hz]
end
end Go.Proofs.Ytjepjeaecmioaaa.V

/- The law's stacks: compared. -/
namespace Go.Proofs.Ytjepjeaecmioaaa.V
section
variable (cx : Cx) (h : List (Nat × Seg)) (n : Nat)
set_option maxRecDepth 100000 in
theorem eqStack_Q (i cap i' cap' : Nat) (L : List Sh) (s s' : Seg) (hs : hget h i = some s) (hi : i < n) (hL : StAt s L) (hs' : hget h i' = some s') (hi' : i' < n) (hL' : StAt s' L) (hLR : StR L) (hm9 : L.length ≤ 10000000) :
    CallQ Try.prog cx 11 [.sl i 0 L.length cap, .sl i' 0 L.length cap'] h n (.bool true) := by
  have hn := hL.1; have hn' := hL'.1
  refine callQ_of_T (P := Try.prog) hti (nt := 27) (rs := [.tmp 4]) rfl rfl Try.call11 Try.func11 rfl _ (by simp only [go_sem, and_self]) (Nat.le_of_ble_eq_true rfl) _ (by first | exact trivial | (refine lt_flat rfl ?_; simp [SV.flat]; done) | simp only [go_sem]) fun hok => ?_
  simp only [go_sem, Nat.reduceBEq, Nat.reduceLT, Nat.reduceLeDiff, Nat.reduceAdd, Nat.reduceMul, Nat.reduceSub, Nat.reduceMod, Nat.reduceDiv, Nat.reduceEqDiff, Int.reduceToNat, reduceIte, reduceCtorEq, Int.reduceLE, Int.reduceLT, Int.reduceEq, Int.reduceNeg, Int.reduceAdd, Int.reduceSub, Int.reduceMul]
  refine T_lp (ι := { q : Nat // q ≤ L.length }) (fun q => ([(0, .sl i 0 L.length cap), (1, .sl i' 0 L.length cap'), (5, .int .i64 q.1)], h, n)) (fun q => L.length - q.1) ⟨0, by omega⟩ ?_ ?_
  · refine Imp.id (by simp) ?_ (impH.base0 hok (by simp) HExt.rfl)
    simp only [go_sem, Nat.reduceBEq, Nat.reduceLT, Nat.reduceLeDiff, Nat.reduceAdd, Nat.reduceMul, Nat.reduceSub, Nat.reduceMod, Nat.reduceDiv, Nat.reduceEqDiff, Int.reduceToNat, reduceIte, reduceCtorEq, Int.reduceLE, Int.reduceLT, Int.reduceEq, Int.reduceNeg, Int.reduceAdd, Int.reduceSub, Int.reduceMul]
    exact ⟨hi, hi'⟩
  · rintro ⟨q, hq⟩
    simp only [go_sem, Nat.reduceBEq, Nat.reduceLT, Nat.reduceLeDiff, Nat.reduceAdd, Nat.reduceMul, Nat.reduceSub, Nat.reduceMod, Nat.reduceDiv, Nat.reduceEqDiff, Int.reduceToNat, reduceIte, reduceCtorEq, Int.reduceLE, Int.reduceLT, Int.reduceEq, Int.reduceNeg, Int.reduceAdd, Int.reduceSub, Int.reduceMul, decide_eq_true_eq, decide_eq_false_iff_not]
    refine ⟨fun h1 => ?_, fun h1 => ?_⟩
    · have r1 : (0 : Int) ≤ q ∧ (q : Int) < L.length := ⟨by omega, by omega⟩
      have b1 : q * 266 ≤ s.n - 266 := by omega
      have b2 : q * 266 ≤ s'.n - 266 := by omega
      have b3 : 266 ≤ s.n := by omega
      have b4 : 266 ≤ s'.n := by omega
      have b5 : q * 266 + 266 ≤ s.n := by omega
      have b6 : q * 266 + 266 ≤ s'.n := by omega
      have hSF : ShF (fun j => s.c (q * 266 + j)) (L.getD q sh0) := (hL.sh hLR (by omega)).2
      have hSF' : ShF (fun j => s'.c (q * 266 + j)) (L.getD q sh0) := (hL'.sh hLR (by omega)).2
      have hone := hSF.ones
      have hone' := hSF'.ones
      refine T_draw hti _ _ (by kernel_rfl) (by kernel_rfl) ?_
      simp only [go_sem, Nat.reduceBEq, Nat.reduceLT, Nat.reduceLeDiff, Nat.reduceAdd, Nat.reduceMul, Nat.reduceSub, Nat.reduceMod, Nat.reduceDiv, Nat.reduceEqDiff, Int.reduceToNat, reduceIte, reduceCtorEq, Int.reduceLE, Int.reduceLT, Int.reduceEq, Int.reduceNeg, Int.reduceAdd, Int.reduceSub, Int.reduceMul, hs, hs', r1, b1, b2, b3, b4, b5, b6, hone, hone']
      refine (eqSheet_Q _ _ _ _ _ (L.getD q sh0) hSF hSF').A ?_
      simp only [go_sem, Nat.reduceBEq, Nat.reduceLT, Nat.reduceLeDiff, Nat.reduceAdd, Nat.reduceMul, Nat.reduceSub, Nat.reduceMod, Nat.reduceDiv, Nat.reduceEqDiff, Int.reduceToNat, reduceIte, reduceCtorEq, Int.reduceLE, Int.reduceLT, Int.reduceEq, Int.reduceNeg, Int.reduceAdd, Int.reduceSub, Int.reduceMul]
      refine ⟨⟨q + 1, by omega⟩, by show L.length - (q + 1) < L.length - q; omega, ?_⟩
      refine Imp.id (by simp) ?_ (impH.base0 hok (by simp) HExt.rfl)
      simp only [go_sem, Nat.reduceBEq, Nat.reduceLT, Nat.reduceLeDiff, Nat.reduceAdd, Nat.reduceMul, Nat.reduceSub, Nat.reduceMod, Nat.reduceDiv, Nat.reduceEqDiff, Int.reduceToNat, reduceIte, reduceCtorEq, Int.reduceLE, Int.reduceLT, Int.reduceEq, Int.reduceNeg, Int.reduceAdd, Int.reduceSub, Int.reduceMul, w64 (n := (q : Int) + 1) (by omega), Int.natCast_add, Int.natCast_one]
      exact ⟨hi, hi'⟩
    · simp only [go_sem, Nat.reduceBEq, Nat.reduceLT, Nat.reduceLeDiff, Nat.reduceAdd, Nat.reduceMul, Nat.reduceSub, Nat.reduceMod, Nat.reduceDiv, Nat.reduceEqDiff, Int.reduceToNat, reduceIte, reduceCtorEq, Int.reduceLE, Int.reduceLT, Int.reduceEq, Int.reduceNeg, Int.reduceAdd, Int.reduceSub, Int.reduceMul]
end
end Go.Proofs.Ytjepjeaecmioaaa.V

/- The law's stacks that were made: marked, looked at again; passing down once. -/
namespace Go.Proofs.Ytjepjeaecmioaaa.V
def Sh.setWide (S : Sh) (v : Int) : Sh := { S with wide := v }
def Sh.setHigh (S : Sh) (v : Int) : Sh := { S with high := v }
section
variable (L : List Sh) (i : Nat) (v : Int)
theorem stC_wide : stC L (i * 266) = .int .i8 (L.getD i sh0).wide := by
  have := stC_at L i (k := 0) (by omega)
  rwa [Nat.add_zero] at this
theorem stC_high : stC L (i * 266 + 1) = .int .i8 (L.getD i sh0).high := stC_at L i (k := 1) (by omega)
theorem stC_wax {y : Nat} (hy : y < 8) : stC L (i * 266 + 258 + y) = .int .u8 ((L.getD i sh0).wax y) := by
  rw [show i * 266 + 258 + y = i * 266 + (258 + y) by omega, stC_at L i (by omega)]
  exact shC_wax (L.getD i sh0) (y : Int) (by omega) (by omega)
theorem stC_setWide (hi : i < L.length) : upd (stC L) (i * 266) (.int .i8 v) = stC (L.set i ((L.getD i sh0).setWide v)) := by
  have := stC_set (k := 0) hi (by omega) (shC_setWide (L.getD i sh0) v)
  rw [Nat.add_zero] at this
  exact this
theorem stC_setHigh (hi : i < L.length) : upd (stC L) (i * 266 + 1) (.int .i8 v) = stC (L.set i ((L.getD i sh0).setHigh v)) := by
  exact stC_set (k := 1) hi (by omega) (shC_setHigh (L.getD i sh0) v)
theorem stC_setWax (hi : i < L.length) {y : Nat} (hy : y < 8) : upd (stC L) (i * 266 + 258 + y) (.int .u8 v) = stC (L.set i ((L.getD i sh0).setWax y v)) := by
  rw [show i * 266 + 258 + y = i * 266 + (258 + y) by omega]
  exact stC_set hi (by omega) (shC_setWax (L.getD i sh0) (y : Int) v (by omega) (by omega))
end
def waxP (S : Sh) (k : Int) : Nat → Sh
  | 0 => S
  | j + 1 => (waxP S k j).setWax j (IntKind.u8.wrap (k + j))
theorem waxP_wax (S : Sh) (k : Int) : ∀ (j : Nat) (y : Nat), y < j → (waxP S k j).wax y = IntKind.u8.wrap (k + y)
  | j + 1, y, h => by
    simp only [waxP, Sh.setWax]
    by_cases e : y = j
    · subst e; simp
    · rw [if_neg (by omega)]; exact waxP_wax S k j y (by omega)
theorem waxP_sides (S : Sh) (k : Int) : ∀ j, (waxP S k j).wide = S.wide ∧ (waxP S k j).high = S.high
  | 0 => ⟨rfl, rfl⟩
  | j + 1 => waxP_sides S k j
def markS (S : Sh) (q : Nat) (j : Nat) : Sh := waxP ((S.setWide (IntKind.i8.wrap (10 * (q : Int) + 1))).setHigh (IntKind.i8.wrap (10 * (q : Int) + 1 + 1))) (10 * (q : Int) + 1 + 1 + 1) j
def markP (L : List Sh) : Nat → List Sh
  | 0 => L
  | q + 1 => (markP L q).set q (markS ((markP L q).getD q sh0) q 8)
theorem markP_len (L : List Sh) : ∀ q, (markP L q).length = L.length
  | 0 => rfl
  | q + 1 => by simp only [markP, List.length_set]; exact markP_len L q
/-- A stack that was marked. -/
def Marked (L : List Sh) : Prop := ∀ q, q < L.length → (L.getD q sh0).wide = IntKind.i8.wrap (10 * (q : Int) + 1) ∧ (L.getD q sh0).high = IntKind.i8.wrap (10 * (q : Int) + 1 + 1) ∧ ∀ y : Nat, y < 8 → (L.getD q sh0).wax y = IntKind.u8.wrap (10 * (q : Int) + 1 + 1 + 1 + y)
theorem markP_get (L : List Sh) : ∀ m q, m ≤ L.length → q < m → ((markP L m).getD q sh0).wide = IntKind.i8.wrap (10 * (q : Int) + 1) ∧ ((markP L m).getD q sh0).high = IntKind.i8.wrap (10 * (q : Int) + 1 + 1) ∧ ∀ y : Nat, y < 8 → ((markP L m).getD q sh0).wax y = IntKind.u8.wrap (10 * (q : Int) + 1 + 1 + 1 + y)
  | m + 1, q, hm, h => by
    simp only [markP, getD_set]
    have hl := markP_len L m
    by_cases e : m = q
    · subst e
      rw [if_pos ⟨rfl, by omega⟩]
      exact ⟨(waxP_sides _ _ 8).1, (waxP_sides _ _ 8).2, fun y hy => waxP_wax _ _ 8 y hy⟩
    · rw [if_neg (by omega)]
      exact markP_get L m q (by omega) (by omega)
theorem markP_marked (L : List Sh) : Marked (markP L L.length) := fun q hq => markP_get L L.length q (Nat.le_refl _) (by rwa [markP_len] at hq)
/-- A stack that was marked, in memory. -/
def StHeld (h : List (Nat × Seg)) (lo n : Nat) (V : SV) (len : Nat) : Prop :=
  (V = .nils ∧ len = 0) ∨ ∃ i cap s L, V = .sl i 0 len cap ∧ lo ≤ i ∧ i < n ∧ hget h i = some s ∧ s.n = len * 266 ∧ s.c = stC L ∧ L.length = len ∧ Marked L
theorem StHeld.ext {h h' : List (Nat × Seg)} {lo n n' : Nat} {V : SV} {len : Nat} (hA : StHeld h lo n V len) (hn : n ≤ n') (hx : HExt n h h') : StHeld h' lo n' V len := by
  rcases hA with h1 | ⟨i, cap, s, L, rfl, h1, h2, h3, h4⟩
  · exact .inl h1
  · exact .inr ⟨i, cap, s, L, rfl, h1, by omega, hx i h2 s h3, h4⟩
section
variable (cx : Cx) (h : List (Nat × Seg)) (n : Nat)
theorem eqA3_Q (a b : Nat → Int) (hab : a 0 = b 0 ∧ a 1 = b 1 ∧ a 2 = b 2) : CallQ Try.prog cx 14 [d3 a, d3 b] h n (.bool true) := by
  obtain ⟨e0, e1, e2⟩ := hab
  refine callQ_of_T (P := Try.prog) hti (nt := 17) (rs := [.tmp 4]) rfl rfl Try.call14 Try.func14 rfl _ (by simp only [go_sem, and_self]) (Nat.le_of_ble_eq_true rfl) _ (by first | exact trivial | (refine lt_flat rfl ?_; simp [SV.flat]; done) | simp only [go_sem]) fun hok => ?_
  simp only [go_sem, Nat.reduceBEq, Nat.reduceLT, Nat.reduceLeDiff, Nat.reduceAdd, Nat.reduceMul, Nat.reduceSub, Nat.reduceMod, Nat.reduceDiv, Nat.reduceEqDiff, Int.reduceToNat, reduceIte, reduceCtorEq, Int.reduceLE, Int.reduceLT, Int.reduceEq, Int.reduceNeg, Int.reduceAdd, Int.reduceSub, Int.reduceMul, e0, e1, e2]
  refine T_unroll 3 ?_
  simp only [go_sem, Nat.reduceBEq, Nat.reduceLT, Nat.reduceLeDiff, Nat.reduceAdd, Nat.reduceMul, Nat.reduceSub, Nat.reduceMod, Nat.reduceDiv, Nat.reduceEqDiff, Int.reduceToNat, reduceIte, reduceCtorEq, Int.reduceLE, Int.reduceLT, Int.reduceEq, Int.reduceNeg, Int.reduceAdd, Int.reduceSub, Int.reduceMul]
  refine T_draw hti _ _ (by kernel_rfl) (by kernel_rfl) ?_
  simp only [go_sem, Nat.reduceBEq, Nat.reduceLT, Nat.reduceLeDiff, Nat.reduceAdd, Nat.reduceMul, Nat.reduceSub, Nat.reduceMod, Nat.reduceDiv, Nat.reduceEqDiff, Int.reduceToNat, reduceIte, reduceCtorEq, Int.reduceLE, Int.reduceLT, Int.reduceEq, Int.reduceNeg, Int.reduceAdd, Int.reduceSub, Int.reduceMul]
  refine U_step ?_
  simp only [go_sem, Nat.reduceBEq, Nat.reduceLT, Nat.reduceLeDiff, Nat.reduceAdd, Nat.reduceMul, Nat.reduceSub, Nat.reduceMod, Nat.reduceDiv, Nat.reduceEqDiff, Int.reduceToNat, reduceIte, reduceCtorEq, Int.reduceLE, Int.reduceLT, Int.reduceEq, Int.reduceNeg, Int.reduceAdd, Int.reduceSub, Int.reduceMul]
  refine T_draw hti _ _ (by kernel_rfl) (by kernel_rfl) ?_
  simp only [go_sem, Nat.reduceBEq, Nat.reduceLT, Nat.reduceLeDiff, Nat.reduceAdd, Nat.reduceMul, Nat.reduceSub, Nat.reduceMod, Nat.reduceDiv, Nat.reduceEqDiff, Int.reduceToNat, reduceIte, reduceCtorEq, Int.reduceLE, Int.reduceLT, Int.reduceEq, Int.reduceNeg, Int.reduceAdd, Int.reduceSub, Int.reduceMul]
  refine U_step ?_
  simp only [go_sem, Nat.reduceBEq, Nat.reduceLT, Nat.reduceLeDiff, Nat.reduceAdd, Nat.reduceMul, Nat.reduceSub, Nat.reduceMod, Nat.reduceDiv, Nat.reduceEqDiff, Int.reduceToNat, reduceIte, reduceCtorEq, Int.reduceLE, Int.reduceLT, Int.reduceEq, Int.reduceNeg, Int.reduceAdd, Int.reduceSub, Int.reduceMul]
  refine T_draw hti _ _ (by kernel_rfl) (by kernel_rfl) ?_
  simp only [go_sem, Nat.reduceBEq, Nat.reduceLT, Nat.reduceLeDiff, Nat.reduceAdd, Nat.reduceMul, Nat.reduceSub, Nat.reduceMod, Nat.reduceDiv, Nat.reduceEqDiff, Int.reduceToNat, reduceIte, reduceCtorEq, Int.reduceLE, Int.reduceLT, Int.reduceEq, Int.reduceNeg, Int.reduceAdd, Int.reduceSub, Int.reduceMul]
  refine U_step ?_
  simp only [go_sem, Nat.reduceBEq, Nat.reduceLT, Nat.reduceLeDiff, Nat.reduceAdd, Nat.reduceMul, Nat.reduceSub, Nat.reduceMod, Nat.reduceDiv, Nat.reduceEqDiff, Int.reduceToNat, reduceIte, reduceCtorEq, Int.reduceLE, Int.reduceLT, Int.reduceEq, Int.reduceNeg, Int.reduceAdd, Int.reduceSub, Int.reduceMul]
set_option maxRecDepth 100000 in
theorem eqStOut_Q (V V' : SV) (L : List Sh) (lo lo' : Nat) (hA : StOut h lo n V L) (hA' : StOut h lo' n V' L) (hLR : StR L) (hm9 : L.length ≤ 10000000) :
    CallQ Try.prog cx 11 [V, V'] h n (.bool true) := by
  rcases hA with ⟨rfl, rfl⟩ | ⟨i, cap, s, rfl, h0, hi, hs, _, hn, hc⟩ <;> rcases hA' with ⟨rfl, hL⟩ | ⟨i', cap', s', rfl, h0', hi', hs', _, hn', hc'⟩
  · refine callQ_of_T (P := Try.prog) hti (nt := 27) (rs := [.tmp 4]) rfl rfl Try.call11 Try.func11 rfl _ (by simp only [go_sem, and_self]) (Nat.le_of_ble_eq_true rfl) _ (by first | exact trivial | (refine lt_flat rfl ?_; simp [SV.flat]; done) | simp only [go_sem]) fun hok => ?_
    simp only [go_sem, Nat.reduceBEq, Nat.reduceLT, Nat.reduceLeDiff, Nat.reduceAdd, Nat.reduceMul, Nat.reduceSub, Nat.reduceMod, Nat.reduceDiv, Nat.reduceEqDiff, Int.reduceToNat, reduceIte, reduceCtorEq, Int.reduceLE, Int.reduceLT, Int.reduceEq, Int.reduceNeg, Int.reduceAdd, Int.reduceSub, Int.reduceMul]
    refine T_unroll 0 ?_
    simp only [go_sem, Nat.reduceBEq, Nat.reduceLT, Nat.reduceLeDiff, Nat.reduceAdd, Nat.reduceMul, Nat.reduceSub, Nat.reduceMod, Nat.reduceDiv, Nat.reduceEqDiff, Int.reduceToNat, reduceIte, reduceCtorEq, Int.reduceLE, Int.reduceLT, Int.reduceEq, Int.reduceNeg, Int.reduceAdd, Int.reduceSub, Int.reduceMul]
  · refine callQ_of_T (P := Try.prog) hti (nt := 27) (rs := [.tmp 4]) rfl rfl Try.call11 Try.func11 rfl _ (by simp only [go_sem, and_self]) (Nat.le_of_ble_eq_true rfl) _ (by first | exact trivial | (refine lt_flat rfl ?_; simp [SV.flat]; done) | simp only [go_sem]) fun hok => ?_
    simp only [go_sem, Nat.reduceBEq, Nat.reduceLT, Nat.reduceLeDiff, Nat.reduceAdd, Nat.reduceMul, Nat.reduceSub, Nat.reduceMod, Nat.reduceDiv, Nat.reduceEqDiff, Int.reduceToNat, reduceIte, reduceCtorEq, Int.reduceLE, Int.reduceLT, Int.reduceEq, Int.reduceNeg, Int.reduceAdd, Int.reduceSub, Int.reduceMul]
    refine T_unroll 0 ?_
    simp only [go_sem, Nat.reduceBEq, Nat.reduceLT, Nat.reduceLeDiff, Nat.reduceAdd, Nat.reduceMul, Nat.reduceSub, Nat.reduceMod, Nat.reduceDiv, Nat.reduceEqDiff, Int.reduceToNat, reduceIte, reduceCtorEq, Int.reduceLE, Int.reduceLT, Int.reduceEq, Int.reduceNeg, Int.reduceAdd, Int.reduceSub, Int.reduceMul]
  · subst hL
    refine callQ_of_T (P := Try.prog) hti (nt := 27) (rs := [.tmp 4]) rfl rfl Try.call11 Try.func11 rfl _ (by simp only [go_sem, and_self]) (Nat.le_of_ble_eq_true rfl) _ (by first | exact trivial | (refine lt_flat rfl ?_; simp [SV.flat]; done) | simp only [go_sem]) fun hok => ?_
    simp only [go_sem, Nat.reduceBEq, Nat.reduceLT, Nat.reduceLeDiff, Nat.reduceAdd, Nat.reduceMul, Nat.reduceSub, Nat.reduceMod, Nat.reduceDiv, Nat.reduceEqDiff, Int.reduceToNat, reduceIte, reduceCtorEq, Int.reduceLE, Int.reduceLT, Int.reduceEq, Int.reduceNeg, Int.reduceAdd, Int.reduceSub, Int.reduceMul]
    refine T_unroll 0 ?_
    simp only [go_sem, Nat.reduceBEq, Nat.reduceLT, Nat.reduceLeDiff, Nat.reduceAdd, Nat.reduceMul, Nat.reduceSub, Nat.reduceMod, Nat.reduceDiv, Nat.reduceEqDiff, Int.reduceToNat, reduceIte, reduceCtorEq, Int.reduceLE, Int.reduceLT, Int.reduceEq, Int.reduceNeg, Int.reduceAdd, Int.reduceSub, Int.reduceMul]
  · exact eqStack_Q cx h n i cap i' cap' L s s' hs hi ⟨by omega, hc⟩ hs' hi' ⟨by omega, hc'⟩ hLR hm9
set_option maxRecDepth 100000 in
set_option maxHeartbeats 1600000 in
theorem markSt_E (i cap : Nat) (L : List Sh) (s : Seg) (hs : hget h i = some s) (hi : i < n) (hrw : s.rw = true) (hn : s.n = L.length * 266) (hc : ∀ k, k < L.length * 266 → s.c k = stC L k) (hm9 : L.length ≤ 10000000) (K : HK)
    (hK : K (.int .i64 (10 * L.length + 1)) (hset h i ⟨L.length * 266, stC (markP L L.length), true, s.own⟩) n) :
    CallE Try.prog cx 15 [.sl i 0 L.length cap, .int .i64 1] h n K := by
  refine CallE.to _ _ (by simp only [go_sem, Nat.reduceBEq, Nat.reduceLT, Nat.reduceLeDiff, Nat.reduceAdd, Nat.reduceMul, Nat.reduceSub, Nat.reduceMod, Nat.reduceDiv, Nat.reduceEqDiff, Int.reduceToNat, reduceIte, reduceCtorEq, Int.reduceLE, Int.reduceLT, Int.reduceEq, Int.reduceNeg, Int.reduceAdd, Int.reduceSub, Int.reduceMul]) (fun hok => hok_set hok fun k hk => stC_flat _ _) hK ?_
  refine callE_of_T (P := Try.prog) hti (nt := 44) (rs := [.tmp 4]) rfl rfl Try.call15 Try.func15 rfl _ (by simp only [go_sem, and_self]) (Nat.le_of_ble_eq_true rfl) _ fun hok => ?_
  simp only [go_sem, Nat.reduceBEq, Nat.reduceLT, Nat.reduceLeDiff, Nat.reduceAdd, Nat.reduceMul, Nat.reduceSub, Nat.reduceMod, Nat.reduceDiv, Nat.reduceEqDiff, Int.reduceToNat, reduceIte, reduceCtorEq, Int.reduceLE, Int.reduceLT, Int.reduceEq, Int.reduceNeg, Int.reduceAdd, Int.reduceSub, Int.reduceMul]
  have hgi : ∀ t, hget (hset h i t) i = some t := hget_hset_self hs
  refine T_lp (ι := { q : Nat // q ≤ L.length })
    (fun q => ([(0, .sl i 0 L.length cap), (1, .int .i64 (10 * q.1 + 1)), (5, .int .i64 q.1)], hset h i ⟨L.length * 266, stC (markP L q.1), true, s.own⟩, n)) (fun q => L.length - q.1) ⟨0, Nat.zero_le _⟩ ?_ ?_
  · refine Imp.id (by simp) ?_ ?_
    · simp only [go_sem, Nat.reduceBEq, Nat.reduceLT, Nat.reduceLeDiff, Nat.reduceAdd, Nat.reduceMul, Nat.reduceSub, Nat.reduceMod, Nat.reduceDiv, Nat.reduceEqDiff, Int.reduceToNat, reduceIte, reduceCtorEq, Int.reduceLE, Int.reduceLT, Int.reduceEq, Int.reduceNeg, Int.reduceAdd, Int.reduceSub, Int.reduceMul]
      exact hi
    · exact impH.set0 hok (Nat.le_refl _) hs (fun j hj hji t ht => ht) hs (SegLe.flat (by rw [hn]; exact Nat.le_refl _) (fun _ => hrw) (.inr rfl) fun k hk => ⟨hc k hk, stC_flat _ _⟩)
  · rintro ⟨q, hq⟩
    simp only [go_sem, Nat.reduceBEq, Nat.reduceLT, Nat.reduceLeDiff, Nat.reduceAdd, Nat.reduceMul, Nat.reduceSub, Nat.reduceMod, Nat.reduceDiv, Nat.reduceEqDiff, Int.reduceToNat, reduceIte, reduceCtorEq, Int.reduceLE, Int.reduceLT, Int.reduceEq, Int.reduceNeg, Int.reduceAdd, Int.reduceSub, Int.reduceMul, decide_eq_true_eq, decide_eq_false_iff_not]
    refine ⟨fun h1 => ?_, fun h1 => ?_⟩
    · have hq1 : q < L.length := by omega
      have r1 : (0 : Int) ≤ q ∧ (q : Int) < L.length := ⟨by omega, by omega⟩
      have b1 : q * 266 ≤ L.length * 266 - 1 := by omega
      have b2 : q * 266 + 1 ≤ L.length * 266 := by omega
      have b3 : q * 266 + 1 ≤ L.length * 266 - 1 := by omega
      have b4 : q * 266 + 1 + 1 ≤ L.length * 266 := by omega
      have b4' : q * 266 + 2 ≤ L.length * 266 := by omega
      have b5 : 1 ≤ L.length * 266 := by omega
      have b6 : (1 = L.length * 266) = False := eq_false (by omega)
      have hl := markP_len L q
      have e1 := stC_setWide (markP L q) q (IntKind.i8.wrap (10 * (q : Int) + 1)) (by omega)
      have e2 := stC_setHigh ((markP L q).set q (((markP L q).getD q sh0).setWide (IntKind.i8.wrap (10 * (q : Int) + 1)))) q (IntKind.i8.wrap (10 * (q : Int) + 1 + 1)) (by rw [List.length_set]; omega)
      have e3 : ((markP L q).set q (((markP L q).getD q sh0).setWide (IntKind.i8.wrap (10 * (q : Int) + 1)))).getD q sh0 = (((markP L q).getD q sh0).setWide (IntKind.i8.wrap (10 * (q : Int) + 1))) := by rw [getD_set, if_pos ⟨rfl, by omega⟩]
      rw [e3, List.set_set] at e2
      simp only [go_sem, Nat.reduceBEq, Nat.reduceLT, Nat.reduceLeDiff, Nat.reduceAdd, Nat.reduceMul, Nat.reduceSub, Nat.reduceMod, Nat.reduceDiv, Nat.reduceEqDiff, Int.reduceToNat, reduceIte, reduceCtorEq, Int.reduceLE, Int.reduceLT, Int.reduceEq, Int.reduceNeg, Int.reduceAdd, Int.reduceSub, Int.reduceMul, hgi, hi, r1, b1, b2, b3, b4, b4', b5, b6, and_false, if_false, e1, e2, w64 (n := 10 * (q : Int) + 1 + 1) (by omega), w64 (n := 10 * (q : Int) + 1 + 1 + 1) (by omega)]
      refine T_lp (ι := { j : Nat // j ≤ 8 })
        (fun j => ([(0, .sl i 0 L.length cap), (1, .int .i64 (10 * q + 1 + 1 + 1 + j.1)), (5, .int .i64 q), (6, .int .i64 j.1)], hset h i ⟨L.length * 266, stC ((markP L q).set q (markS ((markP L q).getD q sh0) q j.1)), true, s.own⟩, n)) (fun j => 8 - j.1) ⟨0, Nat.zero_le _⟩ ?_ ?_
      · refine Imp.id (by simp) ?_ ?_
        · simp only [go_sem, Nat.reduceBEq, Nat.reduceLT, Nat.reduceLeDiff, Nat.reduceAdd, Nat.reduceMul, Nat.reduceSub, Nat.reduceMod, Nat.reduceDiv, Nat.reduceEqDiff, Int.reduceToNat, reduceIte, reduceCtorEq, Int.reduceLE, Int.reduceLT, Int.reduceEq, Int.reduceNeg, Int.reduceAdd, Int.reduceSub, Int.reduceMul]
          exact ⟨hi, congrArg (SV.int IntKind.i64) (Int.add_zero _).symm⟩
        · exact impH.base0 (hok_set hok fun k hk => stC_flat _ _) (by simp) HExt.rfl
      · rintro ⟨j, hj⟩
        simp only [go_sem, Nat.reduceBEq, Nat.reduceLT, Nat.reduceLeDiff, Nat.reduceAdd, Nat.reduceMul, Nat.reduceSub, Nat.reduceMod, Nat.reduceDiv, Nat.reduceEqDiff, Int.reduceToNat, reduceIte, reduceCtorEq, Int.reduceLE, Int.reduceLT, Int.reduceEq, Int.reduceNeg, Int.reduceAdd, Int.reduceSub, Int.reduceMul, decide_eq_true_eq, decide_eq_false_iff_not]
        refine ⟨fun h2 => ?_, fun h2 => ?_⟩
        · have j0 : (0 : Int) ≤ j ∧ (j : Int) < 8 := ⟨by omega, h2⟩
          have c1 : q * 266 + 258 + j ≤ L.length * 266 - 1 := by omega
          have c2 : q * 266 + 258 + j + 1 ≤ L.length * 266 := by omega
          have e4 := stC_setWax ((markP L q).set q (markS ((markP L q).getD q sh0) q j)) q (IntKind.u8.wrap (10 * (q : Int) + 1 + 1 + 1 + j)) (by rw [List.length_set]; omega) (y := j) (by omega)
          have e5 : ((markP L q).set q (markS ((markP L q).getD q sh0) q j)).getD q sh0 = markS ((markP L q).getD q sh0) q j := by rw [getD_set, if_pos ⟨rfl, by omega⟩]
          rw [e5, List.set_set] at e4
          simp only [go_sem, Nat.reduceBEq, Nat.reduceLT, Nat.reduceLeDiff, Nat.reduceAdd, Nat.reduceMul, Nat.reduceSub, Nat.reduceMod, Nat.reduceDiv, Nat.reduceEqDiff, Int.reduceToNat, reduceIte, reduceCtorEq, Int.reduceLE, Int.reduceLT, Int.reduceEq, Int.reduceNeg, Int.reduceAdd, Int.reduceSub, Int.reduceMul, hgi, hi, r1, j0, b5, b6, and_false, if_false, c1, c2, e4]
          refine ⟨⟨j + 1, by omega⟩, by show 8 - (j + 1) < 8 - j; omega, ?_⟩
          refine Imp.id (by simp) ?_ ?_
          · simp only [go_sem, Nat.reduceBEq, Nat.reduceLT, Nat.reduceLeDiff, Nat.reduceAdd, Nat.reduceMul, Nat.reduceSub, Nat.reduceMod, Nat.reduceDiv, Nat.reduceEqDiff, Int.reduceToNat, reduceIte, reduceCtorEq, Int.reduceLE, Int.reduceLT, Int.reduceEq, Int.reduceNeg, Int.reduceAdd, Int.reduceSub, Int.reduceMul, w64 (n := (j : Int) + 1) (by omega), w64 (n := 10 * (q : Int) + 1 + 1 + 1 + j + 1) (by omega), Int.natCast_add, Int.natCast_one]
            exact ⟨hi, congrArg (SV.int IntKind.i64) (by omega)⟩
          · exact impH.base0 (hok_set hok fun k hk => stC_flat _ _) (by simp) HExt.rfl
        · have hj8 : j = 8 := by omega
          subst hj8
          refine ⟨⟨q + 1, by omega⟩, by show L.length - (q + 1) < L.length - q; omega, ?_⟩
          refine Imp.id (by simp) ?_ ?_
          · simp only [go_sem, Nat.reduceBEq, Nat.reduceLT, Nat.reduceLeDiff, Nat.reduceAdd, Nat.reduceMul, Nat.reduceSub, Nat.reduceMod, Nat.reduceDiv, Nat.reduceEqDiff, Int.reduceToNat, reduceIte, reduceCtorEq, Int.reduceLE, Int.reduceLT, Int.reduceEq, Int.reduceNeg, Int.reduceAdd, Int.reduceSub, Int.reduceMul, w64 (n := (q : Int) + 1) (by omega), Int.natCast_add, Int.natCast_one]
            exact ⟨hi, congrArg (SV.int IntKind.i64) (by omega)⟩
          · exact impH.base0 (hok_set hok fun k hk => stC_flat _ _) (by simp) HExt.rfl
    · have hq' : q = L.length := by omega
      subst hq'
      simp only [go_sem, Nat.reduceBEq, Nat.reduceLT, Nat.reduceLeDiff, Nat.reduceAdd, Nat.reduceMul, Nat.reduceSub, Nat.reduceMod, Nat.reduceDiv, Nat.reduceEqDiff, Int.reduceToNat, reduceIte, reduceCtorEq, Int.reduceLE, Int.reduceLT, Int.reduceEq, Int.reduceNeg, Int.reduceAdd, Int.reduceSub, Int.reduceMul, HExt_cons]
set_option maxRecDepth 100000 in
theorem heldSt_Q (i cap : Nat) (L : List Sh) (s : Seg) (hs : hget h i = some s) (hi : i < n) (hn : s.n = L.length * 266) (hc : s.c = stC L) (hM : Marked L) (hm9 : L.length ≤ 10000000) :
    CallQ Try.prog cx 16 [.sl i 0 L.length cap, .int .i64 1] h n (.int .i64 (10 * L.length + 1)) := by
  refine callQ_of_T (P := Try.prog) hti (nt := 50) (rs := [.tmp 4]) rfl rfl Try.call16 Try.func16 rfl _ (by simp only [go_sem, and_self]) (Nat.le_of_ble_eq_true rfl) _ (by first | exact trivial | (refine lt_flat rfl ?_; simp [SV.flat]; done) | simp only [go_sem]) fun hok => ?_
  simp only [go_sem, Nat.reduceBEq, Nat.reduceLT, Nat.reduceLeDiff, Nat.reduceAdd, Nat.reduceMul, Nat.reduceSub, Nat.reduceMod, Nat.reduceDiv, Nat.reduceEqDiff, Int.reduceToNat, reduceIte, reduceCtorEq, Int.reduceLE, Int.reduceLT, Int.reduceEq, Int.reduceNeg, Int.reduceAdd, Int.reduceSub, Int.reduceMul]
  refine T_lp (ι := { q : Nat // q ≤ L.length })
    (fun q => ([(0, .sl i 0 L.length cap), (1, .int .i64 (10 * q.1 + 1)), (5, .int .i64 q.1)], h, n)) (fun q => L.length - q.1) ⟨0, Nat.zero_le _⟩ ?_ ?_
  · refine Imp.id (by simp) ?_ (impH.base0 hok (by simp) HExt.rfl)
    simp only [go_sem, Nat.reduceBEq, Nat.reduceLT, Nat.reduceLeDiff, Nat.reduceAdd, Nat.reduceMul, Nat.reduceSub, Nat.reduceMod, Nat.reduceDiv, Nat.reduceEqDiff, Int.reduceToNat, reduceIte, reduceCtorEq, Int.reduceLE, Int.reduceLT, Int.reduceEq, Int.reduceNeg, Int.reduceAdd, Int.reduceSub, Int.reduceMul]
    exact hi
  · rintro ⟨q, hq⟩
    simp only [go_sem, Nat.reduceBEq, Nat.reduceLT, Nat.reduceLeDiff, Nat.reduceAdd, Nat.reduceMul, Nat.reduceSub, Nat.reduceMod, Nat.reduceDiv, Nat.reduceEqDiff, Int.reduceToNat, reduceIte, reduceCtorEq, Int.reduceLE, Int.reduceLT, Int.reduceEq, Int.reduceNeg, Int.reduceAdd, Int.reduceSub, Int.reduceMul, decide_eq_true_eq, decide_eq_false_iff_not]
    refine ⟨fun h1 => ?_, fun h1 => ?_⟩
    · have hq1 : q < L.length := by omega
      obtain ⟨m1, m2, m3⟩ := hM q hq1
      have r1 : (0 : Int) ≤ q ∧ (q : Int) < L.length := ⟨by omega, by omega⟩
      have b1 : q * 266 ≤ s.n - 1 := by omega
      have b2 : q * 266 + 1 ≤ s.n := by omega
      have b3 : q * 266 + 1 ≤ s.n - 1 := by omega
      have b4' : q * 266 + 2 ≤ s.n := by omega
      have b5 : 1 ≤ s.n := by omega
      have e1 : s.c (q * 266) = .int .i8 (IntKind.i8.wrap (10 * (q : Int) + 1)) := by rw [hc, stC_wide, m1]
      have e2 : s.c (q * 266 + 1) = .int .i8 (IntKind.i8.wrap (10 * (q : Int) + 1 + 1)) := by rw [hc, stC_high, m2]
      simp only [go_sem, Nat.reduceBEq, Nat.reduceLT, Nat.reduceLeDiff, Nat.reduceAdd, Nat.reduceMul, Nat.reduceSub, Nat.reduceMod, Nat.reduceDiv, Nat.reduceEqDiff, Int.reduceToNat, reduceIte, reduceCtorEq, Int.reduceLE, Int.reduceLT, Int.reduceEq, Int.reduceNeg, Int.reduceAdd, Int.reduceSub, Int.reduceMul, hs, hi, r1, b1, b2, b3, b4', b5, e1, e2, w64 (n := 10 * (q : Int) + 1 + 1) (by omega), w64 (n := 10 * (q : Int) + 1 + 1 + 1) (by omega)]
      refine T_lp (ι := { j : Nat // j ≤ 8 })
        (fun j => ([(0, .sl i 0 L.length cap), (1, .int .i64 (10 * q + 1 + 1 + 1 + j.1)), (5, .int .i64 q), (6, .int .i64 j.1)], h, n)) (fun j => 8 - j.1) ⟨0, Nat.zero_le _⟩ ?_ ?_
      · refine Imp.id (by simp) ?_ (impH.base0 hok (by simp) HExt.rfl)
        simp only [go_sem, Nat.reduceBEq, Nat.reduceLT, Nat.reduceLeDiff, Nat.reduceAdd, Nat.reduceMul, Nat.reduceSub, Nat.reduceMod, Nat.reduceDiv, Nat.reduceEqDiff, Int.reduceToNat, reduceIte, reduceCtorEq, Int.reduceLE, Int.reduceLT, Int.reduceEq, Int.reduceNeg, Int.reduceAdd, Int.reduceSub, Int.reduceMul]
        exact ⟨hi, congrArg (SV.int IntKind.i64) (Int.add_zero _).symm⟩
      · rintro ⟨j, hj⟩
        simp only [go_sem, Nat.reduceBEq, Nat.reduceLT, Nat.reduceLeDiff, Nat.reduceAdd, Nat.reduceMul, Nat.reduceSub, Nat.reduceMod, Nat.reduceDiv, Nat.reduceEqDiff, Int.reduceToNat, reduceIte, reduceCtorEq, Int.reduceLE, Int.reduceLT, Int.reduceEq, Int.reduceNeg, Int.reduceAdd, Int.reduceSub, Int.reduceMul, decide_eq_true_eq, decide_eq_false_iff_not]
        refine ⟨fun h2 => ?_, fun h2 => ?_⟩
        · have j0 : (0 : Int) ≤ j ∧ (j : Int) < 8 := ⟨by omega, h2⟩
          have c1 : q * 266 + 258 + j ≤ s.n - 1 := by omega
          have c2 : q * 266 + 258 + j + 1 ≤ s.n := by omega
          have e4 : s.c (q * 266 + 258 + j) = .int .u8 (IntKind.u8.wrap (10 * (q : Int) + 1 + 1 + 1 + j)) := by rw [hc, stC_wax L q (y := j) (by omega), m3 j (by omega)]
          simp only [go_sem, Nat.reduceBEq, Nat.reduceLT, Nat.reduceLeDiff, Nat.reduceAdd, Nat.reduceMul, Nat.reduceSub, Nat.reduceMod, Nat.reduceDiv, Nat.reduceEqDiff, Int.reduceToNat, reduceIte, reduceCtorEq, Int.reduceLE, Int.reduceLT, Int.reduceEq, Int.reduceNeg, Int.reduceAdd, Int.reduceSub, Int.reduceMul, hs, hi, r1, j0, b5, c1, c2, e4]
          refine ⟨⟨j + 1, by omega⟩, by show 8 - (j + 1) < 8 - j; omega, ?_⟩
          refine Imp.id (by simp) ?_ (impH.base0 hok (by simp) HExt.rfl)
          simp only [go_sem, Nat.reduceBEq, Nat.reduceLT, Nat.reduceLeDiff, Nat.reduceAdd, Nat.reduceMul, Nat.reduceSub, Nat.reduceMod, Nat.reduceDiv, Nat.reduceEqDiff, Int.reduceToNat, reduceIte, reduceCtorEq, Int.reduceLE, Int.reduceLT, Int.reduceEq, Int.reduceNeg, Int.reduceAdd, Int.reduceSub, Int.reduceMul, w64 (n := (j : Int) + 1) (by omega), w64 (n := 10 * (q : Int) + 1 + 1 + 1 + j + 1) (by omega), Int.natCast_add, Int.natCast_one]
          exact ⟨hi, congrArg (SV.int IntKind.i64) (by omega)⟩
        · have hj8 : j = 8 := by omega
          subst hj8
          refine ⟨⟨q + 1, by omega⟩, by show L.length - (q + 1) < L.length - q; omega, ?_⟩
          refine Imp.id (by simp) ?_ (impH.base0 hok (by simp) HExt.rfl)
          simp only [go_sem, Nat.reduceBEq, Nat.reduceLT, Nat.reduceLeDiff, Nat.reduceAdd, Nat.reduceMul, Nat.reduceSub, Nat.reduceMod, Nat.reduceDiv, Nat.reduceEqDiff, Int.reduceToNat, reduceIte, reduceCtorEq, Int.reduceLE, Int.reduceLT, Int.reduceEq, Int.reduceNeg, Int.reduceAdd, Int.reduceSub, Int.reduceMul, w64 (n := (q : Int) + 1) (by omega), Int.natCast_add, Int.natCast_one]
          exact ⟨hi, congrArg (SV.int IntKind.i64) (by omega)⟩
    · have hq' : q = L.length := by omega
      subst hq'
      simp only [go_sem, Nat.reduceBEq, Nat.reduceLT, Nat.reduceLeDiff, Nat.reduceAdd, Nat.reduceMul, Nat.reduceSub, Nat.reduceMod, Nat.reduceDiv, Nat.reduceEqDiff, Int.reduceToNat, reduceIte, reduceCtorEq, Int.reduceLE, Int.reduceLT, Int.reduceEq, Int.reduceNeg, Int.reduceAdd, Int.reduceSub, Int.reduceMul]
theorem markOut_E (V : SV) (L : List Sh) (lo : Nat) (hA : StOut h lo n V L) (hm9 : L.length ≤ 10000000) (K : HK)
    (hK : ∀ h', HOk n h' → (∀ m h0, m ≤ lo → HExt m h0 h → HExt m h0 h') → StHeld h' lo n V L.length → K (.int .i64 (10 * L.length + 1)) h' n) :
    CallE Try.prog cx 15 [V, .int .i64 1] h n K := by
  refine CallE.hokE ?_
  rcases hA with ⟨rfl, rfl⟩ | ⟨i, cap, s, rfl, h0, hi, hs, hrw, hn, hc⟩
  · refine callE_of_T (P := Try.prog) hti (nt := 44) (rs := [.tmp 4]) rfl rfl Try.call15 Try.func15 rfl _ (by simp only [go_sem, and_self]) (Nat.le_of_ble_eq_true rfl) _ fun hok => ?_
    simp only [go_sem, Nat.reduceBEq, Nat.reduceLT, Nat.reduceLeDiff, Nat.reduceAdd, Nat.reduceMul, Nat.reduceSub, Nat.reduceMod, Nat.reduceDiv, Nat.reduceEqDiff, Int.reduceToNat, reduceIte, reduceCtorEq, Int.reduceLE, Int.reduceLT, Int.reduceEq, Int.reduceNeg, Int.reduceAdd, Int.reduceSub, Int.reduceMul]
    refine T_unroll 0 ?_
    simp only [go_sem, Nat.reduceBEq, Nat.reduceLT, Nat.reduceLeDiff, Nat.reduceAdd, Nat.reduceMul, Nat.reduceSub, Nat.reduceMod, Nat.reduceDiv, Nat.reduceEqDiff, Int.reduceToNat, reduceIte, reduceCtorEq, Int.reduceLE, Int.reduceLT, Int.reduceEq, Int.reduceNeg, Int.reduceAdd, Int.reduceSub, Int.reduceMul]
    exact fun hok' => hK h hok' (fun m h0 _ hx => hx) (.inl ⟨rfl, rfl⟩)
  · refine markSt_E cx h n i cap L s hs hi hrw hn hc hm9 _ ?_
    refine fun hok' => hK _ hok' (fun m h0 hm hx j hj t ht => ?_) (.inr ⟨i, cap, _, markP L L.length, rfl, h0, hi, hget_hset_self hs _, rfl, rfl, markP_len L _, markP_marked L⟩)
    rw [hget_hset, if_neg (by omega)]; exact hx j hj t ht
theorem heldOut_Q (V : SV) (len lo : Nat) (hA : StHeld h lo n V len) (hm9 : len ≤ 10000000) :
    CallQ Try.prog cx 16 [V, .int .i64 1] h n (.int .i64 (10 * len + 1)) := by
  rcases hA with ⟨rfl, rfl⟩ | ⟨i, cap, s, L, rfl, h0, hi, hs, hn, hc, hl, hM⟩
  · refine callQ_of_T (P := Try.prog) hti (nt := 50) (rs := [.tmp 4]) rfl rfl Try.call16 Try.func16 rfl _ (by simp only [go_sem, and_self]) (Nat.le_of_ble_eq_true rfl) _ (by first | exact trivial | (refine lt_flat rfl ?_; simp [SV.flat]; done) | simp only [go_sem]) fun hok => ?_
    simp only [go_sem, Nat.reduceBEq, Nat.reduceLT, Nat.reduceLeDiff, Nat.reduceAdd, Nat.reduceMul, Nat.reduceSub, Nat.reduceMod, Nat.reduceDiv, Nat.reduceEqDiff, Int.reduceToNat, reduceIte, reduceCtorEq, Int.reduceLE, Int.reduceLT, Int.reduceEq, Int.reduceNeg, Int.reduceAdd, Int.reduceSub, Int.reduceMul]
    refine T_unroll 0 ?_
    simp only [go_sem, Nat.reduceBEq, Nat.reduceLT, Nat.reduceLeDiff, Nat.reduceAdd, Nat.reduceMul, Nat.reduceSub, Nat.reduceMod, Nat.reduceDiv, Nat.reduceEqDiff, Int.reduceToNat, reduceIte, reduceCtorEq, Int.reduceLE, Int.reduceLT, Int.reduceEq, Int.reduceNeg, Int.reduceAdd, Int.reduceSub, Int.reduceMul]
  · subst hl
    exact heldSt_Q cx h n i cap L s hs hi hn hc hM hm9
end
end Go.Proofs.Ytjepjeaecmioaaa.V

/- Passing down once; the laws of PassTimes and PassDown: the walks. -/
namespace Go.Proofs.Ytjepjeaecmioaaa.V
section
variable (cx : Cx) (h : List (Nat × Seg)) (n : Nat)
theorem passDown2_E (i cap : Nat) (L : List Sh) (s : Seg) (share : Int) (hs : hget h i = some s) (hi : i < n) (hL : StAt s L) (hLR : StR L) (hm9 : L.length ≤ 10000000) (K : HK)
    (hK : ∀ V h' n', n ≤ n' → HExt n h h' → HOk n' h' → StOut h' n n' V (passR L share 1).1.L → K (.tup 4 (cl [V, d3 (passR L share 1).1.d, .int .i64 (passR L share 1).1.w, .int .i64 (passR L share 1).2])) h' n') :
    CallE Try.prog cx 24 [.sl i 0 L.length cap, .int .i64 share] h n K := by
  refine CallE.hokE ?_
  refine callE_of_T (P := Try.prog) hti (nt := 15) (rs := [.tmp 4, .cell 5 31, .tmp 6, .tmp 7]) rfl rfl Try.call24 Try.func24 rfl _ (by simp only [go_sem, and_self]) (Nat.le_of_ble_eq_true rfl) _ fun hok => ?_
  simp only [go_sem, Nat.reduceBEq, Nat.reduceLT, Nat.reduceLeDiff, Nat.reduceAdd, Nat.reduceMul, Nat.reduceSub, Nat.reduceMod, Nat.reduceDiv, Nat.reduceEqDiff, Int.reduceToNat, reduceIte, reduceCtorEq, Int.reduceLE, Int.reduceLT, Int.reduceEq, Int.reduceNeg, Int.reduceAdd, Int.reduceSub, Int.reduceMul]
  refine callA_false (passTimes2_E _ _ _ i cap L s share 1 (by simp only [go_sem, Nat.reduceBEq, Nat.reduceLT, Nat.reduceLeDiff, Nat.reduceAdd, Nat.reduceMul, Nat.reduceSub, Nat.reduceMod, Nat.reduceDiv, Nat.reduceEqDiff, Int.reduceToNat, reduceIte, reduceCtorEq, Int.reduceLE, Int.reduceLT, Int.reduceEq, Int.reduceNeg, Int.reduceAdd, Int.reduceSub, Int.reduceMul, hs, hi]) (by omega) hL hLR hm9 _ ?_)
  generalize passR L share 1 = R at *
  intro V1 h1 n1 hn1 hx1 ok1 I1
  have V1o := I1.ok
  have g0 : hget h1 n = some ⟨3, cl [.int .i64 0, .int .i64 0, .int .i64 0], true, none⟩ := hx1 n (by omega) _ (by simp only [go_sem, Nat.reduceBEq, Nat.reduceLT, Nat.reduceLeDiff, Nat.reduceAdd, Nat.reduceMul, Nat.reduceSub, Nat.reduceMod, Nat.reduceDiv, Nat.reduceEqDiff, Int.reduceToNat, reduceIte, reduceCtorEq, Int.reduceLE, Int.reduceLT, Int.reduceEq, Int.reduceNeg, Int.reduceAdd, Int.reduceSub, Int.reduceMul])
  simp only [go_sem, Nat.reduceBEq, Nat.reduceLT, Nat.reduceLeDiff, Nat.reduceAdd, Nat.reduceMul, Nat.reduceSub, Nat.reduceMod, Nat.reduceDiv, Nat.reduceEqDiff, Int.reduceToNat, reduceIte, reduceCtorEq, Int.reduceLE, Int.reduceLT, Int.reduceEq, Int.reduceNeg, Int.reduceAdd, Int.reduceSub, Int.reduceMul, V1o, g0]
  intro hok'
  refine hK V1 _ _ (by omega) (fun j hj t ht => ?_) hok' (StOut.mono' (I1.mono (Nat.le_refl _) fun j hj1 hj2 t ht => ?_) (Nat.le_succ n))
  · rw [hget_hset, if_neg (by omega)]
    exact hx1 j (by omega) t (by simp only [go_sem, Nat.reduceBEq, Nat.reduceLT, Nat.reduceLeDiff, Nat.reduceAdd, Nat.reduceMul, Nat.reduceSub, Nat.reduceMod, Nat.reduceDiv, Nat.reduceEqDiff, Int.reduceToNat, reduceIte, reduceCtorEq, Int.reduceLE, Int.reduceLT, Int.reduceEq, Int.reduceNeg, Int.reduceAdd, Int.reduceSub, Int.reduceMul, show j < n from hj, ht])
  · rw [hget_hset, if_neg (by omega)]
    exact ht
theorem passDown_E (i cap : Nat) (L : List Sh) (s : Seg) (share : Int) (hs : hget h i = some s) (hi : i < n) (hL : StAt s L) (hLR : StR L) (hm9 : L.length ≤ 10000000) (K : HK)
    (hK : ∀ V h' n', n ≤ n' → HExt n h h' → HOk n' h' → StOut h' n n' V (passR L share 1).1.L → K (.tup 4 (cl [V, d3 (passR L share 1).1.d, .int .i64 (passR L share 1).1.w, .int .i64 (passR L share 1).2])) h' n') :
    CallE Try.prog cx 25 [.sl i 0 L.length cap, .int .i64 share] h n K := by
  refine CallE.hokE ?_
  refine callE_of_T (P := Try.prog) hti (nt := 15) (rs := [.tmp 4, .cell 5 31, .tmp 6, .tmp 7]) rfl rfl Try.call25 Try.func25 rfl _ (by simp only [go_sem, and_self]) (Nat.le_of_ble_eq_true rfl) _ fun hok => ?_
  simp only [go_sem, Nat.reduceBEq, Nat.reduceLT, Nat.reduceLeDiff, Nat.reduceAdd, Nat.reduceMul, Nat.reduceSub, Nat.reduceMod, Nat.reduceDiv, Nat.reduceEqDiff, Int.reduceToNat, reduceIte, reduceCtorEq, Int.reduceLE, Int.reduceLT, Int.reduceEq, Int.reduceNeg, Int.reduceAdd, Int.reduceSub, Int.reduceMul]
  refine callA_false (passTimes_E _ _ _ i cap L s share 1 (by simp only [go_sem, Nat.reduceBEq, Nat.reduceLT, Nat.reduceLeDiff, Nat.reduceAdd, Nat.reduceMul, Nat.reduceSub, Nat.reduceMod, Nat.reduceDiv, Nat.reduceEqDiff, Int.reduceToNat, reduceIte, reduceCtorEq, Int.reduceLE, Int.reduceLT, Int.reduceEq, Int.reduceNeg, Int.reduceAdd, Int.reduceSub, Int.reduceMul, hs, hi]) (by omega) hL hLR hm9 _ ?_)
  generalize passR L share 1 = R at *
  intro V1 h1 n1 hn1 hx1 ok1 I1
  have V1o := I1.ok
  have g0 : hget h1 n = some ⟨3, cl [.int .i64 0, .int .i64 0, .int .i64 0], true, none⟩ := hx1 n (by omega) _ (by simp only [go_sem, Nat.reduceBEq, Nat.reduceLT, Nat.reduceLeDiff, Nat.reduceAdd, Nat.reduceMul, Nat.reduceSub, Nat.reduceMod, Nat.reduceDiv, Nat.reduceEqDiff, Int.reduceToNat, reduceIte, reduceCtorEq, Int.reduceLE, Int.reduceLT, Int.reduceEq, Int.reduceNeg, Int.reduceAdd, Int.reduceSub, Int.reduceMul])
  simp only [go_sem, Nat.reduceBEq, Nat.reduceLT, Nat.reduceLeDiff, Nat.reduceAdd, Nat.reduceMul, Nat.reduceSub, Nat.reduceMod, Nat.reduceDiv, Nat.reduceEqDiff, Int.reduceToNat, reduceIte, reduceCtorEq, Int.reduceLE, Int.reduceLT, Int.reduceEq, Int.reduceNeg, Int.reduceAdd, Int.reduceSub, Int.reduceMul, V1o, g0]
  intro hok'
  refine hK V1 _ _ (by omega) (fun j hj t ht => ?_) hok' (StOut.mono' (I1.mono (Nat.le_refl _) fun j hj1 hj2 t ht => ?_) (Nat.le_succ n))
  · rw [hget_hset, if_neg (by omega)]
    exact hx1 j (by omega) t (by simp only [go_sem, Nat.reduceBEq, Nat.reduceLT, Nat.reduceLeDiff, Nat.reduceAdd, Nat.reduceMul, Nat.reduceSub, Nat.reduceMod, Nat.reduceDiv, Nat.reduceEqDiff, Int.reduceToNat, reduceIte, reduceCtorEq, Int.reduceLE, Int.reduceLT, Int.reduceEq, Int.reduceNeg, Int.reduceAdd, Int.reduceSub, Int.reduceMul, show j < n from hj, ht])
  · rw [hget_hset, if_neg (by omega)]
    exact ht
theorem markX_E (i cap : Nat) (L : List Sh) (own : Option (Nat × Nat)) (hs : hget h i = some (stS L own)) (hi : i < n) (hm9 : L.length ≤ 10000000) (K : HK)
    (hK : ∀ h', HOk n h' → (∀ j t, j ≠ i → hget h j = some t → hget h' j = some t) → K (.int .i64 (10 * L.length + 1)) h' n) :
    CallE Try.prog cx 15 [.sl i 0 L.length cap, .int .i64 1] h n K := by
  refine CallE.hokE (markSt_E cx h n i cap L _ hs hi rfl rfl (fun _ _ => rfl) hm9 _ fun hok => hK _ hok fun j t hj ht => ?_)
  rw [hget_hset, if_neg (fun e => hj e.symm)]; exact ht
set_option maxRecDepth 100000 in
set_option maxHeartbeats 1600000 in
theorem lawPT_Q (A : SV) (L : List Sh) (hA : StArg h n A L) (hLR : StR L) (hm : L.length ≤ 9223372036854775807) (share times : Int) :
    CallQ Try.prog cx 4 [A, .int .i64 share, .int .i64 times] h n (.bool true) := by
  have hAo := hA.ok
  have hRl := passR_len (share := share) (times := times) hLR
  have hRR := passR_R (share := share) (times := times) hLR
  refine callQ_of_T (P := Try.prog) hti (nt := 151) (rs := [.tmp 6]) rfl rfl Try.call4 Try.func4 rfl _ (by simp only [go_sem, hAo]) (Nat.le_of_ble_eq_true rfl) _ (by trivial) fun hok => ?_
  simp only [go_sem, Nat.reduceBEq, Nat.reduceLT, Nat.reduceLeDiff, Nat.reduceAdd, Nat.reduceMul, Nat.reduceSub, Nat.reduceMod, Nat.reduceDiv, Nat.reduceEqDiff, Int.reduceToNat, reduceIte, reduceCtorEq, Int.reduceLE, Int.reduceLT, Int.reduceEq, Int.reduceNeg, Int.reduceAdd, Int.reduceSub, Int.reduceMul, hAo]
  refine (szStack_Q _ _ _ A L hA 1048576 (by omega) (by omega)).A ?_
  by_cases hs : 1048576 - (L.length : Int) < 0
  · simp only [go_sem, Nat.reduceBEq, Nat.reduceLT, Nat.reduceLeDiff, Nat.reduceAdd, Nat.reduceMul, Nat.reduceSub, Nat.reduceMod, Nat.reduceDiv, Nat.reduceEqDiff, Int.reduceToNat, reduceIte, reduceCtorEq, Int.reduceLE, Int.reduceLT, Int.reduceEq, Int.reduceNeg, Int.reduceAdd, Int.reduceSub, Int.reduceMul, hAo, hs]
  have hm9 : L.length ≤ 10000000 := by omega
  simp only [go_sem, Nat.reduceBEq, Nat.reduceLT, Nat.reduceLeDiff, Nat.reduceAdd, Nat.reduceMul, Nat.reduceSub, Nat.reduceMod, Nat.reduceDiv, Nat.reduceEqDiff, Int.reduceToNat, reduceIte, reduceCtorEq, Int.reduceLE, Int.reduceLT, Int.reduceEq, Int.reduceNeg, Int.reduceAdd, Int.reduceSub, Int.reduceMul, hAo, hs]
  refine callA_false (toStack_E _ _ _ A L hA hLR hm9 _ ?_)
  simp only [go_sem, Nat.reduceBEq, Nat.reduceLT, Nat.reduceLeDiff, Nat.reduceAdd, Nat.reduceMul, Nat.reduceSub, Nat.reduceMod, Nat.reduceDiv, Nat.reduceEqDiff, Int.reduceToNat, reduceIte, reduceCtorEq, Int.reduceLE, Int.reduceLT, Int.reduceEq, Int.reduceNeg, Int.reduceAdd, Int.reduceSub, Int.reduceMul, hAo]
  refine callA_false (passTimes2_E _ _ _ n _ L _ share times (by first | (simp only [go_sem, Nat.reduceBEq, Nat.reduceLT, Nat.reduceLeDiff, Nat.reduceAdd, Nat.reduceMul, Nat.reduceSub, Nat.reduceMod, Nat.reduceDiv, Nat.reduceEqDiff, Int.reduceToNat, reduceIte, reduceCtorEq, Int.reduceLE, Int.reduceLT, Int.reduceEq, Int.reduceNeg, Int.reduceAdd, Int.reduceSub, Int.reduceMul]; done) | (simp only [go_sem, Nat.reduceBEq, Nat.reduceLT, Nat.reduceLeDiff, Nat.reduceAdd, Nat.reduceMul, Nat.reduceSub, Nat.reduceMod, Nat.reduceDiv, Nat.reduceEqDiff, Int.reduceToNat, reduceIte, reduceCtorEq, Int.reduceLE, Int.reduceLT, Int.reduceEq, Int.reduceNeg, Int.reduceAdd, Int.reduceSub, Int.reduceMul]; rfl)) (by omega) stS_at hLR hm9 _ ?_)
  generalize hRE : passR L share times = R at *
  intro V1 h1 n1 hn1 hx1 ok1 I1
  have V1o := I1.ok
  have X1 : HExt n h h1 := HExt.tr (m' := n + 1) (by simp only [go_sem, Nat.reduceBEq, Nat.reduceLT, Nat.reduceLeDiff, Nat.reduceAdd, Nat.reduceMul, Nat.reduceSub, Nat.reduceMod, Nat.reduceDiv, Nat.reduceEqDiff, Int.reduceToNat, reduceIte, reduceCtorEq, Int.reduceLE, Int.reduceLT, Int.reduceEq, Int.reduceNeg, Int.reduceAdd, Int.reduceSub, Int.reduceMul, HExt_cons]) hx1 (by omega)
  simp only [go_sem, Nat.reduceBEq, Nat.reduceLT, Nat.reduceLeDiff, Nat.reduceAdd, Nat.reduceMul, Nat.reduceSub, Nat.reduceMod, Nat.reduceDiv, Nat.reduceEqDiff, Int.reduceToNat, reduceIte, reduceCtorEq, Int.reduceLE, Int.reduceLT, Int.reduceEq, Int.reduceNeg, Int.reduceAdd, Int.reduceSub, Int.reduceMul, V1o, hAo]
  refine callA_false (toStack_E _ _ _ A L (hA.ext (by omega) (X1.cons (by omega))) hLR hm9 _ ?_)
  simp only [go_sem, Nat.reduceBEq, Nat.reduceLT, Nat.reduceLeDiff, Nat.reduceAdd, Nat.reduceMul, Nat.reduceSub, Nat.reduceMod, Nat.reduceDiv, Nat.reduceEqDiff, Int.reduceToNat, reduceIte, reduceCtorEq, Int.reduceLE, Int.reduceLT, Int.reduceEq, Int.reduceNeg, Int.reduceAdd, Int.reduceSub, Int.reduceMul, V1o, hAo]
  refine callA_false (passTimes_E _ _ _ (n1 + 1) _ L _ share times (by first | (simp only [go_sem, Nat.reduceBEq, Nat.reduceLT, Nat.reduceLeDiff, Nat.reduceAdd, Nat.reduceMul, Nat.reduceSub, Nat.reduceMod, Nat.reduceDiv, Nat.reduceEqDiff, Int.reduceToNat, reduceIte, reduceCtorEq, Int.reduceLE, Int.reduceLT, Int.reduceEq, Int.reduceNeg, Int.reduceAdd, Int.reduceSub, Int.reduceMul]; done) | (simp only [go_sem, Nat.reduceBEq, Nat.reduceLT, Nat.reduceLeDiff, Nat.reduceAdd, Nat.reduceMul, Nat.reduceSub, Nat.reduceMod, Nat.reduceDiv, Nat.reduceEqDiff, Int.reduceToNat, reduceIte, reduceCtorEq, Int.reduceLE, Int.reduceLT, Int.reduceEq, Int.reduceNeg, Int.reduceAdd, Int.reduceSub, Int.reduceMul]; rfl)) (by omega) stS_at hLR hm9 _ ?_)
  rw [hRE]
  intro V2 h2 n2 hn2 hx2 ok2 I2
  have V2o := I2.ok
  have X2 : HExt n h h2 := HExt.tr (m' := n1 + 2) ((X1.cons (by omega)).cons (by omega)) hx2 (by omega)
  have g21 : hget h2 n1 = some ⟨3, cl [.int .i64 (R.1.d 0), .int .i64 (R.1.d 1), .int .i64 (R.1.d 2)], true, none⟩ := hx2 n1 (by omega) _ (by simp only [go_sem, Nat.reduceBEq, Nat.reduceLT, Nat.reduceLeDiff, Nat.reduceAdd, Nat.reduceMul, Nat.reduceSub, Nat.reduceMod, Nat.reduceDiv, Nat.reduceEqDiff, Int.reduceToNat, reduceIte, reduceCtorEq, Int.reduceLE, Int.reduceLT, Int.reduceEq, Int.reduceNeg, Int.reduceAdd, Int.reduceSub, Int.reduceMul])
  have g22 : hget h2 (n1 + 1) = some (stS L (some (51, L.length * 266))) := hx2 (n1 + 1) (by omega) _ (by simp only [go_sem, Nat.reduceBEq, Nat.reduceLT, Nat.reduceLeDiff, Nat.reduceAdd, Nat.reduceMul, Nat.reduceSub, Nat.reduceMod, Nat.reduceDiv, Nat.reduceEqDiff, Int.reduceToNat, reduceIte, reduceCtorEq, Int.reduceLE, Int.reduceLT, Int.reduceEq, Int.reduceNeg, Int.reduceAdd, Int.reduceSub, Int.reduceMul])
  have I12 : StOut h2 (n + 1) n2 V1 R.1.L := I1.ext (by omega) (HExt.tr (m' := n1 + 2) (by simp only [go_sem, Nat.reduceBEq, Nat.reduceLT, Nat.reduceLeDiff, Nat.reduceAdd, Nat.reduceMul, Nat.reduceSub, Nat.reduceMod, Nat.reduceDiv, Nat.reduceEqDiff, Int.reduceToNat, reduceIte, reduceCtorEq, Int.reduceLE, Int.reduceLT, Int.reduceEq, Int.reduceNeg, Int.reduceAdd, Int.reduceSub, Int.reduceMul, HExt_cons]) hx2 (by omega))
  have lt1 : n1 < n2 := by omega
  simp only [go_sem, Nat.reduceBEq, Nat.reduceLT, Nat.reduceLeDiff, Nat.reduceAdd, Nat.reduceMul, Nat.reduceSub, Nat.reduceMod, Nat.reduceDiv, Nat.reduceEqDiff, Int.reduceToNat, reduceIte, reduceCtorEq, Int.reduceLE, Int.reduceLT, Int.reduceEq, Int.reduceNeg, Int.reduceAdd, Int.reduceSub, Int.reduceMul, V1o, V2o, hAo]
  refine (eqStOut_Q _ _ _ V2 V1 R.1.L _ _ (I2.ext (by omega) (by simp only [go_sem, Nat.reduceBEq, Nat.reduceLT, Nat.reduceLeDiff, Nat.reduceAdd, Nat.reduceMul, Nat.reduceSub, Nat.reduceMod, Nat.reduceDiv, Nat.reduceEqDiff, Int.reduceToNat, reduceIte, reduceCtorEq, Int.reduceLE, Int.reduceLT, Int.reduceEq, Int.reduceNeg, Int.reduceAdd, Int.reduceSub, Int.reduceMul, HExt_cons])) (I12.ext (by omega) (by simp only [go_sem, Nat.reduceBEq, Nat.reduceLT, Nat.reduceLeDiff, Nat.reduceAdd, Nat.reduceMul, Nat.reduceSub, Nat.reduceMod, Nat.reduceDiv, Nat.reduceEqDiff, Int.reduceToNat, reduceIte, reduceCtorEq, Int.reduceLE, Int.reduceLT, Int.reduceEq, Int.reduceNeg, Int.reduceAdd, Int.reduceSub, Int.reduceMul, HExt_cons])) hRR (by omega)).A ?_
  simp only [go_sem, Nat.reduceBEq, Nat.reduceLT, Nat.reduceLeDiff, Nat.reduceAdd, Nat.reduceMul, Nat.reduceSub, Nat.reduceMod, Nat.reduceDiv, Nat.reduceEqDiff, Int.reduceToNat, reduceIte, reduceCtorEq, Int.reduceLE, Int.reduceLT, Int.reduceEq, Int.reduceNeg, Int.reduceAdd, Int.reduceSub, Int.reduceMul, V1o, V2o, hAo, g21, lt1]
  refine (eqA3_Q _ _ _ R.1.d R.1.d ⟨rfl, rfl, rfl⟩).A ?_
  simp only [go_sem, Nat.reduceBEq, Nat.reduceLT, Nat.reduceLeDiff, Nat.reduceAdd, Nat.reduceMul, Nat.reduceSub, Nat.reduceMod, Nat.reduceDiv, Nat.reduceEqDiff, Int.reduceToNat, reduceIte, reduceCtorEq, Int.reduceLE, Int.reduceLT, Int.reduceEq, Int.reduceNeg, Int.reduceAdd, Int.reduceSub, Int.reduceMul, V1o, V2o, hAo]
  refine callA_false (toStack_E _ _ _ A L (hA.ext (by omega) (X2.cons (by omega))) hLR hm9 _ ?_)
  simp only [go_sem, Nat.reduceBEq, Nat.reduceLT, Nat.reduceLeDiff, Nat.reduceAdd, Nat.reduceMul, Nat.reduceSub, Nat.reduceMod, Nat.reduceDiv, Nat.reduceEqDiff, Int.reduceToNat, reduceIte, reduceCtorEq, Int.reduceLE, Int.reduceLT, Int.reduceEq, Int.reduceNeg, Int.reduceAdd, Int.reduceSub, Int.reduceMul, V1o, V2o, hAo]
  refine (eqStack_Q _ _ _ (n1 + 1) _ (n2 + 1) _ L _ _ (by simp only [go_sem, Nat.reduceBEq, Nat.reduceLT, Nat.reduceLeDiff, Nat.reduceAdd, Nat.reduceMul, Nat.reduceSub, Nat.reduceMod, Nat.reduceDiv, Nat.reduceEqDiff, Int.reduceToNat, reduceIte, reduceCtorEq, Int.reduceLE, Int.reduceLT, Int.reduceEq, Int.reduceNeg, Int.reduceAdd, Int.reduceSub, Int.reduceMul, show n1 + 1 < n2 by omega, g22]; rfl) (by omega) stS_at (by first | (simp only [go_sem, Nat.reduceBEq, Nat.reduceLT, Nat.reduceLeDiff, Nat.reduceAdd, Nat.reduceMul, Nat.reduceSub, Nat.reduceMod, Nat.reduceDiv, Nat.reduceEqDiff, Int.reduceToNat, reduceIte, reduceCtorEq, Int.reduceLE, Int.reduceLT, Int.reduceEq, Int.reduceNeg, Int.reduceAdd, Int.reduceSub, Int.reduceMul]; done) | (simp only [go_sem, Nat.reduceBEq, Nat.reduceLT, Nat.reduceLeDiff, Nat.reduceAdd, Nat.reduceMul, Nat.reduceSub, Nat.reduceMod, Nat.reduceDiv, Nat.reduceEqDiff, Int.reduceToNat, reduceIte, reduceCtorEq, Int.reduceLE, Int.reduceLT, Int.reduceEq, Int.reduceNeg, Int.reduceAdd, Int.reduceSub, Int.reduceMul]; rfl)) (by omega) stS_at hLR hm9).A ?_
  simp only [go_sem, Nat.reduceBEq, Nat.reduceLT, Nat.reduceLeDiff, Nat.reduceAdd, Nat.reduceMul, Nat.reduceSub, Nat.reduceMod, Nat.reduceDiv, Nat.reduceEqDiff, Int.reduceToNat, reduceIte, reduceCtorEq, Int.reduceLE, Int.reduceLT, Int.reduceEq, Int.reduceNeg, Int.reduceAdd, Int.reduceSub, Int.reduceMul, V1o, V2o, hAo]
  refine callA_false (markX_E _ _ _ (n1 + 1) _ L _ (by simp only [go_sem, Nat.reduceBEq, Nat.reduceLT, Nat.reduceLeDiff, Nat.reduceAdd, Nat.reduceMul, Nat.reduceSub, Nat.reduceMod, Nat.reduceDiv, Nat.reduceEqDiff, Int.reduceToNat, reduceIte, reduceCtorEq, Int.reduceLE, Int.reduceLT, Int.reduceEq, Int.reduceNeg, Int.reduceAdd, Int.reduceSub, Int.reduceMul, show n1 + 1 < n2 by omega, g22]; rfl) (by omega) hm9 _ ?_)
  intro h3 ok3 keep3
  have g31 : hget h3 n1 = some ⟨3, cl [.int .i64 (R.1.d 0), .int .i64 (R.1.d 1), .int .i64 (R.1.d 2)], true, none⟩ := keep3 _ _ (by omega) (by simp only [go_sem, Nat.reduceBEq, Nat.reduceLT, Nat.reduceLeDiff, Nat.reduceAdd, Nat.reduceMul, Nat.reduceSub, Nat.reduceMod, Nat.reduceDiv, Nat.reduceEqDiff, Int.reduceToNat, reduceIte, reduceCtorEq, Int.reduceLE, Int.reduceLT, Int.reduceEq, Int.reduceNeg, Int.reduceAdd, Int.reduceSub, Int.reduceMul, lt1, g21])
  have g32 : hget h3 n2 = some ⟨3, cl [.int .i64 (R.1.d 0), .int .i64 (R.1.d 1), .int .i64 (R.1.d 2)], true, none⟩ := keep3 _ _ (by omega) (by simp only [go_sem, Nat.reduceBEq, Nat.reduceLT, Nat.reduceLeDiff, Nat.reduceAdd, Nat.reduceMul, Nat.reduceSub, Nat.reduceMod, Nat.reduceDiv, Nat.reduceEqDiff, Int.reduceToNat, reduceIte, reduceCtorEq, Int.reduceLE, Int.reduceLT, Int.reduceEq, Int.reduceNeg, Int.reduceAdd, Int.reduceSub, Int.reduceMul])
  have kx : ∀ j t, j ≠ n1 + 1 → j < n2 → hget h2 j = some t → hget h3 j = some t := fun j t hj1 hj2 ht => keep3 j t hj1 (by simp only [go_sem, Nat.reduceBEq, Nat.reduceLT, Nat.reduceLeDiff, Nat.reduceAdd, Nat.reduceMul, Nat.reduceSub, Nat.reduceMod, Nat.reduceDiv, Nat.reduceEqDiff, Int.reduceToNat, reduceIte, reduceCtorEq, Int.reduceLE, Int.reduceLT, Int.reduceEq, Int.reduceNeg, Int.reduceAdd, Int.reduceSub, Int.reduceMul, hj2, ht])
  have I13 : StOut h3 (n + 1) (n2 + 2) V1 R.1.L := I1.mono (by omega) fun j hj1 hj2 t ht => kx j t (by omega) (by omega) (hx2 j (by omega) t (by simp only [go_sem, Nat.reduceBEq, Nat.reduceLT, Nat.reduceLeDiff, Nat.reduceAdd, Nat.reduceMul, Nat.reduceSub, Nat.reduceMod, Nat.reduceDiv, Nat.reduceEqDiff, Int.reduceToNat, reduceIte, reduceCtorEq, Int.reduceLE, Int.reduceLT, Int.reduceEq, Int.reduceNeg, Int.reduceAdd, Int.reduceSub, Int.reduceMul, hj2, show j < n1 + 1 by omega, ht]))
  have I23 : StOut h3 (n1 + 2) (n2 + 2) V2 R.1.L := I2.mono (by omega) fun j hj1 hj2 t ht => kx j t (by omega) hj2 ht
  have X3 : HExt n h h3 := fun j hj t ht => kx j t (by omega) (by omega) (X2 j hj t ht)
  have pos1 : ¬ (10 * (L.length : Int) + 1 < 0) := by omega
  have pos2 : ¬ (10 * (R.1.L.length : Int) + 1 < 0) := by omega
  have lt2 : n1 < n2 + 2 := by omega
  simp only [go_sem, Nat.reduceBEq, Nat.reduceLT, Nat.reduceLeDiff, Nat.reduceAdd, Nat.reduceMul, Nat.reduceSub, Nat.reduceMod, Nat.reduceDiv, Nat.reduceEqDiff, Int.reduceToNat, reduceIte, reduceCtorEq, Int.reduceLE, Int.reduceLT, Int.reduceEq, Int.reduceNeg, Int.reduceAdd, Int.reduceSub, Int.reduceMul, V1o, V2o, hAo, pos1]
  refine (eqStOut_Q _ _ _ V2 V1 R.1.L _ _ I23 I13 hRR (by omega)).A ?_
  simp only [go_sem, Nat.reduceBEq, Nat.reduceLT, Nat.reduceLeDiff, Nat.reduceAdd, Nat.reduceMul, Nat.reduceSub, Nat.reduceMod, Nat.reduceDiv, Nat.reduceEqDiff, Int.reduceToNat, reduceIte, reduceCtorEq, Int.reduceLE, Int.reduceLT, Int.reduceEq, Int.reduceNeg, Int.reduceAdd, Int.reduceSub, Int.reduceMul, V1o, V2o, hAo, g31, g32, lt2]
  refine (eqA3_Q _ _ _ R.1.d R.1.d ⟨rfl, rfl, rfl⟩).A ?_
  simp only [go_sem, Nat.reduceBEq, Nat.reduceLT, Nat.reduceLeDiff, Nat.reduceAdd, Nat.reduceMul, Nat.reduceSub, Nat.reduceMod, Nat.reduceDiv, Nat.reduceEqDiff, Int.reduceToNat, reduceIte, reduceCtorEq, Int.reduceLE, Int.reduceLT, Int.reduceEq, Int.reduceNeg, Int.reduceAdd, Int.reduceSub, Int.reduceMul, V1o, V2o, hAo]
  refine callA_false (markOut_E _ _ _ V2 R.1.L (n1 + 2) I23 (by omega) _ ?_)
  intro h4 ok4 keep4 I24
  have x4 : HExt (n1 + 2) h3 h4 := keep4 _ _ (Nat.le_refl _) HExt.rfl
  have g41 : hget h4 n1 = some ⟨3, cl [.int .i64 (R.1.d 0), .int .i64 (R.1.d 1), .int .i64 (R.1.d 2)], true, none⟩ := x4 n1 (by omega) _ g31
  have X4 : HExt n h h4 := X3.tr x4 (by omega)
  have I14 : StOut h4 (n + 1) (n2 + 2) V1 R.1.L := (I1.mono (n' := n1) (h' := h3) (Nat.le_refl _) fun j hj1 hj2 t ht => kx j t (by omega) (by omega) (hx2 j (by omega) t (by simp only [go_sem, Nat.reduceBEq, Nat.reduceLT, Nat.reduceLeDiff, Nat.reduceAdd, Nat.reduceMul, Nat.reduceSub, Nat.reduceMod, Nat.reduceDiv, Nat.reduceEqDiff, Int.reduceToNat, reduceIte, reduceCtorEq, Int.reduceLE, Int.reduceLT, Int.reduceEq, Int.reduceNeg, Int.reduceAdd, Int.reduceSub, Int.reduceMul, hj2, show j < n1 + 1 by omega, ht]))).mono (by omega) fun j hj1 hj2 t ht => x4 j (by omega) t ht
  simp only [go_sem, Nat.reduceBEq, Nat.reduceLT, Nat.reduceLeDiff, Nat.reduceAdd, Nat.reduceMul, Nat.reduceSub, Nat.reduceMod, Nat.reduceDiv, Nat.reduceEqDiff, Int.reduceToNat, reduceIte, reduceCtorEq, Int.reduceLE, Int.reduceLT, Int.reduceEq, Int.reduceNeg, Int.reduceAdd, Int.reduceSub, Int.reduceMul, V1o, V2o, hAo]
  refine (heldOut_Q _ _ _ V2 R.1.L.length _ I24 (by omega)).A ?_
  simp only [go_sem, Nat.reduceBEq, Nat.reduceLT, Nat.reduceLeDiff, Nat.reduceAdd, Nat.reduceMul, Nat.reduceSub, Nat.reduceMod, Nat.reduceDiv, Nat.reduceEqDiff, Int.reduceToNat, reduceIte, reduceCtorEq, Int.reduceLE, Int.reduceLT, Int.reduceEq, Int.reduceNeg, Int.reduceAdd, Int.reduceSub, Int.reduceMul, V1o, V2o, hAo, pos2]
  refine callA_false (toStack_E _ _ _ A L (hA.ext (by omega) X4) hLR hm9 _ ?_)
  simp only [go_sem, Nat.reduceBEq, Nat.reduceLT, Nat.reduceLeDiff, Nat.reduceAdd, Nat.reduceMul, Nat.reduceSub, Nat.reduceMod, Nat.reduceDiv, Nat.reduceEqDiff, Int.reduceToNat, reduceIte, reduceCtorEq, Int.reduceLE, Int.reduceLT, Int.reduceEq, Int.reduceNeg, Int.reduceAdd, Int.reduceSub, Int.reduceMul, V1o, V2o, hAo]
  refine callA_false (passTimes_E _ _ _ (n2 + 2) _ L _ share times (by first | (simp only [go_sem, Nat.reduceBEq, Nat.reduceLT, Nat.reduceLeDiff, Nat.reduceAdd, Nat.reduceMul, Nat.reduceSub, Nat.reduceMod, Nat.reduceDiv, Nat.reduceEqDiff, Int.reduceToNat, reduceIte, reduceCtorEq, Int.reduceLE, Int.reduceLT, Int.reduceEq, Int.reduceNeg, Int.reduceAdd, Int.reduceSub, Int.reduceMul]; done) | (simp only [go_sem, Nat.reduceBEq, Nat.reduceLT, Nat.reduceLeDiff, Nat.reduceAdd, Nat.reduceMul, Nat.reduceSub, Nat.reduceMod, Nat.reduceDiv, Nat.reduceEqDiff, Int.reduceToNat, reduceIte, reduceCtorEq, Int.reduceLE, Int.reduceLT, Int.reduceEq, Int.reduceNeg, Int.reduceAdd, Int.reduceSub, Int.reduceMul]; rfl)) (by omega) stS_at hLR hm9 _ ?_)
  rw [hRE]
  intro V5 h5 n5 hn5 hx5 ok5 I5
  have V5o := I5.ok
  have x45 : HExt (n2 + 2) h4 h5 := HExt.tr (m' := n2 + 3) (by simp only [go_sem, Nat.reduceBEq, Nat.reduceLT, Nat.reduceLeDiff, Nat.reduceAdd, Nat.reduceMul, Nat.reduceSub, Nat.reduceMod, Nat.reduceDiv, Nat.reduceEqDiff, Int.reduceToNat, reduceIte, reduceCtorEq, Int.reduceLE, Int.reduceLT, Int.reduceEq, Int.reduceNeg, Int.reduceAdd, Int.reduceSub, Int.reduceMul, HExt_cons]) hx5 (by omega)
  have X5 : HExt n h h5 := X4.tr x45 (by omega)
  have g51 : hget h5 n1 = some ⟨3, cl [.int .i64 (R.1.d 0), .int .i64 (R.1.d 1), .int .i64 (R.1.d 2)], true, none⟩ := x45 n1 (by omega) _ g41
  have lt5 : n1 < n5 := by omega
  simp only [go_sem, Nat.reduceBEq, Nat.reduceLT, Nat.reduceLeDiff, Nat.reduceAdd, Nat.reduceMul, Nat.reduceSub, Nat.reduceMod, Nat.reduceDiv, Nat.reduceEqDiff, Int.reduceToNat, reduceIte, reduceCtorEq, Int.reduceLE, Int.reduceLT, Int.reduceEq, Int.reduceNeg, Int.reduceAdd, Int.reduceSub, Int.reduceMul, V1o, V2o, V5o, hAo]
  refine (eqStOut_Q _ _ _ V5 V1 R.1.L _ _ (I5.ext (by omega) (by simp only [go_sem, Nat.reduceBEq, Nat.reduceLT, Nat.reduceLeDiff, Nat.reduceAdd, Nat.reduceMul, Nat.reduceSub, Nat.reduceMod, Nat.reduceDiv, Nat.reduceEqDiff, Int.reduceToNat, reduceIte, reduceCtorEq, Int.reduceLE, Int.reduceLT, Int.reduceEq, Int.reduceNeg, Int.reduceAdd, Int.reduceSub, Int.reduceMul, HExt_cons])) (I14.ext (by omega) (x45.cons (by omega))) hRR (by omega)).A ?_
  simp only [go_sem, Nat.reduceBEq, Nat.reduceLT, Nat.reduceLeDiff, Nat.reduceAdd, Nat.reduceMul, Nat.reduceSub, Nat.reduceMod, Nat.reduceDiv, Nat.reduceEqDiff, Int.reduceToNat, reduceIte, reduceCtorEq, Int.reduceLE, Int.reduceLT, Int.reduceEq, Int.reduceNeg, Int.reduceAdd, Int.reduceSub, Int.reduceMul, V1o, V2o, V5o, hAo, g51, lt5]
  refine (eqA3_Q _ _ _ R.1.d R.1.d ⟨rfl, rfl, rfl⟩).A ?_
  simp only [go_sem, Nat.reduceBEq, Nat.reduceLT, Nat.reduceLeDiff, Nat.reduceAdd, Nat.reduceMul, Nat.reduceSub, Nat.reduceMod, Nat.reduceDiv, Nat.reduceEqDiff, Int.reduceToNat, reduceIte, reduceCtorEq, Int.reduceLE, Int.reduceLT, Int.reduceEq, Int.reduceNeg, Int.reduceAdd, Int.reduceSub, Int.reduceMul, V1o, V2o, V5o, hAo]
  refine (heldOut_Q _ _ _ V2 R.1.L.length _ (I24.ext (by omega) (x45.cons (by omega))) (by omega)).A ?_
  simp only [go_sem, Nat.reduceBEq, Nat.reduceLT, Nat.reduceLeDiff, Nat.reduceAdd, Nat.reduceMul, Nat.reduceSub, Nat.reduceMod, Nat.reduceDiv, Nat.reduceEqDiff, Int.reduceToNat, reduceIte, reduceCtorEq, Int.reduceLE, Int.reduceLT, Int.reduceEq, Int.reduceNeg, Int.reduceAdd, Int.reduceSub, Int.reduceMul, V1o, V2o, V5o, hAo, pos2]
  exact X5.cons (by omega)
set_option maxRecDepth 100000 in
set_option maxHeartbeats 1600000 in
theorem lawPD_Q (A : SV) (L : List Sh) (hA : StArg h n A L) (hLR : StR L) (hm : L.length ≤ 9223372036854775807) (share : Int) :
    CallQ Try.prog cx 6 [A, .int .i64 share] h n (.bool true) := by
  have hAo := hA.ok
  have hRl := passR_len (share := share) (times := 1) hLR
  have hRR := passR_R (share := share) (times := 1) hLR
  refine callQ_of_T (P := Try.prog) hti (nt := 146) (rs := [.tmp 4]) rfl rfl Try.call6 Try.func6 rfl _ (by simp only [go_sem, hAo]) (Nat.le_of_ble_eq_true rfl) _ (by trivial) fun hok => ?_
  simp only [go_sem, Nat.reduceBEq, Nat.reduceLT, Nat.reduceLeDiff, Nat.reduceAdd, Nat.reduceMul, Nat.reduceSub, Nat.reduceMod, Nat.reduceDiv, Nat.reduceEqDiff, Int.reduceToNat, reduceIte, reduceCtorEq, Int.reduceLE, Int.reduceLT, Int.reduceEq, Int.reduceNeg, Int.reduceAdd, Int.reduceSub, Int.reduceMul, hAo]
  refine (szStack_Q _ _ _ A L hA 1048576 (by omega) (by omega)).A ?_
  by_cases hs : 1048576 - (L.length : Int) < 0
  · simp only [go_sem, Nat.reduceBEq, Nat.reduceLT, Nat.reduceLeDiff, Nat.reduceAdd, Nat.reduceMul, Nat.reduceSub, Nat.reduceMod, Nat.reduceDiv, Nat.reduceEqDiff, Int.reduceToNat, reduceIte, reduceCtorEq, Int.reduceLE, Int.reduceLT, Int.reduceEq, Int.reduceNeg, Int.reduceAdd, Int.reduceSub, Int.reduceMul, hAo, hs]
  have hm9 : L.length ≤ 10000000 := by omega
  simp only [go_sem, Nat.reduceBEq, Nat.reduceLT, Nat.reduceLeDiff, Nat.reduceAdd, Nat.reduceMul, Nat.reduceSub, Nat.reduceMod, Nat.reduceDiv, Nat.reduceEqDiff, Int.reduceToNat, reduceIte, reduceCtorEq, Int.reduceLE, Int.reduceLT, Int.reduceEq, Int.reduceNeg, Int.reduceAdd, Int.reduceSub, Int.reduceMul, hAo, hs]
  refine callA_false (toStack_E _ _ _ A L hA hLR hm9 _ ?_)
  simp only [go_sem, Nat.reduceBEq, Nat.reduceLT, Nat.reduceLeDiff, Nat.reduceAdd, Nat.reduceMul, Nat.reduceSub, Nat.reduceMod, Nat.reduceDiv, Nat.reduceEqDiff, Int.reduceToNat, reduceIte, reduceCtorEq, Int.reduceLE, Int.reduceLT, Int.reduceEq, Int.reduceNeg, Int.reduceAdd, Int.reduceSub, Int.reduceMul, hAo]
  refine callA_false (passDown2_E _ _ _ n _ L _ share (by first | (simp only [go_sem, Nat.reduceBEq, Nat.reduceLT, Nat.reduceLeDiff, Nat.reduceAdd, Nat.reduceMul, Nat.reduceSub, Nat.reduceMod, Nat.reduceDiv, Nat.reduceEqDiff, Int.reduceToNat, reduceIte, reduceCtorEq, Int.reduceLE, Int.reduceLT, Int.reduceEq, Int.reduceNeg, Int.reduceAdd, Int.reduceSub, Int.reduceMul]; done) | (simp only [go_sem, Nat.reduceBEq, Nat.reduceLT, Nat.reduceLeDiff, Nat.reduceAdd, Nat.reduceMul, Nat.reduceSub, Nat.reduceMod, Nat.reduceDiv, Nat.reduceEqDiff, Int.reduceToNat, reduceIte, reduceCtorEq, Int.reduceLE, Int.reduceLT, Int.reduceEq, Int.reduceNeg, Int.reduceAdd, Int.reduceSub, Int.reduceMul]; rfl)) (by omega) stS_at hLR hm9 _ ?_)
  generalize hRE : passR L share 1 = R at *
  intro V1 h1 n1 hn1 hx1 ok1 I1
  have V1o := I1.ok
  have X1 : HExt n h h1 := HExt.tr (m' := n + 1) (by simp only [go_sem, Nat.reduceBEq, Nat.reduceLT, Nat.reduceLeDiff, Nat.reduceAdd, Nat.reduceMul, Nat.reduceSub, Nat.reduceMod, Nat.reduceDiv, Nat.reduceEqDiff, Int.reduceToNat, reduceIte, reduceCtorEq, Int.reduceLE, Int.reduceLT, Int.reduceEq, Int.reduceNeg, Int.reduceAdd, Int.reduceSub, Int.reduceMul, HExt_cons]) hx1 (by omega)
  simp only [go_sem, Nat.reduceBEq, Nat.reduceLT, Nat.reduceLeDiff, Nat.reduceAdd, Nat.reduceMul, Nat.reduceSub, Nat.reduceMod, Nat.reduceDiv, Nat.reduceEqDiff, Int.reduceToNat, reduceIte, reduceCtorEq, Int.reduceLE, Int.reduceLT, Int.reduceEq, Int.reduceNeg, Int.reduceAdd, Int.reduceSub, Int.reduceMul, V1o, hAo]
  refine callA_false (toStack_E _ _ _ A L (hA.ext (by omega) (X1.cons (by omega))) hLR hm9 _ ?_)
  simp only [go_sem, Nat.reduceBEq, Nat.reduceLT, Nat.reduceLeDiff, Nat.reduceAdd, Nat.reduceMul, Nat.reduceSub, Nat.reduceMod, Nat.reduceDiv, Nat.reduceEqDiff, Int.reduceToNat, reduceIte, reduceCtorEq, Int.reduceLE, Int.reduceLT, Int.reduceEq, Int.reduceNeg, Int.reduceAdd, Int.reduceSub, Int.reduceMul, V1o, hAo]
  refine callA_false (passDown_E _ _ _ (n1 + 1) _ L _ share (by first | (simp only [go_sem, Nat.reduceBEq, Nat.reduceLT, Nat.reduceLeDiff, Nat.reduceAdd, Nat.reduceMul, Nat.reduceSub, Nat.reduceMod, Nat.reduceDiv, Nat.reduceEqDiff, Int.reduceToNat, reduceIte, reduceCtorEq, Int.reduceLE, Int.reduceLT, Int.reduceEq, Int.reduceNeg, Int.reduceAdd, Int.reduceSub, Int.reduceMul]; done) | (simp only [go_sem, Nat.reduceBEq, Nat.reduceLT, Nat.reduceLeDiff, Nat.reduceAdd, Nat.reduceMul, Nat.reduceSub, Nat.reduceMod, Nat.reduceDiv, Nat.reduceEqDiff, Int.reduceToNat, reduceIte, reduceCtorEq, Int.reduceLE, Int.reduceLT, Int.reduceEq, Int.reduceNeg, Int.reduceAdd, Int.reduceSub, Int.reduceMul]; rfl)) (by omega) stS_at hLR hm9 _ ?_)
  rw [hRE]
  intro V2 h2 n2 hn2 hx2 ok2 I2
  have V2o := I2.ok
  have X2 : HExt n h h2 := HExt.tr (m' := n1 + 2) ((X1.cons (by omega)).cons (by omega)) hx2 (by omega)
  have g21 : hget h2 n1 = some ⟨3, cl [.int .i64 (R.1.d 0), .int .i64 (R.1.d 1), .int .i64 (R.1.d 2)], true, none⟩ := hx2 n1 (by omega) _ (by simp only [go_sem, Nat.reduceBEq, Nat.reduceLT, Nat.reduceLeDiff, Nat.reduceAdd, Nat.reduceMul, Nat.reduceSub, Nat.reduceMod, Nat.reduceDiv, Nat.reduceEqDiff, Int.reduceToNat, reduceIte, reduceCtorEq, Int.reduceLE, Int.reduceLT, Int.reduceEq, Int.reduceNeg, Int.reduceAdd, Int.reduceSub, Int.reduceMul])
  have g22 : hget h2 (n1 + 1) = some (stS L (some (51, L.length * 266))) := hx2 (n1 + 1) (by omega) _ (by simp only [go_sem, Nat.reduceBEq, Nat.reduceLT, Nat.reduceLeDiff, Nat.reduceAdd, Nat.reduceMul, Nat.reduceSub, Nat.reduceMod, Nat.reduceDiv, Nat.reduceEqDiff, Int.reduceToNat, reduceIte, reduceCtorEq, Int.reduceLE, Int.reduceLT, Int.reduceEq, Int.reduceNeg, Int.reduceAdd, Int.reduceSub, Int.reduceMul])
  have I12 : StOut h2 (n + 1) n2 V1 R.1.L := I1.ext (by omega) (HExt.tr (m' := n1 + 2) (by simp only [go_sem, Nat.reduceBEq, Nat.reduceLT, Nat.reduceLeDiff, Nat.reduceAdd, Nat.reduceMul, Nat.reduceSub, Nat.reduceMod, Nat.reduceDiv, Nat.reduceEqDiff, Int.reduceToNat, reduceIte, reduceCtorEq, Int.reduceLE, Int.reduceLT, Int.reduceEq, Int.reduceNeg, Int.reduceAdd, Int.reduceSub, Int.reduceMul, HExt_cons]) hx2 (by omega))
  have lt1 : n1 < n2 := by omega
  simp only [go_sem, Nat.reduceBEq, Nat.reduceLT, Nat.reduceLeDiff, Nat.reduceAdd, Nat.reduceMul, Nat.reduceSub, Nat.reduceMod, Nat.reduceDiv, Nat.reduceEqDiff, Int.reduceToNat, reduceIte, reduceCtorEq, Int.reduceLE, Int.reduceLT, Int.reduceEq, Int.reduceNeg, Int.reduceAdd, Int.reduceSub, Int.reduceMul, V1o, V2o, hAo]
  refine (eqStOut_Q _ _ _ V2 V1 R.1.L _ _ (I2.ext (by omega) (by simp only [go_sem, Nat.reduceBEq, Nat.reduceLT, Nat.reduceLeDiff, Nat.reduceAdd, Nat.reduceMul, Nat.reduceSub, Nat.reduceMod, Nat.reduceDiv, Nat.reduceEqDiff, Int.reduceToNat, reduceIte, reduceCtorEq, Int.reduceLE, Int.reduceLT, Int.reduceEq, Int.reduceNeg, Int.reduceAdd, Int.reduceSub, Int.reduceMul, HExt_cons])) (I12.ext (by omega) (by simp only [go_sem, Nat.reduceBEq, Nat.reduceLT, Nat.reduceLeDiff, Nat.reduceAdd, Nat.reduceMul, Nat.reduceSub, Nat.reduceMod, Nat.reduceDiv, Nat.reduceEqDiff, Int.reduceToNat, reduceIte, reduceCtorEq, Int.reduceLE, Int.reduceLT, Int.reduceEq, Int.reduceNeg, Int.reduceAdd, Int.reduceSub, Int.reduceMul, HExt_cons])) hRR (by omega)).A ?_
  simp only [go_sem, Nat.reduceBEq, Nat.reduceLT, Nat.reduceLeDiff, Nat.reduceAdd, Nat.reduceMul, Nat.reduceSub, Nat.reduceMod, Nat.reduceDiv, Nat.reduceEqDiff, Int.reduceToNat, reduceIte, reduceCtorEq, Int.reduceLE, Int.reduceLT, Int.reduceEq, Int.reduceNeg, Int.reduceAdd, Int.reduceSub, Int.reduceMul, V1o, V2o, hAo, g21, lt1]
  refine (eqA3_Q _ _ _ R.1.d R.1.d ⟨rfl, rfl, rfl⟩).A ?_
  simp only [go_sem, Nat.reduceBEq, Nat.reduceLT, Nat.reduceLeDiff, Nat.reduceAdd, Nat.reduceMul, Nat.reduceSub, Nat.reduceMod, Nat.reduceDiv, Nat.reduceEqDiff, Int.reduceToNat, reduceIte, reduceCtorEq, Int.reduceLE, Int.reduceLT, Int.reduceEq, Int.reduceNeg, Int.reduceAdd, Int.reduceSub, Int.reduceMul, V1o, V2o, hAo]
  refine callA_false (toStack_E _ _ _ A L (hA.ext (by omega) (X2.cons (by omega))) hLR hm9 _ ?_)
  simp only [go_sem, Nat.reduceBEq, Nat.reduceLT, Nat.reduceLeDiff, Nat.reduceAdd, Nat.reduceMul, Nat.reduceSub, Nat.reduceMod, Nat.reduceDiv, Nat.reduceEqDiff, Int.reduceToNat, reduceIte, reduceCtorEq, Int.reduceLE, Int.reduceLT, Int.reduceEq, Int.reduceNeg, Int.reduceAdd, Int.reduceSub, Int.reduceMul, V1o, V2o, hAo]
  refine (eqStack_Q _ _ _ (n1 + 1) _ (n2 + 1) _ L _ _ (by simp only [go_sem, Nat.reduceBEq, Nat.reduceLT, Nat.reduceLeDiff, Nat.reduceAdd, Nat.reduceMul, Nat.reduceSub, Nat.reduceMod, Nat.reduceDiv, Nat.reduceEqDiff, Int.reduceToNat, reduceIte, reduceCtorEq, Int.reduceLE, Int.reduceLT, Int.reduceEq, Int.reduceNeg, Int.reduceAdd, Int.reduceSub, Int.reduceMul, show n1 + 1 < n2 by omega, g22]; rfl) (by omega) stS_at (by first | (simp only [go_sem, Nat.reduceBEq, Nat.reduceLT, Nat.reduceLeDiff, Nat.reduceAdd, Nat.reduceMul, Nat.reduceSub, Nat.reduceMod, Nat.reduceDiv, Nat.reduceEqDiff, Int.reduceToNat, reduceIte, reduceCtorEq, Int.reduceLE, Int.reduceLT, Int.reduceEq, Int.reduceNeg, Int.reduceAdd, Int.reduceSub, Int.reduceMul]; done) | (simp only [go_sem, Nat.reduceBEq, Nat.reduceLT, Nat.reduceLeDiff, Nat.reduceAdd, Nat.reduceMul, Nat.reduceSub, Nat.reduceMod, Nat.reduceDiv, Nat.reduceEqDiff, Int.reduceToNat, reduceIte, reduceCtorEq, Int.reduceLE, Int.reduceLT, Int.reduceEq, Int.reduceNeg, Int.reduceAdd, Int.reduceSub, Int.reduceMul]; rfl)) (by omega) stS_at hLR hm9).A ?_
  simp only [go_sem, Nat.reduceBEq, Nat.reduceLT, Nat.reduceLeDiff, Nat.reduceAdd, Nat.reduceMul, Nat.reduceSub, Nat.reduceMod, Nat.reduceDiv, Nat.reduceEqDiff, Int.reduceToNat, reduceIte, reduceCtorEq, Int.reduceLE, Int.reduceLT, Int.reduceEq, Int.reduceNeg, Int.reduceAdd, Int.reduceSub, Int.reduceMul, V1o, V2o, hAo]
  refine callA_false (markX_E _ _ _ (n1 + 1) _ L _ (by simp only [go_sem, Nat.reduceBEq, Nat.reduceLT, Nat.reduceLeDiff, Nat.reduceAdd, Nat.reduceMul, Nat.reduceSub, Nat.reduceMod, Nat.reduceDiv, Nat.reduceEqDiff, Int.reduceToNat, reduceIte, reduceCtorEq, Int.reduceLE, Int.reduceLT, Int.reduceEq, Int.reduceNeg, Int.reduceAdd, Int.reduceSub, Int.reduceMul, show n1 + 1 < n2 by omega, g22]; rfl) (by omega) hm9 _ ?_)
  intro h3 ok3 keep3
  have g31 : hget h3 n1 = some ⟨3, cl [.int .i64 (R.1.d 0), .int .i64 (R.1.d 1), .int .i64 (R.1.d 2)], true, none⟩ := keep3 _ _ (by omega) (by simp only [go_sem, Nat.reduceBEq, Nat.reduceLT, Nat.reduceLeDiff, Nat.reduceAdd, Nat.reduceMul, Nat.reduceSub, Nat.reduceMod, Nat.reduceDiv, Nat.reduceEqDiff, Int.reduceToNat, reduceIte, reduceCtorEq, Int.reduceLE, Int.reduceLT, Int.reduceEq, Int.reduceNeg, Int.reduceAdd, Int.reduceSub, Int.reduceMul, lt1, g21])
  have g32 : hget h3 n2 = some ⟨3, cl [.int .i64 (R.1.d 0), .int .i64 (R.1.d 1), .int .i64 (R.1.d 2)], true, none⟩ := keep3 _ _ (by omega) (by simp only [go_sem, Nat.reduceBEq, Nat.reduceLT, Nat.reduceLeDiff, Nat.reduceAdd, Nat.reduceMul, Nat.reduceSub, Nat.reduceMod, Nat.reduceDiv, Nat.reduceEqDiff, Int.reduceToNat, reduceIte, reduceCtorEq, Int.reduceLE, Int.reduceLT, Int.reduceEq, Int.reduceNeg, Int.reduceAdd, Int.reduceSub, Int.reduceMul])
  have kx : ∀ j t, j ≠ n1 + 1 → j < n2 → hget h2 j = some t → hget h3 j = some t := fun j t hj1 hj2 ht => keep3 j t hj1 (by simp only [go_sem, Nat.reduceBEq, Nat.reduceLT, Nat.reduceLeDiff, Nat.reduceAdd, Nat.reduceMul, Nat.reduceSub, Nat.reduceMod, Nat.reduceDiv, Nat.reduceEqDiff, Int.reduceToNat, reduceIte, reduceCtorEq, Int.reduceLE, Int.reduceLT, Int.reduceEq, Int.reduceNeg, Int.reduceAdd, Int.reduceSub, Int.reduceMul, hj2, ht])
  have I13 : StOut h3 (n + 1) (n2 + 2) V1 R.1.L := I1.mono (by omega) fun j hj1 hj2 t ht => kx j t (by omega) (by omega) (hx2 j (by omega) t (by simp only [go_sem, Nat.reduceBEq, Nat.reduceLT, Nat.reduceLeDiff, Nat.reduceAdd, Nat.reduceMul, Nat.reduceSub, Nat.reduceMod, Nat.reduceDiv, Nat.reduceEqDiff, Int.reduceToNat, reduceIte, reduceCtorEq, Int.reduceLE, Int.reduceLT, Int.reduceEq, Int.reduceNeg, Int.reduceAdd, Int.reduceSub, Int.reduceMul, hj2, show j < n1 + 1 by omega, ht]))
  have I23 : StOut h3 (n1 + 2) (n2 + 2) V2 R.1.L := I2.mono (by omega) fun j hj1 hj2 t ht => kx j t (by omega) hj2 ht
  have X3 : HExt n h h3 := fun j hj t ht => kx j t (by omega) (by omega) (X2 j hj t ht)
  have pos1 : ¬ (10 * (L.length : Int) + 1 < 0) := by omega
  have pos2 : ¬ (10 * (R.1.L.length : Int) + 1 < 0) := by omega
  have lt2 : n1 < n2 + 2 := by omega
  simp only [go_sem, Nat.reduceBEq, Nat.reduceLT, Nat.reduceLeDiff, Nat.reduceAdd, Nat.reduceMul, Nat.reduceSub, Nat.reduceMod, Nat.reduceDiv, Nat.reduceEqDiff, Int.reduceToNat, reduceIte, reduceCtorEq, Int.reduceLE, Int.reduceLT, Int.reduceEq, Int.reduceNeg, Int.reduceAdd, Int.reduceSub, Int.reduceMul, V1o, V2o, hAo, pos1]
  refine (eqStOut_Q _ _ _ V2 V1 R.1.L _ _ I23 I13 hRR (by omega)).A ?_
  simp only [go_sem, Nat.reduceBEq, Nat.reduceLT, Nat.reduceLeDiff, Nat.reduceAdd, Nat.reduceMul, Nat.reduceSub, Nat.reduceMod, Nat.reduceDiv, Nat.reduceEqDiff, Int.reduceToNat, reduceIte, reduceCtorEq, Int.reduceLE, Int.reduceLT, Int.reduceEq, Int.reduceNeg, Int.reduceAdd, Int.reduceSub, Int.reduceMul, V1o, V2o, hAo, g31, g32, lt2]
  refine (eqA3_Q _ _ _ R.1.d R.1.d ⟨rfl, rfl, rfl⟩).A ?_
  simp only [go_sem, Nat.reduceBEq, Nat.reduceLT, Nat.reduceLeDiff, Nat.reduceAdd, Nat.reduceMul, Nat.reduceSub, Nat.reduceMod, Nat.reduceDiv, Nat.reduceEqDiff, Int.reduceToNat, reduceIte, reduceCtorEq, Int.reduceLE, Int.reduceLT, Int.reduceEq, Int.reduceNeg, Int.reduceAdd, Int.reduceSub, Int.reduceMul, V1o, V2o, hAo]
  refine callA_false (markOut_E _ _ _ V2 R.1.L (n1 + 2) I23 (by omega) _ ?_)
  intro h4 ok4 keep4 I24
  have x4 : HExt (n1 + 2) h3 h4 := keep4 _ _ (Nat.le_refl _) HExt.rfl
  have g41 : hget h4 n1 = some ⟨3, cl [.int .i64 (R.1.d 0), .int .i64 (R.1.d 1), .int .i64 (R.1.d 2)], true, none⟩ := x4 n1 (by omega) _ g31
  have X4 : HExt n h h4 := X3.tr x4 (by omega)
  have I14 : StOut h4 (n + 1) (n2 + 2) V1 R.1.L := (I1.mono (n' := n1) (h' := h3) (Nat.le_refl _) fun j hj1 hj2 t ht => kx j t (by omega) (by omega) (hx2 j (by omega) t (by simp only [go_sem, Nat.reduceBEq, Nat.reduceLT, Nat.reduceLeDiff, Nat.reduceAdd, Nat.reduceMul, Nat.reduceSub, Nat.reduceMod, Nat.reduceDiv, Nat.reduceEqDiff, Int.reduceToNat, reduceIte, reduceCtorEq, Int.reduceLE, Int.reduceLT, Int.reduceEq, Int.reduceNeg, Int.reduceAdd, Int.reduceSub, Int.reduceMul, hj2, show j < n1 + 1 by omega, ht]))).mono (by omega) fun j hj1 hj2 t ht => x4 j (by omega) t ht
  simp only [go_sem, Nat.reduceBEq, Nat.reduceLT, Nat.reduceLeDiff, Nat.reduceAdd, Nat.reduceMul, Nat.reduceSub, Nat.reduceMod, Nat.reduceDiv, Nat.reduceEqDiff, Int.reduceToNat, reduceIte, reduceCtorEq, Int.reduceLE, Int.reduceLT, Int.reduceEq, Int.reduceNeg, Int.reduceAdd, Int.reduceSub, Int.reduceMul, V1o, V2o, hAo]
  refine (heldOut_Q _ _ _ V2 R.1.L.length _ I24 (by omega)).A ?_
  simp only [go_sem, Nat.reduceBEq, Nat.reduceLT, Nat.reduceLeDiff, Nat.reduceAdd, Nat.reduceMul, Nat.reduceSub, Nat.reduceMod, Nat.reduceDiv, Nat.reduceEqDiff, Int.reduceToNat, reduceIte, reduceCtorEq, Int.reduceLE, Int.reduceLT, Int.reduceEq, Int.reduceNeg, Int.reduceAdd, Int.reduceSub, Int.reduceMul, V1o, V2o, hAo, pos2]
  refine callA_false (toStack_E _ _ _ A L (hA.ext (by omega) X4) hLR hm9 _ ?_)
  simp only [go_sem, Nat.reduceBEq, Nat.reduceLT, Nat.reduceLeDiff, Nat.reduceAdd, Nat.reduceMul, Nat.reduceSub, Nat.reduceMod, Nat.reduceDiv, Nat.reduceEqDiff, Int.reduceToNat, reduceIte, reduceCtorEq, Int.reduceLE, Int.reduceLT, Int.reduceEq, Int.reduceNeg, Int.reduceAdd, Int.reduceSub, Int.reduceMul, V1o, V2o, hAo]
  refine callA_false (passDown_E _ _ _ (n2 + 2) _ L _ share (by first | (simp only [go_sem, Nat.reduceBEq, Nat.reduceLT, Nat.reduceLeDiff, Nat.reduceAdd, Nat.reduceMul, Nat.reduceSub, Nat.reduceMod, Nat.reduceDiv, Nat.reduceEqDiff, Int.reduceToNat, reduceIte, reduceCtorEq, Int.reduceLE, Int.reduceLT, Int.reduceEq, Int.reduceNeg, Int.reduceAdd, Int.reduceSub, Int.reduceMul]; done) | (simp only [go_sem, Nat.reduceBEq, Nat.reduceLT, Nat.reduceLeDiff, Nat.reduceAdd, Nat.reduceMul, Nat.reduceSub, Nat.reduceMod, Nat.reduceDiv, Nat.reduceEqDiff, Int.reduceToNat, reduceIte, reduceCtorEq, Int.reduceLE, Int.reduceLT, Int.reduceEq, Int.reduceNeg, Int.reduceAdd, Int.reduceSub, Int.reduceMul]; rfl)) (by omega) stS_at hLR hm9 _ ?_)
  rw [hRE]
  intro V5 h5 n5 hn5 hx5 ok5 I5
  have V5o := I5.ok
  have x45 : HExt (n2 + 2) h4 h5 := HExt.tr (m' := n2 + 3) (by simp only [go_sem, Nat.reduceBEq, Nat.reduceLT, Nat.reduceLeDiff, Nat.reduceAdd, Nat.reduceMul, Nat.reduceSub, Nat.reduceMod, Nat.reduceDiv, Nat.reduceEqDiff, Int.reduceToNat, reduceIte, reduceCtorEq, Int.reduceLE, Int.reduceLT, Int.reduceEq, Int.reduceNeg, Int.reduceAdd, Int.reduceSub, Int.reduceMul, HExt_cons]) hx5 (by omega)
  have X5 : HExt n h h5 := X4.tr x45 (by omega)
  have g51 : hget h5 n1 = some ⟨3, cl [.int .i64 (R.1.d 0), .int .i64 (R.1.d 1), .int .i64 (R.1.d 2)], true, none⟩ := x45 n1 (by omega) _ g41
  have lt5 : n1 < n5 := by omega
  simp only [go_sem, Nat.reduceBEq, Nat.reduceLT, Nat.reduceLeDiff, Nat.reduceAdd, Nat.reduceMul, Nat.reduceSub, Nat.reduceMod, Nat.reduceDiv, Nat.reduceEqDiff, Int.reduceToNat, reduceIte, reduceCtorEq, Int.reduceLE, Int.reduceLT, Int.reduceEq, Int.reduceNeg, Int.reduceAdd, Int.reduceSub, Int.reduceMul, V1o, V2o, V5o, hAo]
  refine (eqStOut_Q _ _ _ V5 V1 R.1.L _ _ (I5.ext (by omega) (by simp only [go_sem, Nat.reduceBEq, Nat.reduceLT, Nat.reduceLeDiff, Nat.reduceAdd, Nat.reduceMul, Nat.reduceSub, Nat.reduceMod, Nat.reduceDiv, Nat.reduceEqDiff, Int.reduceToNat, reduceIte, reduceCtorEq, Int.reduceLE, Int.reduceLT, Int.reduceEq, Int.reduceNeg, Int.reduceAdd, Int.reduceSub, Int.reduceMul, HExt_cons])) (I14.ext (by omega) (x45.cons (by omega))) hRR (by omega)).A ?_
  simp only [go_sem, Nat.reduceBEq, Nat.reduceLT, Nat.reduceLeDiff, Nat.reduceAdd, Nat.reduceMul, Nat.reduceSub, Nat.reduceMod, Nat.reduceDiv, Nat.reduceEqDiff, Int.reduceToNat, reduceIte, reduceCtorEq, Int.reduceLE, Int.reduceLT, Int.reduceEq, Int.reduceNeg, Int.reduceAdd, Int.reduceSub, Int.reduceMul, V1o, V2o, V5o, hAo, g51, lt5]
  refine (eqA3_Q _ _ _ R.1.d R.1.d ⟨rfl, rfl, rfl⟩).A ?_
  simp only [go_sem, Nat.reduceBEq, Nat.reduceLT, Nat.reduceLeDiff, Nat.reduceAdd, Nat.reduceMul, Nat.reduceSub, Nat.reduceMod, Nat.reduceDiv, Nat.reduceEqDiff, Int.reduceToNat, reduceIte, reduceCtorEq, Int.reduceLE, Int.reduceLT, Int.reduceEq, Int.reduceNeg, Int.reduceAdd, Int.reduceSub, Int.reduceMul, V1o, V2o, V5o, hAo]
  refine (heldOut_Q _ _ _ V2 R.1.L.length _ (I24.ext (by omega) (x45.cons (by omega))) (by omega)).A ?_
  simp only [go_sem, Nat.reduceBEq, Nat.reduceLT, Nat.reduceLeDiff, Nat.reduceAdd, Nat.reduceMul, Nat.reduceSub, Nat.reduceMod, Nat.reduceDiv, Nat.reduceEqDiff, Int.reduceToNat, reduceIte, reduceCtorEq, Int.reduceLE, Int.reduceLT, Int.reduceEq, Int.reduceNeg, Int.reduceAdd, Int.reduceSub, Int.reduceMul, V1o, V2o, V5o, hAo, pos2]
  exact X5.cons (by omega)
end
end Go.Proofs.Ytjepjeaecmioaaa.V
