/- Part 5 of the texts that this proof stands on: a symbolic walk over the program, what its functions and the reference's do, plain laws. -/
import Derived.Test.YtodgbpkdanefaaaZfdd
set_option linter.all false

/- PeelAll: the program's walk; its law: the walk. -/
namespace Go.Proofs.Ytodgbpkdanefaaa.V
theorem ptr_le {σ : Nat → Nat} {a n' : Nat} {s : Seg} (hn : s.n = 1) (hrw : s.rw = true) (hc : s.c 0 = .ptr a 0) (hσ : σ a = a) (ha : a < n') : SegLe σ n' s ⟨1, cl [.ptr a 0], true, none⟩ :=
  SegLe.mk' (by rw [hn]; exact Nat.le_refl _) (fun _ => hrw) (.inl rfl) (fun k hk => by
    have hk : k < 1 := hk
    obtain rfl : k = 0 := by omega
    rw [hc]
    show _ = ren σ (.ptr a 0)
    rw [ren_ptr, hσ]) fun k hk => by
    have hk : k < 1 := hk
    obtain rfl : k = 0 := by omega
    exact ha
theorem pel_new (i k : Nat) : upd zz_a5868c 0 (.ptr i 0) k = pelC (.ptr i 0) off k := by
  unfold upd pelC
  by_cases h : k = 0
  · rw [if_pos h, if_pos (by omega)]
  · rw [if_neg h, if_neg (by omega), zz_a5868c_eq, if_neg (by omega)]; rfl
section
variable (cx : Cx) (h : List (Nat × Seg)) (n : Nat)
theorem peelAll1_Q (iv g i : Nat) (P : Pc) (O : Gr) (x y k : Int) (hv : hget h iv = some ⟨1, cl [.ptr g 0], true, none⟩) (hvi : iv < n) (hg : hget h g = some (pelS i O)) (hgn : g < n) (hs : hget h i = some (pcS P)) (hi : i < n) (hR : PcR P) (hP : PcOk P) (hx : 0 ≤ x) (hx1 : x < P.wide) (hy : 0 ≤ y) (hy1 : y < P.high) (hk : 0 ≤ k ∧ k < 3) :
    CallQ Try.prog cx 75 [dropV x y k, .ptr iv 0] h n (.bool (lastP P O (x, y, k))) := by
  have e : lastP P O (x, y, k) = (okAll P O x y k && decide (0 < (opF P O x y).length)) := rfl
  rw [e]
  refine callQ_of_T (P := Try.prog) hti (nt := 13) (rs := [.tmp 3]) rfl rfl Try.call75 Try.func75 rfl _ (by simp only [go_sem, and_self]) (Nat.le_of_ble_eq_true rfl) _ (by first | exact trivial | (refine lt_flat rfl ?_; simp [SV.flat]; done) | simp only [go_sem]) fun hok => ?_
  simp only [go_sem, Nat.reduceBEq, Nat.reduceLT, Nat.reduceLeDiff, Nat.reduceAdd, Nat.reduceMul, Nat.reduceSub, Nat.reduceMod, Nat.reduceDiv, Nat.reduceEqDiff, Int.reduceToNat, reduceIte, reduceCtorEq, Int.reduceLE, Int.reduceLT, Int.reduceEq, Int.reduceNeg, Int.reduceAdd, Int.reduceSub, Int.reduceMul, hv, hvi]
  refine callA_false (can_E _ _ _ i g P O x y k (pelS i O) (by first | (simp only [go_sem, Nat.reduceBEq, Nat.reduceLT, Nat.reduceLeDiff, Nat.reduceAdd, Nat.reduceMul, Nat.reduceSub, Nat.reduceMod, Nat.reduceDiv, Nat.reduceEqDiff, Int.reduceToNat, reduceIte, reduceCtorEq, Int.reduceLE, Int.reduceLT, Int.reduceEq, Int.reduceNeg, Int.reduceAdd, Int.reduceSub, Int.reduceMul, hs, hi]; done) | (simp only [go_sem, Nat.reduceBEq, Nat.reduceLT, Nat.reduceLeDiff, Nat.reduceAdd, Nat.reduceMul, Nat.reduceSub, Nat.reduceMod, Nat.reduceDiv, Nat.reduceEqDiff, Int.reduceToNat, reduceIte, reduceCtorEq, Int.reduceLE, Int.reduceLT, Int.reduceEq, Int.reduceNeg, Int.reduceAdd, Int.reduceSub, Int.reduceMul, hs, hi]; rfl)) (by omega) (by first | (simp only [go_sem, Nat.reduceBEq, Nat.reduceLT, Nat.reduceLeDiff, Nat.reduceAdd, Nat.reduceMul, Nat.reduceSub, Nat.reduceMod, Nat.reduceDiv, Nat.reduceEqDiff, Int.reduceToNat, reduceIte, reduceCtorEq, Int.reduceLE, Int.reduceLT, Int.reduceEq, Int.reduceNeg, Int.reduceAdd, Int.reduceSub, Int.reduceMul, hg, hgn]; done) | (simp only [go_sem, Nat.reduceBEq, Nat.reduceLT, Nat.reduceLeDiff, Nat.reduceAdd, Nat.reduceMul, Nat.reduceSub, Nat.reduceMod, Nat.reduceDiv, Nat.reduceEqDiff, Int.reduceToNat, reduceIte, reduceCtorEq, Int.reduceLE, Int.reduceLT, Int.reduceEq, Int.reduceNeg, Int.reduceAdd, Int.reduceSub, Int.reduceMul, hg, hgn]; rfl)) (by omega) (pelAt_pelS _ _) hR hP hx hx1 hy hy1 hk _ (fun ha => ?_) (fun ha cap => ?_))
  · simp only [go_sem, Nat.reduceBEq, Nat.reduceLT, Nat.reduceLeDiff, Nat.reduceAdd, Nat.reduceMul, Nat.reduceSub, Nat.reduceMod, Nat.reduceDiv, Nat.reduceEqDiff, Int.reduceToNat, reduceIte, reduceCtorEq, Int.reduceLE, Int.reduceLT, Int.reduceEq, Int.reduceNeg, Int.reduceAdd, Int.reduceSub, Int.reduceMul, ha, Bool.false_and]
  · simp only [go_sem, Nat.reduceBEq, Nat.reduceLT, Nat.reduceLeDiff, Nat.reduceAdd, Nat.reduceMul, Nat.reduceSub, Nat.reduceMod, Nat.reduceDiv, Nat.reduceEqDiff, Int.reduceToNat, reduceIte, reduceCtorEq, Int.reduceLE, Int.reduceLT, Int.reduceEq, Int.reduceNeg, Int.reduceAdd, Int.reduceSub, Int.reduceMul, ha, Bool.true_and]
set_option maxHeartbeats 1600000 in
theorem peelAll_E (P : Pc) (hR : PcR P) (K : HK)
    (hK : ∀ V h' n', n ≤ n' → HExt n h h' → HOk n' h' → DrOut h' n n' V (peelR P).1 → K (.tup 2 (cl [V, .int .i64 (peelR P).2])) h' n') :
    CallE Try.prog cx 42 [.agg 66 (pcC P)] h n K := by
  refine CallE.hokE ?_
  refine callE_of_T (P := Try.prog) hti (nt := 46) (rs := [.tmp 2, .tmp 3]) rfl rfl Try.call42 Try.func42 rfl _ (by simp only [go_sem, and_self]) (Nat.le_of_ble_eq_true rfl) _ fun hok => ?_
  simp only [go_sem, Nat.reduceBEq, Nat.reduceLT, Nat.reduceLeDiff, Nat.reduceAdd, Nat.reduceMul, Nat.reduceSub, Nat.reduceMod, Nat.reduceDiv, Nat.reduceEqDiff, Int.reduceToNat, reduceIte, reduceCtorEq, Int.reduceLE, Int.reduceLT, Int.reduceEq, Int.reduceNeg, Int.reduceAdd, Int.reduceSub, Int.reduceMul]
  refine (codePc_Q _ _ _ n P (by first | (simp only [go_sem, Nat.reduceBEq, Nat.reduceLT, Nat.reduceLeDiff, Nat.reduceAdd, Nat.reduceMul, Nat.reduceSub, Nat.reduceMod, Nat.reduceDiv, Nat.reduceEqDiff, Int.reduceToNat, reduceIte, reduceCtorEq, Int.reduceLE, Int.reduceLT, Int.reduceEq, Int.reduceNeg, Int.reduceAdd, Int.reduceSub, Int.reduceMul]; done) | (simp only [go_sem, Nat.reduceBEq, Nat.reduceLT, Nat.reduceLeDiff, Nat.reduceAdd, Nat.reduceMul, Nat.reduceSub, Nat.reduceMod, Nat.reduceDiv, Nat.reduceEqDiff, Int.reduceToNat, reduceIte, reduceCtorEq, Int.reduceLE, Int.reduceLT, Int.reduceEq, Int.reduceNeg, Int.reduceAdd, Int.reduceSub, Int.reduceMul]; rfl)) (by omega) hR true).A ?_
  by_cases hk : pcokB P = true
  rotate_left
  · rw [peelR_1 hk] at hK
    have e : codePc P true = 1 := by unfold codePc; simp [hk]
    simp only [go_sem, Nat.reduceBEq, Nat.reduceLT, Nat.reduceLeDiff, Nat.reduceAdd, Nat.reduceMul, Nat.reduceSub, Nat.reduceMod, Nat.reduceDiv, Nat.reduceEqDiff, Int.reduceToNat, reduceIte, reduceCtorEq, Int.reduceLE, Int.reduceLT, Int.reduceEq, Int.reduceNeg, Int.reduceAdd, Int.reduceSub, Int.reduceMul, e]
    exact fun hok' => hK _ _ _ (by omega) (by simp only [go_sem, Nat.reduceBEq, Nat.reduceLT, Nat.reduceLeDiff, Nat.reduceAdd, Nat.reduceMul, Nat.reduceSub, Nat.reduceMod, Nat.reduceDiv, Nat.reduceEqDiff, Int.reduceToNat, reduceIte, reduceCtorEq, Int.reduceLE, Int.reduceLT, Int.reduceEq, Int.reduceNeg, Int.reduceAdd, Int.reduceSub, Int.reduceMul, HExt_cons]) hok' (.inl ⟨rfl, rfl⟩)
  have e : codePc P true = 0 := by unfold codePc; simp [hk]
  have hP : PcOk P := by simpa [pcokB] using hk
  have hs8 := hP.1
  obtain ⟨W, hW⟩ : ∃ W : Nat, P.wide = W := ⟨P.wide.toNat, by omega⟩
  obtain ⟨H, hH⟩ : ∃ H : Nat, P.high = H := ⟨P.high.toNat, by omega⟩
  have hW8 : W ≤ 8 := by omega
  have hH8 : H ≤ 8 := by omega
  have hWt : P.wide.toNat = W := by omega
  have hHt : P.high.toNat = H := by omega
  have hle := dropsL_le hP
  rw [hWt, hHt] at hle
  have hDl := dropsL_len W H
  simp only [go_sem, Nat.reduceBEq, Nat.reduceLT, Nat.reduceLeDiff, Nat.reduceAdd, Nat.reduceMul, Nat.reduceSub, Nat.reduceMod, Nat.reduceDiv, Nat.reduceEqDiff, Int.reduceToNat, reduceIte, reduceCtorEq, Int.reduceLE, Int.reduceLT, Int.reduceEq, Int.reduceNeg, Int.reduceAdd, Int.reduceSub, Int.reduceMul, e]
  refine T_lp (ι := { q : Nat × Nat // (PeelInv P W H q.1 ∧ q.1 ≤ 64) ∧ q.1 ≤ q.2 ∧ q.2 ≤ maxLen })
    (fun q => ([(1, .ptr n 0), (5, .ptr (n + 3) 0), (6, .sl (n + 2) 0 q.1.1 q.1.2)],
      (n + 3, ⟨1, cl [.ptr (n + 1) 0], true, none⟩) ::
      (n + 2, ⟨q.1.1 * 3, dropsC (peelIt P W H q.1.1).2, true, some (44, q.1.2 * 3)⟩) ::
      (n + 1, pelS n (peelIt P W H q.1.1).1) :: (n, pcS P) :: h, n + 4)) (fun q => 64 - q.1.1) ⟨(0, 0), ⟨inv_0 P W H, by simp⟩, Nat.le_refl 0, Nat.zero_le _⟩ ?_ ?_
  · refine Imp.id (by simp) ?_ ?_
    · simp only [go_sem, Nat.reduceBEq, Nat.reduceLT, Nat.reduceLeDiff, Nat.reduceAdd, Nat.reduceMul, Nat.reduceSub, Nat.reduceMod, Nat.reduceDiv, Nat.reduceEqDiff, Int.reduceToNat, reduceIte, reduceCtorEq, Int.reduceLE, Int.reduceLT, Int.reduceEq, Int.reduceNeg, Int.reduceAdd, Int.reduceSub, Int.reduceMul]
      (repeat' apply And.intro) <;> first | omega | rfl | trivial | assumption | skip
    · exact impH.cons0 (hget_hit _ _ _) (by simp) (ptr_le (a := n + 1) (n' := n + 4) rfl rfl rfl rfl (by omega)) (impH.cons0 (s := ⟨0, zrow (ti 44), true, some (44, 0)⟩) (by first | (simp only [go_sem, Nat.reduceBEq, Nat.reduceLT, Nat.reduceLeDiff, Nat.reduceAdd, Nat.reduceMul, Nat.reduceSub, Nat.reduceMod, Nat.reduceDiv, Nat.reduceEqDiff, Int.reduceToNat, reduceIte, reduceCtorEq, Int.reduceLE, Int.reduceLT, Int.reduceEq, Int.reduceNeg, Int.reduceAdd, Int.reduceSub, Int.reduceMul]; done) | (simp only [go_sem, Nat.reduceBEq, Nat.reduceLT, Nat.reduceLeDiff, Nat.reduceAdd, Nat.reduceMul, Nat.reduceSub, Nat.reduceMod, Nat.reduceDiv, Nat.reduceEqDiff, Int.reduceToNat, reduceIte, reduceCtorEq, Int.reduceLE, Int.reduceLT, Int.reduceEq, Int.reduceNeg, Int.reduceAdd, Int.reduceSub, Int.reduceMul]; rfl)) (by simp) (SegLe.flat (by simp) id (.inr (by simp)) fun k hk => by simp at hk) (impH.cons0 (s := ⟨65, upd zz_a5868c 0 (.ptr n 0), true, none⟩) (by first | (simp only [go_sem, Nat.reduceBEq, Nat.reduceLT, Nat.reduceLeDiff, Nat.reduceAdd, Nat.reduceMul, Nat.reduceSub, Nat.reduceMod, Nat.reduceDiv, Nat.reduceEqDiff, Int.reduceToNat, reduceIte, reduceCtorEq, Int.reduceLE, Int.reduceLT, Int.reduceEq, Int.reduceNeg, Int.reduceAdd, Int.reduceSub, Int.reduceMul]; done) | (simp only [go_sem, Nat.reduceBEq, Nat.reduceLT, Nat.reduceLeDiff, Nat.reduceAdd, Nat.reduceMul, Nat.reduceSub, Nat.reduceMod, Nat.reduceDiv, Nat.reduceEqDiff, Int.reduceToNat, reduceIte, reduceCtorEq, Int.reduceLE, Int.reduceLT, Int.reduceEq, Int.reduceNeg, Int.reduceAdd, Int.reduceSub, Int.reduceMul]; rfl)) (by simp) (pel_le (i := n) (n' := n + 4) rfl rfl (fun k _ => pel_new n k) rfl (by omega)) (impH.cons0 (by first | (simp only [go_sem, Nat.reduceBEq, Nat.reduceLT, Nat.reduceLeDiff, Nat.reduceAdd, Nat.reduceMul, Nat.reduceSub, Nat.reduceMod, Nat.reduceDiv, Nat.reduceEqDiff, Int.reduceToNat, reduceIte, reduceCtorEq, Int.reduceLE, Int.reduceLT, Int.reduceEq, Int.reduceNeg, Int.reduceAdd, Int.reduceSub, Int.reduceMul]; done) | (simp only [go_sem, Nat.reduceBEq, Nat.reduceLT, Nat.reduceLeDiff, Nat.reduceAdd, Nat.reduceMul, Nat.reduceSub, Nat.reduceMod, Nat.reduceDiv, Nat.reduceEqDiff, Int.reduceToNat, reduceIte, reduceCtorEq, Int.reduceLE, Int.reduceLT, Int.reduceEq, Int.reduceNeg, Int.reduceAdd, Int.reduceSub, Int.reduceMul]; rfl)) (by simp) (SegLe.flat (Nat.le_refl _) id (.inr rfl) fun k hk => ⟨rfl, pcC_flat _ _⟩) (impH.base0 hok (by simp) (by simp only [go_sem, Nat.reduceBEq, Nat.reduceLT, Nat.reduceLeDiff, Nat.reduceAdd, Nat.reduceMul, Nat.reduceSub, Nat.reduceMod, Nat.reduceDiv, Nat.reduceEqDiff, Int.reduceToNat, reduceIte, reduceCtorEq, Int.reduceLE, Int.reduceLT, Int.reduceEq, Int.reduceNeg, Int.reduceAdd, Int.reduceSub, Int.reduceMul, HExt_cons])))))
  · rintro ⟨⟨j, cap1⟩, ⟨hinv, hj64⟩, hcap, hmx⟩
    simp only at hinv hj64 hcap hmx
    generalize hst : peelIt P W H j = st at *
    have hlen : st.2.length = j := by have := hinv.2; rwa [hst] at this
    simp only [go_sem, Nat.reduceBEq, Nat.reduceLT, Nat.reduceLeDiff, Nat.reduceAdd, Nat.reduceMul, Nat.reduceSub, Nat.reduceMod, Nat.reduceDiv, Nat.reduceEqDiff, Int.reduceToNat, reduceIte, reduceCtorEq, Int.reduceLE, Int.reduceLT, Int.reduceEq, Int.reduceNeg, Int.reduceAdd, Int.reduceSub, Int.reduceMul, decide_eq_true_eq, decide_eq_false_iff_not]
    refine callA_false (drops7_E _ _ _ n P W H (by first | (simp only [go_sem, Nat.reduceBEq, Nat.reduceLT, Nat.reduceLeDiff, Nat.reduceAdd, Nat.reduceMul, Nat.reduceSub, Nat.reduceMod, Nat.reduceDiv, Nat.reduceEqDiff, Int.reduceToNat, reduceIte, reduceCtorEq, Int.reduceLE, Int.reduceLT, Int.reduceEq, Int.reduceNeg, Int.reduceAdd, Int.reduceSub, Int.reduceMul]; done) | (simp only [go_sem, Nat.reduceBEq, Nat.reduceLT, Nat.reduceLeDiff, Nat.reduceAdd, Nat.reduceMul, Nat.reduceSub, Nat.reduceMod, Nat.reduceDiv, Nat.reduceEqDiff, Int.reduceToNat, reduceIte, reduceCtorEq, Int.reduceLE, Int.reduceLT, Int.reduceEq, Int.reduceNeg, Int.reduceAdd, Int.reduceSub, Int.reduceMul]; rfl)) (by omega) hR hP hW hH _ fun capL hcapL => ?_)
    obtain ⟨r, hr0, hr1⟩ := fst_ex (fun q => lastP P st.1 ((dropsL W H).getD q (0, 0, 0))) (dropsL W H).length
    have hdin := fun q (hq : q < (dropsL W H).length) => dropsL_in (W := W) (H := H) (j := q) (by rw [← hDl]; exact hq) hW8 hH8
    simp only [go_sem, Nat.reduceBEq, Nat.reduceLT, Nat.reduceLeDiff, Nat.reduceAdd, Nat.reduceMul, Nat.reduceSub, Nat.reduceMod, Nat.reduceDiv, Nat.reduceEqDiff, Int.reduceToNat, reduceIte, reduceCtorEq, Int.reduceLE, Int.reduceLT, Int.reduceEq, Int.reduceNeg, Int.reduceAdd, Int.reduceSub, Int.reduceMul]
    refine (indexDr_Q _ _ _ (n + 4) capL (dropsL W H) _ _ 0 1 (cl []) (cl [.ptr (n + 3) 0]) (fun q => lastP P st.1 ((dropsL W H).getD q (0, 0, 0))) r (by first | (simp only [go_sem, Nat.reduceBEq, Nat.reduceLT, Nat.reduceLeDiff, Nat.reduceAdd, Nat.reduceMul, Nat.reduceSub, Nat.reduceMod, Nat.reduceDiv, Nat.reduceEqDiff, Int.reduceToNat, reduceIte, reduceCtorEq, Int.reduceLE, Int.reduceLT, Int.reduceEq, Int.reduceNeg, Int.reduceAdd, Int.reduceSub, Int.reduceMul]; done) | (simp only [go_sem, Nat.reduceBEq, Nat.reduceLT, Nat.reduceLeDiff, Nat.reduceAdd, Nat.reduceMul, Nat.reduceSub, Nat.reduceMod, Nat.reduceDiv, Nat.reduceEqDiff, Int.reduceToNat, reduceIte, reduceCtorEq, Int.reduceLE, Int.reduceLT, Int.reduceEq, Int.reduceNeg, Int.reduceAdd, Int.reduceSub, Int.reduceMul]; rfl)) (by omega) (by omega) ⟨Nat.le_refl _, fun _ _ => rfl⟩
      (fn_lt (xs := []) (ys := [.ptr (n + 3) 0]) (fun v hv => by cases hv) (fun v hv => by simp at hv; subst hv; show n + 3 < _; omega)) hr0 hr1
      (fun q hq nt n0 => by
        obtain ⟨a1, a2, a3⟩ := hdin q hq
        exact peelAll1_Q _ _ _ (n + 3) (n + 1) n P st.1 _ _ _ (by first | (simp only [go_sem, Nat.reduceBEq, Nat.reduceLT, Nat.reduceLeDiff, Nat.reduceAdd, Nat.reduceMul, Nat.reduceSub, Nat.reduceMod, Nat.reduceDiv, Nat.reduceEqDiff, Int.reduceToNat, reduceIte, reduceCtorEq, Int.reduceLE, Int.reduceLT, Int.reduceEq, Int.reduceNeg, Int.reduceAdd, Int.reduceSub, Int.reduceMul]; done) | (simp only [go_sem, Nat.reduceBEq, Nat.reduceLT, Nat.reduceLeDiff, Nat.reduceAdd, Nat.reduceMul, Nat.reduceSub, Nat.reduceMod, Nat.reduceDiv, Nat.reduceEqDiff, Int.reduceToNat, reduceIte, reduceCtorEq, Int.reduceLE, Int.reduceLT, Int.reduceEq, Int.reduceNeg, Int.reduceAdd, Int.reduceSub, Int.reduceMul]; rfl)) (by omega) (by first | (simp only [go_sem, Nat.reduceBEq, Nat.reduceLT, Nat.reduceLeDiff, Nat.reduceAdd, Nat.reduceMul, Nat.reduceSub, Nat.reduceMod, Nat.reduceDiv, Nat.reduceEqDiff, Int.reduceToNat, reduceIte, reduceCtorEq, Int.reduceLE, Int.reduceLT, Int.reduceEq, Int.reduceNeg, Int.reduceAdd, Int.reduceSub, Int.reduceMul]; done) | (simp only [go_sem, Nat.reduceBEq, Nat.reduceLT, Nat.reduceLeDiff, Nat.reduceAdd, Nat.reduceMul, Nat.reduceSub, Nat.reduceMod, Nat.reduceDiv, Nat.reduceEqDiff, Int.reduceToNat, reduceIte, reduceCtorEq, Int.reduceLE, Int.reduceLT, Int.reduceEq, Int.reduceNeg, Int.reduceAdd, Int.reduceSub, Int.reduceMul]; rfl)) (by omega) (by first | (simp only [go_sem, Nat.reduceBEq, Nat.reduceLT, Nat.reduceLeDiff, Nat.reduceAdd, Nat.reduceMul, Nat.reduceSub, Nat.reduceMod, Nat.reduceDiv, Nat.reduceEqDiff, Int.reduceToNat, reduceIte, reduceCtorEq, Int.reduceLE, Int.reduceLT, Int.reduceEq, Int.reduceNeg, Int.reduceAdd, Int.reduceSub, Int.reduceMul]; done) | (simp only [go_sem, Nat.reduceBEq, Nat.reduceLT, Nat.reduceLeDiff, Nat.reduceAdd, Nat.reduceMul, Nat.reduceSub, Nat.reduceMod, Nat.reduceDiv, Nat.reduceEqDiff, Int.reduceToNat, reduceIte, reduceCtorEq, Int.reduceLE, Int.reduceLT, Int.reduceEq, Int.reduceNeg, Int.reduceAdd, Int.reduceSub, Int.reduceMul]; rfl)) (by omega) hR hP a1.1 (by omega) a2.1 (by omega) a3)).A ?_
    by_cases hrr : r = -1
    · have hF0 : frontL P W H st.1 = [] := front_none (hr0 hrr)
      have hfin : st = peelF P W H := by
        have := inv_stop (P := P) (W := W) (H := H) (j := j) (by rw [hst]; exact hF0) hinv
        rwa [hst] at this
      subst hrr
      simp only [go_sem, Nat.reduceBEq, Nat.reduceLT, Nat.reduceLeDiff, Nat.reduceAdd, Nat.reduceMul, Nat.reduceSub, Nat.reduceMod, Nat.reduceDiv, Nat.reduceEqDiff, Int.reduceToNat, reduceIte, reduceCtorEq, Int.reduceLE, Int.reduceLT, Int.reduceEq, Int.reduceNeg, Int.reduceAdd, Int.reduceSub, Int.reduceMul]
      refine (leftP_Q _ _ _ n (n + 1) P st.1 (pelS n st.1) W H (by first | (simp only [go_sem, Nat.reduceBEq, Nat.reduceLT, Nat.reduceLeDiff, Nat.reduceAdd, Nat.reduceMul, Nat.reduceSub, Nat.reduceMod, Nat.reduceDiv, Nat.reduceEqDiff, Int.reduceToNat, reduceIte, reduceCtorEq, Int.reduceLE, Int.reduceLT, Int.reduceEq, Int.reduceNeg, Int.reduceAdd, Int.reduceSub, Int.reduceMul]; done) | (simp only [go_sem, Nat.reduceBEq, Nat.reduceLT, Nat.reduceLeDiff, Nat.reduceAdd, Nat.reduceMul, Nat.reduceSub, Nat.reduceMod, Nat.reduceDiv, Nat.reduceEqDiff, Int.reduceToNat, reduceIte, reduceCtorEq, Int.reduceLE, Int.reduceLT, Int.reduceEq, Int.reduceNeg, Int.reduceAdd, Int.reduceSub, Int.reduceMul]; rfl)) (by omega) (by first | (simp only [go_sem, Nat.reduceBEq, Nat.reduceLT, Nat.reduceLeDiff, Nat.reduceAdd, Nat.reduceMul, Nat.reduceSub, Nat.reduceMod, Nat.reduceDiv, Nat.reduceEqDiff, Int.reduceToNat, reduceIte, reduceCtorEq, Int.reduceLE, Int.reduceLT, Int.reduceEq, Int.reduceNeg, Int.reduceAdd, Int.reduceSub, Int.reduceMul]; done) | (simp only [go_sem, Nat.reduceBEq, Nat.reduceLT, Nat.reduceLeDiff, Nat.reduceAdd, Nat.reduceMul, Nat.reduceSub, Nat.reduceMod, Nat.reduceDiv, Nat.reduceEqDiff, Int.reduceToNat, reduceIte, reduceCtorEq, Int.reduceLE, Int.reduceLT, Int.reduceEq, Int.reduceNeg, Int.reduceAdd, Int.reduceSub, Int.reduceMul]; rfl)) (by omega) (pelAt_pelS _ _) hR hP hW hH).A ?_
      by_cases hl : 0 < leftN P st.1 W (H * W)
      · rw [peelR_6 hk (by rw [hWt, hHt, ← hfin]; exact hl)] at hK
        simp only [go_sem, Nat.reduceBEq, Nat.reduceLT, Nat.reduceLeDiff, Nat.reduceAdd, Nat.reduceMul, Nat.reduceSub, Nat.reduceMod, Nat.reduceDiv, Nat.reduceEqDiff, Int.reduceToNat, reduceIte, reduceCtorEq, Int.reduceLE, Int.reduceLT, Int.reduceEq, Int.reduceNeg, Int.reduceAdd, Int.reduceSub, Int.reduceMul, show (0 : Int) < (leftN P st.1 W (H * W) : Int) by omega]
        exact fun hok' => hK _ _ _ (by omega) (by simp only [go_sem, Nat.reduceBEq, Nat.reduceLT, Nat.reduceLeDiff, Nat.reduceAdd, Nat.reduceMul, Nat.reduceSub, Nat.reduceMod, Nat.reduceDiv, Nat.reduceEqDiff, Int.reduceToNat, reduceIte, reduceCtorEq, Int.reduceLE, Int.reduceLT, Int.reduceEq, Int.reduceNeg, Int.reduceAdd, Int.reduceSub, Int.reduceMul, HExt_cons]) hok' (.inl ⟨rfl, rfl⟩)
      · rw [peelR_0 hk (by rw [hWt, hHt, ← hfin]; exact hl), hWt, hHt, ← hfin] at hK
        simp only [go_sem, Nat.reduceBEq, Nat.reduceLT, Nat.reduceLeDiff, Nat.reduceAdd, Nat.reduceMul, Nat.reduceSub, Nat.reduceMod, Nat.reduceDiv, Nat.reduceEqDiff, Int.reduceToNat, reduceIte, reduceCtorEq, Int.reduceLE, Int.reduceLT, Int.reduceEq, Int.reduceNeg, Int.reduceAdd, Int.reduceSub, Int.reduceMul, show ¬ (0 : Int) < (leftN P st.1 W (H * W) : Int) by omega]
        subst hlen
        refine callA_false (reverseDr_E _ _ _ (n + 2) _ st.2 _ (by first | (simp only [go_sem, Nat.reduceBEq, Nat.reduceLT, Nat.reduceLeDiff, Nat.reduceAdd, Nat.reduceMul, Nat.reduceSub, Nat.reduceMod, Nat.reduceDiv, Nat.reduceEqDiff, Int.reduceToNat, reduceIte, reduceCtorEq, Int.reduceLE, Int.reduceLT, Int.reduceEq, Int.reduceNeg, Int.reduceAdd, Int.reduceSub, Int.reduceMul]; done) | (simp only [go_sem, Nat.reduceBEq, Nat.reduceLT, Nat.reduceLeDiff, Nat.reduceAdd, Nat.reduceMul, Nat.reduceSub, Nat.reduceMod, Nat.reduceDiv, Nat.reduceEqDiff, Int.reduceToNat, reduceIte, reduceCtorEq, Int.reduceLE, Int.reduceLT, Int.reduceEq, Int.reduceNeg, Int.reduceAdd, Int.reduceSub, Int.reduceMul]; rfl)) (by omega) (by omega) _ ?_)
        simp only [go_sem, Nat.reduceBEq, Nat.reduceLT, Nat.reduceLeDiff, Nat.reduceAdd, Nat.reduceMul, Nat.reduceSub, Nat.reduceMod, Nat.reduceDiv, Nat.reduceEqDiff, Int.reduceToNat, reduceIte, reduceCtorEq, Int.reduceLE, Int.reduceLT, Int.reduceEq, Int.reduceNeg, Int.reduceAdd, Int.reduceSub, Int.reduceMul]
        have hrl : st.2.reverse.length = st.2.length := List.length_reverse
        exact fun hok' => hK _ _ _ (by omega) (by simp only [go_sem, Nat.reduceBEq, Nat.reduceLT, Nat.reduceLeDiff, Nat.reduceAdd, Nat.reduceMul, Nat.reduceSub, Nat.reduceMod, Nat.reduceDiv, Nat.reduceEqDiff, Int.reduceToNat, reduceIte, reduceCtorEq, Int.reduceLE, Int.reduceLT, Int.reduceEq, Int.reduceNeg, Int.reduceAdd, Int.reduceSub, Int.reduceMul, HExt_cons]) hok' (.inr ⟨n + 2, cap1, _, by rw [hrl], by omega, by omega, (by first | (simp only [go_sem, Nat.reduceBEq, Nat.reduceLT, Nat.reduceLeDiff, Nat.reduceAdd, Nat.reduceMul, Nat.reduceSub, Nat.reduceMod, Nat.reduceDiv, Nat.reduceEqDiff, Int.reduceToNat, reduceIte, reduceCtorEq, Int.reduceLE, Int.reduceLT, Int.reduceEq, Int.reduceNeg, Int.reduceAdd, Int.reduceSub, Int.reduceMul]; done) | (simp only [go_sem, Nat.reduceBEq, Nat.reduceLT, Nat.reduceLeDiff, Nat.reduceAdd, Nat.reduceMul, Nat.reduceSub, Nat.reduceMod, Nat.reduceDiv, Nat.reduceEqDiff, Int.reduceToNat, reduceIte, reduceCtorEq, Int.reduceLE, Int.reduceLT, Int.reduceEq, Int.reduceNeg, Int.reduceAdd, Int.reduceSub, Int.reduceMul]; rfl)), rfl, by rw [hrl], fun _ _ => rfl⟩)
    · obtain ⟨q0, q1, q2, q3⟩ := hr1 hrr
      obtain ⟨rn, rfl⟩ : ∃ rn : Nat, r = rn := ⟨r.toNat, by omega⟩
      rw [Int.toNat_natCast] at q2
      have hrn : rn < (dropsL W H).length := by omega
      obtain ⟨R, hF⟩ := front_at (P := P) (W := W) (H := H) (O := st.1) hrn q2 (fun j hj => q3 j (by omega))
      obtain ⟨a1, a2, a3⟩ := hdin rn hrn
      have hinv' : PeelInv P W H (j + 1) := inv_succ hP (by rw [hst]; exact hF) hinv
      have hj1 : j + 1 ≤ 64 := by have := hinv'.1; omega
      have hnx := peel_some (P := P) (W := W) (H := H) (j := j) (by rw [hst]; exact hF)
      rw [hst] at hnx
      have f0 := dropsC_0 (dropsL W H) rn
      have f1 := dropsC_1 (dropsL W H) rn
      have f2 := dropsC_2 (dropsL W H) rn
      have r1 : (0 : Int) ≤ rn ∧ (rn : Int) < (dropsL W H).length := ⟨by omega, by omega⟩
      have b1 : rn * 3 ≤ (dropsL W H).length * 3 - 3 := by omega
      have b3 : 3 ≤ (dropsL W H).length * 3 := by omega
      have b6 : rn * 3 + 3 ≤ (dropsL W H).length * 3 := by omega
      generalize hdd : (dropsL W H).getD rn (0, 0, 0) = d at *
      have hok1 : okAll P st.1 d.1 d.2.1 d.2.2 = true := by
        have : (okAll P st.1 d.1 d.2.1 d.2.2 && decide (0 < (opF P st.1 d.1 d.2.1).length)) = true := q2
        rw [Bool.and_eq_true] at this
        exact this.1
      simp only [go_sem, Nat.reduceBEq, Nat.reduceLT, Nat.reduceLeDiff, Nat.reduceAdd, Nat.reduceMul, Nat.reduceSub, Nat.reduceMod, Nat.reduceDiv, Nat.reduceEqDiff, Int.reduceToNat, reduceIte, reduceCtorEq, Int.reduceLE, Int.reduceLT, Int.reduceEq, Int.reduceNeg, Int.reduceAdd, Int.reduceSub, Int.reduceMul, show ¬ ((rn : Int) < 0) by omega]
      refine callA_false (drops7_E _ _ _ n P W H (by first | (simp only [go_sem, Nat.reduceBEq, Nat.reduceLT, Nat.reduceLeDiff, Nat.reduceAdd, Nat.reduceMul, Nat.reduceSub, Nat.reduceMod, Nat.reduceDiv, Nat.reduceEqDiff, Int.reduceToNat, reduceIte, reduceCtorEq, Int.reduceLE, Int.reduceLT, Int.reduceEq, Int.reduceNeg, Int.reduceAdd, Int.reduceSub, Int.reduceMul]; done) | (simp only [go_sem, Nat.reduceBEq, Nat.reduceLT, Nat.reduceLeDiff, Nat.reduceAdd, Nat.reduceMul, Nat.reduceSub, Nat.reduceMod, Nat.reduceDiv, Nat.reduceEqDiff, Int.reduceToNat, reduceIte, reduceCtorEq, Int.reduceLE, Int.reduceLT, Int.reduceEq, Int.reduceNeg, Int.reduceAdd, Int.reduceSub, Int.reduceMul]; rfl)) (by omega) hR hP hW hH _ fun capL2 _ => ?_)
      simp only [go_sem, Nat.reduceBEq, Nat.reduceLT, Nat.reduceLeDiff, Nat.reduceAdd, Nat.reduceMul, Nat.reduceSub, Nat.reduceMod, Nat.reduceDiv, Nat.reduceEqDiff, Int.reduceToNat, reduceIte, reduceCtorEq, Int.reduceLE, Int.reduceLT, Int.reduceEq, Int.reduceNeg, Int.reduceAdd, Int.reduceSub, Int.reduceMul, r1, b1, b3, b6, f0, f1, f2]
      refine callA_false (can_E _ _ _ n (n + 1) P st.1 d.1 d.2.1 d.2.2 (pelS n st.1) (by first | (simp only [go_sem, Nat.reduceBEq, Nat.reduceLT, Nat.reduceLeDiff, Nat.reduceAdd, Nat.reduceMul, Nat.reduceSub, Nat.reduceMod, Nat.reduceDiv, Nat.reduceEqDiff, Int.reduceToNat, reduceIte, reduceCtorEq, Int.reduceLE, Int.reduceLT, Int.reduceEq, Int.reduceNeg, Int.reduceAdd, Int.reduceSub, Int.reduceMul]; done) | (simp only [go_sem, Nat.reduceBEq, Nat.reduceLT, Nat.reduceLeDiff, Nat.reduceAdd, Nat.reduceMul, Nat.reduceSub, Nat.reduceMod, Nat.reduceDiv, Nat.reduceEqDiff, Int.reduceToNat, reduceIte, reduceCtorEq, Int.reduceLE, Int.reduceLT, Int.reduceEq, Int.reduceNeg, Int.reduceAdd, Int.reduceSub, Int.reduceMul]; rfl)) (by omega) (by first | (simp only [go_sem, Nat.reduceBEq, Nat.reduceLT, Nat.reduceLeDiff, Nat.reduceAdd, Nat.reduceMul, Nat.reduceSub, Nat.reduceMod, Nat.reduceDiv, Nat.reduceEqDiff, Int.reduceToNat, reduceIte, reduceCtorEq, Int.reduceLE, Int.reduceLT, Int.reduceEq, Int.reduceNeg, Int.reduceAdd, Int.reduceSub, Int.reduceMul]; done) | (simp only [go_sem, Nat.reduceBEq, Nat.reduceLT, Nat.reduceLeDiff, Nat.reduceAdd, Nat.reduceMul, Nat.reduceSub, Nat.reduceMod, Nat.reduceDiv, Nat.reduceEqDiff, Int.reduceToNat, reduceIte, reduceCtorEq, Int.reduceLE, Int.reduceLT, Int.reduceEq, Int.reduceNeg, Int.reduceAdd, Int.reduceSub, Int.reduceMul]; rfl)) (by omega) (pelAt_pelS _ _) hR hP a1.1 (by omega) a2.1 (by omega) a3 _ (fun ha => ?_) (fun ha cap4 => ?_))
      · rw [ha] at hok1; cases hok1
      have hl5 := opF_len P st.1 d.1 d.2.1
      simp only [go_sem, Nat.reduceBEq, Nat.reduceLT, Nat.reduceLeDiff, Nat.reduceAdd, Nat.reduceMul, Nat.reduceSub, Nat.reduceMod, Nat.reduceDiv, Nat.reduceEqDiff, Int.reduceToNat, reduceIte, reduceCtorEq, Int.reduceLE, Int.reduceLT, Int.reduceEq, Int.reduceNeg, Int.reduceAdd, Int.reduceSub, Int.reduceMul]
      refine callA_false (mark7_E _ _ _ n (n + 1) (n + 7) cap4 st.1 (opF P st.1 d.1 d.2.1) _ (by omega) (by first | (simp only [go_sem, Nat.reduceBEq, Nat.reduceLT, Nat.reduceLeDiff, Nat.reduceAdd, Nat.reduceMul, Nat.reduceSub, Nat.reduceMod, Nat.reduceDiv, Nat.reduceEqDiff, Int.reduceToNat, reduceIte, reduceCtorEq, Int.reduceLE, Int.reduceLT, Int.reduceEq, Int.reduceNeg, Int.reduceAdd, Int.reduceSub, Int.reduceMul]; done) | (simp only [go_sem, Nat.reduceBEq, Nat.reduceLT, Nat.reduceLeDiff, Nat.reduceAdd, Nat.reduceMul, Nat.reduceSub, Nat.reduceMod, Nat.reduceDiv, Nat.reduceEqDiff, Int.reduceToNat, reduceIte, reduceCtorEq, Int.reduceLE, Int.reduceLT, Int.reduceEq, Int.reduceNeg, Int.reduceAdd, Int.reduceSub, Int.reduceMul]; rfl)) (by omega) (by first | (simp only [go_sem, Nat.reduceBEq, Nat.reduceLT, Nat.reduceLeDiff, Nat.reduceAdd, Nat.reduceMul, Nat.reduceSub, Nat.reduceMod, Nat.reduceDiv, Nat.reduceEqDiff, Int.reduceToNat, reduceIte, reduceCtorEq, Int.reduceLE, Int.reduceLT, Int.reduceEq, Int.reduceNeg, Int.reduceAdd, Int.reduceSub, Int.reduceMul]; done) | (simp only [go_sem, Nat.reduceBEq, Nat.reduceLT, Nat.reduceLeDiff, Nat.reduceAdd, Nat.reduceMul, Nat.reduceSub, Nat.reduceMod, Nat.reduceDiv, Nat.reduceEqDiff, Int.reduceToNat, reduceIte, reduceCtorEq, Int.reduceLE, Int.reduceLT, Int.reduceEq, Int.reduceNeg, Int.reduceAdd, Int.reduceSub, Int.reduceMul]; rfl)) (by omega) (by omega) ⟨Nat.le_refl _, fun _ _ => rfl⟩ (by omega) (fun q hq => by
        have hm : (opF P st.1 d.1 d.2.1).getD q (0, 0) ∈ opF P st.1 d.1 d.2.1 := by rw [List.getD_eq_getElem?_getD, List.getElem?_eq_getElem hq]; exact List.getElem_mem hq
        have := covL_in (List.mem_filter.1 hm).1
        omega) _ ?_)
      have hob : openBy st.1 (opF P st.1 d.1 d.2.1) = openBy st.1 (covL P.wide P.high d.1 d.2.1) := openBy_filter _ _
      rw [hob]
      have hd2 : hdel h (n + 2) = h := hok.del (by omega)
      simp only [go_sem, Nat.reduceBEq, Nat.reduceLT, Nat.reduceLeDiff, Nat.reduceAdd, Nat.reduceMul, Nat.reduceSub, Nat.reduceMod, Nat.reduceDiv, Nat.reduceEqDiff, Int.reduceToNat, reduceIte, reduceCtorEq, Int.reduceLE, Int.reduceLT, Int.reduceEq, Int.reduceNeg, Int.reduceAdd, Int.reduceSub, Int.reduceMul, hd2]
      refine ⟨⟨hcap, hmx, by omega⟩, fun cap' h3 h4 => ?_⟩
      refine ⟨⟨(j + 1, cap'), ⟨hinv', hj1⟩, h3, h4⟩, by show 64 - (j + 1) < 64 - j; omega, ?_⟩
      refine Imp.of1 (n + 2) (n + 9) (by simp) (by omega) (by simp) ?_ ?_
      · simp only [go_sem, Nat.reduceBEq, Nat.reduceLT, Nat.reduceLeDiff, Nat.reduceAdd, Nat.reduceMul, Nat.reduceSub, Nat.reduceMod, Nat.reduceDiv, Nat.reduceEqDiff, Int.reduceToNat, reduceIte, reduceCtorEq, Int.reduceLE, Int.reduceLT, Int.reduceEq, Int.reduceNeg, Int.reduceAdd, Int.reduceSub, Int.reduceMul, hnx]
        (repeat' apply And.intro) <;> first | omega | rfl | trivial | assumption | skip
      · simp only [hnx]
        refine impH.cons2 (by first | (simp only [go_sem, Nat.reduceBEq, Nat.reduceLT, Nat.reduceLeDiff, Nat.reduceAdd, Nat.reduceMul, Nat.reduceSub, Nat.reduceMod, Nat.reduceDiv, Nat.reduceEqDiff, Int.reduceToNat, reduceIte, reduceCtorEq, Int.reduceLE, Int.reduceLT, Int.reduceEq, Int.reduceNeg, Int.reduceAdd, Int.reduceSub, Int.reduceMul]; done) | (simp only [go_sem, Nat.reduceBEq, Nat.reduceLT, Nat.reduceLeDiff, Nat.reduceAdd, Nat.reduceMul, Nat.reduceSub, Nat.reduceMod, Nat.reduceDiv, Nat.reduceEqDiff, Int.reduceToNat, reduceIte, reduceCtorEq, Int.reduceLE, Int.reduceLT, Int.reduceEq, Int.reduceNeg, Int.reduceAdd, Int.reduceSub, Int.reduceMul]; rfl)) (by simp) (by omega) (ptr_le (a := n + 1) (n' := n + 4) rfl rfl rfl (by simp only [go_sem, Nat.reduceBEq, Nat.reduceLT, Nat.reduceLeDiff, Nat.reduceAdd, Nat.reduceMul, Nat.reduceSub, Nat.reduceMod, Nat.reduceDiv, Nat.reduceEqDiff, Int.reduceToNat, reduceIte, reduceCtorEq, Int.reduceLE, Int.reduceLT, Int.reduceEq, Int.reduceNeg, Int.reduceAdd, Int.reduceSub, Int.reduceMul]) (by omega)) (impH.cons1 (hget_hit _ _ _) (by simp) (SegLe.flat (Nat.le_refl _) id (.inr rfl) fun z hz => ⟨?_, dropsC_flat _ _⟩) (impH.cons2 (s := pelS n (openBy st.1 (covL P.wide P.high d.1 d.2.1))) (by first | (simp only [go_sem, Nat.reduceBEq, Nat.reduceLT, Nat.reduceLeDiff, Nat.reduceAdd, Nat.reduceMul, Nat.reduceSub, Nat.reduceMod, Nat.reduceDiv, Nat.reduceEqDiff, Int.reduceToNat, reduceIte, reduceCtorEq, Int.reduceLE, Int.reduceLT, Int.reduceEq, Int.reduceNeg, Int.reduceAdd, Int.reduceSub, Int.reduceMul]; done) | (simp only [go_sem, Nat.reduceBEq, Nat.reduceLT, Nat.reduceLeDiff, Nat.reduceAdd, Nat.reduceMul, Nat.reduceSub, Nat.reduceMod, Nat.reduceDiv, Nat.reduceEqDiff, Int.reduceToNat, reduceIte, reduceCtorEq, Int.reduceLE, Int.reduceLT, Int.reduceEq, Int.reduceNeg, Int.reduceAdd, Int.reduceSub, Int.reduceMul]; rfl)) (by simp) (by omega) (pel_le (i := n) (n' := n + 4) rfl rfl (fun k _ => rfl) (by simp only [go_sem, Nat.reduceBEq, Nat.reduceLT, Nat.reduceLeDiff, Nat.reduceAdd, Nat.reduceMul, Nat.reduceSub, Nat.reduceMod, Nat.reduceDiv, Nat.reduceEqDiff, Int.reduceToNat, reduceIte, reduceCtorEq, Int.reduceLE, Int.reduceLT, Int.reduceEq, Int.reduceNeg, Int.reduceAdd, Int.reduceSub, Int.reduceMul]) (by omega)) (impH.cons2 (by first | (simp only [go_sem, Nat.reduceBEq, Nat.reduceLT, Nat.reduceLeDiff, Nat.reduceAdd, Nat.reduceMul, Nat.reduceSub, Nat.reduceMod, Nat.reduceDiv, Nat.reduceEqDiff, Int.reduceToNat, reduceIte, reduceCtorEq, Int.reduceLE, Int.reduceLT, Int.reduceEq, Int.reduceNeg, Int.reduceAdd, Int.reduceSub, Int.reduceMul]; done) | (simp only [go_sem, Nat.reduceBEq, Nat.reduceLT, Nat.reduceLeDiff, Nat.reduceAdd, Nat.reduceMul, Nat.reduceSub, Nat.reduceMod, Nat.reduceDiv, Nat.reduceEqDiff, Int.reduceToNat, reduceIte, reduceCtorEq, Int.reduceLE, Int.reduceLT, Int.reduceEq, Int.reduceNeg, Int.reduceAdd, Int.reduceSub, Int.reduceMul]; rfl)) (by simp) (by omega) (SegLe.flat (Nat.le_refl _) id (.inr rfl) fun k hk => ⟨rfl, pcC_flat _ _⟩) (impH.base1 hok (by omega) (by omega) (by simp only [go_sem, Nat.reduceBEq, Nat.reduceLT, Nat.reduceLeDiff, Nat.reduceAdd, Nat.reduceMul, Nat.reduceSub, Nat.reduceMod, Nat.reduceDiv, Nat.reduceEqDiff, Int.reduceToNat, reduceIte, reduceCtorEq, Int.reduceLE, Int.reduceLT, Int.reduceEq, Int.reduceNeg, Int.reduceAdd, Int.reduceSub, Int.reduceMul, HExt_cons])))))
        have hz : z < (j + 1) * 3 := hz
        rw [← hlen] at hz ⊢
        exact both_drop _ _ _ rfl rfl rfl hz
end
end Go.Proofs.Ytodgbpkdanefaaa.V

/- The search for the fewest drops, as plain data. -/
namespace Go.Proofs.Ytodgbpkdanefaaa.V
abbrev Sr := Option (List Dr) × Nat × Bool
def goL (f : Gr → Nat → Sr) (P : Pc) (most : Nat) (O : Gr) : List Dr → Nat → Sr
  | [], t => (none, t, false)
  | d :: R, t => if t = most then (none, t, true) else
    match f (openBy O (covL P.wide P.high d.1 d.2.1)) (t + 1) with
    | (some X, t', s') => (some (d :: X), t', s')
    | (none, t', true) => (none, t', true)
    | (none, t', false) => goL f P most O R t'
def srch (P : Pc) (W H most : Nat) : Nat → Gr → Nat → Sr
  | 0, O, t => if leftN P O W (H * W) = 0 then (some [], t, false) else (none, t, false)
  | m + 1, O, t => if leftN P O W (H * W) = 0 then (some [], t, false) else if 5 * (m + 1) < leftN P O W (H * W) then (none, t, false) else goL (srch P W H most m) P most O (frontL P W H O) t
theorem goL_stop {f : Gr → Nat → Sr} {P : Pc} {most : Nat} {O : Gr} {d : Dr} {R : List Dr} : goL f P most O (d :: R) most = (none, most, true) := by rw [goL, if_pos rfl]
theorem goL_some {f : Gr → Nat → Sr} {P : Pc} {most : Nat} {O : Gr} {d : Dr} {R X : List Dr} {t t' : Nat} {s' : Bool} (h : t ≠ most) (hf : f (openBy O (covL P.wide P.high d.1 d.2.1)) (t + 1) = (some X, t', s')) : goL f P most O (d :: R) t = (some (d :: X), t', s') := by rw [goL, if_neg h, hf]
theorem goL_halt {f : Gr → Nat → Sr} {P : Pc} {most : Nat} {O : Gr} {d : Dr} {R : List Dr} {t t' : Nat} (h : t ≠ most) (hf : f (openBy O (covL P.wide P.high d.1 d.2.1)) (t + 1) = (none, t', true)) : goL f P most O (d :: R) t = (none, t', true) := by rw [goL, if_neg h, hf]
theorem goL_next {f : Gr → Nat → Sr} {P : Pc} {most : Nat} {O : Gr} {d : Dr} {R : List Dr} {t t' : Nat} (h : t ≠ most) (hf : f (openBy O (covL P.wide P.high d.1 d.2.1)) (t + 1) = (none, t', false)) : goL f P most O (d :: R) t = goL f P most O R t' := by rw [goL, if_neg h, hf]
/-- What a search gives: no more tries than allowed, a list no longer than asked, never both found and stopped. -/
def SrOk (most m : Nat) (r : Sr) : Prop := r.2.1 ≤ most ∧ (∀ X, r.1 = some X → X.length ≤ m ∧ r.2.2 = false)
theorem goL_ok {f : Gr → Nat → Sr} {P : Pc} {most m : Nat} (hf : ∀ O t, t ≤ most → SrOk most m (f O t)) (O : Gr) : ∀ (L : List Dr) (t : Nat), t ≤ most → SrOk most (m + 1) (goL f P most O L t)
  | [], t, ht => ⟨ht, fun X h => by cases h⟩
  | d :: R, t, ht => by
    by_cases e : t = most
    · subst e; rw [goL_stop]; exact ⟨Nat.le_refl _, fun X h => by cases h⟩
    · have hr := hf (openBy O (covL P.wide P.high d.1 d.2.1)) (t + 1) (by omega)
      match hfe : f (openBy O (covL P.wide P.high d.1 d.2.1)) (t + 1), hr with
      | (some X, t', s'), hr =>
        rw [goL_some e hfe]
        exact ⟨hr.1, fun Y hY => by cases hY; exact ⟨by have := (hr.2 X rfl).1; simp only [List.length_cons]; omega, (hr.2 X rfl).2⟩⟩
      | (none, t', true), hr => rw [goL_halt e hfe]; exact ⟨hr.1, fun X h => by cases h⟩
      | (none, t', false), hr => rw [goL_next e hfe]; exact goL_ok hf O R t' hr.1
theorem srch_ok (P : Pc) (W H most : Nat) : ∀ (m : Nat) (O : Gr) (t : Nat), t ≤ most → SrOk most m (srch P W H most m O t)
  | 0, O, t, ht => by
    rw [srch]
    split
    · exact ⟨ht, fun X h => by cases h; exact ⟨Nat.le_refl _, rfl⟩⟩
    · exact ⟨ht, fun X h => by cases h⟩
  | m + 1, O, t, ht => by
    rw [srch]
    split
    · exact ⟨ht, fun X h => by cases h; exact ⟨Nat.zero_le _, rfl⟩⟩
    · split
      · exact ⟨ht, fun X h => by cases h⟩
      · exact goL_ok (fun O t ht => srch_ok P W H most m O t ht) O _ t ht
theorem srch_0 {P : Pc} {W H most m : Nat} {O : Gr} {t : Nat} (h : leftN P O W (H * W) = 0) : srch P W H most m O t = (some [], t, false) := by
  cases m <;> rw [srch, if_pos h]
theorem srch_far {P : Pc} {W H most m : Nat} {O : Gr} {t : Nat} (h : leftN P O W (H * W) ≠ 0) (h5 : 5 * m < leftN P O W (H * W)) : srch P W H most m O t = (none, t, false) := by
  cases m
  · rw [srch, if_neg h]
  · rw [srch, if_neg h, if_pos h5]
theorem srch_go {P : Pc} {W H most m : Nat} {O : Gr} {t : Nat} (h : leftN P O W (H * W) ≠ 0) (h5 : ¬ 5 * (m + 1) < leftN P O W (H * W)) : srch P W H most (m + 1) O t = goL (srch P W H most m) P most O (frontL P W H O) t := by
  rw [srch, if_neg h, if_neg h5]
/-- A slice that holds drops. -/
def DrRes (h : List (Nat × Seg)) (no n : Nat) (V : SV) (L : List Dr) : Prop := ∃ i cap s, V = .sl i 0 L.length cap ∧ i < n ∧ i ≠ no ∧ hget h i = some s ∧ DrAt s L
def sgS (ip most t : Nat) (b : Bool) : Seg := ⟨4, cl [.ptr ip 0, .int .i64 most, .int .i64 t, .bool b], true, none⟩
@[go_sem] theorem sgS_eq (ip most t : Nat) (b : Bool) : sgS ip most t b = ⟨4, cl [.ptr ip 0, .int .i64 most, .int .i64 t, .bool b], true, none⟩ := rfl
theorem sg_le {σ : Nat → Nat} {ip n' most t : Nat} {b : Bool} {s : Seg} (hn : s.n = 4) (hrw : s.rw = true) (h0 : s.c 0 = .ptr ip 0) (h1 : s.c 1 = .int .i64 most) (h2 : s.c 2 = .int .i64 t) (h3 : s.c 3 = .bool b) (hσ : σ ip = ip) (hi : ip < n') : SegLe σ n' s (sgS ip most t b) :=
  SegLe.mk' (by rw [hn]; exact Nat.le_refl _) (fun _ => hrw) (.inl rfl) (fun k hk => by
    have hk : k < 4 := hk
    rcases (by omega : k = 0 ∨ k = 1 ∨ k = 2 ∨ k = 3) with rfl | rfl | rfl | rfl
    · rw [h0]; show _ = ren σ (.ptr ip 0); rw [ren_ptr, hσ]
    · exact h1
    · exact h2
    · exact h3) fun k hk => by
    have hk : k < 4 := hk
    rcases (by omega : k = 0 ∨ k = 1 ∨ k = 2 ∨ k = 3) with rfl | rfl | rfl | rfl
    · exact hi
    · trivial
    · trivial
    · trivial
theorem sg_lt {ip n most t : Nat} {b : Bool} (hi : ip < n) (k : Nat) (hk : k < 4) : ((sgS ip most t b).c k).lt n := by
  rcases (by omega : k = 0 ∨ k = 1 ∨ k = 2 ∨ k = 3) with rfl | rfl | rfl | rfl
  · exact hi
  · trivial
  · trivial
  · trivial
end Go.Proofs.Ytodgbpkdanefaaa.V

/- The reference's search: the walk. -/
namespace Go.Proofs.Ytodgbpkdanefaaa.V
set_option maxHeartbeats 3200000 in
theorem from_E (P : Pc) (W H most : Nat) (hR : PcR P) (hP : PcOk P) (hW : P.wide = W) (hH : P.high = H) (hmost : most ≤ 20000) : ∀ (m : Nat) (cx : Cx) (h : List (Nat × Seg)) (n sg ip j cap : Nat) (O : Gr) (t : Nat) (so : List Dr) (s : Seg)
    (hs : hget h sg = some (sgS ip most t false)) (hsn : sg < n) (hp : hget h ip = some (pcS P)) (hpn : ip < n) (hsp : ip ≠ sg) (hl : hget h j = some s) (hjn : j < n) (hjs : j ≠ sg) (hD : DrAt s so) (hm9 : so.length + m ≤ 100) (ht : t ≤ most) (K : HK)
    (hK : ∀ V h' n', n ≤ n' → HBut sg n h h' → HOk n' h' → hget h' sg = some (sgS ip most (srch P W H most m O t).2.1 (srch P W H most m O t).2.2) → V.ok = True → V.lt n' → (∀ X, (srch P W H most m O t).1 = some X → DrRes h' sg n' V (so ++ X)) → K (.tup 2 (cl [V, .bool (srch P W H most m O t).1.isSome])) h' n'),
    CallE Try.prog cx 81 [.ptr sg 0, .agg 64 (gridC O), .int .i64 m, .sl j 0 so.length cap] h n K := by
  intro m
  induction m with
  | zero =>
    intro cx h n sg ip j cap O t so s hs hsn hp hpn hsp hl hjn hjs hD hm9 ht K hK
    have hs8 := hP.1
    have hW8 : W ≤ 8 := by omega
    have hH8 : H ≤ 8 := by omega
    have hm64 : H * W ≤ 8 * 8 := Nat.mul_le_mul hH8 hW8
    have hll := leftN_le P O W (H * W)
    refine CallE.hokE ?_
    refine callE_of_T (P := Try.prog) hti (nt := 98) (rs := [.tmp 8, .tmp 9]) rfl rfl Try.call81 Try.func81 rfl _ (by simp only [go_sem, and_self]) (Nat.le_of_ble_eq_true rfl) _ fun hok => ?_
    simp only [go_sem, Nat.reduceBEq, Nat.reduceLT, Nat.reduceLeDiff, Nat.reduceAdd, Nat.reduceMul, Nat.reduceSub, Nat.reduceMod, Nat.reduceDiv, Nat.reduceEqDiff, Int.reduceToNat, reduceIte, reduceCtorEq, Int.reduceLE, Int.reduceLT, Int.reduceEq, Int.reduceNeg, Int.reduceAdd, Int.reduceSub, Int.reduceMul, hs, hsn]
    refine (left7_Q _ _ _ ip n P O _ W H (by first | (simp only [go_sem, Nat.reduceBEq, Nat.reduceLT, Nat.reduceLeDiff, Nat.reduceAdd, Nat.reduceMul, Nat.reduceSub, Nat.reduceMod, Nat.reduceDiv, Nat.reduceEqDiff, Int.reduceToNat, reduceIte, reduceCtorEq, Int.reduceLE, Int.reduceLT, Int.reduceEq, Int.reduceNeg, Int.reduceAdd, Int.reduceSub, Int.reduceMul, hp, hpn]; done) | (simp only [go_sem, Nat.reduceBEq, Nat.reduceLT, Nat.reduceLeDiff, Nat.reduceAdd, Nat.reduceMul, Nat.reduceSub, Nat.reduceMod, Nat.reduceDiv, Nat.reduceEqDiff, Int.reduceToNat, reduceIte, reduceCtorEq, Int.reduceLE, Int.reduceLT, Int.reduceEq, Int.reduceNeg, Int.reduceAdd, Int.reduceSub, Int.reduceMul, hp, hpn]; rfl)) (by omega) (by first | (simp only [go_sem, Nat.reduceBEq, Nat.reduceLT, Nat.reduceLeDiff, Nat.reduceAdd, Nat.reduceMul, Nat.reduceSub, Nat.reduceMod, Nat.reduceDiv, Nat.reduceEqDiff, Int.reduceToNat, reduceIte, reduceCtorEq, Int.reduceLE, Int.reduceLT, Int.reduceEq, Int.reduceNeg, Int.reduceAdd, Int.reduceSub, Int.reduceMul]; done) | (simp only [go_sem, Nat.reduceBEq, Nat.reduceLT, Nat.reduceLeDiff, Nat.reduceAdd, Nat.reduceMul, Nat.reduceSub, Nat.reduceMod, Nat.reduceDiv, Nat.reduceEqDiff, Int.reduceToNat, reduceIte, reduceCtorEq, Int.reduceLE, Int.reduceLT, Int.reduceEq, Int.reduceNeg, Int.reduceAdd, Int.reduceSub, Int.reduceMul]; rfl)) (by omega) ⟨rfl, fun _ _ => rfl⟩ hR hP hW hH).A ?_
    by_cases h0 : leftN P O W (H * W) = 0
    · rw [srch_0 h0] at hK
      simp only [go_sem, Nat.reduceBEq, Nat.reduceLT, Nat.reduceLeDiff, Nat.reduceAdd, Nat.reduceMul, Nat.reduceSub, Nat.reduceMod, Nat.reduceDiv, Nat.reduceEqDiff, Int.reduceToNat, reduceIte, reduceCtorEq, Int.reduceLE, Int.reduceLT, Int.reduceEq, Int.reduceNeg, Int.reduceAdd, Int.reduceSub, Int.reduceMul, h0, Int.natCast_zero]
      refine fun hok' => hK _ _ _ (by omega) (by intro i hi hne t ht; simp only [go_sem, Nat.reduceBEq, Nat.reduceLT, Nat.reduceLeDiff, Nat.reduceAdd, Nat.reduceMul, Nat.reduceSub, Nat.reduceMod, Nat.reduceDiv, Nat.reduceEqDiff, Int.reduceToNat, reduceIte, reduceCtorEq, Int.reduceLE, Int.reduceLT, Int.reduceEq, Int.reduceNeg, Int.reduceAdd, Int.reduceSub, Int.reduceMul, ht, hi]) hok' (by first | (simp only [go_sem, Nat.reduceBEq, Nat.reduceLT, Nat.reduceLeDiff, Nat.reduceAdd, Nat.reduceMul, Nat.reduceSub, Nat.reduceMod, Nat.reduceDiv, Nat.reduceEqDiff, Int.reduceToNat, reduceIte, reduceCtorEq, Int.reduceLE, Int.reduceLT, Int.reduceEq, Int.reduceNeg, Int.reduceAdd, Int.reduceSub, Int.reduceMul, hs, hsn]; done) | (simp only [go_sem, Nat.reduceBEq, Nat.reduceLT, Nat.reduceLeDiff, Nat.reduceAdd, Nat.reduceMul, Nat.reduceSub, Nat.reduceMod, Nat.reduceDiv, Nat.reduceEqDiff, Int.reduceToNat, reduceIte, reduceCtorEq, Int.reduceLE, Int.reduceLT, Int.reduceEq, Int.reduceNeg, Int.reduceAdd, Int.reduceSub, Int.reduceMul, hs, hsn]; rfl)) (by simp only [go_sem, Nat.reduceBEq, Nat.reduceLT, Nat.reduceLeDiff, Nat.reduceAdd, Nat.reduceMul, Nat.reduceSub, Nat.reduceMod, Nat.reduceDiv, Nat.reduceEqDiff, Int.reduceToNat, reduceIte, reduceCtorEq, Int.reduceLE, Int.reduceLT, Int.reduceEq, Int.reduceNeg, Int.reduceAdd, Int.reduceSub, Int.reduceMul]) (by simp only [go_sem, Nat.reduceBEq, Nat.reduceLT, Nat.reduceLeDiff, Nat.reduceAdd, Nat.reduceMul, Nat.reduceSub, Nat.reduceMod, Nat.reduceDiv, Nat.reduceEqDiff, Int.reduceToNat, reduceIte, reduceCtorEq, Int.reduceLE, Int.reduceLT, Int.reduceEq, Int.reduceNeg, Int.reduceAdd, Int.reduceSub, Int.reduceMul, hjn]) fun X hX => ?_
      cases hX
      rw [List.append_nil]
      exact ⟨j, cap, s, rfl, by omega, hjs, (by first | (simp only [go_sem, Nat.reduceBEq, Nat.reduceLT, Nat.reduceLeDiff, Nat.reduceAdd, Nat.reduceMul, Nat.reduceSub, Nat.reduceMod, Nat.reduceDiv, Nat.reduceEqDiff, Int.reduceToNat, reduceIte, reduceCtorEq, Int.reduceLE, Int.reduceLT, Int.reduceEq, Int.reduceNeg, Int.reduceAdd, Int.reduceSub, Int.reduceMul, hl, hjn]; done) | (simp only [go_sem, Nat.reduceBEq, Nat.reduceLT, Nat.reduceLeDiff, Nat.reduceAdd, Nat.reduceMul, Nat.reduceSub, Nat.reduceMod, Nat.reduceDiv, Nat.reduceEqDiff, Int.reduceToNat, reduceIte, reduceCtorEq, Int.reduceLE, Int.reduceLT, Int.reduceEq, Int.reduceNeg, Int.reduceAdd, Int.reduceSub, Int.reduceMul, hl, hjn]; rfl)), hD⟩
    have h0' : ¬ ((leftN P O W (H * W) : Int) = 0) := by omega
    rw [srch_far h0 (by omega)] at hK
    simp only [go_sem, Nat.reduceBEq, Nat.reduceLT, Nat.reduceLeDiff, Nat.reduceAdd, Nat.reduceMul, Nat.reduceSub, Nat.reduceMod, Nat.reduceDiv, Nat.reduceEqDiff, Int.reduceToNat, reduceIte, reduceCtorEq, Int.reduceLE, Int.reduceLT, Int.reduceEq, Int.reduceNeg, Int.reduceAdd, Int.reduceSub, Int.reduceMul, h0', w64 (n := 5 * (0 : Int)) (by omega), Int.natCast_zero, Int.mul_zero, w64 (n := (0 : Int)) (by omega), show ((0 : Int) < (leftN P O W (H * W) : Int)) by omega]
    exact fun hok' => hK _ _ _ (by omega) (by intro i hi hne t ht; simp only [go_sem, Nat.reduceBEq, Nat.reduceLT, Nat.reduceLeDiff, Nat.reduceAdd, Nat.reduceMul, Nat.reduceSub, Nat.reduceMod, Nat.reduceDiv, Nat.reduceEqDiff, Int.reduceToNat, reduceIte, reduceCtorEq, Int.reduceLE, Int.reduceLT, Int.reduceEq, Int.reduceNeg, Int.reduceAdd, Int.reduceSub, Int.reduceMul, ht, hi]) hok' (by first | (simp only [go_sem, Nat.reduceBEq, Nat.reduceLT, Nat.reduceLeDiff, Nat.reduceAdd, Nat.reduceMul, Nat.reduceSub, Nat.reduceMod, Nat.reduceDiv, Nat.reduceEqDiff, Int.reduceToNat, reduceIte, reduceCtorEq, Int.reduceLE, Int.reduceLT, Int.reduceEq, Int.reduceNeg, Int.reduceAdd, Int.reduceSub, Int.reduceMul, hs, hsn]; done) | (simp only [go_sem, Nat.reduceBEq, Nat.reduceLT, Nat.reduceLeDiff, Nat.reduceAdd, Nat.reduceMul, Nat.reduceSub, Nat.reduceMod, Nat.reduceDiv, Nat.reduceEqDiff, Int.reduceToNat, reduceIte, reduceCtorEq, Int.reduceLE, Int.reduceLT, Int.reduceEq, Int.reduceNeg, Int.reduceAdd, Int.reduceSub, Int.reduceMul, hs, hsn]; rfl)) (by simp only [go_sem, Nat.reduceBEq, Nat.reduceLT, Nat.reduceLeDiff, Nat.reduceAdd, Nat.reduceMul, Nat.reduceSub, Nat.reduceMod, Nat.reduceDiv, Nat.reduceEqDiff, Int.reduceToNat, reduceIte, reduceCtorEq, Int.reduceLE, Int.reduceLT, Int.reduceEq, Int.reduceNeg, Int.reduceAdd, Int.reduceSub, Int.reduceMul]) (by simp only [go_sem, Nat.reduceBEq, Nat.reduceLT, Nat.reduceLeDiff, Nat.reduceAdd, Nat.reduceMul, Nat.reduceSub, Nat.reduceMod, Nat.reduceDiv, Nat.reduceEqDiff, Int.reduceToNat, reduceIte, reduceCtorEq, Int.reduceLE, Int.reduceLT, Int.reduceEq, Int.reduceNeg, Int.reduceAdd, Int.reduceSub, Int.reduceMul, hjn]) fun X hX => by cases hX
  | succ m ih =>
    intro cx h n sg ip j cap O t so s hs hsn hp hpn hsp hl hjn hjs hD hm9 ht K hK
    have hs8 := hP.1
    have hW8 : W ≤ 8 := by omega
    have hH8 : H ≤ 8 := by omega
    have hm64 : H * W ≤ 8 * 8 := Nat.mul_le_mul hH8 hW8
    have hll := leftN_le P O W (H * W)
    refine CallE.hokE ?_
    refine callE_of_T (P := Try.prog) hti (nt := 98) (rs := [.tmp 8, .tmp 9]) rfl rfl Try.call81 Try.func81 rfl _ (by simp only [go_sem, and_self]) (Nat.le_of_ble_eq_true rfl) _ fun hok => ?_
    simp only [go_sem, Nat.reduceBEq, Nat.reduceLT, Nat.reduceLeDiff, Nat.reduceAdd, Nat.reduceMul, Nat.reduceSub, Nat.reduceMod, Nat.reduceDiv, Nat.reduceEqDiff, Int.reduceToNat, reduceIte, reduceCtorEq, Int.reduceLE, Int.reduceLT, Int.reduceEq, Int.reduceNeg, Int.reduceAdd, Int.reduceSub, Int.reduceMul, hs, hsn]
    refine (left7_Q _ _ _ ip n P O _ W H (by first | (simp only [go_sem, Nat.reduceBEq, Nat.reduceLT, Nat.reduceLeDiff, Nat.reduceAdd, Nat.reduceMul, Nat.reduceSub, Nat.reduceMod, Nat.reduceDiv, Nat.reduceEqDiff, Int.reduceToNat, reduceIte, reduceCtorEq, Int.reduceLE, Int.reduceLT, Int.reduceEq, Int.reduceNeg, Int.reduceAdd, Int.reduceSub, Int.reduceMul, hp, hpn]; done) | (simp only [go_sem, Nat.reduceBEq, Nat.reduceLT, Nat.reduceLeDiff, Nat.reduceAdd, Nat.reduceMul, Nat.reduceSub, Nat.reduceMod, Nat.reduceDiv, Nat.reduceEqDiff, Int.reduceToNat, reduceIte, reduceCtorEq, Int.reduceLE, Int.reduceLT, Int.reduceEq, Int.reduceNeg, Int.reduceAdd, Int.reduceSub, Int.reduceMul, hp, hpn]; rfl)) (by omega) (by first | (simp only [go_sem, Nat.reduceBEq, Nat.reduceLT, Nat.reduceLeDiff, Nat.reduceAdd, Nat.reduceMul, Nat.reduceSub, Nat.reduceMod, Nat.reduceDiv, Nat.reduceEqDiff, Int.reduceToNat, reduceIte, reduceCtorEq, Int.reduceLE, Int.reduceLT, Int.reduceEq, Int.reduceNeg, Int.reduceAdd, Int.reduceSub, Int.reduceMul]; done) | (simp only [go_sem, Nat.reduceBEq, Nat.reduceLT, Nat.reduceLeDiff, Nat.reduceAdd, Nat.reduceMul, Nat.reduceSub, Nat.reduceMod, Nat.reduceDiv, Nat.reduceEqDiff, Int.reduceToNat, reduceIte, reduceCtorEq, Int.reduceLE, Int.reduceLT, Int.reduceEq, Int.reduceNeg, Int.reduceAdd, Int.reduceSub, Int.reduceMul]; rfl)) (by omega) ⟨rfl, fun _ _ => rfl⟩ hR hP hW hH).A ?_
    by_cases h0 : leftN P O W (H * W) = 0
    · rw [srch_0 h0] at hK
      simp only [go_sem, Nat.reduceBEq, Nat.reduceLT, Nat.reduceLeDiff, Nat.reduceAdd, Nat.reduceMul, Nat.reduceSub, Nat.reduceMod, Nat.reduceDiv, Nat.reduceEqDiff, Int.reduceToNat, reduceIte, reduceCtorEq, Int.reduceLE, Int.reduceLT, Int.reduceEq, Int.reduceNeg, Int.reduceAdd, Int.reduceSub, Int.reduceMul, h0, Int.natCast_zero]
      refine fun hok' => hK _ _ _ (by omega) (by intro i hi hne t ht; simp only [go_sem, Nat.reduceBEq, Nat.reduceLT, Nat.reduceLeDiff, Nat.reduceAdd, Nat.reduceMul, Nat.reduceSub, Nat.reduceMod, Nat.reduceDiv, Nat.reduceEqDiff, Int.reduceToNat, reduceIte, reduceCtorEq, Int.reduceLE, Int.reduceLT, Int.reduceEq, Int.reduceNeg, Int.reduceAdd, Int.reduceSub, Int.reduceMul, ht, hi]) hok' (by first | (simp only [go_sem, Nat.reduceBEq, Nat.reduceLT, Nat.reduceLeDiff, Nat.reduceAdd, Nat.reduceMul, Nat.reduceSub, Nat.reduceMod, Nat.reduceDiv, Nat.reduceEqDiff, Int.reduceToNat, reduceIte, reduceCtorEq, Int.reduceLE, Int.reduceLT, Int.reduceEq, Int.reduceNeg, Int.reduceAdd, Int.reduceSub, Int.reduceMul, hs, hsn]; done) | (simp only [go_sem, Nat.reduceBEq, Nat.reduceLT, Nat.reduceLeDiff, Nat.reduceAdd, Nat.reduceMul, Nat.reduceSub, Nat.reduceMod, Nat.reduceDiv, Nat.reduceEqDiff, Int.reduceToNat, reduceIte, reduceCtorEq, Int.reduceLE, Int.reduceLT, Int.reduceEq, Int.reduceNeg, Int.reduceAdd, Int.reduceSub, Int.reduceMul, hs, hsn]; rfl)) (by simp only [go_sem, Nat.reduceBEq, Nat.reduceLT, Nat.reduceLeDiff, Nat.reduceAdd, Nat.reduceMul, Nat.reduceSub, Nat.reduceMod, Nat.reduceDiv, Nat.reduceEqDiff, Int.reduceToNat, reduceIte, reduceCtorEq, Int.reduceLE, Int.reduceLT, Int.reduceEq, Int.reduceNeg, Int.reduceAdd, Int.reduceSub, Int.reduceMul]) (by simp only [go_sem, Nat.reduceBEq, Nat.reduceLT, Nat.reduceLeDiff, Nat.reduceAdd, Nat.reduceMul, Nat.reduceSub, Nat.reduceMod, Nat.reduceDiv, Nat.reduceEqDiff, Int.reduceToNat, reduceIte, reduceCtorEq, Int.reduceLE, Int.reduceLT, Int.reduceEq, Int.reduceNeg, Int.reduceAdd, Int.reduceSub, Int.reduceMul, hjn]) fun X hX => ?_
      cases hX
      rw [List.append_nil]
      exact ⟨j, cap, s, rfl, by omega, hjs, (by first | (simp only [go_sem, Nat.reduceBEq, Nat.reduceLT, Nat.reduceLeDiff, Nat.reduceAdd, Nat.reduceMul, Nat.reduceSub, Nat.reduceMod, Nat.reduceDiv, Nat.reduceEqDiff, Int.reduceToNat, reduceIte, reduceCtorEq, Int.reduceLE, Int.reduceLT, Int.reduceEq, Int.reduceNeg, Int.reduceAdd, Int.reduceSub, Int.reduceMul, hl, hjn]; done) | (simp only [go_sem, Nat.reduceBEq, Nat.reduceLT, Nat.reduceLeDiff, Nat.reduceAdd, Nat.reduceMul, Nat.reduceSub, Nat.reduceMod, Nat.reduceDiv, Nat.reduceEqDiff, Int.reduceToNat, reduceIte, reduceCtorEq, Int.reduceLE, Int.reduceLT, Int.reduceEq, Int.reduceNeg, Int.reduceAdd, Int.reduceSub, Int.reduceMul, hl, hjn]; rfl)), hD⟩
    have h0' : ¬ ((leftN P O W (H * W) : Int) = 0) := by omega
    by_cases h5 : 5 * (m + 1) < leftN P O W (H * W)
    · rw [srch_far h0 h5] at hK
      simp only [go_sem, Nat.reduceBEq, Nat.reduceLT, Nat.reduceLeDiff, Nat.reduceAdd, Nat.reduceMul, Nat.reduceSub, Nat.reduceMod, Nat.reduceDiv, Nat.reduceEqDiff, Int.reduceToNat, reduceIte, reduceCtorEq, Int.reduceLE, Int.reduceLT, Int.reduceEq, Int.reduceNeg, Int.reduceAdd, Int.reduceSub, Int.reduceMul, h0', w64 (n := 5 * ((m : Int) + 1)) (by omega), Int.natCast_add, Int.natCast_one, show (5 * ((m : Int) + 1) < (leftN P O W (H * W) : Int)) by omega]
      exact fun hok' => hK _ _ _ (by omega) (by intro i hi hne t ht; simp only [go_sem, Nat.reduceBEq, Nat.reduceLT, Nat.reduceLeDiff, Nat.reduceAdd, Nat.reduceMul, Nat.reduceSub, Nat.reduceMod, Nat.reduceDiv, Nat.reduceEqDiff, Int.reduceToNat, reduceIte, reduceCtorEq, Int.reduceLE, Int.reduceLT, Int.reduceEq, Int.reduceNeg, Int.reduceAdd, Int.reduceSub, Int.reduceMul, ht, hi]) hok' (by first | (simp only [go_sem, Nat.reduceBEq, Nat.reduceLT, Nat.reduceLeDiff, Nat.reduceAdd, Nat.reduceMul, Nat.reduceSub, Nat.reduceMod, Nat.reduceDiv, Nat.reduceEqDiff, Int.reduceToNat, reduceIte, reduceCtorEq, Int.reduceLE, Int.reduceLT, Int.reduceEq, Int.reduceNeg, Int.reduceAdd, Int.reduceSub, Int.reduceMul, hs, hsn]; done) | (simp only [go_sem, Nat.reduceBEq, Nat.reduceLT, Nat.reduceLeDiff, Nat.reduceAdd, Nat.reduceMul, Nat.reduceSub, Nat.reduceMod, Nat.reduceDiv, Nat.reduceEqDiff, Int.reduceToNat, reduceIte, reduceCtorEq, Int.reduceLE, Int.reduceLT, Int.reduceEq, Int.reduceNeg, Int.reduceAdd, Int.reduceSub, Int.reduceMul, hs, hsn]; rfl)) (by simp only [go_sem, Nat.reduceBEq, Nat.reduceLT, Nat.reduceLeDiff, Nat.reduceAdd, Nat.reduceMul, Nat.reduceSub, Nat.reduceMod, Nat.reduceDiv, Nat.reduceEqDiff, Int.reduceToNat, reduceIte, reduceCtorEq, Int.reduceLE, Int.reduceLT, Int.reduceEq, Int.reduceNeg, Int.reduceAdd, Int.reduceSub, Int.reduceMul]) (by simp only [go_sem, Nat.reduceBEq, Nat.reduceLT, Nat.reduceLeDiff, Nat.reduceAdd, Nat.reduceMul, Nat.reduceSub, Nat.reduceMod, Nat.reduceDiv, Nat.reduceEqDiff, Int.reduceToNat, reduceIte, reduceCtorEq, Int.reduceLE, Int.reduceLT, Int.reduceEq, Int.reduceNeg, Int.reduceAdd, Int.reduceSub, Int.reduceMul, hjn]) fun X hX => by cases hX
    rw [srch_go h0 h5] at hK
    simp only [go_sem, Nat.reduceBEq, Nat.reduceLT, Nat.reduceLeDiff, Nat.reduceAdd, Nat.reduceMul, Nat.reduceSub, Nat.reduceMod, Nat.reduceDiv, Nat.reduceEqDiff, Int.reduceToNat, reduceIte, reduceCtorEq, Int.reduceLE, Int.reduceLT, Int.reduceEq, Int.reduceNeg, Int.reduceAdd, Int.reduceSub, Int.reduceMul, h0', hs, hsn, w64 (n := 5 * ((m : Int) + 1)) (by omega), Int.natCast_add, Int.natCast_one, show ¬ (5 * ((m : Int) + 1) < (leftN P O W (H * W) : Int)) by omega]
    refine callA_false (next7_E _ _ _ ip n P O _ W H (by first | (simp only [go_sem, Nat.reduceBEq, Nat.reduceLT, Nat.reduceLeDiff, Nat.reduceAdd, Nat.reduceMul, Nat.reduceSub, Nat.reduceMod, Nat.reduceDiv, Nat.reduceEqDiff, Int.reduceToNat, reduceIte, reduceCtorEq, Int.reduceLE, Int.reduceLT, Int.reduceEq, Int.reduceNeg, Int.reduceAdd, Int.reduceSub, Int.reduceMul, hp, hpn]; done) | (simp only [go_sem, Nat.reduceBEq, Nat.reduceLT, Nat.reduceLeDiff, Nat.reduceAdd, Nat.reduceMul, Nat.reduceSub, Nat.reduceMod, Nat.reduceDiv, Nat.reduceEqDiff, Int.reduceToNat, reduceIte, reduceCtorEq, Int.reduceLE, Int.reduceLT, Int.reduceEq, Int.reduceNeg, Int.reduceAdd, Int.reduceSub, Int.reduceMul, hp, hpn]; rfl)) (by omega) (by first | (simp only [go_sem, Nat.reduceBEq, Nat.reduceLT, Nat.reduceLeDiff, Nat.reduceAdd, Nat.reduceMul, Nat.reduceSub, Nat.reduceMod, Nat.reduceDiv, Nat.reduceEqDiff, Int.reduceToNat, reduceIte, reduceCtorEq, Int.reduceLE, Int.reduceLT, Int.reduceEq, Int.reduceNeg, Int.reduceAdd, Int.reduceSub, Int.reduceMul]; done) | (simp only [go_sem, Nat.reduceBEq, Nat.reduceLT, Nat.reduceLeDiff, Nat.reduceAdd, Nat.reduceMul, Nat.reduceSub, Nat.reduceMod, Nat.reduceDiv, Nat.reduceEqDiff, Int.reduceToNat, reduceIte, reduceCtorEq, Int.reduceLE, Int.reduceLT, Int.reduceEq, Int.reduceNeg, Int.reduceAdd, Int.reduceSub, Int.reduceMul]; rfl)) (by omega) ⟨rfl, fun _ _ => rfl⟩ hR hP hW hH _ fun capF => ?_)
    have hgs : ∀ t, hget (hset h sg t) sg = some t := hget_hset_self hs
    have hgp : ∀ t, hget (hset h sg t) ip = some (pcS P) := fun t => by rw [hget_hset, if_neg (by omega)]; exact hp
    have hgj : ∀ t, hget (hset h sg t) j = some s := fun t => by rw [hget_hset, if_neg (by omega)]; exact hl
    have hFo : ones (.agg 64 fun j => gridC O j) = True := eq_true fun j hj => trivial
    have hFl : (frontL P W H O).length ≤ 192 := Nat.le_trans (List.length_filter_le _ _) (by rw [dropsL_len]; omega)
    have hmem : ∀ d ∈ frontL P W H O, (0 ≤ d.1 ∧ d.1 < W) ∧ (0 ≤ d.2.1 ∧ d.2.1 < H) ∧ 0 ≤ d.2.2 ∧ d.2.2 < 3 := fun d hd => by
      obtain ⟨k, hk, rfl⟩ := List.mem_iff_getElem.1 (List.mem_filter.1 hd).1
      have := dropsL_in (W := W) (H := H) (j := k) (by rw [← dropsL_len]; exact hk) hW8 hH8
      rwa [List.getD_eq_getElem?_getD, List.getElem?_eq_getElem hk] at this
    generalize hRR : goL (srch P W H most m) P most O (frontL P W H O) t = R0 at hK
    generalize hLL : frontL P W H O = L at *
    have hLf : (dropsL W H).filter (lastP P O) = L := hLL
    simp only [go_sem, Nat.reduceBEq, Nat.reduceLT, Nat.reduceLeDiff, Nat.reduceAdd, Nat.reduceMul, Nat.reduceSub, Nat.reduceMod, Nat.reduceDiv, Nat.reduceEqDiff, Int.reduceToNat, reduceIte, reduceCtorEq, Int.reduceLE, Int.reduceLT, Int.reduceEq, Int.reduceNeg, Int.reduceAdd, Int.reduceSub, Int.reduceMul, hLf]
    refine T_lp (ι := { q : Nat × Nat // (q.1 ≤ L.length ∧ q.2 ≤ most) ∧ goL (srch P W H most m) P most O (L.drop q.1) q.2 = R0 })
      (fun q => ([(0, .ptr sg 0), (2, .int .i64 ((m : Int) + 1)), (3, .sl j 0 so.length cap), (5, .ptr n 0), (11, .sl (n + 1) 0 L.length capF), (12, .int .i64 q.1.1)],
        (n + 1, ⟨L.length * 3, dropsC L, true, none⟩) :: (n, ⟨64, gridC O, true, none⟩) :: hset h sg (sgS ip most q.1.2 false), n + 2)) (fun q => L.length - q.1.1) ⟨(0, t), ⟨by omega, ht⟩, by rw [List.drop_zero]; exact hRR⟩ ?_ ?_
    · refine Imp.id (by simp) ?_ ?_
      · simp only [go_sem, Nat.reduceBEq, Nat.reduceLT, Nat.reduceLeDiff, Nat.reduceAdd, Nat.reduceMul, Nat.reduceSub, Nat.reduceMod, Nat.reduceDiv, Nat.reduceEqDiff, Int.reduceToNat, reduceIte, reduceCtorEq, Int.reduceLE, Int.reduceLT, Int.reduceEq, Int.reduceNeg, Int.reduceAdd, Int.reduceSub, Int.reduceMul, Int.natCast_add, Int.natCast_one]
        (repeat' apply And.intro) <;> first | omega | rfl | trivial | assumption | skip
      · simp only
        rw [hset_self hs]
        exact impH.cons0 (by first | (simp only [go_sem, Nat.reduceBEq, Nat.reduceLT, Nat.reduceLeDiff, Nat.reduceAdd, Nat.reduceMul, Nat.reduceSub, Nat.reduceMod, Nat.reduceDiv, Nat.reduceEqDiff, Int.reduceToNat, reduceIte, reduceCtorEq, Int.reduceLE, Int.reduceLT, Int.reduceEq, Int.reduceNeg, Int.reduceAdd, Int.reduceSub, Int.reduceMul]; done) | (simp only [go_sem, Nat.reduceBEq, Nat.reduceLT, Nat.reduceLeDiff, Nat.reduceAdd, Nat.reduceMul, Nat.reduceSub, Nat.reduceMod, Nat.reduceDiv, Nat.reduceEqDiff, Int.reduceToNat, reduceIte, reduceCtorEq, Int.reduceLE, Int.reduceLT, Int.reduceEq, Int.reduceNeg, Int.reduceAdd, Int.reduceSub, Int.reduceMul]; rfl)) (by simp) (SegLe.flat (Nat.le_refl _) id (.inr rfl) fun k hk => ⟨rfl, dropsC_flat _ _⟩) (impH.cons0 (by first | (simp only [go_sem, Nat.reduceBEq, Nat.reduceLT, Nat.reduceLeDiff, Nat.reduceAdd, Nat.reduceMul, Nat.reduceSub, Nat.reduceMod, Nat.reduceDiv, Nat.reduceEqDiff, Int.reduceToNat, reduceIte, reduceCtorEq, Int.reduceLE, Int.reduceLT, Int.reduceEq, Int.reduceNeg, Int.reduceAdd, Int.reduceSub, Int.reduceMul]; done) | (simp only [go_sem, Nat.reduceBEq, Nat.reduceLT, Nat.reduceLeDiff, Nat.reduceAdd, Nat.reduceMul, Nat.reduceSub, Nat.reduceMod, Nat.reduceDiv, Nat.reduceEqDiff, Int.reduceToNat, reduceIte, reduceCtorEq, Int.reduceLE, Int.reduceLT, Int.reduceEq, Int.reduceNeg, Int.reduceAdd, Int.reduceSub, Int.reduceMul]; rfl)) (by simp) (SegLe.flat (Nat.le_refl _) id (.inr rfl) fun k hk => ⟨rfl, gridC_flat _ _⟩) (impH.base0 hok (by simp) (by simp only [go_sem, Nat.reduceBEq, Nat.reduceLT, Nat.reduceLeDiff, Nat.reduceAdd, Nat.reduceMul, Nat.reduceSub, Nat.reduceMod, Nat.reduceDiv, Nat.reduceEqDiff, Int.reduceToNat, reduceIte, reduceCtorEq, Int.reduceLE, Int.reduceLT, Int.reduceEq, Int.reduceNeg, Int.reduceAdd, Int.reduceSub, Int.reduceMul, HExt_cons])))
    · rintro ⟨⟨q, tq⟩, ⟨hq, htq⟩, hres⟩
      simp only at hq htq hres
      simp only [go_sem, Nat.reduceBEq, Nat.reduceLT, Nat.reduceLeDiff, Nat.reduceAdd, Nat.reduceMul, Nat.reduceSub, Nat.reduceMod, Nat.reduceDiv, Nat.reduceEqDiff, Int.reduceToNat, reduceIte, reduceCtorEq, Int.reduceLE, Int.reduceLT, Int.reduceEq, Int.reduceNeg, Int.reduceAdd, Int.reduceSub, Int.reduceMul, decide_eq_true_eq, decide_eq_false_iff_not]
      refine ⟨fun h1 => ?_, fun h1 => ?_⟩
      rotate_left
      · have hq2 : q = L.length := by omega
        subst hq2
        rw [List.drop_length, goL] at hres
        subst hres
        exact fun hok' => hK _ _ _ (by omega) (by intro i hi hne t ht; simp only [go_sem, Nat.reduceBEq, Nat.reduceLT, Nat.reduceLeDiff, Nat.reduceAdd, Nat.reduceMul, Nat.reduceSub, Nat.reduceMod, Nat.reduceDiv, Nat.reduceEqDiff, Int.reduceToNat, reduceIte, reduceCtorEq, Int.reduceLE, Int.reduceLT, Int.reduceEq, Int.reduceNeg, Int.reduceAdd, Int.reduceSub, Int.reduceMul, ht, hi, hget_hset, show (sg = i) = False from eq_false (Ne.symm hne)]) hok' (by first | (simp only [go_sem, Nat.reduceBEq, Nat.reduceLT, Nat.reduceLeDiff, Nat.reduceAdd, Nat.reduceMul, Nat.reduceSub, Nat.reduceMod, Nat.reduceDiv, Nat.reduceEqDiff, Int.reduceToNat, reduceIte, reduceCtorEq, Int.reduceLE, Int.reduceLT, Int.reduceEq, Int.reduceNeg, Int.reduceAdd, Int.reduceSub, Int.reduceMul, hgs, hsn]; done) | (simp only [go_sem, Nat.reduceBEq, Nat.reduceLT, Nat.reduceLeDiff, Nat.reduceAdd, Nat.reduceMul, Nat.reduceSub, Nat.reduceMod, Nat.reduceDiv, Nat.reduceEqDiff, Int.reduceToNat, reduceIte, reduceCtorEq, Int.reduceLE, Int.reduceLT, Int.reduceEq, Int.reduceNeg, Int.reduceAdd, Int.reduceSub, Int.reduceMul, hgs, hsn]; rfl)) (by simp only [go_sem, Nat.reduceBEq, Nat.reduceLT, Nat.reduceLeDiff, Nat.reduceAdd, Nat.reduceMul, Nat.reduceSub, Nat.reduceMod, Nat.reduceDiv, Nat.reduceEqDiff, Int.reduceToNat, reduceIte, reduceCtorEq, Int.reduceLE, Int.reduceLT, Int.reduceEq, Int.reduceNeg, Int.reduceAdd, Int.reduceSub, Int.reduceMul]) (by first | (simp only [go_sem, Nat.reduceBEq, Nat.reduceLT, Nat.reduceLeDiff, Nat.reduceAdd, Nat.reduceMul, Nat.reduceSub, Nat.reduceMod, Nat.reduceDiv, Nat.reduceEqDiff, Int.reduceToNat, reduceIte, reduceCtorEq, Int.reduceLE, Int.reduceLT, Int.reduceEq, Int.reduceNeg, Int.reduceAdd, Int.reduceSub, Int.reduceMul, hjn]; done) | (simp only [go_sem, Nat.reduceBEq, Nat.reduceLT, Nat.reduceLeDiff, Nat.reduceAdd, Nat.reduceMul, Nat.reduceSub, Nat.reduceMod, Nat.reduceDiv, Nat.reduceEqDiff, Int.reduceToNat, reduceIte, reduceCtorEq, Int.reduceLE, Int.reduceLT, Int.reduceEq, Int.reduceNeg, Int.reduceAdd, Int.reduceSub, Int.reduceMul, hjn]; omega)) fun X hX => by cases hX
      have hqL : q < L.length := by omega
      have hdr : L.drop q = L.getD q (0, 0, 0) :: L.drop (q + 1) := by
        rw [List.getD_eq_getElem?_getD, List.getElem?_eq_getElem hqL, Option.getD_some, ← List.drop_eq_getElem_cons hqL]
      rw [hdr] at hres
      have hdm := hmem (L.getD q (0, 0, 0)) (by rw [List.getD_eq_getElem?_getD, List.getElem?_eq_getElem hqL]; exact List.getElem_mem hqL)
      have f0 := dropsC_0 L q
      have f1 := dropsC_1 L q
      have f2 := dropsC_2 L q
      have r1 : (0 : Int) ≤ q ∧ (q : Int) < L.length := ⟨by omega, by omega⟩
      have b1 : q * 3 ≤ L.length * 3 - 3 := by omega
      have b2 : q * 3 ≤ L.length * 3 - 2 := by omega
      have b3 : 3 ≤ L.length * 3 := by omega
      have b4 : 2 ≤ L.length * 3 := by omega
      have b6 : q * 3 + 3 ≤ L.length * 3 := by omega
      have b7 : q * 3 + 2 ≤ L.length * 3 := by omega
      generalize hdd : L.getD q (0, 0, 0) = d at *
      refine T_draw hti _ _ (by kernel_rfl) (by kernel_rfl) ?_
      simp only [go_sem, Nat.reduceBEq, Nat.reduceLT, Nat.reduceLeDiff, Nat.reduceAdd, Nat.reduceMul, Nat.reduceSub, Nat.reduceMod, Nat.reduceDiv, Nat.reduceEqDiff, Int.reduceToNat, reduceIte, reduceCtorEq, Int.reduceLE, Int.reduceLT, Int.reduceEq, Int.reduceNeg, Int.reduceAdd, Int.reduceSub, Int.reduceMul, hgs, hsn]
      by_cases htm : tq = most
      · subst htm
        rw [goL_stop] at hres
        subst hres
        simp only [go_sem, Nat.reduceBEq, Nat.reduceLT, Nat.reduceLeDiff, Nat.reduceAdd, Nat.reduceMul, Nat.reduceSub, Nat.reduceMod, Nat.reduceDiv, Nat.reduceEqDiff, Int.reduceToNat, reduceIte, reduceCtorEq, Int.reduceLE, Int.reduceLT, Int.reduceEq, Int.reduceNeg, Int.reduceAdd, Int.reduceSub, Int.reduceMul, hgs, hsn]
        exact fun hok' => hK _ _ _ (by omega) (by intro i hi hne t ht; simp only [go_sem, Nat.reduceBEq, Nat.reduceLT, Nat.reduceLeDiff, Nat.reduceAdd, Nat.reduceMul, Nat.reduceSub, Nat.reduceMod, Nat.reduceDiv, Nat.reduceEqDiff, Int.reduceToNat, reduceIte, reduceCtorEq, Int.reduceLE, Int.reduceLT, Int.reduceEq, Int.reduceNeg, Int.reduceAdd, Int.reduceSub, Int.reduceMul, ht, hi, hget_hset, show (sg = i) = False from eq_false (Ne.symm hne)]) hok' (by first | (simp only [go_sem, Nat.reduceBEq, Nat.reduceLT, Nat.reduceLeDiff, Nat.reduceAdd, Nat.reduceMul, Nat.reduceSub, Nat.reduceMod, Nat.reduceDiv, Nat.reduceEqDiff, Int.reduceToNat, reduceIte, reduceCtorEq, Int.reduceLE, Int.reduceLT, Int.reduceEq, Int.reduceNeg, Int.reduceAdd, Int.reduceSub, Int.reduceMul, hgs, hsn]; done) | (simp only [go_sem, Nat.reduceBEq, Nat.reduceLT, Nat.reduceLeDiff, Nat.reduceAdd, Nat.reduceMul, Nat.reduceSub, Nat.reduceMod, Nat.reduceDiv, Nat.reduceEqDiff, Int.reduceToNat, reduceIte, reduceCtorEq, Int.reduceLE, Int.reduceLT, Int.reduceEq, Int.reduceNeg, Int.reduceAdd, Int.reduceSub, Int.reduceMul, hgs, hsn]; rfl)) (by simp only [go_sem, Nat.reduceBEq, Nat.reduceLT, Nat.reduceLeDiff, Nat.reduceAdd, Nat.reduceMul, Nat.reduceSub, Nat.reduceMod, Nat.reduceDiv, Nat.reduceEqDiff, Int.reduceToNat, reduceIte, reduceCtorEq, Int.reduceLE, Int.reduceLT, Int.reduceEq, Int.reduceNeg, Int.reduceAdd, Int.reduceSub, Int.reduceMul]) (by first | (simp only [go_sem, Nat.reduceBEq, Nat.reduceLT, Nat.reduceLeDiff, Nat.reduceAdd, Nat.reduceMul, Nat.reduceSub, Nat.reduceMod, Nat.reduceDiv, Nat.reduceEqDiff, Int.reduceToNat, reduceIte, reduceCtorEq, Int.reduceLE, Int.reduceLT, Int.reduceEq, Int.reduceNeg, Int.reduceAdd, Int.reduceSub, Int.reduceMul, hjn]; done) | (simp only [go_sem, Nat.reduceBEq, Nat.reduceLT, Nat.reduceLeDiff, Nat.reduceAdd, Nat.reduceMul, Nat.reduceSub, Nat.reduceMod, Nat.reduceDiv, Nat.reduceEqDiff, Int.reduceToNat, reduceIte, reduceCtorEq, Int.reduceLE, Int.reduceLT, Int.reduceEq, Int.reduceNeg, Int.reduceAdd, Int.reduceSub, Int.reduceMul, hjn]; omega)) fun X hX => by cases hX
      · simp only [go_sem, Nat.reduceBEq, Nat.reduceLT, Nat.reduceLeDiff, Nat.reduceAdd, Nat.reduceMul, Nat.reduceSub, Nat.reduceMod, Nat.reduceDiv, Nat.reduceEqDiff, Int.reduceToNat, reduceIte, reduceCtorEq, Int.reduceLE, Int.reduceLT, Int.reduceEq, Int.reduceNeg, Int.reduceAdd, Int.reduceSub, Int.reduceMul, hgs, hsn, hFo, w64 (n := (tq : Int) + 1) (by omega), show ¬ ((tq : Int) = (most : Int)) by omega]
        refine T_drawG hti 10 [9] (.b 0 0 (.b 0 1 (.b 0 2 (.b 0 3 (.b 0 4 (.b 0 5 (.b 0 6 (.b 0 7 (.b 0 8 (.b 4 9 (.f) .o) .o) .o) .o) .o) .o) .o) .o) .o) .o) _ _ (by kernel_rfl) (by kernel_rfl) ?_
        simp only [go_sem, Nat.reduceBEq, Nat.reduceLT, Nat.reduceLeDiff, Nat.reduceAdd, Nat.reduceMul, Nat.reduceSub, Nat.reduceMod, Nat.reduceDiv, Nat.reduceEqDiff, Int.reduceToNat, reduceIte, reduceCtorEq, Int.reduceLE, Int.reduceLT, Int.reduceEq, Int.reduceNeg, Int.reduceAdd, Int.reduceSub, Int.reduceMul, hgs, hsn, r1, b1, b2, b3, b4, b6, b7, f0, f1, f2]
        refine callA_false (peel7_E _ _ _ ip (n + 2) P O d.1 d.2.1 (by first | (simp only [go_sem, Nat.reduceBEq, Nat.reduceLT, Nat.reduceLeDiff, Nat.reduceAdd, Nat.reduceMul, Nat.reduceSub, Nat.reduceMod, Nat.reduceDiv, Nat.reduceEqDiff, Int.reduceToNat, reduceIte, reduceCtorEq, Int.reduceLE, Int.reduceLT, Int.reduceEq, Int.reduceNeg, Int.reduceAdd, Int.reduceSub, Int.reduceMul, hgp, hpn]; done) | (simp only [go_sem, Nat.reduceBEq, Nat.reduceLT, Nat.reduceLeDiff, Nat.reduceAdd, Nat.reduceMul, Nat.reduceSub, Nat.reduceMod, Nat.reduceDiv, Nat.reduceEqDiff, Int.reduceToNat, reduceIte, reduceCtorEq, Int.reduceLE, Int.reduceLT, Int.reduceEq, Int.reduceNeg, Int.reduceAdd, Int.reduceSub, Int.reduceMul, hgp, hpn]; rfl)) (by omega) (by first | (simp only [go_sem, Nat.reduceBEq, Nat.reduceLT, Nat.reduceLeDiff, Nat.reduceAdd, Nat.reduceMul, Nat.reduceSub, Nat.reduceMod, Nat.reduceDiv, Nat.reduceEqDiff, Int.reduceToNat, reduceIte, reduceCtorEq, Int.reduceLE, Int.reduceLT, Int.reduceEq, Int.reduceNeg, Int.reduceAdd, Int.reduceSub, Int.reduceMul]; done) | (simp only [go_sem, Nat.reduceBEq, Nat.reduceLT, Nat.reduceLeDiff, Nat.reduceAdd, Nat.reduceMul, Nat.reduceSub, Nat.reduceMod, Nat.reduceDiv, Nat.reduceEqDiff, Int.reduceToNat, reduceIte, reduceCtorEq, Int.reduceLE, Int.reduceLT, Int.reduceEq, Int.reduceNeg, Int.reduceAdd, Int.reduceSub, Int.reduceMul]; rfl)) (by omega) (by omega) hR hP (by omega) (by omega) _ ?_)
        generalize hOO : openBy O (covL P.wide P.high d.1 d.2.1) = O'
        simp only [go_sem, Nat.reduceBEq, Nat.reduceLT, Nat.reduceLeDiff, Nat.reduceAdd, Nat.reduceMul, Nat.reduceSub, Nat.reduceMod, Nat.reduceDiv, Nat.reduceEqDiff, Int.reduceToNat, reduceIte, reduceCtorEq, Int.reduceLE, Int.reduceLT, Int.reduceEq, Int.reduceNeg, Int.reduceAdd, Int.reduceSub, Int.reduceMul]
        refine T_drawG hti 19 [6, 12, 13] (.b 0 0 (.b 0 2 (.b 0 3 (.b 0 5 (.b 0 7 (.b 0 8 (.b 0 9 (.b 2 1 (.b 2 4 (.b 4 6 (.b 2 10 (.b 2 11 (.b 4 12 (.b 4 13 (.b 0 14 (.b 0 15 (.b 0 16 (.b 0 17 (.b 0 18 (.f) .o) .o) .o) .o) .o) .o) .o) .o) .o) (.b 2 10 (.b 4 6 (.b 2 11 (.b 4 12 (.b 4 13 (.b 0 14 (.b 0 15 (.b 0 16 (.b 0 17 (.b 0 18 (.f) .o) .o) .o) .o) .o) .o) .o) .o) (.b 2 11 (.b 4 6 (.b 4 12 (.b 4 13 (.b 0 14 (.b 0 15 (.b 0 16 (.b 0 17 (.b 0 18 (.f) .o) .o) .o) .o) .o) .o) .o) .o) .o)) .o)) (.b 2 10 (.b 2 4 (.b 4 6 (.b 2 11 (.b 4 12 (.b 4 13 (.b 0 14 (.b 0 15 (.b 0 16 (.b 0 17 (.b 0 18 (.f) .o) .o) .o) .o) .o) .o) .o) .o) (.b 2 11 (.b 4 6 (.b 4 12 (.b 4 13 (.b 0 14 (.b 0 15 (.b 0 16 (.b 0 17 (.b 0 18 (.f) .o) .o) .o) .o) .o) .o) .o) .o) .o)) (.b 2 11 (.b 2 4 (.b 4 6 (.b 4 12 (.b 4 13 (.b 0 14 (.b 0 15 (.b 0 16 (.b 0 17 (.b 0 18 (.f) .o) .o) .o) .o) .o) .o) .o) .o) .o) .o)) .o)) (.b 2 4 (.b 2 1 (.b 4 6 (.b 2 10 (.b 2 11 (.b 4 12 (.b 4 13 (.b 0 14 (.b 0 15 (.b 0 16 (.b 0 17 (.b 0 18 (.f) .o) .o) .o) .o) .o) .o) .o) .o) .o) (.b 2 10 (.b 4 6 (.b 2 11 (.b 4 12 (.b 4 13 (.b 0 14 (.b 0 15 (.b 0 16 (.b 0 17 (.b 0 18 (.f) .o) .o) .o) .o) .o) .o) .o) .o) (.b 2 11 (.b 4 6 (.b 4 12 (.b 4 13 (.b 0 14 (.b 0 15 (.b 0 16 (.b 0 17 (.b 0 18 (.f) .o) .o) .o) .o) .o) .o) .o) .o) .o)) .o)) (.b 4 6 (.b 2 1 (.b 2 10 (.b 2 11 (.b 4 12 (.b 4 13 (.b 0 14 (.b 0 15 (.b 0 16 (.b 0 17 (.b 0 18 (.f) .o) .o) .o) .o) .o) .o) .o) .o) .o) (.b 2 10 (.b 2 1 (.b 2 11 (.b 4 12 (.b 4 13 (.b 0 14 (.b 0 15 (.b 0 16 (.b 0 17 (.b 0 18 (.f) .o) .o) .o) .o) .o) .o) .o) .o) (.b 2 11 (.b 2 1 (.b 4 12 (.b 4 13 (.b 0 14 (.b 0 15 (.b 0 16 (.b 0 17 (.b 0 18 (.f) .o) .o) .o) .o) .o) .o) .o) (.b 4 12 (.b 2 1 (.b 4 13 (.b 0 14 (.b 0 15 (.b 0 16 (.b 0 17 (.b 0 18 (.f) .o) .o) .o) .o) .o) .o) .o) .o)) .o)) .o)) (.b 2 10 (.b 2 1 (.b 4 6 (.b 2 11 (.b 4 12 (.b 4 13 (.b 0 14 (.b 0 15 (.b 0 16 (.b 0 17 (.b 0 18 (.f) .o) .o) .o) .o) .o) .o) .o) .o) (.b 2 11 (.b 4 6 (.b 4 12 (.b 4 13 (.b 0 14 (.b 0 15 (.b 0 16 (.b 0 17 (.b 0 18 (.f) .o) .o) .o) .o) .o) .o) .o) .o) .o)) (.b 4 6 (.b 2 1 (.b 2 11 (.b 4 12 (.b 4 13 (.b 0 14 (.b 0 15 (.b 0 16 (.b 0 17 (.b 0 18 (.f) .o) .o) .o) .o) .o) .o) .o) .o) (.b 2 11 (.b 2 1 (.b 4 12 (.b 4 13 (.b 0 14 (.b 0 15 (.b 0 16 (.b 0 17 (.b 0 18 (.f) .o) .o) .o) .o) .o) .o) .o) (.b 4 12 (.b 2 1 (.b 4 13 (.b 0 14 (.b 0 15 (.b 0 16 (.b 0 17 (.b 0 18 (.f) .o) .o) .o) .o) .o) .o) .o) .o)) .o)) (.b 2 11 (.b 2 1 (.b 4 6 (.b 4 12 (.b 4 13 (.b 0 14 (.b 0 15 (.b 0 16 (.b 0 17 (.b 0 18 (.f) .o) .o) .o) .o) .o) .o) .o) .o) (.b 4 6 (.b 2 1 (.b 4 12 (.b 4 13 (.b 0 14 (.b 0 15 (.b 0 16 (.b 0 17 (.b 0 18 (.f) .o) .o) .o) .o) .o) .o) .o) (.b 4 12 (.b 2 1 (.b 4 13 (.b 0 14 (.b 0 15 (.b 0 16 (.b 0 17 (.b 0 18 (.f) .o) .o) .o) .o) .o) .o) .o) .o)) .o)) .o))) .o))) (.b 2 10 (.b 2 1 (.b 2 4 (.b 4 6 (.b 2 11 (.b 4 12 (.b 4 13 (.b 0 14 (.b 0 15 (.b 0 16 (.b 0 17 (.b 0 18 (.f) .o) .o) .o) .o) .o) .o) .o) .o) (.b 2 11 (.b 4 6 (.b 4 12 (.b 4 13 (.b 0 14 (.b 0 15 (.b 0 16 (.b 0 17 (.b 0 18 (.f) .o) .o) .o) .o) .o) .o) .o) .o) .o)) (.b 2 11 (.b 2 4 (.b 4 6 (.b 4 12 (.b 4 13 (.b 0 14 (.b 0 15 (.b 0 16 (.b 0 17 (.b 0 18 (.f) .o) .o) .o) .o) .o) .o) .o) .o) .o) .o)) (.b 2 4 (.b 2 1 (.b 4 6 (.b 2 11 (.b 4 12 (.b 4 13 (.b 0 14 (.b 0 15 (.b 0 16 (.b 0 17 (.b 0 18 (.f) .o) .o) .o) .o) .o) .o) .o) .o) (.b 2 11 (.b 4 6 (.b 4 12 (.b 4 13 (.b 0 14 (.b 0 15 (.b 0 16 (.b 0 17 (.b 0 18 (.f) .o) .o) .o) .o) .o) .o) .o) .o) .o)) (.b 4 6 (.b 2 1 (.b 2 11 (.b 4 12 (.b 4 13 (.b 0 14 (.b 0 15 (.b 0 16 (.b 0 17 (.b 0 18 (.f) .o) .o) .o) .o) .o) .o) .o) .o) (.b 2 11 (.b 2 1 (.b 4 12 (.b 4 13 (.b 0 14 (.b 0 15 (.b 0 16 (.b 0 17 (.b 0 18 (.f) .o) .o) .o) .o) .o) .o) .o) (.b 4 12 (.b 2 1 (.b 4 13 (.b 0 14 (.b 0 15 (.b 0 16 (.b 0 17 (.b 0 18 (.f) .o) .o) .o) .o) .o) .o) .o) .o)) .o)) (.b 2 11 (.b 2 1 (.b 4 6 (.b 4 12 (.b 4 13 (.b 0 14 (.b 0 15 (.b 0 16 (.b 0 17 (.b 0 18 (.f) .o) .o) .o) .o) .o) .o) .o) .o) (.b 4 6 (.b 2 1 (.b 4 12 (.b 4 13 (.b 0 14 (.b 0 15 (.b 0 16 (.b 0 17 (.b 0 18 (.f) .o) .o) .o) .o) .o) .o) .o) (.b 4 12 (.b 2 1 (.b 4 13 (.b 0 14 (.b 0 15 (.b 0 16 (.b 0 17 (.b 0 18 (.f) .o) .o) .o) .o) .o) .o) .o) .o)) .o)) .o))) (.b 2 11 (.b 2 1 (.b 2 4 (.b 4 6 (.b 4 12 (.b 4 13 (.b 0 14 (.b 0 15 (.b 0 16 (.b 0 17 (.b 0 18 (.f) .o) .o) .o) .o) .o) .o) .o) .o) .o) (.b 2 4 (.b 2 1 (.b 4 6 (.b 4 12 (.b 4 13 (.b 0 14 (.b 0 15 (.b 0 16 (.b 0 17 (.b 0 18 (.f) .o) .o) .o) .o) .o) .o) .o) .o) (.b 4 6 (.b 2 1 (.b 4 12 (.b 4 13 (.b 0 14 (.b 0 15 (.b 0 16 (.b 0 17 (.b 0 18 (.f) .o) .o) .o) .o) .o) .o) .o) (.b 4 12 (.b 2 1 (.b 4 13 (.b 0 14 (.b 0 15 (.b 0 16 (.b 0 17 (.b 0 18 (.f) .o) .o) .o) .o) .o) .o) .o) .o)) .o)) .o)) .o))) .o))) .o) .o) .o) .o) .o) .o) .o) _ _ (by kernel_rfl) (by kernel_rfl) ?_
        simp only [go_sem, Nat.reduceBEq, Nat.reduceLT, Nat.reduceLeDiff, Nat.reduceAdd, Nat.reduceMul, Nat.reduceSub, Nat.reduceMod, Nat.reduceDiv, Nat.reduceEqDiff, Int.reduceToNat, reduceIte, reduceCtorEq, Int.reduceLE, Int.reduceLT, Int.reduceEq, Int.reduceNeg, Int.reduceAdd, Int.reduceSub, Int.reduceMul, hgs, hsn, hgj, hjn, r1, b1, b2, b3, b4, b6, b7, f0, f1, f2, w64 (n := (m : Int)) (by omega), show ((m : Int) + 1 - 1) = (m : Int) by omega]
        have hd3 : hdel h (n + 3) = h := hok.del (by omega)
        have hsrc : ∀ x : TI, x.k.kn → x.sz = 3 → okSrc x s 0 so.length := fun x hk hx => by
          unfold okSrc
          have hn := hD.1
          refine ⟨hk, by omega, by rw [hx]; omega, allP_iff.2 fun z hz => ?_⟩
          rw [hx] at hz
          rw [Nat.zero_add, hD.2 z hz]
          exact (dropsC_flat so z).one
        have hnew : ∀ (c c' : Nat → SV) (z : Nat), (∀ k, k < 3 → c' k = cl [.int .i8 d.1, .int .i8 d.2.1, .int .u8 d.2.2] k) → z < (so ++ [d]).length * 3 → both (so.length * 3) (both 0 c (news s.c 0)) (news c' 0) z = dropsC (so ++ [d]) z := fun c c' z hc hz => by
          rw [List.length_append, List.length_singleton] at hz
          rw [← both_drop so d c' (hc 0 (by omega)) (hc 1 (by omega)) (hc 2 (by omega)) hz]
          unfold both
          split
          · rw [if_neg (by omega)]
            unfold news
            rw [Nat.zero_add, Nat.sub_zero]
            exact hD.2 z (by omega)
          · rfl
        have hsol : so.length + 1 = (so ++ [d]).length := by rw [List.length_append, List.length_singleton]
        have hds : ∀ k, n ≤ k → hdel (hset h sg ⟨4, cl [.ptr ip 0, .int .i64 most, .int .i64 ((tq : Int) + 1), .bool false], true, none⟩) k = hset h sg ⟨4, cl [.ptr ip 0, .int .i64 most, .int .i64 ((tq : Int) + 1), .bool false], true, none⟩ := fun k hk => (HOk.hset hok (s := sgS ip most (tq + 1) false) fun k hk => sg_lt hpn k hk).del hk
        (repeat' (first | (with_reducible apply And.intro) | (with_reducible intro c1 c2 c3))) <;> first | omega | skip
        all_goals first
          | trivial
          | exact hsrc _ trivial rfl
          | (show (0 : Nat) < 3; omega)
          | (show 0 + so.length * 3 ≤ s.n; have := hD.1; omega)
          | exact (hsrc (ti 44) trivial rfl).2.2.2
          | skip
        all_goals
          rw [hsol]
          refine callA_false (ih _ _ _ sg ip _ _ O' (tq + 1) (so ++ [d]) _ (by first | (simp only [go_sem, Nat.reduceBEq, Nat.reduceLT, Nat.reduceLeDiff, Nat.reduceAdd, Nat.reduceMul, Nat.reduceSub, Nat.reduceMod, Nat.reduceDiv, Nat.reduceEqDiff, Int.reduceToNat, reduceIte, reduceCtorEq, Int.reduceLE, Int.reduceLT, Int.reduceEq, Int.reduceNeg, Int.reduceAdd, Int.reduceSub, Int.reduceMul, hds, hgs, hsn, Int.natCast_add, Int.natCast_one]; done) | (simp only [go_sem, Nat.reduceBEq, Nat.reduceLT, Nat.reduceLeDiff, Nat.reduceAdd, Nat.reduceMul, Nat.reduceSub, Nat.reduceMod, Nat.reduceDiv, Nat.reduceEqDiff, Int.reduceToNat, reduceIte, reduceCtorEq, Int.reduceLE, Int.reduceLT, Int.reduceEq, Int.reduceNeg, Int.reduceAdd, Int.reduceSub, Int.reduceMul, hds, hgs, hsn, Int.natCast_add, Int.natCast_one]; rfl)) (by omega) (by first | (simp only [go_sem, Nat.reduceBEq, Nat.reduceLT, Nat.reduceLeDiff, Nat.reduceAdd, Nat.reduceMul, Nat.reduceSub, Nat.reduceMod, Nat.reduceDiv, Nat.reduceEqDiff, Int.reduceToNat, reduceIte, reduceCtorEq, Int.reduceLE, Int.reduceLT, Int.reduceEq, Int.reduceNeg, Int.reduceAdd, Int.reduceSub, Int.reduceMul, hds, hgp, hpn]; done) | (simp only [go_sem, Nat.reduceBEq, Nat.reduceLT, Nat.reduceLeDiff, Nat.reduceAdd, Nat.reduceMul, Nat.reduceSub, Nat.reduceMod, Nat.reduceDiv, Nat.reduceEqDiff, Int.reduceToNat, reduceIte, reduceCtorEq, Int.reduceLE, Int.reduceLT, Int.reduceEq, Int.reduceNeg, Int.reduceAdd, Int.reduceSub, Int.reduceMul, hds, hgp, hpn]; rfl)) (by omega) hsp (by first | (simp only [go_sem, Nat.reduceBEq, Nat.reduceLT, Nat.reduceLeDiff, Nat.reduceAdd, Nat.reduceMul, Nat.reduceSub, Nat.reduceMod, Nat.reduceDiv, Nat.reduceEqDiff, Int.reduceToNat, reduceIte, reduceCtorEq, Int.reduceLE, Int.reduceLT, Int.reduceEq, Int.reduceNeg, Int.reduceAdd, Int.reduceSub, Int.reduceMul]; done) | (simp only [go_sem, Nat.reduceBEq, Nat.reduceLT, Nat.reduceLeDiff, Nat.reduceAdd, Nat.reduceMul, Nat.reduceSub, Nat.reduceMod, Nat.reduceDiv, Nat.reduceEqDiff, Int.reduceToNat, reduceIte, reduceCtorEq, Int.reduceLE, Int.reduceLT, Int.reduceEq, Int.reduceNeg, Int.reduceAdd, Int.reduceSub, Int.reduceMul]; rfl)) (by omega) (by omega) ⟨Nat.le_refl _, fun z hz => hnew _ _ z (fun k hk => if_pos hk) hz⟩ (by rw [← hsol]; omega) (by omega) _ ?_)
          intro V h' n' hn' hb' hok' hsg' hVo hVl hX'
          have kp : HBut sg n h h' := fun i hi hne u hu => hb' i (by omega) hne u (by first | (simp only [go_sem, Nat.reduceBEq, Nat.reduceLT, Nat.reduceLeDiff, Nat.reduceAdd, Nat.reduceMul, Nat.reduceSub, Nat.reduceMod, Nat.reduceDiv, Nat.reduceEqDiff, Int.reduceToNat, reduceIte, reduceCtorEq, Int.reduceLE, Int.reduceLT, Int.reduceEq, Int.reduceNeg, Int.reduceAdd, Int.reduceSub, Int.reduceMul, hds, hi, hu, hget_hset, show (sg = i) = False from eq_false (Ne.symm hne)]; done) | (simp only [go_sem, Nat.reduceBEq, Nat.reduceLT, Nat.reduceLeDiff, Nat.reduceAdd, Nat.reduceMul, Nat.reduceSub, Nat.reduceMod, Nat.reduceDiv, Nat.reduceEqDiff, Int.reduceToNat, reduceIte, reduceCtorEq, Int.reduceLE, Int.reduceLT, Int.reduceEq, Int.reduceNeg, Int.reduceAdd, Int.reduceSub, Int.reduceMul, hds, hi, hu, hget_hset, show (sg = i) = False from eq_false (Ne.symm hne)]; rfl))
          have k0 : hget h' n = some ⟨64, gridC O, true, none⟩ := hb' n (by omega) (by omega) _ (by first | (simp only [go_sem, Nat.reduceBEq, Nat.reduceLT, Nat.reduceLeDiff, Nat.reduceAdd, Nat.reduceMul, Nat.reduceSub, Nat.reduceMod, Nat.reduceDiv, Nat.reduceEqDiff, Int.reduceToNat, reduceIte, reduceCtorEq, Int.reduceLE, Int.reduceLT, Int.reduceEq, Int.reduceNeg, Int.reduceAdd, Int.reduceSub, Int.reduceMul, hds]; done) | (simp only [go_sem, Nat.reduceBEq, Nat.reduceLT, Nat.reduceLeDiff, Nat.reduceAdd, Nat.reduceMul, Nat.reduceSub, Nat.reduceMod, Nat.reduceDiv, Nat.reduceEqDiff, Int.reduceToNat, reduceIte, reduceCtorEq, Int.reduceLE, Int.reduceLT, Int.reduceEq, Int.reduceNeg, Int.reduceAdd, Int.reduceSub, Int.reduceMul, hds]; rfl))
          have k1 : hget h' (n + 1) = some ⟨L.length * 3, dropsC L, true, none⟩ := hb' (n + 1) (by omega) (by omega) _ (by first | (simp only [go_sem, Nat.reduceBEq, Nat.reduceLT, Nat.reduceLeDiff, Nat.reduceAdd, Nat.reduceMul, Nat.reduceSub, Nat.reduceMod, Nat.reduceDiv, Nat.reduceEqDiff, Int.reduceToNat, reduceIte, reduceCtorEq, Int.reduceLE, Int.reduceLT, Int.reduceEq, Int.reduceNeg, Int.reduceAdd, Int.reduceSub, Int.reduceMul, hds]; done) | (simp only [go_sem, Nat.reduceBEq, Nat.reduceLT, Nat.reduceLeDiff, Nat.reduceAdd, Nat.reduceMul, Nat.reduceSub, Nat.reduceMod, Nat.reduceDiv, Nat.reduceEqDiff, Int.reduceToNat, reduceIte, reduceCtorEq, Int.reduceLE, Int.reduceLT, Int.reduceEq, Int.reduceNeg, Int.reduceAdd, Int.reduceSub, Int.reduceMul, hds]; rfl))
          have hsgn : sg < n' := by omega
          rcases hr : srch P W H most m O' (tq + 1) with ⟨_ | X, t', s'⟩
          · rw [hr] at hsg' hX'
            have hr' := hr
            rw [← hOO] at hr'
            cases s' with
            | true =>
              rw [goL_halt htm hr'] at hres
              subst hres
              simp only [go_sem, Nat.reduceBEq, Nat.reduceLT, Nat.reduceLeDiff, Nat.reduceAdd, Nat.reduceMul, Nat.reduceSub, Nat.reduceMod, Nat.reduceDiv, Nat.reduceEqDiff, Int.reduceToNat, reduceIte, reduceCtorEq, Int.reduceLE, Int.reduceLT, Int.reduceEq, Int.reduceNeg, Int.reduceAdd, Int.reduceSub, Int.reduceMul, hr, Option.isSome_none, hVo, hsg', hsgn]
              exact fun hok2 => hK _ _ _ (by omega) kp hok2 hsg' (by first | exact hVo | simp only [go_sem, Nat.reduceBEq, Nat.reduceLT, Nat.reduceLeDiff, Nat.reduceAdd, Nat.reduceMul, Nat.reduceSub, Nat.reduceMod, Nat.reduceDiv, Nat.reduceEqDiff, Int.reduceToNat, reduceIte, reduceCtorEq, Int.reduceLE, Int.reduceLT, Int.reduceEq, Int.reduceNeg, Int.reduceAdd, Int.reduceSub, Int.reduceMul, hVo]) hVl fun X hX => by cases hX
            | false =>
              rw [goL_next htm hr'] at hres
              simp only [go_sem, Nat.reduceBEq, Nat.reduceLT, Nat.reduceLeDiff, Nat.reduceAdd, Nat.reduceMul, Nat.reduceSub, Nat.reduceMod, Nat.reduceDiv, Nat.reduceEqDiff, Int.reduceToNat, reduceIte, reduceCtorEq, Int.reduceLE, Int.reduceLT, Int.reduceEq, Int.reduceNeg, Int.reduceAdd, Int.reduceSub, Int.reduceMul, hr, Option.isSome_none, hVo, hsg', hsgn]
              have hto := (srch_ok P W H most m O' (tq + 1) (by omega)).1
              rw [hr] at hto
              refine ⟨⟨(q + 1, t'), ⟨by omega, hto⟩, hres⟩, by show L.length - (q + 1) < L.length - q; omega, ?_⟩
              refine Imp.id (by simp) ?_ ?_
              · simp only [go_sem, Nat.reduceBEq, Nat.reduceLT, Nat.reduceLeDiff, Nat.reduceAdd, Nat.reduceMul, Nat.reduceSub, Nat.reduceMod, Nat.reduceDiv, Nat.reduceEqDiff, Int.reduceToNat, reduceIte, reduceCtorEq, Int.reduceLE, Int.reduceLT, Int.reduceEq, Int.reduceNeg, Int.reduceAdd, Int.reduceSub, Int.reduceMul, hsn, hjn, w64 (n := (q : Int) + 1) (by omega), Int.natCast_add, Int.natCast_one]
                (repeat' apply And.intro) <;> first | omega | rfl | trivial | assumption | skip
              · exact impH.cons0 k1 (by simp) (SegLe.flat (Nat.le_refl _) id (.inr rfl) fun k hk => ⟨rfl, dropsC_flat _ _⟩) (impH.cons0 k0 (by simp) (SegLe.flat (Nat.le_refl _) id (.inr rfl) fun k hk => ⟨rfl, gridC_flat _ _⟩) (impH.set0 hok (by simp) hs kp hsg' (sg_le (n' := n + 2) rfl rfl rfl rfl rfl rfl rfl (by omega))))
          · rw [hr] at hsg' hX'
            have hr' := hr
            rw [← hOO] at hr'
            rw [goL_some htm hr'] at hres
            subst hres
            simp only [go_sem, Nat.reduceBEq, Nat.reduceLT, Nat.reduceLeDiff, Nat.reduceAdd, Nat.reduceMul, Nat.reduceSub, Nat.reduceMod, Nat.reduceDiv, Nat.reduceEqDiff, Int.reduceToNat, reduceIte, reduceCtorEq, Int.reduceLE, Int.reduceLT, Int.reduceEq, Int.reduceNeg, Int.reduceAdd, Int.reduceSub, Int.reduceMul, hr, Option.isSome_some, hVo, hsg', hsgn]
            exact fun hok2 => hK _ _ _ (by omega) kp hok2 hsg' (by first | exact hVo | simp only [go_sem, Nat.reduceBEq, Nat.reduceLT, Nat.reduceLeDiff, Nat.reduceAdd, Nat.reduceMul, Nat.reduceSub, Nat.reduceMod, Nat.reduceDiv, Nat.reduceEqDiff, Int.reduceToNat, reduceIte, reduceCtorEq, Int.reduceLE, Int.reduceLT, Int.reduceEq, Int.reduceNeg, Int.reduceAdd, Int.reduceSub, Int.reduceMul, hVo]) hVl fun Y hY => by
              cases hY
              have := hX' X rfl
              rwa [List.append_assoc] at this
end Go.Proofs.Ytodgbpkdanefaaa.V

/- A peeler that counts its tries: its cells; marking them. -/
namespace Go.Proofs.Ytodgbpkdanefaaa.V
/-- The cells of the struct: peeler, list, tries, budget, spent. -/
def plC (v : SV) (O : Gr) (V : SV) (t b : Int) (sp : Bool) : Nat → SV := fun j => if j < 65 then pelC v O j else cl [V, .int .i64 t, .int .i64 b, .bool sp] (j - 65)
def plS (i : Nat) (O : Gr) (V : SV) (t b : Int) (sp : Bool) : Seg := ⟨69, plC (.ptr i 0) O V t b sp, true, none⟩
@[go_sem] theorem plS_eq (i : Nat) (O : Gr) (V : SV) (t b : Int) (sp : Bool) : plS i O V t b sp = ⟨69, plC (.ptr i 0) O V t b sp, true, none⟩ := rfl
section
variable (v : SV) (O : Gr) (V : SV) (t b : Int) (sp : Bool)
@[go_sem] theorem plC_0 : plC v O V t b sp 0 = v := rfl
@[go_sem] theorem plC_65 : plC v O V t b sp 65 = V := rfl
@[go_sem] theorem plC_66 : plC v O V t b sp 66 = .int .i64 t := rfl
@[go_sem] theorem plC_67 : plC v O V t b sp 67 = .int .i64 b := rfl
@[go_sem] theorem plC_68 : plC v O V t b sp 68 = .bool sp := rfl
theorem plC_far {j : Nat} (h : 65 ≤ j) : plC v O V t b sp j = cl [V, .int .i64 t, .int .i64 b, .bool sp] (j - 65) := if_neg (by omega)
theorem plC_upd (w : SV) {k : Nat} (hk : 65 ≤ k) (hk2 : k < 69) : upd (plC v O V t b sp) k w = fun j => if j < 65 then pelC v O j else cl ([V, .int .i64 t, .int .i64 b, .bool sp].set (k - 65) w) (j - 65) := by
  funext j
  rw [← upd_cl _ _ _ (show k - 65 < [V, SV.int .i64 t, SV.int .i64 b, SV.bool sp].length by simp; omega)]
  unfold upd plC
  by_cases h : j < 65
  · rw [if_neg (by omega), if_pos h, if_pos h]
  · rw [if_neg h, if_neg h]
    by_cases e : j = k
    · subst e; rw [if_pos rfl, if_pos rfl]
    · rw [if_neg e, if_neg (by omega)]
@[go_sem] theorem plC_set65 (w : SV) : upd (plC v O V t b sp) 65 w = plC v O w t b sp := by rw [plC_upd _ _ _ _ _ _ _ (by omega) (by omega)]; rfl
@[go_sem] theorem plC_set66 (w : Int) : upd (plC v O V t b sp) 66 (.int .i64 w) = plC v O V w b sp := by rw [plC_upd _ _ _ _ _ _ _ (by omega) (by omega)]; rfl
@[go_sem] theorem plC_set68 (w : Bool) : upd (plC v O V t b sp) 68 (.bool w) = plC v O V t b w := by rw [plC_upd _ _ _ _ _ _ _ (by omega) (by omega)]; rfl
end
theorem plC_lt {i n : Nat} {V : SV} (O : Gr) (t b : Int) (sp : Bool) (hi : i < n) (hV : V.lt n) (k : Nat) : (plC (.ptr i 0) O V t b sp k).lt n := by
  unfold plC; split
  · exact pelC_lt O hi k
  · obtain ⟨j, hj⟩ : ∃ j, k - 65 = j := ⟨_, rfl⟩
    rw [hj]
    match j with
    | 0 => exact hV
    | 1 => trivial
    | 2 => trivial
    | 3 => trivial
    | _ + 4 => trivial
theorem pelAt_plS (i : Nat) (O : Gr) (V : SV) (t b : Int) (sp : Bool) : PelAt (plS i O V t b sp) (.ptr i 0) O := ⟨by show 65 ≤ 69; omega, rfl, fun j hj => by
  show plC _ _ _ _ _ _ (1 + j) = _
  unfold plC pelC; rw [if_pos (by omega), if_neg (by omega), Nat.add_sub_cancel_left]⟩
/-- One cell opened or closed. -/
def setG (O : Gr) (b : Bool) (y x : Int) : Gr := fun y' x' => if y' = y ∧ x' = x then b else O y' x'
def markG (O : Gr) (b : Bool) (M : List (Int × Int)) : Nat → Gr
  | 0 => O
  | j + 1 => setG (markG O b M j) b (M.getD j (0, 0)).2 (M.getD j (0, 0)).1
def markA (O : Gr) (b : Bool) (M : List (Int × Int)) : Gr := fun y x => if (x, y) ∈ M then b else O y x
theorem markG_take (O : Gr) (b : Bool) (M : List (Int × Int)) : ∀ j, j ≤ M.length → markG O b M j = markA O b (M.take j)
  | 0, _ => by funext y x; simp [markG, markA]
  | j + 1, hj => by
    have hj' : j < M.length := hj
    funext y x
    show setG (markG O b M j) b _ _ y x = _
    rw [markG_take O b M j (by omega)]
    unfold setG markA
    rw [List.take_succ, List.getElem?_eq_getElem hj', List.getD_eq_getElem?_getD, List.getElem?_eq_getElem hj']
    simp only [Option.getD_some, Option.toList_some, List.mem_append, List.mem_singleton, Prod.ext_iff]
    by_cases h1 : y = M[j].2 ∧ x = M[j].1
    · rw [if_pos h1, if_pos (.inr ⟨h1.2, h1.1⟩)]
    · rw [if_neg h1]
      by_cases h2 : (x, y) ∈ M.take j
      · rw [if_pos h2, if_pos (.inl h2)]
      · rw [if_neg h2, if_neg (fun h => h.elim h2 fun h => h1 ⟨h.2, h.1⟩)]
theorem markG_all (O : Gr) (b : Bool) (M : List (Int × Int)) : markG O b M M.length = markA O b M := by rw [markG_take O b M _ (Nat.le_refl _), List.take_length]
theorem markA_true (O : Gr) (M : List (Int × Int)) : markA O true M = openBy O M := by
  funext y x
  unfold markA openBy
  by_cases h : (x, y) ∈ M
  · rw [if_pos h, decide_eq_true h, Bool.or_true]
  · rw [if_neg h, decide_eq_false h, Bool.or_false]
theorem markA_back (O : Gr) (M : List (Int × Int)) : markA (openBy O (M.filter (opP O))) false (M.filter (opP O)) = O := by
  funext y x
  unfold markA openBy
  by_cases h : (x, y) ∈ M.filter (opP O)
  · have := (List.mem_filter.1 h).2
    unfold opP at this
    simp only [Bool.not_eq_true'] at this
    rw [if_pos h, this]
  · rw [if_neg h, decide_eq_false h, Bool.or_false]
theorem plC_mark (v : SV) (O : Gr) (V : SV) (t b : Int) (sp c : Bool) {y x : Int} (h1 : 0 ≤ y) (h2 : y < 8) (h3 : 0 ≤ x) (h4 : x < 8) : upd (plC v O V t b sp) (1 + y.toNat * 8 + x.toNat) (.bool c) = plC v (setG O c y x) V t b sp := by
  funext z
  unfold upd plC
  by_cases hz : z < 65
  · rw [if_pos hz, if_pos hz]
    unfold pelC
    by_cases h : z < 1
    · rw [if_neg (by omega), if_pos h, if_pos h]
    · rw [if_neg h, if_neg h]
      unfold gridC setG
      by_cases e : z = 1 + y.toNat * 8 + x.toNat
      · rw [if_pos e, if_pos (by omega)]
      · rw [if_neg e, if_neg (by omega)]
  · rw [if_neg (by omega), if_neg hz, if_neg hz]
section
variable (cx : Cx) (h : List (Nat × Seg)) (n : Nat)
theorem mark8_E (i g f cap : Nat) (O : Gr) (V : SV) (tt bb : Int) (sp : Bool) (b : Bool) (M : List (Int × Int)) (s : Seg) (hi : i < n) (hV : V.lt n) (hg : hget h g = some (plS i O V tt bb sp)) (hgn : g < n) (hf : hget h f = some s) (hfn : f < n) (hfg : f ≠ g) (hM : SpsAt s M) (hm9 : M.length ≤ 1000) (hin : ∀ j, j < M.length → (0 ≤ (M.getD j (0, 0)).1 ∧ (M.getD j (0, 0)).1 < 8) ∧ 0 ≤ (M.getD j (0, 0)).2 ∧ (M.getD j (0, 0)).2 < 8) (K : HK)
    (hK : K (.tup 0 (cl [])) (hset h g (plS i (markA O b M) V tt bb sp)) n) : CallE Try.prog cx 77 [.ptr g 0, .sl f 0 M.length cap, .bool b] h n K := by
  have hn := hM.1
  refine CallE.to _ _ (by simp only [go_sem, Nat.reduceBEq, Nat.reduceLT, Nat.reduceLeDiff, Nat.reduceAdd, Nat.reduceMul, Nat.reduceSub, Nat.reduceMod, Nat.reduceDiv, Nat.reduceEqDiff, Int.reduceToNat, reduceIte, reduceCtorEq, Int.reduceLE, Int.reduceLT, Int.reduceEq, Int.reduceNeg, Int.reduceAdd, Int.reduceSub, Int.reduceMul]) (fun hok => HOk.hset hok fun k hk => plC_lt _ _ _ _ hi hV _) hK ?_
  have hgi : ∀ t, hget (hset h g t) g = some t := hget_hset_self hg
  have hgf : ∀ t, hget (hset h g t) f = some s := fun t => by rw [hget_hset, if_neg (by omega)]; exact hf
  rw [← markG_all]
  refine callE_of_T (P := Try.prog) hti (nt := 25) (rs := []) rfl rfl Try.call77 Try.func77 rfl _ (by simp only [go_sem, and_self]) (Nat.le_of_ble_eq_true rfl) _ fun hok => ?_
  simp only [go_sem, Nat.reduceBEq, Nat.reduceLT, Nat.reduceLeDiff, Nat.reduceAdd, Nat.reduceMul, Nat.reduceSub, Nat.reduceMod, Nat.reduceDiv, Nat.reduceEqDiff, Int.reduceToNat, reduceIte, reduceCtorEq, Int.reduceLE, Int.reduceLT, Int.reduceEq, Int.reduceNeg, Int.reduceAdd, Int.reduceSub, Int.reduceMul]
  refine T_lp (ι := { j : Nat // j ≤ M.length })
    (fun j => ([(0, .ptr g 0), (2, .bool b), (8, .sl f 0 M.length cap), (9, .int .i64 M.length), (10, .int .i64 j.1)], hset h g (plS i (markG O b M j.1) V tt bb sp), n)) (fun j => M.length - j.1) ⟨0, Nat.zero_le _⟩ ?_ ?_
  · refine Imp.id (by simp) ?_ ?_
    · simp only [go_sem, Nat.reduceBEq, Nat.reduceLT, Nat.reduceLeDiff, Nat.reduceAdd, Nat.reduceMul, Nat.reduceSub, Nat.reduceMod, Nat.reduceDiv, Nat.reduceEqDiff, Int.reduceToNat, reduceIte, reduceCtorEq, Int.reduceLE, Int.reduceLT, Int.reduceEq, Int.reduceNeg, Int.reduceAdd, Int.reduceSub, Int.reduceMul]
      omega
    · show impH h (sig []) n (hset h g (plS i O V tt bb sp))
      rw [hset_self hg]
      exact impH.base0 hok (by simp) HExt.rfl
  · rintro ⟨j, hj⟩
    simp only [go_sem, Nat.reduceBEq, Nat.reduceLT, Nat.reduceLeDiff, Nat.reduceAdd, Nat.reduceMul, Nat.reduceSub, Nat.reduceMod, Nat.reduceDiv, Nat.reduceEqDiff, Int.reduceToNat, reduceIte, reduceCtorEq, Int.reduceLE, Int.reduceLT, Int.reduceEq, Int.reduceNeg, Int.reduceAdd, Int.reduceSub, Int.reduceMul, decide_eq_true_eq, decide_eq_false_iff_not]
    refine ⟨fun h1 => ?_, fun h1 => ?_⟩
    · have r1 : (0 : Int) ≤ j ∧ (j : Int) < M.length := ⟨by omega, by omega⟩
      have b1 : j * 2 ≤ s.n - 2 := by omega
      have b2 : j * 2 + 2 ≤ s.n := by omega
      have b3 : 2 ≤ s.n := by omega
      obtain ⟨⟨c1, c5⟩, c3, c6⟩ := hin j (by omega)
      have d1 : 1 + (M.getD j (0, 0)).2.toNat * 8 + (M.getD j (0, 0)).1.toNat ≤ 68 := by omega
      have d2 : 1 + (M.getD j (0, 0)).2.toNat * 8 + (M.getD j (0, 0)).1.toNat + 1 ≤ 69 := by omega
      simp only [go_sem, Nat.reduceBEq, Nat.reduceLT, Nat.reduceLeDiff, Nat.reduceAdd, Nat.reduceMul, Nat.reduceSub, Nat.reduceMod, Nat.reduceDiv, Nat.reduceEqDiff, Int.reduceToNat, reduceIte, reduceCtorEq, Int.reduceLE, Int.reduceLT, Int.reduceEq, Int.reduceNeg, Int.reduceAdd, Int.reduceSub, Int.reduceMul, hgf, hfn, r1, b1, b2, b3, hM.x (j := j) (by omega), hM.y (j := j) (by omega)]
      refine T_drawT hti 10 _ _ (by kernel_rfl) (by kernel_rfl) ?_
      simp only [go_sem, Nat.reduceBEq, Nat.reduceLT, Nat.reduceLeDiff, Nat.reduceAdd, Nat.reduceMul, Nat.reduceSub, Nat.reduceMod, Nat.reduceDiv, Nat.reduceEqDiff, Int.reduceToNat, reduceIte, reduceCtorEq, Int.reduceLE, Int.reduceLT, Int.reduceEq, Int.reduceNeg, Int.reduceAdd, Int.reduceSub, Int.reduceMul, hgi, hgn, c1, c3, c5, c6, d1, d2, plC_mark _ _ _ _ _ _ _ c3 c6 c1 c5]
      refine ⟨⟨j + 1, by omega⟩, by show M.length - (j + 1) < M.length - j; omega, ?_⟩
      refine Imp.id (by simp) ?_ ?_
      · simp only [go_sem, Nat.reduceBEq, Nat.reduceLT, Nat.reduceLeDiff, Nat.reduceAdd, Nat.reduceMul, Nat.reduceSub, Nat.reduceMod, Nat.reduceDiv, Nat.reduceEqDiff, Int.reduceToNat, reduceIte, reduceCtorEq, Int.reduceLE, Int.reduceLT, Int.reduceEq, Int.reduceNeg, Int.reduceAdd, Int.reduceSub, Int.reduceMul, w64 (n := (j : Int) + 1) (by omega), Int.natCast_add, Int.natCast_one]
        omega
      · exact impH.base0 (HOk.hset hok fun k hk => plC_lt _ _ _ _ hi hV _) (by simp) (by first | (simp only [go_sem, Nat.reduceBEq, Nat.reduceLT, Nat.reduceLeDiff, Nat.reduceAdd, Nat.reduceMul, Nat.reduceSub, Nat.reduceMod, Nat.reduceDiv, Nat.reduceEqDiff, Int.reduceToNat, reduceIte, reduceCtorEq, Int.reduceLE, Int.reduceLT, Int.reduceEq, Int.reduceNeg, Int.reduceAdd, Int.reduceSub, Int.reduceMul, HExt_cons]; done) | (simp only [go_sem, Nat.reduceBEq, Nat.reduceLT, Nat.reduceLeDiff, Nat.reduceAdd, Nat.reduceMul, Nat.reduceSub, Nat.reduceMod, Nat.reduceDiv, Nat.reduceEqDiff, Int.reduceToNat, reduceIte, reduceCtorEq, Int.reduceLE, Int.reduceLT, Int.reduceEq, Int.reduceNeg, Int.reduceAdd, Int.reduceSub, Int.reduceMul, HExt_cons]; exact HExt.rfl))
    · have hj2 : j = M.length := by omega
      subst hj2
      simp only [go_sem, Nat.reduceBEq, Nat.reduceLT, Nat.reduceLeDiff, Nat.reduceAdd, Nat.reduceMul, Nat.reduceSub, Nat.reduceMod, Nat.reduceDiv, Nat.reduceEqDiff, Int.reduceToNat, reduceIte, reduceCtorEq, Int.reduceLE, Int.reduceLT, Int.reduceEq, Int.reduceNeg, Int.reduceAdd, Int.reduceSub, Int.reduceMul]
end
end Go.Proofs.Ytodgbpkdanefaaa.V

/- The program's own search for the fewest drops: the walk. -/
namespace Go.Proofs.Ytodgbpkdanefaaa.V
def notSl (V : SV) (j : Nat) : Prop := ∀ o l c, V ≠ .sl j o l c
theorem notSl_sl {i o l c j : Nat} (h : j ≠ i) : notSl (.sl i o l c) j := fun _ _ _ e => h (by cases e; rfl)
/-- A list of drops to which one may append. -/
def DrOwn (h : List (Nat × Seg)) (g n : Nat) (V : SV) (L : List Dr) : Prop :=
  (V = .nils ∧ L = []) ∨ ∃ j cap s, V = .sl j 0 L.length cap ∧ j < n ∧ j ≠ g ∧ hget h j = some s ∧ s.own = some (44, cap * 3) ∧ L.length ≤ cap ∧ cap ≤ maxLen ∧ L.length * 3 ≤ s.n ∧ s.rw = true ∧ ∀ z, z < L.length * 3 → s.c z = dropsC L z
theorem DrOwn.not {h : List (Nat × Seg)} {g n j : Nat} {V : SV} {L : List Dr} {t : Seg} (hV : DrOwn h g n V L) (ht : hget h j = some t) (ho : t.own = none) : notSl V j := by
  rcases hV with ⟨rfl, _⟩ | ⟨i, cap, s, rfl, _, _, hs, hown, _⟩
  · exact fun _ _ _ e => by cases e
  · refine notSl_sl fun e => ?_
    subst e
    rw [hs] at ht; cases ht
    rw [ho] at hown; cases hown
theorem DrOwn.mono {h h' : List (Nat × Seg)} {g n n' : Nat} {V : SV} {L : List Dr} (hV : DrOwn h g n V L) (hn : n ≤ n') (hx : ∀ j, j < n → j ≠ g → ∀ t, hget h j = some t → hget h' j = some t) : DrOwn h' g n' V L := by
  rcases hV with h1 | ⟨i, cap, s, rfl, h1, h2, h3, h4⟩
  · exact .inl h1
  · exact .inr ⟨i, cap, s, rfl, by omega, h2, hx i h1 h2 s h3, h4⟩
theorem DrOwn.ok {h : List (Nat × Seg)} {g n : Nat} {V : SV} {L : List Dr} (hV : DrOwn h g n V L) : V.ok = True := by
  rcases hV with ⟨rfl, _⟩ | ⟨i, cap, s, rfl, _⟩ <;> rfl
def HBut2 (g : Nat) (V : SV) (n : Nat) (h h' : List (Nat × Seg)) : Prop := ∀ j, j < n → j ≠ g → notSl V j → ∀ t, hget h j = some t → hget h' j = some t
theorem HOk.consF {n : Nat} {h : List (Nat × Seg)} {s : Seg} (hok : HOk n h) (hs : ∀ k, k < s.n → (s.c k).flat) : HOk (n + 1) ((n, s) :: h) := fun i t hi => by
  simp only [hget] at hi
  by_cases e : n = i
  · rw [if_pos e] at hi; cases hi
    exact ⟨by omega, fun k hk => (hs k hk).below _⟩
  · rw [if_neg e] at hi
    obtain ⟨g1, g2⟩ := hok i t hi
    exact ⟨by omega, fun k hk => SV.lt_mono (by omega) _ (g2 k hk)⟩
/-- The state of a round. -/
structure TryI (P : Pc) (W H most : Nat) (f : Gr → Nat → Sr) (h : List (Nat × Seg)) (n g ip : Nat) (O : Gr) (V : SV) (so : List Dr) (R0 : Sr) (q t : Nat) (hq : List (Nat × Seg)) (nq : Nat) (Vq : SV) : Prop where
  hqL : q ≤ (dropsL W H).length
  ht : t ≤ most
  hn : n + 1 ≤ nq
  ok : HOk nq hq
  hg : hget hq g = some (plS ip O Vq t most false)
  hl : hget hq n = some ⟨(dropsL W H).length * 3, dropsC (dropsL W H), true, none⟩
  hV : DrOwn hq g nq Vq so
  lt : Vq.lt nq
  hb : HBut2 g V n h hq
  nm : ∀ i, i < n → notSl V i → notSl Vq i
  go : goL f P most O (((dropsL W H).drop q).filter (lastP P O)) t = R0
theorem drop_step (L : List Dr) {q : Nat} (hq : q < L.length) (p : Dr → Bool) : (L.drop q).filter p = if p (L.getD q (0, 0, 0)) then L.getD q (0, 0, 0) :: (L.drop (q + 1)).filter p else (L.drop (q + 1)).filter p := by
  rw [List.drop_eq_getElem_cons hq, List.filter_cons, List.getD_eq_getElem?_getD, List.getElem?_eq_getElem hq, Option.getD_some]
set_option maxHeartbeats 3200000 in
theorem try_E (P : Pc) (W H most : Nat) (hR : PcR P) (hP : PcOk P) (hW : P.wide = W) (hH : P.high = H) (hmost : most ≤ 20000) : ∀ (m : Nat) (cx : Cx) (h : List (Nat × Seg)) (n g ip : Nat) (O : Gr) (V : SV) (t : Nat) (so : List Dr)
    (hs : hget h g = some (plS ip O V t most false)) (hsn : g < n) (hp : hget h ip = some (pcS P)) (hpn : ip < n) (hip : ip ≠ g) (hV : DrOwn h g n V so) (hVl : V.lt n) (hm9 : so.length + m ≤ 100) (ht : t ≤ most) (K : HK)
    (hK : ∀ h' n' O' V', n ≤ n' → HOk n' h' → HBut2 g V n h h' → (∀ i, i < n → notSl V i → notSl V' i) → V'.lt n' → hget h' g = some (plS ip O' V' (srch P W H most m O t).2.1 most (srch P W H most m O t).2.2) →
      (∀ X, (srch P W H most m O t).1 = some X → DrOwn h' g n' V' (so ++ X)) → ((srch P W H most m O t).1 = none → (srch P W H most m O t).2.2 = false → O' = O ∧ DrOwn h' g n' V' so) → K (.bool (srch P W H most m O t).1.isSome) h' n'),
    CallE Try.prog cx 83 [.ptr g 0, .int .i64 m] h n K := by
  intro m
  induction m with
  | zero =>
    intro cx h n g ip O V t so hs hsn hp hpn hip hV hVl hm9 ht K hK
    have hs8 := hP.1
    have hW8 : W ≤ 8 := by omega
    have hH8 : H ≤ 8 := by omega
    have hm64 : H * W ≤ 8 * 8 := Nat.mul_le_mul hH8 hW8
    have hll := leftN_le P O W (H * W)
    refine CallE.hokE ?_
    refine callE_of_T (P := Try.prog) hti (nt := 103) (rs := [.tmp 4]) rfl rfl Try.call83 Try.func83 rfl _ (by simp only [go_sem, and_self]) (Nat.le_of_ble_eq_true rfl) _ fun hok => ?_
    simp only [go_sem, Nat.reduceBEq, Nat.reduceLT, Nat.reduceLeDiff, Nat.reduceAdd, Nat.reduceMul, Nat.reduceSub, Nat.reduceMod, Nat.reduceDiv, Nat.reduceEqDiff, Int.reduceToNat, reduceIte, reduceCtorEq, Int.reduceLE, Int.reduceLT, Int.reduceEq, Int.reduceNeg, Int.reduceAdd, Int.reduceSub, Int.reduceMul, hs, hsn]
    refine (leftP_Q _ _ _ ip g P O (plS ip O V t most false) W H (by first | (simp only [go_sem, Nat.reduceBEq, Nat.reduceLT, Nat.reduceLeDiff, Nat.reduceAdd, Nat.reduceMul, Nat.reduceSub, Nat.reduceMod, Nat.reduceDiv, Nat.reduceEqDiff, Int.reduceToNat, reduceIte, reduceCtorEq, Int.reduceLE, Int.reduceLT, Int.reduceEq, Int.reduceNeg, Int.reduceAdd, Int.reduceSub, Int.reduceMul, hp, hpn]; done) | (simp only [go_sem, Nat.reduceBEq, Nat.reduceLT, Nat.reduceLeDiff, Nat.reduceAdd, Nat.reduceMul, Nat.reduceSub, Nat.reduceMod, Nat.reduceDiv, Nat.reduceEqDiff, Int.reduceToNat, reduceIte, reduceCtorEq, Int.reduceLE, Int.reduceLT, Int.reduceEq, Int.reduceNeg, Int.reduceAdd, Int.reduceSub, Int.reduceMul, hp, hpn]; rfl)) (by omega) (by first | (simp only [go_sem, Nat.reduceBEq, Nat.reduceLT, Nat.reduceLeDiff, Nat.reduceAdd, Nat.reduceMul, Nat.reduceSub, Nat.reduceMod, Nat.reduceDiv, Nat.reduceEqDiff, Int.reduceToNat, reduceIte, reduceCtorEq, Int.reduceLE, Int.reduceLT, Int.reduceEq, Int.reduceNeg, Int.reduceAdd, Int.reduceSub, Int.reduceMul, hs, hsn]; done) | (simp only [go_sem, Nat.reduceBEq, Nat.reduceLT, Nat.reduceLeDiff, Nat.reduceAdd, Nat.reduceMul, Nat.reduceSub, Nat.reduceMod, Nat.reduceDiv, Nat.reduceEqDiff, Int.reduceToNat, reduceIte, reduceCtorEq, Int.reduceLE, Int.reduceLT, Int.reduceEq, Int.reduceNeg, Int.reduceAdd, Int.reduceSub, Int.reduceMul, hs, hsn]; rfl)) (by omega) (pelAt_plS _ _ _ _ _ _) hR hP hW hH).A ?_
    by_cases h0 : leftN P O W (H * W) = 0
    · rw [srch_0 h0] at hK
      simp only [go_sem, Nat.reduceBEq, Nat.reduceLT, Nat.reduceLeDiff, Nat.reduceAdd, Nat.reduceMul, Nat.reduceSub, Nat.reduceMod, Nat.reduceDiv, Nat.reduceEqDiff, Int.reduceToNat, reduceIte, reduceCtorEq, Int.reduceLE, Int.reduceLT, Int.reduceEq, Int.reduceNeg, Int.reduceAdd, Int.reduceSub, Int.reduceMul, h0, Int.natCast_zero]
      refine fun hok' => hK _ _ O V (Nat.le_refl _) hok' (fun _ _ _ _ _ h => h) (fun _ _ h => h) hVl hs (fun X hX => ?_) (fun h => by cases h)
      cases hX
      rw [List.append_nil]
      exact hV
    have h0' : ¬ ((leftN P O W (H * W) : Int) = 0) := by omega
    rw [srch_far h0 (by omega)] at hK
    simp only [go_sem, Nat.reduceBEq, Nat.reduceLT, Nat.reduceLeDiff, Nat.reduceAdd, Nat.reduceMul, Nat.reduceSub, Nat.reduceMod, Nat.reduceDiv, Nat.reduceEqDiff, Int.reduceToNat, reduceIte, reduceCtorEq, Int.reduceLE, Int.reduceLT, Int.reduceEq, Int.reduceNeg, Int.reduceAdd, Int.reduceSub, Int.reduceMul, h0', w64 (n := 5 * (0 : Int)) (by omega), Int.natCast_zero, Int.mul_zero, w64 (n := (0 : Int)) (by omega), show ((0 : Int) < (leftN P O W (H * W) : Int)) by omega]
    exact fun hok' => hK _ _ O V (Nat.le_refl _) hok' (fun _ _ _ _ _ h => h) (fun _ _ h => h) hVl hs (fun X hX => by cases hX) (fun _ _ => ⟨rfl, hV⟩)
  | succ m ih =>
    intro cx h n g ip O V t so hs hsn hp hpn hip hV hVl hm9 ht K hK
    have hs8 := hP.1
    have hW8 : W ≤ 8 := by omega
    have hH8 : H ≤ 8 := by omega
    have hm64 : H * W ≤ 8 * 8 := Nat.mul_le_mul hH8 hW8
    have hll := leftN_le P O W (H * W)
    have hDl := dropsL_len W H
    have hnp : notSl V ip := hV.not hp rfl
    refine CallE.hokE ?_
    refine callE_of_T (P := Try.prog) hti (nt := 103) (rs := [.tmp 4]) rfl rfl Try.call83 Try.func83 rfl _ (by simp only [go_sem, and_self]) (Nat.le_of_ble_eq_true rfl) _ fun hok => ?_
    simp only [go_sem, Nat.reduceBEq, Nat.reduceLT, Nat.reduceLeDiff, Nat.reduceAdd, Nat.reduceMul, Nat.reduceSub, Nat.reduceMod, Nat.reduceDiv, Nat.reduceEqDiff, Int.reduceToNat, reduceIte, reduceCtorEq, Int.reduceLE, Int.reduceLT, Int.reduceEq, Int.reduceNeg, Int.reduceAdd, Int.reduceSub, Int.reduceMul, hs, hsn]
    refine (leftP_Q _ _ _ ip g P O (plS ip O V t most false) W H (by first | (simp only [go_sem, Nat.reduceBEq, Nat.reduceLT, Nat.reduceLeDiff, Nat.reduceAdd, Nat.reduceMul, Nat.reduceSub, Nat.reduceMod, Nat.reduceDiv, Nat.reduceEqDiff, Int.reduceToNat, reduceIte, reduceCtorEq, Int.reduceLE, Int.reduceLT, Int.reduceEq, Int.reduceNeg, Int.reduceAdd, Int.reduceSub, Int.reduceMul, hp, hpn]; done) | (simp only [go_sem, Nat.reduceBEq, Nat.reduceLT, Nat.reduceLeDiff, Nat.reduceAdd, Nat.reduceMul, Nat.reduceSub, Nat.reduceMod, Nat.reduceDiv, Nat.reduceEqDiff, Int.reduceToNat, reduceIte, reduceCtorEq, Int.reduceLE, Int.reduceLT, Int.reduceEq, Int.reduceNeg, Int.reduceAdd, Int.reduceSub, Int.reduceMul, hp, hpn]; rfl)) (by omega) (by first | (simp only [go_sem, Nat.reduceBEq, Nat.reduceLT, Nat.reduceLeDiff, Nat.reduceAdd, Nat.reduceMul, Nat.reduceSub, Nat.reduceMod, Nat.reduceDiv, Nat.reduceEqDiff, Int.reduceToNat, reduceIte, reduceCtorEq, Int.reduceLE, Int.reduceLT, Int.reduceEq, Int.reduceNeg, Int.reduceAdd, Int.reduceSub, Int.reduceMul, hs, hsn]; done) | (simp only [go_sem, Nat.reduceBEq, Nat.reduceLT, Nat.reduceLeDiff, Nat.reduceAdd, Nat.reduceMul, Nat.reduceSub, Nat.reduceMod, Nat.reduceDiv, Nat.reduceEqDiff, Int.reduceToNat, reduceIte, reduceCtorEq, Int.reduceLE, Int.reduceLT, Int.reduceEq, Int.reduceNeg, Int.reduceAdd, Int.reduceSub, Int.reduceMul, hs, hsn]; rfl)) (by omega) (pelAt_plS _ _ _ _ _ _) hR hP hW hH).A ?_
    by_cases h0 : leftN P O W (H * W) = 0
    · rw [srch_0 h0] at hK
      simp only [go_sem, Nat.reduceBEq, Nat.reduceLT, Nat.reduceLeDiff, Nat.reduceAdd, Nat.reduceMul, Nat.reduceSub, Nat.reduceMod, Nat.reduceDiv, Nat.reduceEqDiff, Int.reduceToNat, reduceIte, reduceCtorEq, Int.reduceLE, Int.reduceLT, Int.reduceEq, Int.reduceNeg, Int.reduceAdd, Int.reduceSub, Int.reduceMul, h0, Int.natCast_zero]
      refine fun hok' => hK _ _ O V (Nat.le_refl _) hok' (fun _ _ _ _ _ h => h) (fun _ _ h => h) hVl hs (fun X hX => ?_) (fun h => by cases h)
      cases hX
      rw [List.append_nil]
      exact hV
    have h0' : ¬ ((leftN P O W (H * W) : Int) = 0) := by omega
    by_cases h5 : 5 * (m + 1) < leftN P O W (H * W)
    · rw [srch_far h0 h5] at hK
      simp only [go_sem, Nat.reduceBEq, Nat.reduceLT, Nat.reduceLeDiff, Nat.reduceAdd, Nat.reduceMul, Nat.reduceSub, Nat.reduceMod, Nat.reduceDiv, Nat.reduceEqDiff, Int.reduceToNat, reduceIte, reduceCtorEq, Int.reduceLE, Int.reduceLT, Int.reduceEq, Int.reduceNeg, Int.reduceAdd, Int.reduceSub, Int.reduceMul, h0', w64 (n := 5 * ((m : Int) + 1)) (by omega), Int.natCast_add, Int.natCast_one, show (5 * ((m : Int) + 1) < (leftN P O W (H * W) : Int)) by omega]
      exact fun hok' => hK _ _ O V (Nat.le_refl _) hok' (fun _ _ _ _ _ h => h) (fun _ _ h => h) hVl hs (fun X hX => by cases hX) (fun _ _ => ⟨rfl, hV⟩)
    rw [srch_go h0 h5] at hK
    simp only [go_sem, Nat.reduceBEq, Nat.reduceLT, Nat.reduceLeDiff, Nat.reduceAdd, Nat.reduceMul, Nat.reduceSub, Nat.reduceMod, Nat.reduceDiv, Nat.reduceEqDiff, Int.reduceToNat, reduceIte, reduceCtorEq, Int.reduceLE, Int.reduceLT, Int.reduceEq, Int.reduceNeg, Int.reduceAdd, Int.reduceSub, Int.reduceMul, h0', hs, hsn, w64 (n := 5 * ((m : Int) + 1)) (by omega), Int.natCast_add, Int.natCast_one, show ¬ (5 * ((m : Int) + 1) < (leftN P O W (H * W) : Int)) by omega]
    refine callA_false (drops7_E _ _ _ ip P W H (by first | (simp only [go_sem, Nat.reduceBEq, Nat.reduceLT, Nat.reduceLeDiff, Nat.reduceAdd, Nat.reduceMul, Nat.reduceSub, Nat.reduceMod, Nat.reduceDiv, Nat.reduceEqDiff, Int.reduceToNat, reduceIte, reduceCtorEq, Int.reduceLE, Int.reduceLT, Int.reduceEq, Int.reduceNeg, Int.reduceAdd, Int.reduceSub, Int.reduceMul, hp, hpn]; done) | (simp only [go_sem, Nat.reduceBEq, Nat.reduceLT, Nat.reduceLeDiff, Nat.reduceAdd, Nat.reduceMul, Nat.reduceSub, Nat.reduceMod, Nat.reduceDiv, Nat.reduceEqDiff, Int.reduceToNat, reduceIte, reduceCtorEq, Int.reduceLE, Int.reduceLT, Int.reduceEq, Int.reduceNeg, Int.reduceAdd, Int.reduceSub, Int.reduceMul, hp, hpn]; rfl)) (by omega) hR hP hW hH _ fun capL hcapL => ?_)
    have hdin := fun q (hq : q < (dropsL W H).length) => dropsL_in (W := W) (H := H) (j := q) (by rw [← hDl]; exact hq) hW8 hH8
    generalize hRR : goL (srch P W H most m) P most O (frontL P W H O) t = R0 at hK
    have I0 : TryI P W H most (srch P W H most m) h n g ip O V so R0 0 t ((n, ⟨(dropsL W H).length * 3, dropsC (dropsL W H), true, none⟩) :: h) (n + 1) V :=
      ⟨Nat.zero_le _, ht, Nat.le_refl _, hok.consF fun k _ => dropsC_flat _ _, (by first | (simp only [go_sem, Nat.reduceBEq, Nat.reduceLT, Nat.reduceLeDiff, Nat.reduceAdd, Nat.reduceMul, Nat.reduceSub, Nat.reduceMod, Nat.reduceDiv, Nat.reduceEqDiff, Int.reduceToNat, reduceIte, reduceCtorEq, Int.reduceLE, Int.reduceLT, Int.reduceEq, Int.reduceNeg, Int.reduceAdd, Int.reduceSub, Int.reduceMul, hs, hsn]; done) | (simp only [go_sem, Nat.reduceBEq, Nat.reduceLT, Nat.reduceLeDiff, Nat.reduceAdd, Nat.reduceMul, Nat.reduceSub, Nat.reduceMod, Nat.reduceDiv, Nat.reduceEqDiff, Int.reduceToNat, reduceIte, reduceCtorEq, Int.reduceLE, Int.reduceLT, Int.reduceEq, Int.reduceNeg, Int.reduceAdd, Int.reduceSub, Int.reduceMul, hs, hsn]; rfl)), hget_hit _ _ _, hV.mono (by omega) (fun j hj _ t ht => by simp only [go_sem, Nat.reduceBEq, Nat.reduceLT, Nat.reduceLeDiff, Nat.reduceAdd, Nat.reduceMul, Nat.reduceSub, Nat.reduceMod, Nat.reduceDiv, Nat.reduceEqDiff, Int.reduceToNat, reduceIte, reduceCtorEq, Int.reduceLE, Int.reduceLT, Int.reduceEq, Int.reduceNeg, Int.reduceAdd, Int.reduceSub, Int.reduceMul, ht, hj]), SV.lt_mono (by omega) _ hVl, fun j hj _ _ t ht => (by simp only [go_sem, Nat.reduceBEq, Nat.reduceLT, Nat.reduceLeDiff, Nat.reduceAdd, Nat.reduceMul, Nat.reduceSub, Nat.reduceMod, Nat.reduceDiv, Nat.reduceEqDiff, Int.reduceToNat, reduceIte, reduceCtorEq, Int.reduceLE, Int.reduceLT, Int.reduceEq, Int.reduceNeg, Int.reduceAdd, Int.reduceSub, Int.reduceMul, ht, hj]), fun _ _ h => h, hRR⟩
    have hLL : (dropsL W H).length ≤ 192 := by omega
    simp only [go_sem, Nat.reduceBEq, Nat.reduceLT, Nat.reduceLeDiff, Nat.reduceAdd, Nat.reduceMul, Nat.reduceSub, Nat.reduceMod, Nat.reduceDiv, Nat.reduceEqDiff, Int.reduceToNat, reduceIte, reduceCtorEq, Int.reduceLE, Int.reduceLT, Int.reduceEq, Int.reduceNeg, Int.reduceAdd, Int.reduceSub, Int.reduceMul]
    refine T_lp (ι := { q : (Nat × Nat) × List (Nat × Seg) × Nat × SV // TryI P W H most (srch P W H most m) h n g ip O V so R0 q.1.1 q.1.2 q.2.1 q.2.2.1 q.2.2.2 })
      (fun q => ([(0, .ptr g 0), (1, .int .i64 ((m : Int) + 1)), (25, .sl n 0 (dropsL W H).length capL), (26, .int .i64 (dropsL W H).length), (27, .int .i64 q.1.1.1)], q.1.2.1, q.1.2.2.1)) (fun q => (dropsL W H).length - q.1.1.1) ⟨((0, t), _, n + 1, V), I0⟩ ?_ ?_
    · refine Imp.id (by simp) ?_ (impH.base0 (hok.consF fun k _ => dropsC_flat _ _) (Nat.le_refl _) HExt.rfl)
      simp only [go_sem, Nat.reduceBEq, Nat.reduceLT, Nat.reduceLeDiff, Nat.reduceAdd, Nat.reduceMul, Nat.reduceSub, Nat.reduceMod, Nat.reduceDiv, Nat.reduceEqDiff, Int.reduceToNat, reduceIte, reduceCtorEq, Int.reduceLE, Int.reduceLT, Int.reduceEq, Int.reduceNeg, Int.reduceAdd, Int.reduceSub, Int.reduceMul, Int.natCast_add, Int.natCast_one]
      (repeat' apply And.intro) <;> first | omega | rfl | trivial | assumption | skip
    · rintro ⟨⟨⟨q, tq⟩, hq, nq, Vq⟩, I⟩
      obtain ⟨hqL, htq, hnq, hokq, hgq, hlq, hVq, hltq, hbq, hnm, hres⟩ := I
      simp only at hqL htq hnq hokq hgq hlq hVq hltq hbq hnm hres
      have hgn : g < nq := by omega
      have hnn : n < nq := by omega
      have hipn : ip < nq := by omega
      have hpq : hget hq ip = some (pcS P) := hbq ip hpn hip hnp _ hp
      have hVo := hVq.ok
      simp only [go_sem, Nat.reduceBEq, Nat.reduceLT, Nat.reduceLeDiff, Nat.reduceAdd, Nat.reduceMul, Nat.reduceSub, Nat.reduceMod, Nat.reduceDiv, Nat.reduceEqDiff, Int.reduceToNat, reduceIte, reduceCtorEq, Int.reduceLE, Int.reduceLT, Int.reduceEq, Int.reduceNeg, Int.reduceAdd, Int.reduceSub, Int.reduceMul, decide_eq_true_eq, decide_eq_false_iff_not]
      refine ⟨fun h1 => ?_, fun h1 => ?_⟩
      rotate_left
      · have hq2 : q = (dropsL W H).length := by omega
        subst hq2
        rw [List.drop_length, List.filter_nil, goL] at hres
        subst hres
        exact fun hok' => hK _ _ O Vq (by omega) hok' hbq hnm hltq hgq (fun X hX => by cases hX) (fun _ _ => ⟨rfl, hVq⟩)
      have hqL' : q < (dropsL W H).length := by omega
      rw [drop_step _ hqL'] at hres
      obtain ⟨a1, a2, a3⟩ := hdin q hqL'
      have f0 := dropsC_0 (dropsL W H) q
      have f1 := dropsC_1 (dropsL W H) q
      have f2 := dropsC_2 (dropsL W H) q
      have r1 : (0 : Int) ≤ q ∧ (q : Int) < (dropsL W H).length := ⟨by omega, by omega⟩
      have b1 : q * 3 ≤ (dropsL W H).length * 3 - 3 := by omega
      have b3 : 3 ≤ (dropsL W H).length * 3 := by omega
      have b6 : q * 3 + 3 ≤ (dropsL W H).length * 3 := by omega
      generalize hLg : dropsL W H = L at *
      generalize hdd : L.getD q (0, 0, 0) = d at *
      simp only [go_sem, Nat.reduceBEq, Nat.reduceLT, Nat.reduceLeDiff, Nat.reduceAdd, Nat.reduceMul, Nat.reduceSub, Nat.reduceMod, Nat.reduceDiv, Nat.reduceEqDiff, Int.reduceToNat, reduceIte, reduceCtorEq, Int.reduceLE, Int.reduceLT, Int.reduceEq, Int.reduceNeg, Int.reduceAdd, Int.reduceSub, Int.reduceMul, hlq, hnn, r1, b1, b3, b6, f0, f1, f2]
      refine T_drawG hti 10 [] (.b 0 0 (.b 0 1 (.b 0 2 (.b 0 3 (.b 2 4 (.b 0 5 (.b 0 6 (.b 0 7 (.b 0 8 (.b 0 9 (.f) .o) .o) .o) .o) .o) .o) .o) .o) .o) .o) _ _ (by kernel_rfl) (by kernel_rfl) ?_
      simp only [go_sem, Nat.reduceBEq, Nat.reduceLT, Nat.reduceLeDiff, Nat.reduceAdd, Nat.reduceMul, Nat.reduceSub, Nat.reduceMod, Nat.reduceDiv, Nat.reduceEqDiff, Int.reduceToNat, reduceIte, reduceCtorEq, Int.reduceLE, Int.reduceLT, Int.reduceEq, Int.reduceNeg, Int.reduceAdd, Int.reduceSub, Int.reduceMul, hgq, hgn]
      have again : ∀ (hx : List (Nat × Seg)) (nx : Nat), nq ≤ nx → HOk nx hx → HExt nq hq hx → (lastP P O d = false) → ∃ j : { q : (Nat × Nat) × List (Nat × Seg) × Nat × SV // TryI P W H most (srch P W H most m) h n g ip O V so R0 q.1.1 q.1.2 q.2.1 q.2.2.1 q.2.2.2 }, j.1 = ((q + 1, tq), hx, nx, Vq) := fun hx nx hnx okx xx hf => by
        rw [hf] at hres
        exact ⟨⟨((q + 1, tq), hx, nx, Vq), ⟨by rw [hLg]; exact hqL', htq, by show n + 1 ≤ nx; omega, okx, xx g hgn _ hgq, by rw [hLg]; exact xx n hnn _ hlq, hVq.mono hnx (fun j hj _ t ht => xx j hj t ht), SV.lt_mono hnx _ hltq, fun j hj h1 h2 t ht => xx j (by omega) t (hbq j hj h1 h2 t ht), hnm, by rw [hLg]; exact hres⟩⟩, rfl⟩
      refine callA_false (can_E _ _ _ ip g P O d.1 d.2.1 d.2.2 (plS ip O Vq tq most false) (by first | (simp only [go_sem, Nat.reduceBEq, Nat.reduceLT, Nat.reduceLeDiff, Nat.reduceAdd, Nat.reduceMul, Nat.reduceSub, Nat.reduceMod, Nat.reduceDiv, Nat.reduceEqDiff, Int.reduceToNat, reduceIte, reduceCtorEq, Int.reduceLE, Int.reduceLT, Int.reduceEq, Int.reduceNeg, Int.reduceAdd, Int.reduceSub, Int.reduceMul, hpq, hipn]; done) | (simp only [go_sem, Nat.reduceBEq, Nat.reduceLT, Nat.reduceLeDiff, Nat.reduceAdd, Nat.reduceMul, Nat.reduceSub, Nat.reduceMod, Nat.reduceDiv, Nat.reduceEqDiff, Int.reduceToNat, reduceIte, reduceCtorEq, Int.reduceLE, Int.reduceLT, Int.reduceEq, Int.reduceNeg, Int.reduceAdd, Int.reduceSub, Int.reduceMul, hpq, hipn]; rfl)) (by omega) (by first | (simp only [go_sem, Nat.reduceBEq, Nat.reduceLT, Nat.reduceLeDiff, Nat.reduceAdd, Nat.reduceMul, Nat.reduceSub, Nat.reduceMod, Nat.reduceDiv, Nat.reduceEqDiff, Int.reduceToNat, reduceIte, reduceCtorEq, Int.reduceLE, Int.reduceLT, Int.reduceEq, Int.reduceNeg, Int.reduceAdd, Int.reduceSub, Int.reduceMul, hgq, hgn]; done) | (simp only [go_sem, Nat.reduceBEq, Nat.reduceLT, Nat.reduceLeDiff, Nat.reduceAdd, Nat.reduceMul, Nat.reduceSub, Nat.reduceMod, Nat.reduceDiv, Nat.reduceEqDiff, Int.reduceToNat, reduceIte, reduceCtorEq, Int.reduceLE, Int.reduceLT, Int.reduceEq, Int.reduceNeg, Int.reduceAdd, Int.reduceSub, Int.reduceMul, hgq, hgn]; rfl)) (by omega) (pelAt_plS _ _ _ _ _ _) hR hP a1.1 (by omega) a2.1 (by omega) a3 _ (fun ha => ?_) (fun ha cap4 => ?_))
      · have hf : lastP P O d = false := by show (okAll P O d.1 d.2.1 d.2.2 && _) = false; rw [ha, Bool.false_and]
        simp only [go_sem, Nat.reduceBEq, Nat.reduceLT, Nat.reduceLeDiff, Nat.reduceAdd, Nat.reduceMul, Nat.reduceSub, Nat.reduceMod, Nat.reduceDiv, Nat.reduceEqDiff, Int.reduceToNat, reduceIte, reduceCtorEq, Int.reduceLE, Int.reduceLT, Int.reduceEq, Int.reduceNeg, Int.reduceAdd, Int.reduceSub, Int.reduceMul]
        have okx : HOk (nq + 1) ((nq, ⟨3, cl [.int .i8 d.1, .int .i8 d.2.1, .int .u8 d.2.2], true, none⟩) :: hq) := hokq.consF fun k hk => cl_flat (l := [_, _, _]) (by simp [SV.flat]) hk
        obtain ⟨⟨v, Iv⟩, rfl⟩ := again _ (nq + 1) (by omega) okx (by simp only [go_sem, Nat.reduceBEq, Nat.reduceLT, Nat.reduceLeDiff, Nat.reduceAdd, Nat.reduceMul, Nat.reduceSub, Nat.reduceMod, Nat.reduceDiv, Nat.reduceEqDiff, Int.reduceToNat, reduceIte, reduceCtorEq, Int.reduceLE, Int.reduceLT, Int.reduceEq, Int.reduceNeg, Int.reduceAdd, Int.reduceSub, Int.reduceMul, HExt_cons]) hf
        refine ⟨⟨_, Iv⟩, by show L.length - (q + 1) < L.length - q; omega, ?_⟩
        refine Imp.id (by show n ≤ nq + 1; omega) ?_ (impH.base0 okx (Nat.le_refl _) HExt.rfl)
        simp only [go_sem, Nat.reduceBEq, Nat.reduceLT, Nat.reduceLeDiff, Nat.reduceAdd, Nat.reduceMul, Nat.reduceSub, Nat.reduceMod, Nat.reduceDiv, Nat.reduceEqDiff, Int.reduceToNat, reduceIte, reduceCtorEq, Int.reduceLE, Int.reduceLT, Int.reduceEq, Int.reduceNeg, Int.reduceAdd, Int.reduceSub, Int.reduceMul, w64 (n := (q : Int) + 1) (by omega), Int.natCast_add, Int.natCast_one]
        (repeat' apply And.intro) <;> first | omega | rfl | trivial | assumption | skip
      have okx : HOk (nq + 2) ((nq + 1, ⟨(opF P O d.1 d.2.1).length * 2, spotsC (opF P O d.1 d.2.1), true, none⟩) :: (nq, ⟨3, cl [.int .i8 d.1, .int .i8 d.2.1, .int .u8 d.2.2], true, none⟩) :: hq) := (hokq.consF fun k hk => cl_flat (l := [_, _, _]) (by simp [SV.flat]) hk).consF fun k _ => spotsC_flat _ _
      by_cases hpos : 0 < (opF P O d.1 d.2.1).length
      rotate_left
      · have hf : lastP P O d = false := by show (okAll P O d.1 d.2.1 d.2.2 && decide (0 < (opF P O d.1 d.2.1).length)) = false; rw [decide_eq_false hpos, Bool.and_false]
        simp only [go_sem, Nat.reduceBEq, Nat.reduceLT, Nat.reduceLeDiff, Nat.reduceAdd, Nat.reduceMul, Nat.reduceSub, Nat.reduceMod, Nat.reduceDiv, Nat.reduceEqDiff, Int.reduceToNat, reduceIte, reduceCtorEq, Int.reduceLE, Int.reduceLT, Int.reduceEq, Int.reduceNeg, Int.reduceAdd, Int.reduceSub, Int.reduceMul, hpos]
        obtain ⟨⟨v, Iv⟩, rfl⟩ := again _ (nq + 2) (by omega) okx (by simp only [go_sem, Nat.reduceBEq, Nat.reduceLT, Nat.reduceLeDiff, Nat.reduceAdd, Nat.reduceMul, Nat.reduceSub, Nat.reduceMod, Nat.reduceDiv, Nat.reduceEqDiff, Int.reduceToNat, reduceIte, reduceCtorEq, Int.reduceLE, Int.reduceLT, Int.reduceEq, Int.reduceNeg, Int.reduceAdd, Int.reduceSub, Int.reduceMul, HExt_cons]) hf
        refine ⟨⟨_, Iv⟩, by show L.length - (q + 1) < L.length - q; omega, ?_⟩
        refine Imp.id (by show n ≤ nq + 2; omega) ?_ (impH.base0 okx (Nat.le_refl _) HExt.rfl)
        simp only [go_sem, Nat.reduceBEq, Nat.reduceLT, Nat.reduceLeDiff, Nat.reduceAdd, Nat.reduceMul, Nat.reduceSub, Nat.reduceMod, Nat.reduceDiv, Nat.reduceEqDiff, Int.reduceToNat, reduceIte, reduceCtorEq, Int.reduceLE, Int.reduceLT, Int.reduceEq, Int.reduceNeg, Int.reduceAdd, Int.reduceSub, Int.reduceMul, w64 (n := (q : Int) + 1) (by omega), Int.natCast_add, Int.natCast_one]
        (repeat' apply And.intro) <;> first | omega | rfl | trivial | assumption | skip
      have hlp : lastP P O d = true := by show (okAll P O d.1 d.2.1 d.2.2 && decide (0 < (opF P O d.1 d.2.1).length)) = true; rw [ha, decide_eq_true hpos]; rfl
      rw [hlp, if_pos rfl] at hres
      have hop5 := opF_len P O d.1 d.2.1
      have hopin : ∀ j, j < (opF P O d.1 d.2.1).length → (0 ≤ ((opF P O d.1 d.2.1).getD j (0, 0)).1 ∧ ((opF P O d.1 d.2.1).getD j (0, 0)).1 < 8) ∧ 0 ≤ ((opF P O d.1 d.2.1).getD j (0, 0)).2 ∧ ((opF P O d.1 d.2.1).getD j (0, 0)).2 < 8 := fun q hq => by
        have hm : (opF P O d.1 d.2.1).getD q (0, 0) ∈ opF P O d.1 d.2.1 := by rw [List.getD_eq_getElem?_getD, List.getElem?_eq_getElem hq]; exact List.getElem_mem hq
        have := covL_in (List.mem_filter.1 hm).1
        omega
      have hob : markA O true (opF P O d.1 d.2.1) = openBy O (covL P.wide P.high d.1 d.2.1) := (markA_true _ _).trans (openBy_filter _ _)
      have hcb : markA (openBy O (covL P.wide P.high d.1 d.2.1)) false (opF P O d.1 d.2.1) = O := by rw [← openBy_filter O (covL P.wide P.high d.1 d.2.1)]; exact markA_back _ _
      generalize hOF : opF P O d.1 d.2.1 = M at *
      simp only [go_sem, Nat.reduceBEq, Nat.reduceLT, Nat.reduceLeDiff, Nat.reduceAdd, Nat.reduceMul, Nat.reduceSub, Nat.reduceMod, Nat.reduceDiv, Nat.reduceEqDiff, Int.reduceToNat, reduceIte, reduceCtorEq, Int.reduceLE, Int.reduceLT, Int.reduceEq, Int.reduceNeg, Int.reduceAdd, Int.reduceSub, Int.reduceMul, hpos]
      refine T_draw hti _ _ (by kernel_rfl) (by kernel_rfl) ?_
      simp only [go_sem, Nat.reduceBEq, Nat.reduceLT, Nat.reduceLeDiff, Nat.reduceAdd, Nat.reduceMul, Nat.reduceSub, Nat.reduceMod, Nat.reduceDiv, Nat.reduceEqDiff, Int.reduceToNat, reduceIte, reduceCtorEq, Int.reduceLE, Int.reduceLT, Int.reduceEq, Int.reduceNeg, Int.reduceAdd, Int.reduceSub, Int.reduceMul, hgq, hgn]
      by_cases htm : tq = most
      · subst htm
        rw [goL_stop] at hres
        subst hres
        simp only [go_sem, Nat.reduceBEq, Nat.reduceLT, Nat.reduceLeDiff, Nat.reduceAdd, Nat.reduceMul, Nat.reduceSub, Nat.reduceMod, Nat.reduceDiv, Nat.reduceEqDiff, Int.reduceToNat, reduceIte, reduceCtorEq, Int.reduceLE, Int.reduceLT, Int.reduceEq, Int.reduceNeg, Int.reduceAdd, Int.reduceSub, Int.reduceMul, hgq, hgn]
        exact fun hok' => hK _ _ O Vq (by omega) hok' (fun j hj h1 h2 t ht => by simp only [go_sem, Nat.reduceBEq, Nat.reduceLT, Nat.reduceLeDiff, Nat.reduceAdd, Nat.reduceMul, Nat.reduceSub, Nat.reduceMod, Nat.reduceDiv, Nat.reduceEqDiff, Int.reduceToNat, reduceIte, reduceCtorEq, Int.reduceLE, Int.reduceLT, Int.reduceEq, Int.reduceNeg, Int.reduceAdd, Int.reduceSub, Int.reduceMul, hget_hset, show (g = j) = False from eq_false (Ne.symm h1), hbq j hj h1 h2 t ht, show (j < nq) = True from eq_true (by omega)]) hnm (SV.lt_mono (by omega) _ hltq) (by first | (simp only [go_sem, Nat.reduceBEq, Nat.reduceLT, Nat.reduceLeDiff, Nat.reduceAdd, Nat.reduceMul, Nat.reduceSub, Nat.reduceMod, Nat.reduceDiv, Nat.reduceEqDiff, Int.reduceToNat, reduceIte, reduceCtorEq, Int.reduceLE, Int.reduceLT, Int.reduceEq, Int.reduceNeg, Int.reduceAdd, Int.reduceSub, Int.reduceMul, hgq, hgn]; done) | (simp only [go_sem, Nat.reduceBEq, Nat.reduceLT, Nat.reduceLeDiff, Nat.reduceAdd, Nat.reduceMul, Nat.reduceSub, Nat.reduceMod, Nat.reduceDiv, Nat.reduceEqDiff, Int.reduceToNat, reduceIte, reduceCtorEq, Int.reduceLE, Int.reduceLT, Int.reduceEq, Int.reduceNeg, Int.reduceAdd, Int.reduceSub, Int.reduceMul, hgq, hgn]; rfl)) (fun X hX => by cases hX) (fun _ h => by cases h)
      generalize hOO : openBy O (covL P.wide P.high d.1 d.2.1) = O' at *
      simp only [go_sem, Nat.reduceBEq, Nat.reduceLT, Nat.reduceLeDiff, Nat.reduceAdd, Nat.reduceMul, Nat.reduceSub, Nat.reduceMod, Nat.reduceDiv, Nat.reduceEqDiff, Int.reduceToNat, reduceIte, reduceCtorEq, Int.reduceLE, Int.reduceLT, Int.reduceEq, Int.reduceNeg, Int.reduceAdd, Int.reduceSub, Int.reduceMul, hgq, hgn, w64 (n := (tq : Int) + 1) (by omega), show ¬ ((tq : Int) = (most : Int)) by omega]
      have hgg : ∀ t, hget (hset hq g t) g = some t := hget_hset_self hgq
      refine callA_false (mark8_E _ _ _ ip g (nq + 1) cap4 O Vq ((tq : Int) + 1) most false true M ⟨M.length * 2, spotsC M, true, none⟩ (by omega) (SV.lt_mono (by omega) _ hltq) (by first | (simp only [go_sem, Nat.reduceBEq, Nat.reduceLT, Nat.reduceLeDiff, Nat.reduceAdd, Nat.reduceMul, Nat.reduceSub, Nat.reduceMod, Nat.reduceDiv, Nat.reduceEqDiff, Int.reduceToNat, reduceIte, reduceCtorEq, Int.reduceLE, Int.reduceLT, Int.reduceEq, Int.reduceNeg, Int.reduceAdd, Int.reduceSub, Int.reduceMul, hgg, hgn]; done) | (simp only [go_sem, Nat.reduceBEq, Nat.reduceLT, Nat.reduceLeDiff, Nat.reduceAdd, Nat.reduceMul, Nat.reduceSub, Nat.reduceMod, Nat.reduceDiv, Nat.reduceEqDiff, Int.reduceToNat, reduceIte, reduceCtorEq, Int.reduceLE, Int.reduceLT, Int.reduceEq, Int.reduceNeg, Int.reduceAdd, Int.reduceSub, Int.reduceMul, hgg, hgn]; rfl)) (by omega) (by first | (simp only [go_sem, Nat.reduceBEq, Nat.reduceLT, Nat.reduceLeDiff, Nat.reduceAdd, Nat.reduceMul, Nat.reduceSub, Nat.reduceMod, Nat.reduceDiv, Nat.reduceEqDiff, Int.reduceToNat, reduceIte, reduceCtorEq, Int.reduceLE, Int.reduceLT, Int.reduceEq, Int.reduceNeg, Int.reduceAdd, Int.reduceSub, Int.reduceMul]; done) | (simp only [go_sem, Nat.reduceBEq, Nat.reduceLT, Nat.reduceLeDiff, Nat.reduceAdd, Nat.reduceMul, Nat.reduceSub, Nat.reduceMod, Nat.reduceDiv, Nat.reduceEqDiff, Int.reduceToNat, reduceIte, reduceCtorEq, Int.reduceLE, Int.reduceLT, Int.reduceEq, Int.reduceNeg, Int.reduceAdd, Int.reduceSub, Int.reduceMul]; rfl)) (by omega) (by omega) ⟨Nat.le_refl _, fun _ _ => rfl⟩ (by omega) hopin _ ?_)
      rw [hob]
      have hnd : ∀ j capV, Vq = .sl j 0 so.length capV → n ≠ j ∧ ip ≠ j ∧ nq ≠ j ∧ nq + 1 ≠ j ∧ nq + 2 ≠ j := fun j capV e => by
        subst e
        have h1 : n ≠ j := fun e => hVq.not hlq rfl _ _ _ (by rw [e])
        have h2 : ip ≠ j := fun e => hVq.not hpq rfl _ _ _ (by rw [e])
        have h3 : j < nq := hltq
        exact ⟨h1, h2, by omega, by omega, by omega⟩
      have hso100 : so.length ≤ 100 := by omega
      rcases hVq with ⟨rfl, rfl⟩ | ⟨jv, capV, sV, rfl, hj1, hj2, hj3, hj4, hj5, hj6, hj7, hj8, hj9⟩
      · have hsol : ([d] : List Dr).length = 1 := rfl
        have hgp : ∀ t, hget (hset hq g t) ip = some (pcS P) := fun t => by rw [hget_hset, if_neg (Ne.symm hip)]; exact hpq
        have hip' : True := trivial
        have hnew : ∀ (c' : Nat → SV) (z : Nat), (∀ k, k < 3 → c' k = cl [.int .i8 d.1, .int .i8 d.2.1, .int .u8 d.2.2] k) → z < ([d] : List Dr).length * 3 → news c' 0 z = dropsC [d] z := fun c' z hc hz => by
          have := both_drop [] d c' (hc 0 (by omega)) (hc 1 (by omega)) (hc 2 (by omega)) hz
          unfold both at this
          rw [if_neg (by simp)] at this
          simpa using this
        simp only [go_sem, Nat.reduceBEq, Nat.reduceLT, Nat.reduceLeDiff, Nat.reduceAdd, Nat.reduceMul, Nat.reduceSub, Nat.reduceMod, Nat.reduceDiv, Nat.reduceEqDiff, Int.reduceToNat, reduceIte, reduceCtorEq, Int.reduceLE, Int.reduceLT, Int.reduceEq, Int.reduceNeg, Int.reduceAdd, Int.reduceSub, Int.reduceMul, hset_hset, hgn]
        refine T_drawG hti 11 [7, 10] (.b 0 0 (.b 0 1 (.b 0 2 (.b 0 3 (.b 0 4 (.b 0 5 (.b 2 6 (.b 4 7 (.b 0 8 (.b 0 9 (.b 4 10 (.f) .o) .o) .o) .o) .o) .o) .o) .o) .o) .o) .o) _ _ (by kernel_rfl) (by kernel_rfl) ?_
        simp only [go_sem, Nat.reduceBEq, Nat.reduceLT, Nat.reduceLeDiff, Nat.reduceAdd, Nat.reduceMul, Nat.reduceSub, Nat.reduceMod, Nat.reduceDiv, Nat.reduceEqDiff, Int.reduceToNat, reduceIte, reduceCtorEq, Int.reduceLE, Int.reduceLT, Int.reduceEq, Int.reduceNeg, Int.reduceAdd, Int.reduceSub, Int.reduceMul, hgg, hgn]
        intro cap' h3 h4
        simp only [go_sem, Nat.reduceBEq, Nat.reduceLT, Nat.reduceLeDiff, Nat.reduceAdd, Nat.reduceMul, Nat.reduceSub, Nat.reduceMod, Nat.reduceDiv, Nat.reduceEqDiff, Int.reduceToNat, reduceIte, reduceCtorEq, Int.reduceLE, Int.reduceLT, Int.reduceEq, Int.reduceNeg, Int.reduceAdd, Int.reduceSub, Int.reduceMul, hgg, hgn, Int.add_sub_cancel, w64 (n := (m : Int)) (by omega)]

        refine callA_false (ih _ _ _ g ip O' (.sl (nq + 3) 0 1 cap') (tq + 1) ([d]) (by first | (simp only [go_sem, Nat.reduceBEq, Nat.reduceLT, Nat.reduceLeDiff, Nat.reduceAdd, Nat.reduceMul, Nat.reduceSub, Nat.reduceMod, Nat.reduceDiv, Nat.reduceEqDiff, Int.reduceToNat, reduceIte, reduceCtorEq, Int.reduceLE, Int.reduceLT, Int.reduceEq, Int.reduceNeg, Int.reduceAdd, Int.reduceSub, Int.reduceMul, hgg, hgn, Int.natCast_add, Int.natCast_one]; done) | (simp only [go_sem, Nat.reduceBEq, Nat.reduceLT, Nat.reduceLeDiff, Nat.reduceAdd, Nat.reduceMul, Nat.reduceSub, Nat.reduceMod, Nat.reduceDiv, Nat.reduceEqDiff, Int.reduceToNat, reduceIte, reduceCtorEq, Int.reduceLE, Int.reduceLT, Int.reduceEq, Int.reduceNeg, Int.reduceAdd, Int.reduceSub, Int.reduceMul, hgg, hgn, Int.natCast_add, Int.natCast_one]; rfl)) (by omega) (by first | (simp only [go_sem, Nat.reduceBEq, Nat.reduceLT, Nat.reduceLeDiff, Nat.reduceAdd, Nat.reduceMul, Nat.reduceSub, Nat.reduceMod, Nat.reduceDiv, Nat.reduceEqDiff, Int.reduceToNat, reduceIte, reduceCtorEq, Int.reduceLE, Int.reduceLT, Int.reduceEq, Int.reduceNeg, Int.reduceAdd, Int.reduceSub, Int.reduceMul, hip', hgp, hipn]; done) | (simp only [go_sem, Nat.reduceBEq, Nat.reduceLT, Nat.reduceLeDiff, Nat.reduceAdd, Nat.reduceMul, Nat.reduceSub, Nat.reduceMod, Nat.reduceDiv, Nat.reduceEqDiff, Int.reduceToNat, reduceIte, reduceCtorEq, Int.reduceLE, Int.reduceLT, Int.reduceEq, Int.reduceNeg, Int.reduceAdd, Int.reduceSub, Int.reduceMul, hip', hgp, hipn]; rfl)) (by omega) hip (.inr ⟨nq + 3, cap', _, rfl, by omega, by omega, hget_hit _ _ _, rfl, by rw [hsol]; exact h3, h4, by rw [hsol]; exact Nat.le_refl _, rfl, fun z hz => hnew _ z (fun k hk => if_pos hk) hz⟩) (show nq + 3 < nq + 4 by omega) (by rw [hsol]; omega) (by omega) _ ?_)
        intro h2 n2 O2 V2 hn2 ok2 hb2 hnm2 hl2 hg2 hX2 hN2
        have hn4 : nq + 4 ≤ n2 := hn2
        have kp : HBut2 g V n h h2 := fun j hj hg' h1 t ht => hb2 j (by show j < nq + 4; omega) hg' (notSl_sl (by omega)) t (by
          have hjq : j < nq := by omega
          have := hbq j hj hg' h1 t ht
          skip
          first | (simp only [go_sem, Nat.reduceBEq, Nat.reduceLT, Nat.reduceLeDiff, Nat.reduceAdd, Nat.reduceMul, Nat.reduceSub, Nat.reduceMod, Nat.reduceDiv, Nat.reduceEqDiff, Int.reduceToNat, reduceIte, reduceCtorEq, Int.reduceLE, Int.reduceLT, Int.reduceEq, Int.reduceNeg, Int.reduceAdd, Int.reduceSub, Int.reduceMul, hjq, this, hget_hset, show (g = j) = False from eq_false (Ne.symm hg')]; done) | (simp only [go_sem, Nat.reduceBEq, Nat.reduceLT, Nat.reduceLeDiff, Nat.reduceAdd, Nat.reduceMul, Nat.reduceSub, Nat.reduceMod, Nat.reduceDiv, Nat.reduceEqDiff, Int.reduceToNat, reduceIte, reduceCtorEq, Int.reduceLE, Int.reduceLT, Int.reduceEq, Int.reduceNeg, Int.reduceAdd, Int.reduceSub, Int.reduceMul, hjq, this, hget_hset, show (g = j) = False from eq_false (Ne.symm hg')]; rfl))
        have kn : ∀ i, i < n → notSl V i → notSl V2 i := fun i hi _ => hnm2 i (by omega) (notSl_sl (by omega))
        have kl : hget h2 n = some ⟨L.length * 3, dropsC L, true, none⟩ := hb2 n (by omega) (by omega) (notSl_sl (by omega)) _ (by
          first | (simp only [go_sem, Nat.reduceBEq, Nat.reduceLT, Nat.reduceLeDiff, Nat.reduceAdd, Nat.reduceMul, Nat.reduceSub, Nat.reduceMod, Nat.reduceDiv, Nat.reduceEqDiff, Int.reduceToNat, reduceIte, reduceCtorEq, Int.reduceLE, Int.reduceLT, Int.reduceEq, Int.reduceNeg, Int.reduceAdd, Int.reduceSub, Int.reduceMul, hnn, hlq, hget_hset, show (g = n) = False from eq_false (by omega)]; done) | (simp only [go_sem, Nat.reduceBEq, Nat.reduceLT, Nat.reduceLeDiff, Nat.reduceAdd, Nat.reduceMul, Nat.reduceSub, Nat.reduceMod, Nat.reduceDiv, Nat.reduceEqDiff, Int.reduceToNat, reduceIte, reduceCtorEq, Int.reduceLE, Int.reduceLT, Int.reduceEq, Int.reduceNeg, Int.reduceAdd, Int.reduceSub, Int.reduceMul, hnn, hlq, hget_hset, show (g = n) = False from eq_false (by omega)]; rfl))
        have kM : hget h2 (nq + 1) = some ⟨M.length * 2, spotsC M, true, none⟩ := hb2 (nq + 1) (by omega) (by omega) (notSl_sl (by omega)) _ (by first | (simp only [go_sem, Nat.reduceBEq, Nat.reduceLT, Nat.reduceLeDiff, Nat.reduceAdd, Nat.reduceMul, Nat.reduceSub, Nat.reduceMod, Nat.reduceDiv, Nat.reduceEqDiff, Int.reduceToNat, reduceIte, reduceCtorEq, Int.reduceLE, Int.reduceLT, Int.reduceEq, Int.reduceNeg, Int.reduceAdd, Int.reduceSub, Int.reduceMul]; done) | (simp only [go_sem, Nat.reduceBEq, Nat.reduceLT, Nat.reduceLeDiff, Nat.reduceAdd, Nat.reduceMul, Nat.reduceSub, Nat.reduceMod, Nat.reduceDiv, Nat.reduceEqDiff, Int.reduceToNat, reduceIte, reduceCtorEq, Int.reduceLE, Int.reduceLT, Int.reduceEq, Int.reduceNeg, Int.reduceAdd, Int.reduceSub, Int.reduceMul]; rfl))
        have hg2n : g < n2 := by omega
        rcases hr : srch P W H most m O' (tq + 1) with ⟨_ | X, t', s'⟩
        · rw [hr] at hg2 hX2 hN2
          have hr' := hr
          rw [← hOO] at hr'
          cases s' with
          | true =>
            rw [goL_halt htm hr'] at hres
            subst hres
            simp only [go_sem, Nat.reduceBEq, Nat.reduceLT, Nat.reduceLeDiff, Nat.reduceAdd, Nat.reduceMul, Nat.reduceSub, Nat.reduceMod, Nat.reduceDiv, Nat.reduceEqDiff, Int.reduceToNat, reduceIte, reduceCtorEq, Int.reduceLE, Int.reduceLT, Int.reduceEq, Int.reduceNeg, Int.reduceAdd, Int.reduceSub, Int.reduceMul, hr, Option.isSome_none, hg2, hg2n]
            exact fun hok' => hK _ _ O2 V2 (by omega) hok' kp kn hl2 hg2 (fun X hX => by cases hX) (fun _ h => by cases h)
          | false =>
            rw [goL_next htm hr'] at hres
            obtain ⟨rfl, hV2⟩ := hN2 rfl rfl
            have hto := (srch_ok P W H most m O2 (tq + 1) (by omega)).1
            rw [hr] at hto
            have hto' : t' ≤ most := hto
            have kpq : hget h2 ip = some (pcS P) := kp ip hpn hip hnp _ hp
            have hV2' := hV2
            rcases hV2 with ⟨_, hnil⟩ | ⟨j2, cap2, ⟨sn2, sc2, sr2, so2⟩, rfl, u1, u2, u3, u4, u5, u6, u7, u8, u9⟩
            · simp at hnil
            simp only at u4 u7 u8 u9
            subst u4 u8
            have hsl2 : ([d]).length = 0 + 1 := by simp
            have hgg2 : ∀ t, hget (hset h2 g t) g = some t := hget_hset_self hg2
            have kM2 : ∀ t, hget (hset h2 g t) (nq + 1) = some ⟨M.length * 2, spotsC M, true, none⟩ := fun t => by rw [hget_hset, if_neg (by omega)]; exact kM
            have nq1 : nq + 1 < n2 := by omega
            have nq1' : (nq + 1 < n2) = True := eq_true nq1
            rw [hsl2] at u5 u7 u9 hg2
            have hg3 : hget h2 g = some (plS ip O2 (.sl j2 0 (0 + 1) cap2) t' most false) := hg2
            simp only [go_sem, Nat.reduceBEq, Nat.reduceLT, Nat.reduceLeDiff, Nat.reduceAdd, Nat.reduceMul, Nat.reduceSub, Nat.reduceMod, Nat.reduceDiv, Nat.reduceEqDiff, Int.reduceToNat, reduceIte, reduceCtorEq, Int.reduceLE, Int.reduceLT, Int.reduceEq, Int.reduceNeg, Int.reduceAdd, Int.reduceSub, Int.reduceMul, hr, Option.isSome_none, hg2, hg2n, hsl2]
            refine callA_false (mark8_E _ _ _ ip g (nq + 1) cap4 O2 (.sl j2 0 (0 + 1) cap2) t' most false false M ⟨M.length * 2, spotsC M, true, none⟩ (by omega) u1 hg3 (by omega) kM (by omega) (by omega) ⟨Nat.le_refl _, fun _ _ => rfl⟩ (by omega) hopin _ ?_)
            rw [hcb]
            simp only [go_sem, Nat.reduceBEq, Nat.reduceLT, Nat.reduceLeDiff, Nat.reduceAdd, Nat.reduceMul, Nat.reduceSub, Nat.reduceMod, Nat.reduceDiv, Nat.reduceEqDiff, Int.reduceToNat, reduceIte, reduceCtorEq, Int.reduceLE, Int.reduceLT, Int.reduceEq, Int.reduceNeg, Int.reduceAdd, Int.reduceSub, Int.reduceMul]
            refine T_drawT hti 14 _ _ (by kernel_rfl) (by kernel_rfl) ?_
            simp only [go_sem, Nat.reduceBEq, Nat.reduceLT, Nat.reduceLeDiff, Nat.reduceAdd, Nat.reduceMul, Nat.reduceSub, Nat.reduceMod, Nat.reduceDiv, Nat.reduceEqDiff, Int.reduceToNat, reduceIte, reduceCtorEq, Int.reduceLE, Int.reduceLT, Int.reduceEq, Int.reduceNeg, Int.reduceAdd, Int.reduceSub, Int.reduceMul, hgg2, hg2n, hset_hset, Int.natCast_add, Int.natCast_one, Int.add_sub_cancel, w64 (n := ((0 : Nat) : Int)) (by omega), w64 (n := (0 : Int)) (by omega)]
            refine ⟨by first | omega | exact ⟨by omega, by omega⟩, ?_⟩
            simp only [ite_self, Nat.sub_zero]
            have okx : HOk n2 (hset h2 g (plS ip O (.sl j2 0 0 cap2) t' most false)) := HOk.hset ok2 fun k hk => plC_lt _ _ _ _ (by omega) (show SV.lt n2 (.sl j2 0 0 cap2) from u1) _
            have Iv : TryI P W H most (srch P W H most m) h n g ip O V ([] : List Dr) R0 (q + 1) t' (hset h2 g (plS ip O (.sl j2 0 0 cap2) t' most false)) n2 (.sl j2 0 0 cap2) :=
              ⟨by rw [hLg]; exact hqL', hto', by omega, okx, hgg2 _, by rw [hLg, hget_hset, if_neg (by omega)]; exact kl,
                .inr ⟨j2, cap2, _, rfl, u1, u2, by rw [hget_hset, if_neg (by omega)]; exact u3, rfl, by show 0 ≤ cap2; omega, u6, by show 0 * 3 ≤ sn2; omega, rfl, fun z hz => (u9 z (by have hz : z < 0 * 3 := hz; omega)).trans (dropsC_take (a := ([] : List Dr)) (b := [d]) hz)⟩,
                u1, fun j hj hg' h1 t ht => by rw [hget_hset, if_neg (Ne.symm hg')]; exact kp j hj hg' h1 t ht, fun i hi h => notSl_sl fun e => by subst e; exact absurd rfl (kn _ hi h _ _ _), by rw [hLg]; exact hres⟩
            refine ⟨⟨((q + 1, t'), _, n2, _), Iv⟩, by show L.length - (q + 1) < L.length - q; omega, ?_⟩
            refine Imp.id (by show n ≤ n2; omega) ?_ (impH.base0 okx (Nat.le_refl _) HExt.rfl)
            simp only [go_sem, Nat.reduceBEq, Nat.reduceLT, Nat.reduceLeDiff, Nat.reduceAdd, Nat.reduceMul, Nat.reduceSub, Nat.reduceMod, Nat.reduceDiv, Nat.reduceEqDiff, Int.reduceToNat, reduceIte, reduceCtorEq, Int.reduceLE, Int.reduceLT, Int.reduceEq, Int.reduceNeg, Int.reduceAdd, Int.reduceSub, Int.reduceMul, w64 (n := (q : Int) + 1) (by omega), Int.natCast_add, Int.natCast_one]
            (repeat' apply And.intro) <;> first | omega | rfl | trivial | assumption | skip
        · rw [hr] at hg2 hX2 hN2
          have hr' := hr
          rw [← hOO] at hr'
          rw [goL_some htm hr'] at hres
          subst hres
          simp only [go_sem, Nat.reduceBEq, Nat.reduceLT, Nat.reduceLeDiff, Nat.reduceAdd, Nat.reduceMul, Nat.reduceSub, Nat.reduceMod, Nat.reduceDiv, Nat.reduceEqDiff, Int.reduceToNat, reduceIte, reduceCtorEq, Int.reduceLE, Int.reduceLT, Int.reduceEq, Int.reduceNeg, Int.reduceAdd, Int.reduceSub, Int.reduceMul, hr, Option.isSome_some, hg2, hg2n]
          exact fun hok' => hK _ _ O2 V2 (by omega) hok' kp kn hl2 hg2 (fun Y hY => by
            cases hY
            have := hX2 X rfl
            exact this) (fun h => by cases h)

      · obtain ⟨sn, sc, sr, sow⟩ := sV
        simp only at hj4 hj7 hj8 hj9
        subst hj4 hj8
        replace hnd := hnd jv capV rfl
        have hsol : so.length + 1 = (so ++ [d]).length := by rw [List.length_append, List.length_singleton]
        have hgv : ∀ t, hget (hset hq g t) jv = some ⟨sn, sc, true, some (44, capV * 3)⟩ := fun t => by rw [hget_hset, if_neg (Ne.symm hj2)]; exact hj3
        have hgd : ∀ t, hget (hdel (hset hq g t) jv) g = some t := fun t => by rw [hget_hdel, if_neg hj2]; exact hgg t
        have hgd' : ∀ t u, hget (hset (hdel (hset hq g t) jv) g u) g = some u := fun t u => hget_hset_self (hgd t) u
        have hgp : ∀ t u, hget (hset (hdel (hset hq g t) jv) g u) ip = some (pcS P) := fun t u => by rw [hget_hset, if_neg (Ne.symm hip), hget_hdel, if_neg (Ne.symm hnd.2.1), hget_hset, if_neg (Ne.symm hip)]; exact hpq
        have hip' : True := trivial
        have hnew : ∀ (c' : Nat → SV) (z : Nat), (∀ k, k < 3 → c' k = cl [.int .i8 d.1, .int .i8 d.2.1, .int .u8 d.2.2] k) → z < (so ++ [d]).length * 3 → both (so.length * 3) sc (news c' 0) z = dropsC (so ++ [d]) z := fun c' z hc hz => by
          rw [← hsol] at hz
          rw [← both_drop so d c' (hc 0 (by omega)) (hc 1 (by omega)) (hc 2 (by omega)) hz]
          unfold both
          split
          · exact hj9 z (by assumption)
          · rfl
        simp only [go_sem, Nat.reduceBEq, Nat.reduceLT, Nat.reduceLeDiff, Nat.reduceAdd, Nat.reduceMul, Nat.reduceSub, Nat.reduceMod, Nat.reduceDiv, Nat.reduceEqDiff, Int.reduceToNat, reduceIte, reduceCtorEq, Int.reduceLE, Int.reduceLT, Int.reduceEq, Int.reduceNeg, Int.reduceAdd, Int.reduceSub, Int.reduceMul, hset_hset, hgn]
        refine T_drawG hti 11 [7, 10] (.b 0 0 (.b 0 1 (.b 0 2 (.b 0 3 (.b 0 4 (.b 0 5 (.b 2 6 (.b 4 7 (.b 0 8 (.b 0 9 (.b 4 10 (.f) .o) .o) .o) .o) .o) .o) .o) .o) .o) .o) .o) _ _ (by kernel_rfl) (by kernel_rfl) ?_
        simp only [go_sem, Nat.reduceBEq, Nat.reduceLT, Nat.reduceLeDiff, Nat.reduceAdd, Nat.reduceMul, Nat.reduceSub, Nat.reduceMod, Nat.reduceDiv, Nat.reduceEqDiff, Int.reduceToNat, reduceIte, reduceCtorEq, Int.reduceLE, Int.reduceLT, Int.reduceEq, Int.reduceNeg, Int.reduceAdd, Int.reduceSub, Int.reduceMul, hgg, hgn, hgv, hj1]
        refine ⟨⟨hj5, hj6, hj7, by omega⟩, fun cap' h3 h4 => ?_⟩
        simp only [go_sem, Nat.reduceBEq, Nat.reduceLT, Nat.reduceLeDiff, Nat.reduceAdd, Nat.reduceMul, Nat.reduceSub, Nat.reduceMod, Nat.reduceDiv, Nat.reduceEqDiff, Int.reduceToNat, reduceIte, reduceCtorEq, Int.reduceLE, Int.reduceLT, Int.reduceEq, Int.reduceNeg, Int.reduceAdd, Int.reduceSub, Int.reduceMul, hgd, hgn, Int.add_sub_cancel, w64 (n := (m : Int)) (by omega)]

        refine callA_false (ih _ _ _ g ip O' (.sl (nq + 3) 0 (so.length + 1) cap') (tq + 1) (so ++ [d]) (by first | (simp only [go_sem, Nat.reduceBEq, Nat.reduceLT, Nat.reduceLeDiff, Nat.reduceAdd, Nat.reduceMul, Nat.reduceSub, Nat.reduceMod, Nat.reduceDiv, Nat.reduceEqDiff, Int.reduceToNat, reduceIte, reduceCtorEq, Int.reduceLE, Int.reduceLT, Int.reduceEq, Int.reduceNeg, Int.reduceAdd, Int.reduceSub, Int.reduceMul, hgd, hgd', hgg, hgn, Int.natCast_add, Int.natCast_one]; done) | (simp only [go_sem, Nat.reduceBEq, Nat.reduceLT, Nat.reduceLeDiff, Nat.reduceAdd, Nat.reduceMul, Nat.reduceSub, Nat.reduceMod, Nat.reduceDiv, Nat.reduceEqDiff, Int.reduceToNat, reduceIte, reduceCtorEq, Int.reduceLE, Int.reduceLT, Int.reduceEq, Int.reduceNeg, Int.reduceAdd, Int.reduceSub, Int.reduceMul, hgd, hgd', hgg, hgn, Int.natCast_add, Int.natCast_one]; rfl)) (by omega) (by first | (simp only [go_sem, Nat.reduceBEq, Nat.reduceLT, Nat.reduceLeDiff, Nat.reduceAdd, Nat.reduceMul, Nat.reduceSub, Nat.reduceMod, Nat.reduceDiv, Nat.reduceEqDiff, Int.reduceToNat, reduceIte, reduceCtorEq, Int.reduceLE, Int.reduceLT, Int.reduceEq, Int.reduceNeg, Int.reduceAdd, Int.reduceSub, Int.reduceMul, hgd, hgd', hip', hgp, hipn]; done) | (simp only [go_sem, Nat.reduceBEq, Nat.reduceLT, Nat.reduceLeDiff, Nat.reduceAdd, Nat.reduceMul, Nat.reduceSub, Nat.reduceMod, Nat.reduceDiv, Nat.reduceEqDiff, Int.reduceToNat, reduceIte, reduceCtorEq, Int.reduceLE, Int.reduceLT, Int.reduceEq, Int.reduceNeg, Int.reduceAdd, Int.reduceSub, Int.reduceMul, hgd, hgd', hip', hgp, hipn]; rfl)) (by omega) hip (.inr ⟨nq + 3, cap', _, by rw [hsol], by omega, by omega, hget_hit _ _ _, rfl, by rw [← hsol]; exact h3, h4, by rw [← hsol]; exact Nat.le_refl _, rfl, fun z hz => hnew _ z (fun k hk => if_pos hk) hz⟩) (show nq + 3 < nq + 4 by omega) (by rw [← hsol]; omega) (by omega) _ ?_)
        intro h2 n2 O2 V2 hn2 ok2 hb2 hnm2 hl2 hg2 hX2 hN2
        have hn4 : nq + 4 ≤ n2 := hn2
        have kp : HBut2 g V n h h2 := fun j hj hg' h1 t ht => hb2 j (by show j < nq + 4; omega) hg' (notSl_sl (by omega)) t (by
          have hjq : j < nq := by omega
          have := hbq j hj hg' h1 t ht
          have hjv : j ≠ jv := fun e => by subst e; exact absurd rfl (hnm _ hj h1 _ _ _)
          first | (simp only [go_sem, Nat.reduceBEq, Nat.reduceLT, Nat.reduceLeDiff, Nat.reduceAdd, Nat.reduceMul, Nat.reduceSub, Nat.reduceMod, Nat.reduceDiv, Nat.reduceEqDiff, Int.reduceToNat, reduceIte, reduceCtorEq, Int.reduceLE, Int.reduceLT, Int.reduceEq, Int.reduceNeg, Int.reduceAdd, Int.reduceSub, Int.reduceMul, hjq, this, hget_hset, show (g = j) = False from eq_false (Ne.symm hg'), hget_hdel, show (jv = j) = False from eq_false (Ne.symm (hjv))]; done) | (simp only [go_sem, Nat.reduceBEq, Nat.reduceLT, Nat.reduceLeDiff, Nat.reduceAdd, Nat.reduceMul, Nat.reduceSub, Nat.reduceMod, Nat.reduceDiv, Nat.reduceEqDiff, Int.reduceToNat, reduceIte, reduceCtorEq, Int.reduceLE, Int.reduceLT, Int.reduceEq, Int.reduceNeg, Int.reduceAdd, Int.reduceSub, Int.reduceMul, hjq, this, hget_hset, show (g = j) = False from eq_false (Ne.symm hg'), hget_hdel, show (jv = j) = False from eq_false (Ne.symm (hjv))]; rfl))
        have kn : ∀ i, i < n → notSl V i → notSl V2 i := fun i hi _ => hnm2 i (by omega) (notSl_sl (by omega))
        have kl : hget h2 n = some ⟨L.length * 3, dropsC L, true, none⟩ := hb2 n (by omega) (by omega) (notSl_sl (by omega)) _ (by
          first | (simp only [go_sem, Nat.reduceBEq, Nat.reduceLT, Nat.reduceLeDiff, Nat.reduceAdd, Nat.reduceMul, Nat.reduceSub, Nat.reduceMod, Nat.reduceDiv, Nat.reduceEqDiff, Int.reduceToNat, reduceIte, reduceCtorEq, Int.reduceLE, Int.reduceLT, Int.reduceEq, Int.reduceNeg, Int.reduceAdd, Int.reduceSub, Int.reduceMul, hnn, hlq, hget_hset, show (g = n) = False from eq_false (by omega), hget_hdel, show (jv = n) = False from eq_false (Ne.symm hnd.1)]; done) | (simp only [go_sem, Nat.reduceBEq, Nat.reduceLT, Nat.reduceLeDiff, Nat.reduceAdd, Nat.reduceMul, Nat.reduceSub, Nat.reduceMod, Nat.reduceDiv, Nat.reduceEqDiff, Int.reduceToNat, reduceIte, reduceCtorEq, Int.reduceLE, Int.reduceLT, Int.reduceEq, Int.reduceNeg, Int.reduceAdd, Int.reduceSub, Int.reduceMul, hnn, hlq, hget_hset, show (g = n) = False from eq_false (by omega), hget_hdel, show (jv = n) = False from eq_false (Ne.symm hnd.1)]; rfl))
        have kM : hget h2 (nq + 1) = some ⟨M.length * 2, spotsC M, true, none⟩ := hb2 (nq + 1) (by omega) (by omega) (notSl_sl (by omega)) _ (by first | (simp only [go_sem, Nat.reduceBEq, Nat.reduceLT, Nat.reduceLeDiff, Nat.reduceAdd, Nat.reduceMul, Nat.reduceSub, Nat.reduceMod, Nat.reduceDiv, Nat.reduceEqDiff, Int.reduceToNat, reduceIte, reduceCtorEq, Int.reduceLE, Int.reduceLT, Int.reduceEq, Int.reduceNeg, Int.reduceAdd, Int.reduceSub, Int.reduceMul]; done) | (simp only [go_sem, Nat.reduceBEq, Nat.reduceLT, Nat.reduceLeDiff, Nat.reduceAdd, Nat.reduceMul, Nat.reduceSub, Nat.reduceMod, Nat.reduceDiv, Nat.reduceEqDiff, Int.reduceToNat, reduceIte, reduceCtorEq, Int.reduceLE, Int.reduceLT, Int.reduceEq, Int.reduceNeg, Int.reduceAdd, Int.reduceSub, Int.reduceMul]; rfl))
        have hg2n : g < n2 := by omega
        rcases hr : srch P W H most m O' (tq + 1) with ⟨_ | X, t', s'⟩
        · rw [hr] at hg2 hX2 hN2
          have hr' := hr
          rw [← hOO] at hr'
          cases s' with
          | true =>
            rw [goL_halt htm hr'] at hres
            subst hres
            simp only [go_sem, Nat.reduceBEq, Nat.reduceLT, Nat.reduceLeDiff, Nat.reduceAdd, Nat.reduceMul, Nat.reduceSub, Nat.reduceMod, Nat.reduceDiv, Nat.reduceEqDiff, Int.reduceToNat, reduceIte, reduceCtorEq, Int.reduceLE, Int.reduceLT, Int.reduceEq, Int.reduceNeg, Int.reduceAdd, Int.reduceSub, Int.reduceMul, hr, Option.isSome_none, hg2, hg2n]
            exact fun hok' => hK _ _ O2 V2 (by omega) hok' kp kn hl2 hg2 (fun X hX => by cases hX) (fun _ h => by cases h)
          | false =>
            rw [goL_next htm hr'] at hres
            obtain ⟨rfl, hV2⟩ := hN2 rfl rfl
            have hto := (srch_ok P W H most m O2 (tq + 1) (by omega)).1
            rw [hr] at hto
            have hto' : t' ≤ most := hto
            have kpq : hget h2 ip = some (pcS P) := kp ip hpn hip hnp _ hp
            have hV2' := hV2
            rcases hV2 with ⟨_, hnil⟩ | ⟨j2, cap2, ⟨sn2, sc2, sr2, so2⟩, rfl, u1, u2, u3, u4, u5, u6, u7, u8, u9⟩
            · simp at hnil
            simp only at u4 u7 u8 u9
            subst u4 u8
            have hsl2 : (so ++ [d]).length = so.length + 1 := by simp
            have hgg2 : ∀ t, hget (hset h2 g t) g = some t := hget_hset_self hg2
            have kM2 : ∀ t, hget (hset h2 g t) (nq + 1) = some ⟨M.length * 2, spotsC M, true, none⟩ := fun t => by rw [hget_hset, if_neg (by omega)]; exact kM
            have nq1 : nq + 1 < n2 := by omega
            have nq1' : (nq + 1 < n2) = True := eq_true nq1
            rw [hsl2] at u5 u7 u9 hg2
            have hg3 : hget h2 g = some (plS ip O2 (.sl j2 0 (so.length + 1) cap2) t' most false) := hg2
            simp only [go_sem, Nat.reduceBEq, Nat.reduceLT, Nat.reduceLeDiff, Nat.reduceAdd, Nat.reduceMul, Nat.reduceSub, Nat.reduceMod, Nat.reduceDiv, Nat.reduceEqDiff, Int.reduceToNat, reduceIte, reduceCtorEq, Int.reduceLE, Int.reduceLT, Int.reduceEq, Int.reduceNeg, Int.reduceAdd, Int.reduceSub, Int.reduceMul, hr, Option.isSome_none, hg2, hg2n, hsl2]
            refine callA_false (mark8_E _ _ _ ip g (nq + 1) cap4 O2 (.sl j2 0 (so.length + 1) cap2) t' most false false M ⟨M.length * 2, spotsC M, true, none⟩ (by omega) u1 hg3 (by omega) kM (by omega) (by omega) ⟨Nat.le_refl _, fun _ _ => rfl⟩ (by omega) hopin _ ?_)
            rw [hcb]
            simp only [go_sem, Nat.reduceBEq, Nat.reduceLT, Nat.reduceLeDiff, Nat.reduceAdd, Nat.reduceMul, Nat.reduceSub, Nat.reduceMod, Nat.reduceDiv, Nat.reduceEqDiff, Int.reduceToNat, reduceIte, reduceCtorEq, Int.reduceLE, Int.reduceLT, Int.reduceEq, Int.reduceNeg, Int.reduceAdd, Int.reduceSub, Int.reduceMul]
            refine T_drawT hti 14 _ _ (by kernel_rfl) (by kernel_rfl) ?_
            simp only [go_sem, Nat.reduceBEq, Nat.reduceLT, Nat.reduceLeDiff, Nat.reduceAdd, Nat.reduceMul, Nat.reduceSub, Nat.reduceMod, Nat.reduceDiv, Nat.reduceEqDiff, Int.reduceToNat, reduceIte, reduceCtorEq, Int.reduceLE, Int.reduceLT, Int.reduceEq, Int.reduceNeg, Int.reduceAdd, Int.reduceSub, Int.reduceMul, hgg2, hg2n, hset_hset, Int.natCast_add, Int.natCast_one, Int.add_sub_cancel, w64 (n := ((so.length : Nat) : Int)) (by omega), w64 (n := (0 : Int)) (by omega)]
            refine ⟨by first | omega | exact ⟨by omega, by omega⟩, ?_⟩
            simp only [ite_self, Nat.sub_zero]
            have okx : HOk n2 (hset h2 g (plS ip O (.sl j2 0 so.length cap2) t' most false)) := HOk.hset ok2 fun k hk => plC_lt _ _ _ _ (by omega) (show SV.lt n2 (.sl j2 0 so.length cap2) from u1) _
            have Iv : TryI P W H most (srch P W H most m) h n g ip O V so R0 (q + 1) t' (hset h2 g (plS ip O (.sl j2 0 so.length cap2) t' most false)) n2 (.sl j2 0 so.length cap2) :=
              ⟨by rw [hLg]; exact hqL', hto', by omega, okx, hgg2 _, by rw [hLg, hget_hset, if_neg (by omega)]; exact kl,
                .inr ⟨j2, cap2, _, rfl, u1, u2, by rw [hget_hset, if_neg (by omega)]; exact u3, rfl, by show so.length ≤ cap2; omega, u6, by show so.length * 3 ≤ sn2; omega, rfl, fun z hz => (u9 z (by have hz : z < so.length * 3 := hz; omega)).trans (dropsC_take (a := so) (b := [d]) hz)⟩,
                u1, fun j hj hg' h1 t ht => by rw [hget_hset, if_neg (Ne.symm hg')]; exact kp j hj hg' h1 t ht, fun i hi h => notSl_sl fun e => by subst e; exact absurd rfl (kn _ hi h _ _ _), by rw [hLg]; exact hres⟩
            refine ⟨⟨((q + 1, t'), _, n2, _), Iv⟩, by show L.length - (q + 1) < L.length - q; omega, ?_⟩
            refine Imp.id (by show n ≤ n2; omega) ?_ (impH.base0 okx (Nat.le_refl _) HExt.rfl)
            simp only [go_sem, Nat.reduceBEq, Nat.reduceLT, Nat.reduceLeDiff, Nat.reduceAdd, Nat.reduceMul, Nat.reduceSub, Nat.reduceMod, Nat.reduceDiv, Nat.reduceEqDiff, Int.reduceToNat, reduceIte, reduceCtorEq, Int.reduceLE, Int.reduceLT, Int.reduceEq, Int.reduceNeg, Int.reduceAdd, Int.reduceSub, Int.reduceMul, w64 (n := (q : Int) + 1) (by omega), Int.natCast_add, Int.natCast_one]
            (repeat' apply And.intro) <;> first | omega | rfl | trivial | assumption | skip
        · rw [hr] at hg2 hX2 hN2
          have hr' := hr
          rw [← hOO] at hr'
          rw [goL_some htm hr'] at hres
          subst hres
          simp only [go_sem, Nat.reduceBEq, Nat.reduceLT, Nat.reduceLeDiff, Nat.reduceAdd, Nat.reduceMul, Nat.reduceSub, Nat.reduceMod, Nat.reduceDiv, Nat.reduceEqDiff, Int.reduceToNat, reduceIte, reduceCtorEq, Int.reduceLE, Int.reduceLT, Int.reduceEq, Int.reduceNeg, Int.reduceAdd, Int.reduceSub, Int.reduceMul, hr, Option.isSome_some, hg2, hg2n]
          exact fun hok' => hK _ _ O2 V2 (by omega) hok' kp kn hl2 hg2 (fun Y hY => by
            cases hY
            have := hX2 X rfl
            rwa [List.append_assoc] at this) (fun h => by cases h)

end Go.Proofs.Ytodgbpkdanefaaa.V

/- The fewest drops: the result; the reference's walk. -/
namespace Go.Proofs.Ytodgbpkdanefaaa.V
abbrev Fr := List Dr × Int × Int
def fewL (P : Pc) (W H most : Nat) : Nat → Nat → Nat → Fr
  | 0, _, _ => ([], 0, 6)
  | k + 1, m, t => match srch P W H most m off t with
    | (some X, t', _) => (X.reverse, t', 0)
    | (none, _, true) => ([], 0, 7)
    | (none, t', false) => fewL P W H most k (m + 1) t'
theorem fewL_some {P : Pc} {W H most k m t t' : Nat} {s : Bool} {X : List Dr} (h : srch P W H most m off t = (some X, t', s)) : fewL P W H most (k + 1) m t = (X.reverse, (t' : Int), 0) := by rw [fewL, h]
theorem fewL_stop {P : Pc} {W H most k m t t' : Nat} (h : srch P W H most m off t = (none, t', true)) : fewL P W H most (k + 1) m t = ([], 0, 7) := by rw [fewL, h]
theorem fewL_next {P : Pc} {W H most k m t t' : Nat} (h : srch P W H most m off t = (none, t', false)) : fewL P W H most (k + 1) m t = fewL P W H most k (m + 1) t' := by rw [fewL, h]
theorem fewL_len (P : Pc) (W H most : Nat) : ∀ k m t, t ≤ most → k + m ≤ 9 → (fewL P W H most k m t).1.length ≤ 9
  | 0, _, _, _, _ => by simp [fewL]
  | k + 1, m, t, ht, hk => by
    have ho := srch_ok P W H most m off t ht
    rcases hr : srch P W H most m off t with ⟨_ | X, t', s⟩
    · cases s
      · rw [fewL_next hr]; rw [hr] at ho; exact fewL_len P W H most k (m + 1) t' ho.1 (by omega)
      · rw [fewL_stop hr]; simp
    · rw [fewL_some hr]; rw [hr] at ho
      have := (ho.2 X rfl).1
      simp only [List.length_reverse]; omega
noncomputable def fewR (P : Pc) (b : Int) : Fr := haveI := Classical.propDecidable
  if pcokB P then (if 0 ≤ b ∧ b ≤ 20000 then fewL P P.wide.toNat P.high.toNat b.toNat 9 0 0 else ([], 0, 2)) else ([], 0, 1)
theorem fewR_1 {P : Pc} {b : Int} (h : ¬ pcokB P = true) : fewR P b = ([], 0, 1) := by unfold fewR; rw [if_neg h]
theorem fewR_2 {P : Pc} {b : Int} (h : pcokB P = true) (hb : ¬ (0 ≤ b ∧ b ≤ 20000)) : fewR P b = ([], 0, 2) := by unfold fewR; rw [if_pos h, if_neg hb]
theorem fewR_0 {P : Pc} {b : Int} (h : pcokB P = true) (hb : 0 ≤ b ∧ b ≤ 20000) : fewR P b = fewL P P.wide.toNat P.high.toNat b.toNat 9 0 0 := by unfold fewR; rw [if_pos h, if_pos hb]
theorem fewR_len (P : Pc) (b : Int) : (fewR P b).1.length ≤ 9 := by
  by_cases h : pcokB P = true
  · by_cases hb : 0 ≤ b ∧ b ≤ 20000
    · rw [fewR_0 h hb]; exact fewL_len _ _ _ _ _ _ _ (Nat.zero_le _) (by omega)
    · rw [fewR_2 h hb]; simp
  · rw [fewR_1 h]; simp
theorem HExt.ofBut {n g : Nat} {h h1 h2 : List (Nat × Seg)} (h0 : HExt n h h1) (hb : ∀ i, i < n → i ≠ g → ∀ t, hget h1 i = some t → hget h2 i = some t) (hg : n ≤ g) : HExt n h h2 := fun i hi t ht => hb i hi (by omega) t (h0 i hi t ht)
section
variable (cx : Cx) (h : List (Nat × Seg)) (n : Nat)
set_option maxHeartbeats 1600000 in
theorem few2_E (P : Pc) (b : Int) (hR : PcR P) (K : HK)
    (hK : ∀ V h' n', n ≤ n' → HExt n h h' → HOk n' h' → DrOut h' n n' V (fewR P b).1 → K (.tup 3 (cl [V, .int .i64 (fewR P b).2.1, .int .i64 (fewR P b).2.2])) h' n') :
    CallE Try.prog cx 43 [.agg 66 (pcC P), .int .i64 b] h n K := by
  refine CallE.hokE ?_
  refine callE_of_T (P := Try.prog) hti (nt := 46) (rs := [.tmp 4, .tmp 5, .tmp 6]) rfl rfl Try.call43 Try.func43 rfl _ (by simp only [go_sem, and_self]) (Nat.le_of_ble_eq_true rfl) _ fun hok => ?_
  simp only [go_sem, Nat.reduceBEq, Nat.reduceLT, Nat.reduceLeDiff, Nat.reduceAdd, Nat.reduceMul, Nat.reduceSub, Nat.reduceMod, Nat.reduceDiv, Nat.reduceEqDiff, Int.reduceToNat, reduceIte, reduceCtorEq, Int.reduceLE, Int.reduceLT, Int.reduceEq, Int.reduceNeg, Int.reduceAdd, Int.reduceSub, Int.reduceMul]
  refine (ok7_Q _ _ _ n P (by first | (simp only [go_sem, Nat.reduceBEq, Nat.reduceLT, Nat.reduceLeDiff, Nat.reduceAdd, Nat.reduceMul, Nat.reduceSub, Nat.reduceMod, Nat.reduceDiv, Nat.reduceEqDiff, Int.reduceToNat, reduceIte, reduceCtorEq, Int.reduceLE, Int.reduceLT, Int.reduceEq, Int.reduceNeg, Int.reduceAdd, Int.reduceSub, Int.reduceMul]; done) | (simp only [go_sem, Nat.reduceBEq, Nat.reduceLT, Nat.reduceLeDiff, Nat.reduceAdd, Nat.reduceMul, Nat.reduceSub, Nat.reduceMod, Nat.reduceDiv, Nat.reduceEqDiff, Int.reduceToNat, reduceIte, reduceCtorEq, Int.reduceLE, Int.reduceLT, Int.reduceEq, Int.reduceNeg, Int.reduceAdd, Int.reduceSub, Int.reduceMul]; rfl)) (by omega) hR).A ?_
  by_cases hk : pcokB P = true
  rotate_left
  · rw [fewR_1 hk] at hK
    simp only [go_sem, Nat.reduceBEq, Nat.reduceLT, Nat.reduceLeDiff, Nat.reduceAdd, Nat.reduceMul, Nat.reduceSub, Nat.reduceMod, Nat.reduceDiv, Nat.reduceEqDiff, Int.reduceToNat, reduceIte, reduceCtorEq, Int.reduceLE, Int.reduceLT, Int.reduceEq, Int.reduceNeg, Int.reduceAdd, Int.reduceSub, Int.reduceMul, hk]
    exact fun hok' => hK _ _ _ (by omega) (by simp only [go_sem, Nat.reduceBEq, Nat.reduceLT, Nat.reduceLeDiff, Nat.reduceAdd, Nat.reduceMul, Nat.reduceSub, Nat.reduceMod, Nat.reduceDiv, Nat.reduceEqDiff, Int.reduceToNat, reduceIte, reduceCtorEq, Int.reduceLE, Int.reduceLT, Int.reduceEq, Int.reduceNeg, Int.reduceAdd, Int.reduceSub, Int.reduceMul, HExt_cons]) hok' (.inr ⟨n + 1, 0, _, rfl, by omega, by omega, (by first | (simp only [go_sem, Nat.reduceBEq, Nat.reduceLT, Nat.reduceLeDiff, Nat.reduceAdd, Nat.reduceMul, Nat.reduceSub, Nat.reduceMod, Nat.reduceDiv, Nat.reduceEqDiff, Int.reduceToNat, reduceIte, reduceCtorEq, Int.reduceLE, Int.reduceLT, Int.reduceEq, Int.reduceNeg, Int.reduceAdd, Int.reduceSub, Int.reduceMul]; done) | (simp only [go_sem, Nat.reduceBEq, Nat.reduceLT, Nat.reduceLeDiff, Nat.reduceAdd, Nat.reduceMul, Nat.reduceSub, Nat.reduceMod, Nat.reduceDiv, Nat.reduceEqDiff, Int.reduceToNat, reduceIte, reduceCtorEq, Int.reduceLE, Int.reduceLT, Int.reduceEq, Int.reduceNeg, Int.reduceAdd, Int.reduceSub, Int.reduceMul]; rfl)), rfl, rfl, fun k hk => by simp at hk⟩)
  have hP : PcOk P := by simpa [pcokB] using hk
  have hs8 := hP.1
  simp only [go_sem, Nat.reduceBEq, Nat.reduceLT, Nat.reduceLeDiff, Nat.reduceAdd, Nat.reduceMul, Nat.reduceSub, Nat.reduceMod, Nat.reduceDiv, Nat.reduceEqDiff, Int.reduceToNat, reduceIte, reduceCtorEq, Int.reduceLE, Int.reduceLT, Int.reduceEq, Int.reduceNeg, Int.reduceAdd, Int.reduceSub, Int.reduceMul, hk]
  refine (in_Q _ _ _ b 0 20000).A ?_
  by_cases hb : 0 ≤ b ∧ b ≤ 20000
  rotate_left
  · rw [fewR_2 hk hb] at hK
    simp only [go_sem, Nat.reduceBEq, Nat.reduceLT, Nat.reduceLeDiff, Nat.reduceAdd, Nat.reduceMul, Nat.reduceSub, Nat.reduceMod, Nat.reduceDiv, Nat.reduceEqDiff, Int.reduceToNat, reduceIte, reduceCtorEq, Int.reduceLE, Int.reduceLT, Int.reduceEq, Int.reduceNeg, Int.reduceAdd, Int.reduceSub, Int.reduceMul, hb]
    exact fun hok' => hK _ _ _ (by omega) (by simp only [go_sem, Nat.reduceBEq, Nat.reduceLT, Nat.reduceLeDiff, Nat.reduceAdd, Nat.reduceMul, Nat.reduceSub, Nat.reduceMod, Nat.reduceDiv, Nat.reduceEqDiff, Int.reduceToNat, reduceIte, reduceCtorEq, Int.reduceLE, Int.reduceLT, Int.reduceEq, Int.reduceNeg, Int.reduceAdd, Int.reduceSub, Int.reduceMul, HExt_cons]) hok' (.inr ⟨n + 1, 0, _, rfl, by omega, by omega, (by first | (simp only [go_sem, Nat.reduceBEq, Nat.reduceLT, Nat.reduceLeDiff, Nat.reduceAdd, Nat.reduceMul, Nat.reduceSub, Nat.reduceMod, Nat.reduceDiv, Nat.reduceEqDiff, Int.reduceToNat, reduceIte, reduceCtorEq, Int.reduceLE, Int.reduceLT, Int.reduceEq, Int.reduceNeg, Int.reduceAdd, Int.reduceSub, Int.reduceMul]; done) | (simp only [go_sem, Nat.reduceBEq, Nat.reduceLT, Nat.reduceLeDiff, Nat.reduceAdd, Nat.reduceMul, Nat.reduceSub, Nat.reduceMod, Nat.reduceDiv, Nat.reduceEqDiff, Int.reduceToNat, reduceIte, reduceCtorEq, Int.reduceLE, Int.reduceLT, Int.reduceEq, Int.reduceNeg, Int.reduceAdd, Int.reduceSub, Int.reduceMul]; rfl)), rfl, rfl, fun k hk => by simp at hk⟩)
  obtain ⟨W, hW⟩ : ∃ W : Nat, P.wide = W := ⟨P.wide.toNat, by omega⟩
  obtain ⟨H, hH⟩ : ∃ H : Nat, P.high = H := ⟨P.high.toNat, by omega⟩
  obtain ⟨B, hB⟩ : ∃ B : Nat, b = B := ⟨b.toNat, by omega⟩
  have hW8 : W ≤ 8 := by omega
  have hH8 : H ≤ 8 := by omega
  have hB2 : B ≤ 20000 := by omega
  rw [fewR_0 hk hb, show P.wide.toNat = W by omega, show P.high.toNat = H by omega, show b.toNat = B by omega] at hK
  subst hB
  simp only [go_sem, Nat.reduceBEq, Nat.reduceLT, Nat.reduceLeDiff, Nat.reduceAdd, Nat.reduceMul, Nat.reduceSub, Nat.reduceMod, Nat.reduceDiv, Nat.reduceEqDiff, Int.reduceToNat, reduceIte, reduceCtorEq, Int.reduceLE, Int.reduceLT, Int.reduceEq, Int.reduceNeg, Int.reduceAdd, Int.reduceSub, Int.reduceMul, hb]
  generalize hR0 : fewL P W H B 9 0 0 = R0 at hK
  have o64 : ones (.agg 64 zz_a010c9) = True := eq_true fun j hj => trivial
  have hsg0 : HOk (n + 2) ((n + 1, sgS n B 0 false) :: (n, pcS P) :: h) := fun i t hi => by
    simp only [hget] at hi
    by_cases e : n + 1 = i
    · rw [if_pos e] at hi; cases hi
      exact ⟨by omega, fun k hk => sg_lt (by omega) k hk⟩
    · rw [if_neg e] at hi
      obtain ⟨g1, g2⟩ := (hok.consF (s := pcS P) fun k _ => pcC_flat _ _) i t (by simp only [hget]; exact hi)
      exact ⟨by omega, fun k hk => SV.lt_mono (by omega) _ (g2 k hk)⟩
  refine T_lp (ι := { q : (Nat × Nat) × List (Nat × Seg) × Nat // (q.1.1 ≤ 9 ∧ q.1.2 ≤ B) ∧ n + 2 ≤ q.2.2 ∧ HOk q.2.2 q.2.1 ∧ hget q.2.1 n = some (pcS P) ∧ hget q.2.1 (n + 1) = some (sgS n B q.1.2 false) ∧ HExt n h q.2.1 ∧ fewL P W H B (9 - q.1.1) q.1.1 q.1.2 = R0 })
    (fun q => ([(7, .ptr (n + 1) 0), (8, .int .i64 q.1.1.1)], q.1.2.1, q.1.2.2)) (fun q => 9 - q.1.1.1) ⟨((0, 0), (n + 1, sgS n B 0 false) :: (n, pcS P) :: h, n + 2), ⟨Nat.zero_le 9, Nat.zero_le B⟩, Nat.le_refl _, hsg0, (by first | (simp only [go_sem, Nat.reduceBEq, Nat.reduceLT, Nat.reduceLeDiff, Nat.reduceAdd, Nat.reduceMul, Nat.reduceSub, Nat.reduceMod, Nat.reduceDiv, Nat.reduceEqDiff, Int.reduceToNat, reduceIte, reduceCtorEq, Int.reduceLE, Int.reduceLT, Int.reduceEq, Int.reduceNeg, Int.reduceAdd, Int.reduceSub, Int.reduceMul]; done) | (simp only [go_sem, Nat.reduceBEq, Nat.reduceLT, Nat.reduceLeDiff, Nat.reduceAdd, Nat.reduceMul, Nat.reduceSub, Nat.reduceMod, Nat.reduceDiv, Nat.reduceEqDiff, Int.reduceToNat, reduceIte, reduceCtorEq, Int.reduceLE, Int.reduceLT, Int.reduceEq, Int.reduceNeg, Int.reduceAdd, Int.reduceSub, Int.reduceMul]; rfl)), hget_hit _ _ _, by simp only [go_sem, Nat.reduceBEq, Nat.reduceLT, Nat.reduceLeDiff, Nat.reduceAdd, Nat.reduceMul, Nat.reduceSub, Nat.reduceMod, Nat.reduceDiv, Nat.reduceEqDiff, Int.reduceToNat, reduceIte, reduceCtorEq, Int.reduceLE, Int.reduceLT, Int.reduceEq, Int.reduceNeg, Int.reduceAdd, Int.reduceSub, Int.reduceMul, HExt_cons], hR0⟩ ?_ ?_
  · refine Imp.id (by simp) ?_ ?_
    · simp only [go_sem, Nat.reduceBEq, Nat.reduceLT, Nat.reduceLeDiff, Nat.reduceAdd, Nat.reduceMul, Nat.reduceSub, Nat.reduceMod, Nat.reduceDiv, Nat.reduceEqDiff, Int.reduceToNat, reduceIte, reduceCtorEq, Int.reduceLE, Int.reduceLT, Int.reduceEq, Int.reduceNeg, Int.reduceAdd, Int.reduceSub, Int.reduceMul]
      (repeat' apply And.intro) <;> first | omega | rfl | trivial | assumption | skip
    · exact impH.cons0 (hget_hit _ _ _) (by simp) (sg_le (n' := n + 2) rfl rfl rfl rfl rfl rfl rfl (by omega)) (impH.cons0 (by first | (simp only [go_sem, Nat.reduceBEq, Nat.reduceLT, Nat.reduceLeDiff, Nat.reduceAdd, Nat.reduceMul, Nat.reduceSub, Nat.reduceMod, Nat.reduceDiv, Nat.reduceEqDiff, Int.reduceToNat, reduceIte, reduceCtorEq, Int.reduceLE, Int.reduceLT, Int.reduceEq, Int.reduceNeg, Int.reduceAdd, Int.reduceSub, Int.reduceMul]; done) | (simp only [go_sem, Nat.reduceBEq, Nat.reduceLT, Nat.reduceLeDiff, Nat.reduceAdd, Nat.reduceMul, Nat.reduceSub, Nat.reduceMod, Nat.reduceDiv, Nat.reduceEqDiff, Int.reduceToNat, reduceIte, reduceCtorEq, Int.reduceLE, Int.reduceLT, Int.reduceEq, Int.reduceNeg, Int.reduceAdd, Int.reduceSub, Int.reduceMul]; rfl)) (by simp) (SegLe.flat (Nat.le_refl _) id (.inr rfl) fun k hk => ⟨rfl, pcC_flat _ _⟩) (impH.base0 hok (by simp) (by simp only [go_sem, Nat.reduceBEq, Nat.reduceLT, Nat.reduceLeDiff, Nat.reduceAdd, Nat.reduceMul, Nat.reduceSub, Nat.reduceMod, Nat.reduceDiv, Nat.reduceEqDiff, Int.reduceToNat, reduceIte, reduceCtorEq, Int.reduceLE, Int.reduceLT, Int.reduceEq, Int.reduceNeg, Int.reduceAdd, Int.reduceSub, Int.reduceMul, HExt_cons])))
  · rintro ⟨⟨⟨k, t⟩, hq, nq⟩, ⟨hk9, htB⟩, hnq, hokq, hpq, hsq, hxq, hres⟩
    simp only at hk9 htB hnq hokq hpq hsq hxq hres
    have hn1 : n < nq := by omega
    have hn2 : n + 1 < nq := by omega
    simp only [go_sem, Nat.reduceBEq, Nat.reduceLT, Nat.reduceLeDiff, Nat.reduceAdd, Nat.reduceMul, Nat.reduceSub, Nat.reduceMod, Nat.reduceDiv, Nat.reduceEqDiff, Int.reduceToNat, reduceIte, reduceCtorEq, Int.reduceLE, Int.reduceLT, Int.reduceEq, Int.reduceNeg, Int.reduceAdd, Int.reduceSub, Int.reduceMul, decide_eq_true_eq, decide_eq_false_iff_not]
    refine ⟨fun h1 => ?_, fun h1 => ?_⟩
    rotate_left
    · have hk2 : k = 9 := by omega
      subst hk2
      have e0 : fewL P W H B (9 - 9) 9 t = ([], 0, 6) := rfl
      rw [e0] at hres
      subst hres
      exact fun hok' => hK _ _ _ (by omega) (hxq.tr (m' := nq) (by simp only [go_sem, Nat.reduceBEq, Nat.reduceLT, Nat.reduceLeDiff, Nat.reduceAdd, Nat.reduceMul, Nat.reduceSub, Nat.reduceMod, Nat.reduceDiv, Nat.reduceEqDiff, Int.reduceToNat, reduceIte, reduceCtorEq, Int.reduceLE, Int.reduceLT, Int.reduceEq, Int.reduceNeg, Int.reduceAdd, Int.reduceSub, Int.reduceMul, HExt_cons]) (by omega)) hok' (.inr ⟨nq, 0, _, rfl, by omega, by omega, hget_hit _ _ _, rfl, rfl, fun k hk => by simp at hk⟩)
    obtain ⟨r, hr⟩ : ∃ r, 9 - k = r + 1 := ⟨8 - k, by omega⟩
    rw [hr] at hres
    refine callA_false (from_E P W H B hR hP hW hH hB2 k _ _ _ (n + 1) n nq 0 off t [] ⟨0, _, true, _⟩ (by first | (simp only [go_sem, Nat.reduceBEq, Nat.reduceLT, Nat.reduceLeDiff, Nat.reduceAdd, Nat.reduceMul, Nat.reduceSub, Nat.reduceMod, Nat.reduceDiv, Nat.reduceEqDiff, Int.reduceToNat, reduceIte, reduceCtorEq, Int.reduceLE, Int.reduceLT, Int.reduceEq, Int.reduceNeg, Int.reduceAdd, Int.reduceSub, Int.reduceMul, hsq, hn2]; done) | (simp only [go_sem, Nat.reduceBEq, Nat.reduceLT, Nat.reduceLeDiff, Nat.reduceAdd, Nat.reduceMul, Nat.reduceSub, Nat.reduceMod, Nat.reduceDiv, Nat.reduceEqDiff, Int.reduceToNat, reduceIte, reduceCtorEq, Int.reduceLE, Int.reduceLT, Int.reduceEq, Int.reduceNeg, Int.reduceAdd, Int.reduceSub, Int.reduceMul, hsq, hn2]; rfl)) (by omega) (by first | (simp only [go_sem, Nat.reduceBEq, Nat.reduceLT, Nat.reduceLeDiff, Nat.reduceAdd, Nat.reduceMul, Nat.reduceSub, Nat.reduceMod, Nat.reduceDiv, Nat.reduceEqDiff, Int.reduceToNat, reduceIte, reduceCtorEq, Int.reduceLE, Int.reduceLT, Int.reduceEq, Int.reduceNeg, Int.reduceAdd, Int.reduceSub, Int.reduceMul, hpq, hn1]; done) | (simp only [go_sem, Nat.reduceBEq, Nat.reduceLT, Nat.reduceLeDiff, Nat.reduceAdd, Nat.reduceMul, Nat.reduceSub, Nat.reduceMod, Nat.reduceDiv, Nat.reduceEqDiff, Int.reduceToNat, reduceIte, reduceCtorEq, Int.reduceLE, Int.reduceLT, Int.reduceEq, Int.reduceNeg, Int.reduceAdd, Int.reduceSub, Int.reduceMul, hpq, hn1]; rfl)) (by omega) (by omega) (hget_hit _ _ _) (by omega) (by omega) ⟨Nat.le_refl _, fun z hz => by simp at hz⟩ (by simp; omega) htB _ ?_)
    intro V h2 n2 hn3 hb2 ok2 hs2 hVo hVl hX2
    have hn3' : nq + 1 ≤ n2 := hn3
    have hbk : ∀ i, i < nq → i ≠ n + 1 → ∀ u, hget hq i = some u → hget h2 i = some u := fun i hi hne u hu => hb2 i (by omega) hne _ (by simp only [go_sem, Nat.reduceBEq, Nat.reduceLT, Nat.reduceLeDiff, Nat.reduceAdd, Nat.reduceMul, Nat.reduceSub, Nat.reduceMod, Nat.reduceDiv, Nat.reduceEqDiff, Int.reduceToNat, reduceIte, reduceCtorEq, Int.reduceLE, Int.reduceLT, Int.reduceEq, Int.reduceNeg, Int.reduceAdd, Int.reduceSub, Int.reduceMul, hu, hi])
    have hx2 : HExt n h h2 := hxq.ofBut (fun i hi hne u hu => hbk i (by omega) hne u hu) (by omega)
    have hp2 : hget h2 n = some (pcS P) := hbk n hn1 (by omega) _ hpq
    have hn4 : n + 1 < n2 := by omega
    have hto := srch_ok P W H B k off t htB
    rcases he : srch P W H B k off t with ⟨_ | X, t', s'⟩
    · rw [he] at hs2 hto
      cases s' with
      | true =>
        rw [fewL_stop he] at hres
        subst hres
        simp only [go_sem, Nat.reduceBEq, Nat.reduceLT, Nat.reduceLeDiff, Nat.reduceAdd, Nat.reduceMul, Nat.reduceSub, Nat.reduceMod, Nat.reduceDiv, Nat.reduceEqDiff, Int.reduceToNat, reduceIte, reduceCtorEq, Int.reduceLE, Int.reduceLT, Int.reduceEq, Int.reduceNeg, Int.reduceAdd, Int.reduceSub, Int.reduceMul, he, Option.isSome_none, hVo, hs2, hn4]
        exact fun hok' => hK _ _ _ (by omega) (hx2.tr (m' := n2) (by simp only [go_sem, Nat.reduceBEq, Nat.reduceLT, Nat.reduceLeDiff, Nat.reduceAdd, Nat.reduceMul, Nat.reduceSub, Nat.reduceMod, Nat.reduceDiv, Nat.reduceEqDiff, Int.reduceToNat, reduceIte, reduceCtorEq, Int.reduceLE, Int.reduceLT, Int.reduceEq, Int.reduceNeg, Int.reduceAdd, Int.reduceSub, Int.reduceMul, HExt_cons]) (by omega)) hok' (.inr ⟨n2, 0, _, rfl, by omega, by omega, hget_hit _ _ _, rfl, rfl, fun k hk => by simp at hk⟩)
      | false =>
        rw [fewL_next he] at hres
        simp only [go_sem, Nat.reduceBEq, Nat.reduceLT, Nat.reduceLeDiff, Nat.reduceAdd, Nat.reduceMul, Nat.reduceSub, Nat.reduceMod, Nat.reduceDiv, Nat.reduceEqDiff, Int.reduceToNat, reduceIte, reduceCtorEq, Int.reduceLE, Int.reduceLT, Int.reduceEq, Int.reduceNeg, Int.reduceAdd, Int.reduceSub, Int.reduceMul, he, Option.isSome_none, hVo, hs2, hn4]
        refine ⟨⟨((k + 1, t'), h2, n2), ⟨by show k + 1 ≤ 9; omega, hto.1⟩, by show n + 2 ≤ n2; omega, ok2, hp2, hs2, hx2, by show fewL P W H B (9 - (k + 1)) (k + 1) t' = R0; rw [show 9 - (k + 1) = r by omega]; exact hres⟩, by show 9 - (k + 1) < 9 - k; omega, ?_⟩
        refine Imp.id (by show n ≤ n2; omega) ?_ (impH.base0 ok2 (Nat.le_refl _) HExt.rfl)
        simp only [go_sem, Nat.reduceBEq, Nat.reduceLT, Nat.reduceLeDiff, Nat.reduceAdd, Nat.reduceMul, Nat.reduceSub, Nat.reduceMod, Nat.reduceDiv, Nat.reduceEqDiff, Int.reduceToNat, reduceIte, reduceCtorEq, Int.reduceLE, Int.reduceLT, Int.reduceEq, Int.reduceNeg, Int.reduceAdd, Int.reduceSub, Int.reduceMul, w64 (n := (k : Int) + 1) (by omega), Int.natCast_add, Int.natCast_one]
        (repeat' apply And.intro) <;> first | omega | rfl | trivial | assumption | skip
    · rw [he] at hs2 hto hX2
      obtain ⟨hXl, rfl⟩ := hto.2 X rfl
      rw [fewL_some he] at hres
      subst hres
      obtain ⟨i, cap, s, rfl, i1, i2, i3, i4⟩ := hX2 X rfl
      have i3' : hget h2 i = some s := i3
      simp only [go_sem, Nat.reduceBEq, Nat.reduceLT, Nat.reduceLeDiff, Nat.reduceAdd, Nat.reduceMul, Nat.reduceSub, Nat.reduceMod, Nat.reduceDiv, Nat.reduceEqDiff, Int.reduceToNat, reduceIte, reduceCtorEq, Int.reduceLE, Int.reduceLT, Int.reduceEq, Int.reduceNeg, Int.reduceAdd, Int.reduceSub, Int.reduceMul, he, Option.isSome_some, hVo, hs2, hn4]
      refine T_drawG hti 9 [] (.b 0 0 (.b 0 2 (.b 0 3 (.b 0 4 (.b 0 5 (.b 2 1 (.b 0 6 (.b 0 7 (.b 0 8 (.f) .o) .o) .o) .o) .o) .o) .o) .o) .o) _ _ (by kernel_rfl) (by kernel_rfl) ?_
      simp only [go_sem, Nat.reduceBEq, Nat.reduceLT, Nat.reduceLeDiff, Nat.reduceAdd, Nat.reduceMul, Nat.reduceSub, Nat.reduceMod, Nat.reduceDiv, Nat.reduceEqDiff, Int.reduceToNat, reduceIte, reduceCtorEq, Int.reduceLE, Int.reduceLT, Int.reduceEq, Int.reduceNeg, Int.reduceAdd, Int.reduceSub, Int.reduceMul, he, hs2, hn4, List.nil_append]
      refine callA_false (back7_E _ _ _ i cap X s i3' i1 i4 (by omega) _ fun cap5 => ?_)
      simp only [go_sem, Nat.reduceBEq, Nat.reduceLT, Nat.reduceLeDiff, Nat.reduceAdd, Nat.reduceMul, Nat.reduceSub, Nat.reduceMod, Nat.reduceDiv, Nat.reduceEqDiff, Int.reduceToNat, reduceIte, reduceCtorEq, Int.reduceLE, Int.reduceLT, Int.reduceEq, Int.reduceNeg, Int.reduceAdd, Int.reduceSub, Int.reduceMul, hs2, hn4]
      exact fun hok' => hK _ _ _ (by omega) (hx2.tr (m' := n2) (by simp only [go_sem, Nat.reduceBEq, Nat.reduceLT, Nat.reduceLeDiff, Nat.reduceAdd, Nat.reduceMul, Nat.reduceSub, Nat.reduceMod, Nat.reduceDiv, Nat.reduceEqDiff, Int.reduceToNat, reduceIte, reduceCtorEq, Int.reduceLE, Int.reduceLT, Int.reduceEq, Int.reduceNeg, Int.reduceAdd, Int.reduceSub, Int.reduceMul, HExt_cons]) (by omega)) hok' (.inr ⟨n2, cap5, _, rfl, by omega, by omega, hget_hit _ _ _, rfl, rfl, fun _ _ => rfl⟩)
end
end Go.Proofs.Ytodgbpkdanefaaa.V

/- The law of PeelAll: the walk. -/
namespace Go.Proofs.Ytodgbpkdanefaaa.V
section
variable (cx : Cx) (h : List (Nat × Seg)) (n : Nat)
theorem lawPeel_Q (P : Pc) (hR : PcR P) : CallQ Try.prog cx 10 [.agg 66 (pcC P)] h n (.bool true) := by
  have hRl := peelR_len P
  refine callQ_of_T (P := Try.prog) hti (nt := 66) (rs := [.tmp 2]) rfl rfl Try.call10 Try.func10 rfl _ (by simp only [go_sem, and_self]) (Nat.le_of_ble_eq_true rfl) _ (by first | exact trivial | (refine lt_flat rfl ?_; simp [SV.flat]; done) | simp only [go_sem]) fun hok => ?_
  simp only [go_sem, Nat.reduceBEq, Nat.reduceLT, Nat.reduceLeDiff, Nat.reduceAdd, Nat.reduceMul, Nat.reduceSub, Nat.reduceMod, Nat.reduceDiv, Nat.reduceEqDiff, Int.reduceToNat, reduceIte, reduceCtorEq, Int.reduceLE, Int.reduceLT, Int.reduceEq, Int.reduceNeg, Int.reduceAdd, Int.reduceSub, Int.reduceMul]
  generalize hRR : (peelR P).1 = R at hRl
  generalize hcc : (peelR P).2 = c
  refine (toPicture_Q _ _ _ P).A ?_
  simp only [go_sem, Nat.reduceBEq, Nat.reduceLT, Nat.reduceLeDiff, Nat.reduceAdd, Nat.reduceMul, Nat.reduceSub, Nat.reduceMod, Nat.reduceDiv, Nat.reduceEqDiff, Int.reduceToNat, reduceIte, reduceCtorEq, Int.reduceLE, Int.reduceLT, Int.reduceEq, Int.reduceNeg, Int.reduceAdd, Int.reduceSub, Int.reduceMul]
  refine callA_false (peelAll2_E _ _ _ P hR _ ?_)
  intro V1 h1 n1 hn1 hx1 ok1 I1
  rw [hRR] at I1
  rw [hcc]
  have V1o := I1.ok
  have g10 : hget h1 n = some ⟨66, pcC P, true, none⟩ := hx1 n (by omega) _ (by simp only [go_sem, Nat.reduceBEq, Nat.reduceLT, Nat.reduceLeDiff, Nat.reduceAdd, Nat.reduceMul, Nat.reduceSub, Nat.reduceMod, Nat.reduceDiv, Nat.reduceEqDiff, Int.reduceToNat, reduceIte, reduceCtorEq, Int.reduceLE, Int.reduceLT, Int.reduceEq, Int.reduceNeg, Int.reduceAdd, Int.reduceSub, Int.reduceMul])
  have X1 : HExt n h h1 := HExt.tr (m' := n + 1) (by simp only [go_sem, Nat.reduceBEq, Nat.reduceLT, Nat.reduceLeDiff, Nat.reduceAdd, Nat.reduceMul, Nat.reduceSub, Nat.reduceMod, Nat.reduceDiv, Nat.reduceEqDiff, Int.reduceToNat, reduceIte, reduceCtorEq, Int.reduceLE, Int.reduceLT, Int.reduceEq, Int.reduceNeg, Int.reduceAdd, Int.reduceSub, Int.reduceMul, HExt_cons]) hx1 (by omega)
  have lt1 : n < n1 := by omega
  simp only [go_sem, Nat.reduceBEq, Nat.reduceLT, Nat.reduceLeDiff, Nat.reduceAdd, Nat.reduceMul, Nat.reduceSub, Nat.reduceMod, Nat.reduceDiv, Nat.reduceEqDiff, Int.reduceToNat, reduceIte, reduceCtorEq, Int.reduceLE, Int.reduceLT, Int.reduceEq, Int.reduceNeg, Int.reduceAdd, Int.reduceSub, Int.reduceMul, V1o, g10, lt1]
  refine (toPicture_Q _ _ _ P).A ?_
  simp only [go_sem, Nat.reduceBEq, Nat.reduceLT, Nat.reduceLeDiff, Nat.reduceAdd, Nat.reduceMul, Nat.reduceSub, Nat.reduceMod, Nat.reduceDiv, Nat.reduceEqDiff, Int.reduceToNat, reduceIte, reduceCtorEq, Int.reduceLE, Int.reduceLT, Int.reduceEq, Int.reduceNeg, Int.reduceAdd, Int.reduceSub, Int.reduceMul, V1o]
  refine callA_false (peelAll_E _ _ _ P hR _ ?_)
  intro V2 h2 n2 hn2 hx2 ok2 I2
  rw [hRR] at I2
  rw [hcc]
  have V2o := I2.ok
  have X2 := X1.tr hx2 (by omega)
  simp only [go_sem, Nat.reduceBEq, Nat.reduceLT, Nat.reduceLeDiff, Nat.reduceAdd, Nat.reduceMul, Nat.reduceSub, Nat.reduceMod, Nat.reduceDiv, Nat.reduceEqDiff, Int.reduceToNat, reduceIte, reduceCtorEq, Int.reduceLE, Int.reduceLT, Int.reduceEq, Int.reduceNeg, Int.reduceAdd, Int.reduceSub, Int.reduceMul, V1o, V2o]
  refine (eqDrOut_Q _ _ _ V2 V1 R _ _ I2 (I1.ext (by omega) hx2) (by omega)).A ?_
  simp only [go_sem, Nat.reduceBEq, Nat.reduceLT, Nat.reduceLeDiff, Nat.reduceAdd, Nat.reduceMul, Nat.reduceSub, Nat.reduceMod, Nat.reduceDiv, Nat.reduceEqDiff, Int.reduceToNat, reduceIte, reduceCtorEq, Int.reduceLE, Int.reduceLT, Int.reduceEq, Int.reduceNeg, Int.reduceAdd, Int.reduceSub, Int.reduceMul, V1o, V2o]
  refine callA_false (markDr_E _ _ _ V2 R n1 I2 (by omega) _ ?_)
  intro h4 ok4 keep4 _ I24
  have x4 : HExt n1 h1 h4 := keep4 _ _ (by omega) hx2
  have X4 : HExt n h h4 := X1.tr x4 (by omega)
  have I14 : DrOut h4 (n + 1) n2 V1 R := I1.ext (by omega) x4
  have g40 : hget h4 n = some ⟨66, pcC P, true, none⟩ := x4 n (by omega) _ g10
  have posr : ¬ (3 * (R.length : Int) + 1 < 0) := by omega
  have lt2 : n < n2 := by omega
  simp only [go_sem, Nat.reduceBEq, Nat.reduceLT, Nat.reduceLeDiff, Nat.reduceAdd, Nat.reduceMul, Nat.reduceSub, Nat.reduceMod, Nat.reduceDiv, Nat.reduceEqDiff, Int.reduceToNat, reduceIte, reduceCtorEq, Int.reduceLE, Int.reduceLT, Int.reduceEq, Int.reduceNeg, Int.reduceAdd, Int.reduceSub, Int.reduceMul, V1o, V2o]
  refine (heldDr_Q _ _ _ V2 R.length _ I24 (by omega)).A ?_
  simp only [go_sem, Nat.reduceBEq, Nat.reduceLT, Nat.reduceLeDiff, Nat.reduceAdd, Nat.reduceMul, Nat.reduceSub, Nat.reduceMod, Nat.reduceDiv, Nat.reduceEqDiff, Int.reduceToNat, reduceIte, reduceCtorEq, Int.reduceLE, Int.reduceLT, Int.reduceEq, Int.reduceNeg, Int.reduceAdd, Int.reduceSub, Int.reduceMul, V1o, V2o, posr, g40, lt2]
  refine (toPicture_Q _ _ _ P).A ?_
  simp only [go_sem, Nat.reduceBEq, Nat.reduceLT, Nat.reduceLeDiff, Nat.reduceAdd, Nat.reduceMul, Nat.reduceSub, Nat.reduceMod, Nat.reduceDiv, Nat.reduceEqDiff, Int.reduceToNat, reduceIte, reduceCtorEq, Int.reduceLE, Int.reduceLT, Int.reduceEq, Int.reduceNeg, Int.reduceAdd, Int.reduceSub, Int.reduceMul, V1o, V2o]
  refine callA_false (peelAll_E _ _ _ P hR _ ?_)
  intro V3 h5 n5 hn5 hx5 ok5 I35
  rw [hRR] at I35
  rw [hcc]
  have V3o := I35.ok
  have X5 := X4.tr hx5 (by omega)
  simp only [go_sem, Nat.reduceBEq, Nat.reduceLT, Nat.reduceLeDiff, Nat.reduceAdd, Nat.reduceMul, Nat.reduceSub, Nat.reduceMod, Nat.reduceDiv, Nat.reduceEqDiff, Int.reduceToNat, reduceIte, reduceCtorEq, Int.reduceLE, Int.reduceLT, Int.reduceEq, Int.reduceNeg, Int.reduceAdd, Int.reduceSub, Int.reduceMul, V1o, V2o, V3o]
  refine (eqDrOut_Q _ _ _ V3 V1 R _ _ I35 (I14.ext (by omega) hx5) (by omega)).A ?_
  simp only [go_sem, Nat.reduceBEq, Nat.reduceLT, Nat.reduceLeDiff, Nat.reduceAdd, Nat.reduceMul, Nat.reduceSub, Nat.reduceMod, Nat.reduceDiv, Nat.reduceEqDiff, Int.reduceToNat, reduceIte, reduceCtorEq, Int.reduceLE, Int.reduceLT, Int.reduceEq, Int.reduceNeg, Int.reduceAdd, Int.reduceSub, Int.reduceMul, V1o, V2o, V3o]
  refine (heldDr_Q _ _ _ V2 R.length _ (I24.ext (by omega) hx5) (by omega)).A ?_
  simp only [go_sem, Nat.reduceBEq, Nat.reduceLT, Nat.reduceLeDiff, Nat.reduceAdd, Nat.reduceMul, Nat.reduceSub, Nat.reduceMod, Nat.reduceDiv, Nat.reduceEqDiff, Int.reduceToNat, reduceIte, reduceCtorEq, Int.reduceLE, Int.reduceLT, Int.reduceEq, Int.reduceNeg, Int.reduceAdd, Int.reduceSub, Int.reduceMul, V1o, V2o, V3o, posr]
  exact X5
end
end Go.Proofs.Ytodgbpkdanefaaa.V

/- The fewest drops: the program's walk; the law. -/
namespace Go.Proofs.Ytodgbpkdanefaaa.V
@[go_sem] theorem mkAgg_69 (F : Nat → SV) : mkAgg 69 F = .agg 69 F := rfl
theorem pl_le {σ : Nat → Nat} {i n' : Nat} {s : Seg} {O : Gr} {t b : Int} {sp : Bool} (hn : s.n = 69) (hrw : s.rw = true) (hc : ∀ k, k < 69 → s.c k = plC (.ptr i 0) O .nils t b sp k) (hσ : σ i = i) (hi : i < n') : SegLe σ n' s (plS i O .nils t b sp) :=
  SegLe.mk' (by rw [hn]; exact Nat.le_refl _) (fun _ => hrw) (.inl rfl) (fun k hk => by
    rw [hc k hk]
    show _ = ren σ (plC (.ptr i 0) O .nils t b sp k)
    unfold plC pelC
    split
    · split
      · rw [ren_ptr, hσ]
      · rfl
    · match k - 65 with
      | 0 => rfl
      | 1 => rfl
      | 2 => rfl
      | 3 => rfl
      | _ + 4 => rfl) fun k hk => plC_lt (V := .nils) _ _ _ _ hi trivial k
theorem CallE.weak {P : Program} {cx : Cx} {f : Nat} {args : List SV} {h h' : List (Nat × Seg)} {n : Nat} {K : HK} (hh : impH h (sig []) n h') (hc : CallE P cx f args h' n K) : CallE P cx f args h n K :=
  ⟨hc.1, hc.2.1, fun ρ w sh hl => hc.2.2 ρ w (sh.imp (sig []) (fun _ _ _ _ _ _ hij => hij) hh) hl⟩
section
variable (cx : Cx) (h : List (Nat × Seg)) (n : Nat)
theorem reverseNil_E (K : HK) (hK : K (.tup 0 (cl [])) h n) :
    CallE Try.prog cx 79 [.nils] h n K := by
  refine CallE.to _ _ (by simp only [go_sem, Nat.reduceBEq, Nat.reduceLT, Nat.reduceLeDiff, Nat.reduceAdd, Nat.reduceMul, Nat.reduceSub, Nat.reduceMod, Nat.reduceDiv, Nat.reduceEqDiff, Int.reduceToNat, reduceIte, reduceCtorEq, Int.reduceLE, Int.reduceLT, Int.reduceEq, Int.reduceNeg, Int.reduceAdd, Int.reduceSub, Int.reduceMul]) (fun hok => hok) hK ?_
  refine callE_of_T (P := Try.prog) hti (nt := 28) (rs := []) rfl rfl Try.call79 Try.func79 rfl _ (by simp only [go_sem, and_self]) (Nat.le_of_ble_eq_true rfl) _ fun hok => ?_
  simp only [go_sem, Nat.reduceBEq, Nat.reduceLT, Nat.reduceLeDiff, Nat.reduceAdd, Nat.reduceMul, Nat.reduceSub, Nat.reduceMod, Nat.reduceDiv, Nat.reduceEqDiff, Int.reduceToNat, reduceIte, reduceCtorEq, Int.reduceLE, Int.reduceLT, Int.reduceEq, Int.reduceNeg, Int.reduceAdd, Int.reduceSub, Int.reduceMul]
  refine T_unroll 0 ?_
  simp only [go_sem, Nat.reduceBEq, Nat.reduceLT, Nat.reduceLeDiff, Nat.reduceAdd, Nat.reduceMul, Nat.reduceSub, Nat.reduceMod, Nat.reduceDiv, Nat.reduceEqDiff, Int.reduceToNat, reduceIte, reduceCtorEq, Int.reduceLE, Int.reduceLT, Int.reduceEq, Int.reduceNeg, Int.reduceAdd, Int.reduceSub, Int.reduceMul]
set_option maxHeartbeats 1600000 in
theorem few_E (P : Pc) (b : Int) (hR : PcR P) (K : HK)
    (hK : ∀ V h' n', n ≤ n' → HExt n h h' → HOk n' h' → DrOut h' n n' V (fewR P b).1 → K (.tup 3 (cl [V, .int .i64 (fewR P b).2.1, .int .i64 (fewR P b).2.2])) h' n') :
    CallE Try.prog cx 44 [.agg 66 (pcC P), .int .i64 b] h n K := by
  refine CallE.hokE ?_
  refine callE_of_T (P := Try.prog) hti (nt := 46) (rs := [.tmp 4, .tmp 5, .tmp 6]) rfl rfl Try.call44 Try.func44 rfl _ (by simp only [go_sem, and_self]) (Nat.le_of_ble_eq_true rfl) _ fun hok => ?_
  simp only [go_sem, Nat.reduceBEq, Nat.reduceLT, Nat.reduceLeDiff, Nat.reduceAdd, Nat.reduceMul, Nat.reduceSub, Nat.reduceMod, Nat.reduceDiv, Nat.reduceEqDiff, Int.reduceToNat, reduceIte, reduceCtorEq, Int.reduceLE, Int.reduceLT, Int.reduceEq, Int.reduceNeg, Int.reduceAdd, Int.reduceSub, Int.reduceMul]
  refine (within_Q _ _ _ b 0 20000).A ?_
  simp only [go_sem, Nat.reduceBEq, Nat.reduceLT, Nat.reduceLeDiff, Nat.reduceAdd, Nat.reduceMul, Nat.reduceSub, Nat.reduceMod, Nat.reduceDiv, Nat.reduceEqDiff, Int.reduceToNat, reduceIte, reduceCtorEq, Int.reduceLE, Int.reduceLT, Int.reduceEq, Int.reduceNeg, Int.reduceAdd, Int.reduceSub, Int.reduceMul]
  refine (codePc_Q _ _ _ n P (by first | (simp only [go_sem, Nat.reduceBEq, Nat.reduceLT, Nat.reduceLeDiff, Nat.reduceAdd, Nat.reduceMul, Nat.reduceSub, Nat.reduceMod, Nat.reduceDiv, Nat.reduceEqDiff, Int.reduceToNat, reduceIte, reduceCtorEq, Int.reduceLE, Int.reduceLT, Int.reduceEq, Int.reduceNeg, Int.reduceAdd, Int.reduceSub, Int.reduceMul]; done) | (simp only [go_sem, Nat.reduceBEq, Nat.reduceLT, Nat.reduceLeDiff, Nat.reduceAdd, Nat.reduceMul, Nat.reduceSub, Nat.reduceMod, Nat.reduceDiv, Nat.reduceEqDiff, Int.reduceToNat, reduceIte, reduceCtorEq, Int.reduceLE, Int.reduceLT, Int.reduceEq, Int.reduceNeg, Int.reduceAdd, Int.reduceSub, Int.reduceMul]; rfl)) (by omega) hR (decide (0 ≤ b ∧ b ≤ 20000))).A ?_
  by_cases hk : pcokB P = true
  rotate_left
  · rw [fewR_1 hk] at hK
    have e : ∀ c, codePc P c = 1 := fun c => by unfold codePc; simp [hk]
    simp only [go_sem, Nat.reduceBEq, Nat.reduceLT, Nat.reduceLeDiff, Nat.reduceAdd, Nat.reduceMul, Nat.reduceSub, Nat.reduceMod, Nat.reduceDiv, Nat.reduceEqDiff, Int.reduceToNat, reduceIte, reduceCtorEq, Int.reduceLE, Int.reduceLT, Int.reduceEq, Int.reduceNeg, Int.reduceAdd, Int.reduceSub, Int.reduceMul, e]
    exact fun hok' => hK _ _ _ (by omega) (by simp only [go_sem, Nat.reduceBEq, Nat.reduceLT, Nat.reduceLeDiff, Nat.reduceAdd, Nat.reduceMul, Nat.reduceSub, Nat.reduceMod, Nat.reduceDiv, Nat.reduceEqDiff, Int.reduceToNat, reduceIte, reduceCtorEq, Int.reduceLE, Int.reduceLT, Int.reduceEq, Int.reduceNeg, Int.reduceAdd, Int.reduceSub, Int.reduceMul, HExt_cons]) hok' (.inl ⟨rfl, rfl⟩)
  have hP : PcOk P := by simpa [pcokB] using hk
  have hs8 := hP.1
  by_cases hb : 0 ≤ b ∧ b ≤ 20000
  rotate_left
  · rw [fewR_2 hk hb] at hK
    have e : codePc P (decide (0 ≤ b ∧ b ≤ 20000)) = 2 := by unfold codePc; simp [hk]; omega
    simp only [go_sem, Nat.reduceBEq, Nat.reduceLT, Nat.reduceLeDiff, Nat.reduceAdd, Nat.reduceMul, Nat.reduceSub, Nat.reduceMod, Nat.reduceDiv, Nat.reduceEqDiff, Int.reduceToNat, reduceIte, reduceCtorEq, Int.reduceLE, Int.reduceLT, Int.reduceEq, Int.reduceNeg, Int.reduceAdd, Int.reduceSub, Int.reduceMul, e]
    exact fun hok' => hK _ _ _ (by omega) (by simp only [go_sem, Nat.reduceBEq, Nat.reduceLT, Nat.reduceLeDiff, Nat.reduceAdd, Nat.reduceMul, Nat.reduceSub, Nat.reduceMod, Nat.reduceDiv, Nat.reduceEqDiff, Int.reduceToNat, reduceIte, reduceCtorEq, Int.reduceLE, Int.reduceLT, Int.reduceEq, Int.reduceNeg, Int.reduceAdd, Int.reduceSub, Int.reduceMul, HExt_cons]) hok' (.inl ⟨rfl, rfl⟩)
  have e : codePc P (decide (0 ≤ b ∧ b ≤ 20000)) = 0 := by unfold codePc; simp [hk]; omega
  obtain ⟨W, hW⟩ : ∃ W : Nat, P.wide = W := ⟨P.wide.toNat, by omega⟩
  obtain ⟨H, hH⟩ : ∃ H : Nat, P.high = H := ⟨P.high.toNat, by omega⟩
  obtain ⟨B, hB⟩ : ∃ B : Nat, b = B := ⟨b.toNat, by omega⟩
  have hW8 : W ≤ 8 := by omega
  have hH8 : H ≤ 8 := by omega
  have hB2 : B ≤ 20000 := by omega
  rw [fewR_0 hk hb, show P.wide.toNat = W by omega, show P.high.toNat = H by omega, show b.toNat = B by omega] at hK
  subst hB
  simp only [go_sem, Nat.reduceBEq, Nat.reduceLT, Nat.reduceLeDiff, Nat.reduceAdd, Nat.reduceMul, Nat.reduceSub, Nat.reduceMod, Nat.reduceDiv, Nat.reduceEqDiff, Int.reduceToNat, reduceIte, reduceCtorEq, Int.reduceLE, Int.reduceLT, Int.reduceEq, Int.reduceNeg, Int.reduceAdd, Int.reduceSub, Int.reduceMul, e]
  generalize hR0 : fewL P W H B 9 0 0 = R0 at hK
  have hsg0 : HOk (n + 2) ((n + 1, plS n off .nils 0 B false) :: (n, pcS P) :: h) := fun i t hi => by
    simp only [hget] at hi
    by_cases e : n + 1 = i
    · rw [if_pos e] at hi; cases hi
      exact ⟨by omega, fun k hk => plC_lt (V := .nils) _ _ _ _ (by omega) trivial k⟩
    · rw [if_neg e] at hi
      obtain ⟨g1, g2⟩ := (hok.consF (s := pcS P) fun k _ => pcC_flat _ _) i t (by simp only [hget]; exact hi)
      exact ⟨by omega, fun k hk => SV.lt_mono (by omega) _ (g2 k hk)⟩
  refine T_lp (ι := { q : (Nat × Nat) × List (Nat × Seg) × Nat × SV // (q.1.1 ≤ 9 ∧ q.1.2 ≤ B) ∧ n + 2 ≤ q.2.2.1 ∧ HOk q.2.2.1 q.2.1 ∧ hget q.2.1 n = some (pcS P) ∧ hget q.2.1 (n + 1) = some (plS n off q.2.2.2 q.1.2 B false) ∧ DrOwn q.2.1 (n + 1) q.2.2.1 q.2.2.2 [] ∧ q.2.2.2.lt q.2.2.1 ∧ (∀ i, i < n → notSl q.2.2.2 i) ∧ HExt n h q.2.1 ∧ fewL P W H B (9 - q.1.1) q.1.1 q.1.2 = R0 })
    (fun q => ([(8, .ptr (n + 1) 0), (20, .int .i64 q.1.1.1)], q.1.2.1, q.1.2.2.1)) (fun q => 9 - q.1.1.1) ⟨((0, 0), (n + 1, plS n off .nils 0 B false) :: (n, pcS P) :: h, n + 2, .nils), ⟨Nat.zero_le 9, Nat.zero_le B⟩, Nat.le_refl _, hsg0, (by first | (simp only [go_sem, Nat.reduceBEq, Nat.reduceLT, Nat.reduceLeDiff, Nat.reduceAdd, Nat.reduceMul, Nat.reduceSub, Nat.reduceMod, Nat.reduceDiv, Nat.reduceEqDiff, Int.reduceToNat, reduceIte, reduceCtorEq, Int.reduceLE, Int.reduceLT, Int.reduceEq, Int.reduceNeg, Int.reduceAdd, Int.reduceSub, Int.reduceMul]; done) | (simp only [go_sem, Nat.reduceBEq, Nat.reduceLT, Nat.reduceLeDiff, Nat.reduceAdd, Nat.reduceMul, Nat.reduceSub, Nat.reduceMod, Nat.reduceDiv, Nat.reduceEqDiff, Int.reduceToNat, reduceIte, reduceCtorEq, Int.reduceLE, Int.reduceLT, Int.reduceEq, Int.reduceNeg, Int.reduceAdd, Int.reduceSub, Int.reduceMul]; rfl)), hget_hit _ _ _, .inl ⟨rfl, rfl⟩, trivial, (fun _ _ _ _ _ e => SV.noConfusion e), by simp only [go_sem, Nat.reduceBEq, Nat.reduceLT, Nat.reduceLeDiff, Nat.reduceAdd, Nat.reduceMul, Nat.reduceSub, Nat.reduceMod, Nat.reduceDiv, Nat.reduceEqDiff, Int.reduceToNat, reduceIte, reduceCtorEq, Int.reduceLE, Int.reduceLT, Int.reduceEq, Int.reduceNeg, Int.reduceAdd, Int.reduceSub, Int.reduceMul, HExt_cons], hR0⟩ ?_ ?_
  · refine Imp.id (by simp) ?_ ?_
    · simp only [go_sem, Nat.reduceBEq, Nat.reduceLT, Nat.reduceLeDiff, Nat.reduceAdd, Nat.reduceMul, Nat.reduceSub, Nat.reduceMod, Nat.reduceDiv, Nat.reduceEqDiff, Int.reduceToNat, reduceIte, reduceCtorEq, Int.reduceLE, Int.reduceLT, Int.reduceEq, Int.reduceNeg, Int.reduceAdd, Int.reduceSub, Int.reduceMul]
      (repeat' apply And.intro) <;> first | omega | rfl | trivial | assumption | skip
    · refine impH.cons0 (hget_hit _ _ _) (by simp) (pl_le (n' := n + 2) rfl rfl (fun k hk => ?_) rfl (by omega)) (impH.cons0 (by first | (simp only [go_sem, Nat.reduceBEq, Nat.reduceLT, Nat.reduceLeDiff, Nat.reduceAdd, Nat.reduceMul, Nat.reduceSub, Nat.reduceMod, Nat.reduceDiv, Nat.reduceEqDiff, Int.reduceToNat, reduceIte, reduceCtorEq, Int.reduceLE, Int.reduceLT, Int.reduceEq, Int.reduceNeg, Int.reduceAdd, Int.reduceSub, Int.reduceMul]; done) | (simp only [go_sem, Nat.reduceBEq, Nat.reduceLT, Nat.reduceLeDiff, Nat.reduceAdd, Nat.reduceMul, Nat.reduceSub, Nat.reduceMod, Nat.reduceDiv, Nat.reduceEqDiff, Int.reduceToNat, reduceIte, reduceCtorEq, Int.reduceLE, Int.reduceLT, Int.reduceEq, Int.reduceNeg, Int.reduceAdd, Int.reduceSub, Int.reduceMul]; rfl)) (by simp) (SegLe.flat (Nat.le_refl _) id (.inr rfl) fun k hk => ⟨rfl, pcC_flat _ _⟩) (impH.base0 hok (by simp) (by simp only [go_sem, Nat.reduceBEq, Nat.reduceLT, Nat.reduceLeDiff, Nat.reduceAdd, Nat.reduceMul, Nat.reduceSub, Nat.reduceMod, Nat.reduceDiv, Nat.reduceEqDiff, Int.reduceToNat, reduceIte, reduceCtorEq, Int.reduceLE, Int.reduceLT, Int.reduceEq, Int.reduceNeg, Int.reduceAdd, Int.reduceSub, Int.reduceMul, HExt_cons])))
      have hk : k < 69 := hk
      show upd (fun j => if j < 65 then upd zz_a5868c 0 (SV.ptr n 0) (j - 0) else if j < 1 then SV.raw (Value.pointer none) else if j < 65 then SV.bool false else if j < 66 then SV.nils else if j < 68 then SV.int IntKind.i64 0 else SV.bool false) 67 (SV.int IntKind.i64 B) k = _
      unfold upd plC
      by_cases h67 : k = 67
      · subst h67; rfl
      · rw [if_neg h67]
        by_cases h65 : k < 65
        · refine Eq.trans (if_pos h65) ?_
          rw [if_pos h65]; exact pel_new n k
        · rcases (by omega : k = 65 ∨ k = 66 ∨ k = 68) with rfl | rfl | rfl <;> rfl
  · rintro ⟨⟨⟨k, t⟩, hq, nq, Vq⟩, ⟨hk9, htB⟩, hnq, hokq, hpq, hsq, hVq, hlq, hnmq, hxq, hres⟩
    simp only at hk9 htB hnq hokq hpq hsq hVq hlq hnmq hxq hres
    have hn1 : n < nq := by omega
    have hn2 : n + 1 < nq := by omega
    simp only [go_sem, Nat.reduceBEq, Nat.reduceLT, Nat.reduceLeDiff, Nat.reduceAdd, Nat.reduceMul, Nat.reduceSub, Nat.reduceMod, Nat.reduceDiv, Nat.reduceEqDiff, Int.reduceToNat, reduceIte, reduceCtorEq, Int.reduceLE, Int.reduceLT, Int.reduceEq, Int.reduceNeg, Int.reduceAdd, Int.reduceSub, Int.reduceMul, decide_eq_true_eq, decide_eq_false_iff_not]
    refine ⟨fun h1 => ?_, fun h1 => ?_⟩
    rotate_left
    · have hk2 : k = 9 := by omega
      subst hk2
      have e0 : fewL P W H B (9 - 9) 9 t = ([], 0, 6) := rfl
      rw [e0] at hres
      subst hres
      exact fun hok' => hK _ _ _ (by omega) hxq hok' (.inl ⟨rfl, rfl⟩)
    obtain ⟨r, hr⟩ : ∃ r, 9 - k = r + 1 := ⟨8 - k, by omega⟩
    rw [hr] at hres
    refine callA_false (try_E P W H B hR hP hW hH hB2 k _ _ _ (n + 1) n off Vq t [] hsq (by omega) hpq (by omega) (by omega) hVq hlq (by simp; omega) htB _ ?_)
    intro h2 n2 O2 V2 hn3 ok2 hb2 hnm2 hl2 hg2 hX2 hN2
    have hnV : ∀ t, hget hq n = some t → t.own = none → notSl Vq n := fun t ht ho => hVq.not ht ho
    have hx2 : HExt n h h2 := fun i hi t ht => hb2 i (by omega) (by omega) (hnmq i hi) _ (hxq i hi t ht)
    have hp2 : hget h2 n = some (pcS P) := hb2 n hn1 (by omega) (hnV _ hpq rfl) _ hpq
    have hn4 : n + 1 < n2 := by omega
    have hnm3 : ∀ i, i < n → notSl V2 i := fun i hi => hnm2 i (by omega) (hnmq i hi)
    have hto := srch_ok P W H B k off t htB
    rcases he : srch P W H B k off t with ⟨_ | X, t', s'⟩
    · rw [he] at hg2 hto hN2
      cases s' with
      | true =>
        rw [fewL_stop he] at hres
        subst hres
        simp only [go_sem, Nat.reduceBEq, Nat.reduceLT, Nat.reduceLeDiff, Nat.reduceAdd, Nat.reduceMul, Nat.reduceSub, Nat.reduceMod, Nat.reduceDiv, Nat.reduceEqDiff, Int.reduceToNat, reduceIte, reduceCtorEq, Int.reduceLE, Int.reduceLT, Int.reduceEq, Int.reduceNeg, Int.reduceAdd, Int.reduceSub, Int.reduceMul, he, Option.isSome_none, hg2, hn4]
        exact fun hok' => hK _ _ _ (by omega) hx2 hok' (.inl ⟨rfl, rfl⟩)
      | false =>
        rw [fewL_next he] at hres
        obtain ⟨rfl, hV2⟩ := hN2 rfl rfl
        simp only [go_sem, Nat.reduceBEq, Nat.reduceLT, Nat.reduceLeDiff, Nat.reduceAdd, Nat.reduceMul, Nat.reduceSub, Nat.reduceMod, Nat.reduceDiv, Nat.reduceEqDiff, Int.reduceToNat, reduceIte, reduceCtorEq, Int.reduceLE, Int.reduceLT, Int.reduceEq, Int.reduceNeg, Int.reduceAdd, Int.reduceSub, Int.reduceMul, he, Option.isSome_none, hg2, hn4]
        refine ⟨⟨((k + 1, t'), h2, n2, V2), ⟨by show k + 1 ≤ 9; omega, hto.1⟩, by show n + 2 ≤ n2; omega, ok2, hp2, hg2, hV2, hl2, hnm3, hx2, by show fewL P W H B (9 - (k + 1)) (k + 1) t' = R0; rw [show 9 - (k + 1) = r by omega]; exact hres⟩, by show 9 - (k + 1) < 9 - k; omega, ?_⟩
        refine Imp.id (by show n ≤ n2; omega) ?_ (impH.base0 ok2 (Nat.le_refl _) HExt.rfl)
        simp only [go_sem, Nat.reduceBEq, Nat.reduceLT, Nat.reduceLeDiff, Nat.reduceAdd, Nat.reduceMul, Nat.reduceSub, Nat.reduceMod, Nat.reduceDiv, Nat.reduceEqDiff, Int.reduceToNat, reduceIte, reduceCtorEq, Int.reduceLE, Int.reduceLT, Int.reduceEq, Int.reduceNeg, Int.reduceAdd, Int.reduceSub, Int.reduceMul, w64 (n := (k : Int) + 1) (by omega), Int.natCast_add, Int.natCast_one]
        (repeat' apply And.intro) <;> first | omega | rfl | trivial | assumption | skip
    · rw [he] at hg2 hto hX2
      obtain ⟨hXl, rfl⟩ := hto.2 X rfl
      rw [fewL_some he] at hres
      subst hres
      have hV2 := hX2 X rfl
      rw [List.nil_append] at hV2
      rcases hV2 with ⟨rfl, rfl⟩ | ⟨j2, cap2, ⟨sn2, sc2, sr2, so2⟩, rfl, u1, u2, u3, u4, u5, u6, u7, u8, u9⟩
      · simp only [go_sem, Nat.reduceBEq, Nat.reduceLT, Nat.reduceLeDiff, Nat.reduceAdd, Nat.reduceMul, Nat.reduceSub, Nat.reduceMod, Nat.reduceDiv, Nat.reduceEqDiff, Int.reduceToNat, reduceIte, reduceCtorEq, Int.reduceLE, Int.reduceLT, Int.reduceEq, Int.reduceNeg, Int.reduceAdd, Int.reduceSub, Int.reduceMul, he, Option.isSome_some, hg2, hn4]
        refine callA_false (reverseNil_E _ _ _ _ ?_)
        simp only [go_sem, Nat.reduceBEq, Nat.reduceLT, Nat.reduceLeDiff, Nat.reduceAdd, Nat.reduceMul, Nat.reduceSub, Nat.reduceMod, Nat.reduceDiv, Nat.reduceEqDiff, Int.reduceToNat, reduceIte, reduceCtorEq, Int.reduceLE, Int.reduceLT, Int.reduceEq, Int.reduceNeg, Int.reduceAdd, Int.reduceSub, Int.reduceMul]
        refine T_draw hti _ _ (by kernel_rfl) (by kernel_rfl) ?_
        simp only [go_sem, Nat.reduceBEq, Nat.reduceLT, Nat.reduceLeDiff, Nat.reduceAdd, Nat.reduceMul, Nat.reduceSub, Nat.reduceMod, Nat.reduceDiv, Nat.reduceEqDiff, Int.reduceToNat, reduceIte, reduceCtorEq, Int.reduceLE, Int.reduceLT, Int.reduceEq, Int.reduceNeg, Int.reduceAdd, Int.reduceSub, Int.reduceMul, hg2, hn4]
        exact fun hok' => hK _ _ _ (by omega) hx2 hok' (.inl ⟨rfl, rfl⟩)
      · simp only at u4 u7 u8 u9
        subst u4 u8
        have hjn : ¬ j2 < n := fun hj => absurd rfl (hnm3 j2 hj _ _ _)
        have hgr : ∀ t, hget (hset h2 j2 t) (n + 1) = hget h2 (n + 1) := fun t => by rw [hget_hset, if_neg u2]
        have hgi : ∀ t, hget (hset h2 j2 t) j2 = some t := hget_hset_self u3
        simp only [go_sem, Nat.reduceBEq, Nat.reduceLT, Nat.reduceLeDiff, Nat.reduceAdd, Nat.reduceMul, Nat.reduceSub, Nat.reduceMod, Nat.reduceDiv, Nat.reduceEqDiff, Int.reduceToNat, reduceIte, reduceCtorEq, Int.reduceLE, Int.reduceLT, Int.reduceEq, Int.reduceNeg, Int.reduceAdd, Int.reduceSub, Int.reduceMul, he, Option.isSome_some, hg2, hn4]
        refine callA_false (CallE.weak (impH.set0 ok2 (Nat.le_refl _) u3 (HBut.refl _ _ _) u3 (SegLe.flat (t := ⟨X.length * 3, dropsC X, true, some (44, cap2 * 3)⟩) u7 id (.inr rfl) fun k hk => ⟨u9 k hk, dropsC_flat _ _⟩)) (reverseDr_E _ _ _ j2 cap2 X _ (hgi _) u1 (by omega) _ ?_))
        simp only [go_sem, Nat.reduceBEq, Nat.reduceLT, Nat.reduceLeDiff, Nat.reduceAdd, Nat.reduceMul, Nat.reduceSub, Nat.reduceMod, Nat.reduceDiv, Nat.reduceEqDiff, Int.reduceToNat, reduceIte, reduceCtorEq, Int.reduceLE, Int.reduceLT, Int.reduceEq, Int.reduceNeg, Int.reduceAdd, Int.reduceSub, Int.reduceMul, hset_hset]
        refine T_draw hti _ _ (by kernel_rfl) (by kernel_rfl) ?_
        simp only [go_sem, Nat.reduceBEq, Nat.reduceLT, Nat.reduceLeDiff, Nat.reduceAdd, Nat.reduceMul, Nat.reduceSub, Nat.reduceMod, Nat.reduceDiv, Nat.reduceEqDiff, Int.reduceToNat, reduceIte, reduceCtorEq, Int.reduceLE, Int.reduceLT, Int.reduceEq, Int.reduceNeg, Int.reduceAdd, Int.reduceSub, Int.reduceMul, hgr, hg2, hn4]
        exact fun hok' => hK _ _ _ (by omega) (fun i hi t ht => by rw [hget_hset, if_neg (by omega)]; exact hx2 i hi t ht) hok' (.inr ⟨j2, cap2, _, by rw [List.length_reverse], by omega, u1, hgi _, rfl, by rw [List.length_reverse], fun _ _ => rfl⟩)
theorem lawFew_Q (P : Pc) (hR : PcR P) (b : Int) : CallQ Try.prog cx 11 [.agg 66 (pcC P), .int .i64 b] h n (.bool true) := by
  have hRl := fewR_len P b
  refine callQ_of_T (P := Try.prog) hti (nt := 87) (rs := [.tmp 4]) rfl rfl Try.call11 Try.func11 rfl _ (by simp only [go_sem, and_self]) (Nat.le_of_ble_eq_true rfl) _ (by first | exact trivial | (refine lt_flat rfl ?_; simp [SV.flat]; done) | simp only [go_sem]) fun hok => ?_
  simp only [go_sem, Nat.reduceBEq, Nat.reduceLT, Nat.reduceLeDiff, Nat.reduceAdd, Nat.reduceMul, Nat.reduceSub, Nat.reduceMod, Nat.reduceDiv, Nat.reduceEqDiff, Int.reduceToNat, reduceIte, reduceCtorEq, Int.reduceLE, Int.reduceLT, Int.reduceEq, Int.reduceNeg, Int.reduceAdd, Int.reduceSub, Int.reduceMul]
  generalize hRR : (fewR P b).1 = R at hRl
  generalize hc1 : (fewR P b).2.1 = c1
  generalize hc2 : (fewR P b).2.2 = c2
  refine (toPicture_Q _ _ _ P).A ?_
  simp only [go_sem, Nat.reduceBEq, Nat.reduceLT, Nat.reduceLeDiff, Nat.reduceAdd, Nat.reduceMul, Nat.reduceSub, Nat.reduceMod, Nat.reduceDiv, Nat.reduceEqDiff, Int.reduceToNat, reduceIte, reduceCtorEq, Int.reduceLE, Int.reduceLT, Int.reduceEq, Int.reduceNeg, Int.reduceAdd, Int.reduceSub, Int.reduceMul]
  refine callA_false (few2_E _ _ _ P b hR _ ?_)
  intro V1 h1 n1 hn1 hx1 ok1 I1
  rw [hRR] at I1
  rw [hc1, hc2]
  have V1o := I1.ok
  have g10 : hget h1 n = some ⟨66, pcC P, true, none⟩ := hx1 n (by omega) _ (by simp only [go_sem, Nat.reduceBEq, Nat.reduceLT, Nat.reduceLeDiff, Nat.reduceAdd, Nat.reduceMul, Nat.reduceSub, Nat.reduceMod, Nat.reduceDiv, Nat.reduceEqDiff, Int.reduceToNat, reduceIte, reduceCtorEq, Int.reduceLE, Int.reduceLT, Int.reduceEq, Int.reduceNeg, Int.reduceAdd, Int.reduceSub, Int.reduceMul])
  have X1 : HExt n h h1 := HExt.tr (m' := n + 1) (by simp only [go_sem, Nat.reduceBEq, Nat.reduceLT, Nat.reduceLeDiff, Nat.reduceAdd, Nat.reduceMul, Nat.reduceSub, Nat.reduceMod, Nat.reduceDiv, Nat.reduceEqDiff, Int.reduceToNat, reduceIte, reduceCtorEq, Int.reduceLE, Int.reduceLT, Int.reduceEq, Int.reduceNeg, Int.reduceAdd, Int.reduceSub, Int.reduceMul, HExt_cons]) hx1 (by omega)
  have lt1 : n < n1 := by omega
  simp only [go_sem, Nat.reduceBEq, Nat.reduceLT, Nat.reduceLeDiff, Nat.reduceAdd, Nat.reduceMul, Nat.reduceSub, Nat.reduceMod, Nat.reduceDiv, Nat.reduceEqDiff, Int.reduceToNat, reduceIte, reduceCtorEq, Int.reduceLE, Int.reduceLT, Int.reduceEq, Int.reduceNeg, Int.reduceAdd, Int.reduceSub, Int.reduceMul, V1o, g10, lt1]
  refine (toPicture_Q _ _ _ P).A ?_
  simp only [go_sem, Nat.reduceBEq, Nat.reduceLT, Nat.reduceLeDiff, Nat.reduceAdd, Nat.reduceMul, Nat.reduceSub, Nat.reduceMod, Nat.reduceDiv, Nat.reduceEqDiff, Int.reduceToNat, reduceIte, reduceCtorEq, Int.reduceLE, Int.reduceLT, Int.reduceEq, Int.reduceNeg, Int.reduceAdd, Int.reduceSub, Int.reduceMul, V1o]
  refine callA_false (few_E _ _ _ P b hR _ ?_)
  intro V2 h2 n2 hn2 hx2 ok2 I2
  rw [hRR] at I2
  rw [hc1, hc2]
  have V2o := I2.ok
  have X2 := X1.tr hx2 (by omega)
  simp only [go_sem, Nat.reduceBEq, Nat.reduceLT, Nat.reduceLeDiff, Nat.reduceAdd, Nat.reduceMul, Nat.reduceSub, Nat.reduceMod, Nat.reduceDiv, Nat.reduceEqDiff, Int.reduceToNat, reduceIte, reduceCtorEq, Int.reduceLE, Int.reduceLT, Int.reduceEq, Int.reduceNeg, Int.reduceAdd, Int.reduceSub, Int.reduceMul, V1o, V2o]
  refine (eqDrOut_Q _ _ _ V2 V1 R _ _ I2 (I1.ext (by omega) hx2) (by omega)).A ?_
  simp only [go_sem, Nat.reduceBEq, Nat.reduceLT, Nat.reduceLeDiff, Nat.reduceAdd, Nat.reduceMul, Nat.reduceSub, Nat.reduceMod, Nat.reduceDiv, Nat.reduceEqDiff, Int.reduceToNat, reduceIte, reduceCtorEq, Int.reduceLE, Int.reduceLT, Int.reduceEq, Int.reduceNeg, Int.reduceAdd, Int.reduceSub, Int.reduceMul, V1o, V2o]
  refine callA_false (markDr_E _ _ _ V2 R n1 I2 (by omega) _ ?_)
  intro h4 ok4 keep4 _ I24
  have x4 : HExt n1 h1 h4 := keep4 _ _ (by omega) hx2
  have X4 : HExt n h h4 := X1.tr x4 (by omega)
  have I14 : DrOut h4 (n + 1) n2 V1 R := I1.ext (by omega) x4
  have g40 : hget h4 n = some ⟨66, pcC P, true, none⟩ := x4 n (by omega) _ g10
  have posr : ¬ (3 * (R.length : Int) + 1 < 0) := by omega
  have lt2 : n < n2 := by omega
  simp only [go_sem, Nat.reduceBEq, Nat.reduceLT, Nat.reduceLeDiff, Nat.reduceAdd, Nat.reduceMul, Nat.reduceSub, Nat.reduceMod, Nat.reduceDiv, Nat.reduceEqDiff, Int.reduceToNat, reduceIte, reduceCtorEq, Int.reduceLE, Int.reduceLT, Int.reduceEq, Int.reduceNeg, Int.reduceAdd, Int.reduceSub, Int.reduceMul, V1o, V2o]
  refine (heldDr_Q _ _ _ V2 R.length _ I24 (by omega)).A ?_
  simp only [go_sem, Nat.reduceBEq, Nat.reduceLT, Nat.reduceLeDiff, Nat.reduceAdd, Nat.reduceMul, Nat.reduceSub, Nat.reduceMod, Nat.reduceDiv, Nat.reduceEqDiff, Int.reduceToNat, reduceIte, reduceCtorEq, Int.reduceLE, Int.reduceLT, Int.reduceEq, Int.reduceNeg, Int.reduceAdd, Int.reduceSub, Int.reduceMul, V1o, V2o, posr, g40, lt2]
  refine (toPicture_Q _ _ _ P).A ?_
  simp only [go_sem, Nat.reduceBEq, Nat.reduceLT, Nat.reduceLeDiff, Nat.reduceAdd, Nat.reduceMul, Nat.reduceSub, Nat.reduceMod, Nat.reduceDiv, Nat.reduceEqDiff, Int.reduceToNat, reduceIte, reduceCtorEq, Int.reduceLE, Int.reduceLT, Int.reduceEq, Int.reduceNeg, Int.reduceAdd, Int.reduceSub, Int.reduceMul, V1o, V2o]
  refine callA_false (few_E _ _ _ P b hR _ ?_)
  intro V3 h5 n5 hn5 hx5 ok5 I35
  rw [hRR] at I35
  rw [hc1, hc2]
  have V3o := I35.ok
  have X5 := X4.tr hx5 (by omega)
  simp only [go_sem, Nat.reduceBEq, Nat.reduceLT, Nat.reduceLeDiff, Nat.reduceAdd, Nat.reduceMul, Nat.reduceSub, Nat.reduceMod, Nat.reduceDiv, Nat.reduceEqDiff, Int.reduceToNat, reduceIte, reduceCtorEq, Int.reduceLE, Int.reduceLT, Int.reduceEq, Int.reduceNeg, Int.reduceAdd, Int.reduceSub, Int.reduceMul, V1o, V2o, V3o]
  refine (eqDrOut_Q _ _ _ V3 V1 R _ _ I35 (I14.ext (by omega) hx5) (by omega)).A ?_
  simp only [go_sem, Nat.reduceBEq, Nat.reduceLT, Nat.reduceLeDiff, Nat.reduceAdd, Nat.reduceMul, Nat.reduceSub, Nat.reduceMod, Nat.reduceDiv, Nat.reduceEqDiff, Int.reduceToNat, reduceIte, reduceCtorEq, Int.reduceLE, Int.reduceLT, Int.reduceEq, Int.reduceNeg, Int.reduceAdd, Int.reduceSub, Int.reduceMul, V1o, V2o, V3o]
  refine (heldDr_Q _ _ _ V2 R.length _ (I24.ext (by omega) hx5) (by omega)).A ?_
  simp only [go_sem, Nat.reduceBEq, Nat.reduceLT, Nat.reduceLeDiff, Nat.reduceAdd, Nat.reduceMul, Nat.reduceSub, Nat.reduceMod, Nat.reduceDiv, Nat.reduceEqDiff, Int.reduceToNat, reduceIte, reduceCtorEq, Int.reduceLE, Int.reduceLT, Int.reduceEq, Int.reduceNeg, Int.reduceAdd, Int.reduceSub, Int.reduceMul, V1o, V2o, V3o, posr]
  exact X5
end
end Go.Proofs.Ytodgbpkdanefaaa.V
