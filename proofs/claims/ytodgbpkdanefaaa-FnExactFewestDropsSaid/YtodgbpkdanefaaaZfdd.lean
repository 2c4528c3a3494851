/- Part 4 of the texts that this proof stands on: a symbolic walk over the program, what its functions and the reference's do, plain laws. -/
import Derived.Test.YtodgbpkdanefaaaZfdc
import Derived.Test.YtodgbpkdanefaaaZfdb
set_option linter.all false

/- Drops that can be the last: the program's walk; CanBeLast of both codes. -/
namespace Go.Proofs.Ytodgbpkdanefaaa.V
/-- The cells that a drop covers and that are not open, if the drop can be the last. -/
def opF (P : Pc) (O : Gr) (x y : Int) : List (Int × Int) := (covL P.wide P.high x y).filter (opP O)
def okAll (P : Pc) (O : Gr) (x y k : Int) : Bool := (covL P.wide P.high x y).all (okP P O k)
theorem opF_len (P : Pc) (O : Gr) (x y : Int) : (opF P O x y).length ≤ 5 := Nat.le_trans (List.length_filter_le _ _) (covL_len5 _ _ _ _)
theorem ren_tup2 (σ : Nat → Nat) (a b : SV) : ren σ (.tup 2 (cl [a, b])) = .tup 2 (cl [ren σ a, ren σ b]) := by
  show SV.tup 2 (fun j => ren σ (cl [a, b] j)) = _
  rw [ren_cl]; rfl
noncomputable def lastR (P : Pc) (d : Dr) : Bool × Int := if codePc P (canD P d) = 0 then (peelsB P (fun _ _ => false) d.1 d.2.1 d.2.2, 0) else (false, codePc P (canD P d))
theorem opF_off (P : Pc) (x y : Int) : opF P (fun _ _ => false) x y = covL P.wide P.high x y := by
  unfold opF opP
  exact List.filter_eq_self.2 fun _ _ => rfl
section
variable (cx : Cx) (h : List (Nat × Seg)) (n : Nat)
theorem can_E (i g : Nat) (P : Pc) (O : Gr) (x y k : Int) (s : Seg) (hs : hget h i = some (pcS P)) (hi : i < n) (hg : hget h g = some s) (hgn : g < n) (hG : PelAt s (.ptr i 0) O) (hR : PcR P) (hP : PcOk P) (hx : 0 ≤ x) (hx1 : x < P.wide) (hy : 0 ≤ y) (hy1 : y < P.high) (hk : 0 ≤ k ∧ k < 3) (K : HK)
    (hK0 : okAll P O x y k = false → K (.tup 2 (cl [.nils, .bool false])) h n)
    (hK1 : okAll P O x y k = true → ∀ cap, K (.tup 2 (cl [.sl n 0 (opF P O x y).length cap, .bool (decide (0 < (opF P O x y).length))])) ((n, ⟨(opF P O x y).length * 2, spotsC (opF P O x y), true, none⟩) :: h) (n + 1)) :
    CallE Try.prog cx 76 [.ptr g 0, dropV x y k] h n K := by
  refine CallE.imp1 (K := fun r h' n' => (okAll P O x y k = false ∧ r = .tup 2 (cl [.nils, .bool false]) ∧ n ≤ n' ∧ HExt n h h') ∨ (okAll P O x y k = true ∧ ∃ b cap, n + 1 ≤ b ∧ r = .tup 2 (cl [.sl b 0 (opF P O x y).length cap, .bool (decide (0 < (opF P O x y).length))]) ∧ HExt n h h' ∧ ∃ t, hget h' b = some t ∧ t.n = (opF P O x y).length * 2 ∧ t.rw = true ∧ ∀ k, k < (opF P O x y).length * 2 → t.c k = spotsC (opF P O x y) k)) ?_ ?_
  rotate_left
  · rintro hok r h1 n1 (⟨ha, rfl, hn, hx⟩ | ⟨ha, b, cap, hb, rfl, hx, t, ht, t1, t2, t3⟩)
    · exact ⟨n, .tup 2 (cl [.nils, .bool false]), h, n, Nat.le_refl _, Nat.le_refl _, by rw [ren_tup2]; rfl, by simp only [go_sem, Nat.reduceBEq, Nat.reduceLT, Nat.reduceLeDiff, Nat.reduceAdd, Nat.reduceMul, Nat.reduceSub, Nat.reduceMod, Nat.reduceDiv, Nat.reduceEqDiff, Int.reduceToNat, reduceIte, reduceCtorEq, Int.reduceLE, Int.reduceLT, Int.reduceEq, Int.reduceNeg, Int.reduceAdd, Int.reduceSub, Int.reduceMul], impH.base1 hok (Nat.le_refl _) (Nat.le_refl n) hx, hK0 ha⟩
    · exact ⟨b, .tup 2 (cl [.sl n 0 (opF P O x y).length cap, .bool (decide (0 < (opF P O x y).length))]), (n, ⟨(opF P O x y).length * 2, spotsC (opF P O x y), true, none⟩) :: h, n + 1, by omega, by omega, by rw [ren_tup2, ren_sl, sig_hit]; rfl, by simp only [go_sem, Nat.reduceBEq, Nat.reduceLT, Nat.reduceLeDiff, Nat.reduceAdd, Nat.reduceMul, Nat.reduceSub, Nat.reduceMod, Nat.reduceDiv, Nat.reduceEqDiff, Int.reduceToNat, reduceIte, reduceCtorEq, Int.reduceLE, Int.reduceLT, Int.reduceEq, Int.reduceNeg, Int.reduceAdd, Int.reduceSub, Int.reduceMul]; omega,
        impH.cons1 ht (Nat.lt_succ_self n) (SegLe.flat (by rw [t1]; exact Nat.le_refl _) (fun _ => t2) (.inl rfl) fun k hk => ⟨t3 k hk, spotsC_flat _ _⟩) (impH.base1 hok (by simp) (Nat.le_refl n) hx), hK1 ha cap⟩
  have hM5 := covL_len5 P.wide P.high x y
  have hmem := fun j => covL_mem (W := P.wide) (H := P.high) (x := x) (y := y) (j := j)
  have hs8 := hP.1
  have hn65' := hG.1
  have hn65 : 1 ≤ s.n := by omega
  have hp0 := hG.2.1
  have hk1 := wu8 (n := k + 1) (by omega)
  refine callE_of_T (P := Try.prog) hti (nt := 53) (rs := [.tmp 4, .tmp 5]) rfl rfl Try.call76 Try.func76 rfl _ (by simp only [go_sem, and_self]) (Nat.le_of_ble_eq_true rfl) _ fun hok => ?_
  simp only [go_sem, Nat.reduceBEq, Nat.reduceLT, Nat.reduceLeDiff, Nat.reduceAdd, Nat.reduceMul, Nat.reduceSub, Nat.reduceMod, Nat.reduceDiv, Nat.reduceEqDiff, Int.reduceToNat, reduceIte, reduceCtorEq, Int.reduceLE, Int.reduceLT, Int.reduceEq, Int.reduceNeg, Int.reduceAdd, Int.reduceSub, Int.reduceMul]
  refine T_drawG hti 9 [] (.b 0 0 (.b 0 1 (.b 0 2 (.b 0 3 (.b 0 4 (.b 0 5 (.b 0 8 (.b 2 6 (.b 0 7 (.f) .o) .o) .o) .o) .o) .o) .o) .o) .o) _ _ (by kernel_rfl) (by kernel_rfl) ?_
  simp only [go_sem, Nat.reduceBEq, Nat.reduceLT, Nat.reduceLeDiff, Nat.reduceAdd, Nat.reduceMul, Nat.reduceSub, Nat.reduceMod, Nat.reduceDiv, Nat.reduceEqDiff, Int.reduceToNat, reduceIte, reduceCtorEq, Int.reduceLE, Int.reduceLT, Int.reduceEq, Int.reduceNeg, Int.reduceAdd, Int.reduceSub, Int.reduceMul, hg, hgn, hp0, hn65]
  refine callA_false (covered_E _ _ _ i P x y (by first | (simp only [go_sem, Nat.reduceBEq, Nat.reduceLT, Nat.reduceLeDiff, Nat.reduceAdd, Nat.reduceMul, Nat.reduceSub, Nat.reduceMod, Nat.reduceDiv, Nat.reduceEqDiff, Int.reduceToNat, reduceIte, reduceCtorEq, Int.reduceLE, Int.reduceLT, Int.reduceEq, Int.reduceNeg, Int.reduceAdd, Int.reduceSub, Int.reduceMul, hs, hi]; done) | (simp only [go_sem, Nat.reduceBEq, Nat.reduceLT, Nat.reduceLeDiff, Nat.reduceAdd, Nat.reduceMul, Nat.reduceSub, Nat.reduceMod, Nat.reduceDiv, Nat.reduceEqDiff, Int.reduceToNat, reduceIte, reduceCtorEq, Int.reduceLE, Int.reduceLT, Int.reduceEq, Int.reduceNeg, Int.reduceAdd, Int.reduceSub, Int.reduceMul, hs, hi]; rfl)) (by omega) hR hP hx hx1 hy hy1 _ fun cap => ?_)
  unfold okAll opF
  generalize hMM : covL P.wide P.high x y = M at *
  simp only [go_sem, Nat.reduceBEq, Nat.reduceLT, Nat.reduceLeDiff, Nat.reduceAdd, Nat.reduceMul, Nat.reduceSub, Nat.reduceMod, Nat.reduceDiv, Nat.reduceEqDiff, Int.reduceToNat, reduceIte, reduceCtorEq, Int.reduceLE, Int.reduceLT, Int.reduceEq, Int.reduceNeg, Int.reduceAdd, Int.reduceSub, Int.reduceMul]
  refine T_lp (ι := { q : Nat × Nat // q.1 ≤ M.length ∧ (∀ j, j < q.1 → okP P O k (M.getD j (0, 0)) = true) ∧ ((M.take q.1).filter (opP O)).length ≤ q.2 ∧ q.2 ≤ maxLen })
    (fun q => ([(0, .ptr g 0), (3, .ptr n 0), (4, .nils), (5, .bool false), (6, .sl (n + 1) 0 ((M.take q.1.1).filter (opP O)).length q.1.2), (16, .sl (n + 2) 0 M.length cap), (17, .int .i64 M.length), (18, .int .i64 q.1.1)],
      (n + 2, ⟨M.length * 2, spotsC M, true, none⟩) :: (n + 1, ⟨((M.take q.1.1).filter (opP O)).length * 2, spotsC ((M.take q.1.1).filter (opP O)), true, some (34, q.1.2 * 2)⟩) :: (n, ⟨3, cl [.int .i8 x, .int .i8 y, .int .u8 k], true, none⟩) :: h, n + 3)) (fun q => M.length - q.1.1) ⟨(0, 0), by simp⟩ ?_ ?_
  · refine Imp.id (by simp) ?_ ?_
    · simp only [go_sem, Nat.reduceBEq, Nat.reduceLT, Nat.reduceLeDiff, Nat.reduceAdd, Nat.reduceMul, Nat.reduceSub, Nat.reduceMod, Nat.reduceDiv, Nat.reduceEqDiff, Int.reduceToNat, reduceIte, reduceCtorEq, Int.reduceLE, Int.reduceLT, Int.reduceEq, Int.reduceNeg, Int.reduceAdd, Int.reduceSub, Int.reduceMul]
      (repeat' apply And.intro) <;> first | omega | rfl | trivial | assumption | skip
    · refine impH.cons0 (by first | (simp only [go_sem, Nat.reduceBEq, Nat.reduceLT, Nat.reduceLeDiff, Nat.reduceAdd, Nat.reduceMul, Nat.reduceSub, Nat.reduceMod, Nat.reduceDiv, Nat.reduceEqDiff, Int.reduceToNat, reduceIte, reduceCtorEq, Int.reduceLE, Int.reduceLT, Int.reduceEq, Int.reduceNeg, Int.reduceAdd, Int.reduceSub, Int.reduceMul]; done) | (simp only [go_sem, Nat.reduceBEq, Nat.reduceLT, Nat.reduceLeDiff, Nat.reduceAdd, Nat.reduceMul, Nat.reduceSub, Nat.reduceMod, Nat.reduceDiv, Nat.reduceEqDiff, Int.reduceToNat, reduceIte, reduceCtorEq, Int.reduceLE, Int.reduceLT, Int.reduceEq, Int.reduceNeg, Int.reduceAdd, Int.reduceSub, Int.reduceMul]; rfl)) (by simp) (SegLe.flat (Nat.le_refl _) id (.inr rfl) fun k hk => ⟨rfl, spotsC_flat _ _⟩) (impH.cons0 ((hget_miss _ _ _ _ (by simp)).trans (hget_hit _ _ _)) (by simp) (SegLe.flat (by simp) id (.inr (by simp)) fun k hk => by simp at hk) (impH.cons0 (by first | (simp only [go_sem, Nat.reduceBEq, Nat.reduceLT, Nat.reduceLeDiff, Nat.reduceAdd, Nat.reduceMul, Nat.reduceSub, Nat.reduceMod, Nat.reduceDiv, Nat.reduceEqDiff, Int.reduceToNat, reduceIte, reduceCtorEq, Int.reduceLE, Int.reduceLT, Int.reduceEq, Int.reduceNeg, Int.reduceAdd, Int.reduceSub, Int.reduceMul]; done) | (simp only [go_sem, Nat.reduceBEq, Nat.reduceLT, Nat.reduceLeDiff, Nat.reduceAdd, Nat.reduceMul, Nat.reduceSub, Nat.reduceMod, Nat.reduceDiv, Nat.reduceEqDiff, Int.reduceToNat, reduceIte, reduceCtorEq, Int.reduceLE, Int.reduceLT, Int.reduceEq, Int.reduceNeg, Int.reduceAdd, Int.reduceSub, Int.reduceMul]; rfl)) (by simp) (SegLe.flat (Nat.le_refl _) id (.inr rfl) fun z hz => ⟨rfl, cl_flat (l := [_, _, _]) (by simp [SV.flat]) hz⟩) (impH.base0 hok (by simp) (by simp only [go_sem, Nat.reduceBEq, Nat.reduceLT, Nat.reduceLeDiff, Nat.reduceAdd, Nat.reduceMul, Nat.reduceSub, Nat.reduceMod, Nat.reduceDiv, Nat.reduceEqDiff, Int.reduceToNat, reduceIte, reduceCtorEq, Int.reduceLE, Int.reduceLT, Int.reduceEq, Int.reduceNeg, Int.reduceAdd, Int.reduceSub, Int.reduceMul, HExt_cons]))))
  · rintro ⟨⟨q, cap1⟩, hq, hall, hcap, hm⟩
    simp only at hq hall hcap hm
    have hlen := filter_len (opP O) M q
    simp only [go_sem, Nat.reduceBEq, Nat.reduceLT, Nat.reduceLeDiff, Nat.reduceAdd, Nat.reduceMul, Nat.reduceSub, Nat.reduceMod, Nat.reduceDiv, Nat.reduceEqDiff, Int.reduceToNat, reduceIte, reduceCtorEq, Int.reduceLE, Int.reduceLT, Int.reduceEq, Int.reduceNeg, Int.reduceAdd, Int.reduceSub, Int.reduceMul, decide_eq_true_eq, decide_eq_false_iff_not]
    refine ⟨fun h1 => ?_, fun h1 => ?_⟩
    · have hqM : q < M.length := by omega
      have r1 : (0 : Int) ≤ q ∧ (q : Int) < M.length := ⟨by omega, by omega⟩
      have b1 : q * 2 ≤ M.length * 2 - 2 := by omega
      have b2 : q * 2 + 2 ≤ M.length * 2 := by omega
      have b3 : 2 ≤ M.length * 2 := by omega
      obtain ⟨⟨c1, c2⟩, c3, c4⟩ := hmem q hqM
      have tf := take_filter (opP O) M q hqM
      have hnx : okP P O k (M.getD q (0, 0)) = true → ∀ j, j < q + 1 → okP P O k (M.getD j (0, 0)) = true := fun ho j hj => by
        rcases (by omega : j < q ∨ j = q) with e | rfl
        · exact hall j e
        · exact ho
      generalize hcc : M.getD q (0, 0) = c at *
      have c5 : c.1 < 8 := by omega
      have c6 : c.2 < 8 := by omega
      have hat := hG.at c3 c6 c1 c5
      have d1 : 1 + c.2.toNat * 8 + c.1.toNat ≤ s.n - 1 := by omega
      have d2 : 1 + c.2.toNat * 8 + c.1.toNat + 1 ≤ s.n := by omega
      simp only [go_sem, Nat.reduceBEq, Nat.reduceLT, Nat.reduceLeDiff, Nat.reduceAdd, Nat.reduceMul, Nat.reduceSub, Nat.reduceMod, Nat.reduceDiv, Nat.reduceEqDiff, Int.reduceToNat, reduceIte, reduceCtorEq, Int.reduceLE, Int.reduceLT, Int.reduceEq, Int.reduceNeg, Int.reduceAdd, Int.reduceSub, Int.reduceMul, r1, b1, b2, b3, spotsC_x, spotsC_y, hcc]
      refine T_draw hti _ _ (by kernel_rfl) (by kernel_rfl) ?_
      simp only [go_sem, Nat.reduceBEq, Nat.reduceLT, Nat.reduceLeDiff, Nat.reduceAdd, Nat.reduceMul, Nat.reduceSub, Nat.reduceMod, Nat.reduceDiv, Nat.reduceEqDiff, Int.reduceToNat, reduceIte, reduceCtorEq, Int.reduceLE, Int.reduceLT, Int.reduceEq, Int.reduceNeg, Int.reduceAdd, Int.reduceSub, Int.reduceMul, hg, hgn, c1, c3, c5, c6, hat, hn65, d1, d2]
      cases ho : O c.2 c.1
      rotate_left
      · have e1 : opP O c = false := by unfold opP; rw [ho]; rfl
        have e2 : okP P O k c = true := by unfold okP; rw [ho]; rfl
        rw [e1] at tf
        simp only [Bool.false_eq_true, if_false, List.append_nil] at tf
        simp only [go_sem, Nat.reduceBEq, Nat.reduceLT, Nat.reduceLeDiff, Nat.reduceAdd, Nat.reduceMul, Nat.reduceSub, Nat.reduceMod, Nat.reduceDiv, Nat.reduceEqDiff, Int.reduceToNat, reduceIte, reduceCtorEq, Int.reduceLE, Int.reduceLT, Int.reduceEq, Int.reduceNeg, Int.reduceAdd, Int.reduceSub, Int.reduceMul]
        refine ⟨⟨(q + 1, cap1), by omega, hnx e2, by simp only [tf]; exact hcap, hm⟩, by show M.length - (q + 1) < M.length - q; omega, ?_⟩
        refine Imp.id (by simp) ?_ ?_
        · simp only [go_sem, Nat.reduceBEq, Nat.reduceLT, Nat.reduceLeDiff, Nat.reduceAdd, Nat.reduceMul, Nat.reduceSub, Nat.reduceMod, Nat.reduceDiv, Nat.reduceEqDiff, Int.reduceToNat, reduceIte, reduceCtorEq, Int.reduceLE, Int.reduceLT, Int.reduceEq, Int.reduceNeg, Int.reduceAdd, Int.reduceSub, Int.reduceMul, tf, w64 (n := (q : Int) + 1) (by omega), Int.natCast_add, Int.natCast_one]
          omega
        · simp only [tf]
          exact impH.cons0 (by first | (simp only [go_sem, Nat.reduceBEq, Nat.reduceLT, Nat.reduceLeDiff, Nat.reduceAdd, Nat.reduceMul, Nat.reduceSub, Nat.reduceMod, Nat.reduceDiv, Nat.reduceEqDiff, Int.reduceToNat, reduceIte, reduceCtorEq, Int.reduceLE, Int.reduceLT, Int.reduceEq, Int.reduceNeg, Int.reduceAdd, Int.reduceSub, Int.reduceMul]; done) | (simp only [go_sem, Nat.reduceBEq, Nat.reduceLT, Nat.reduceLeDiff, Nat.reduceAdd, Nat.reduceMul, Nat.reduceSub, Nat.reduceMod, Nat.reduceDiv, Nat.reduceEqDiff, Int.reduceToNat, reduceIte, reduceCtorEq, Int.reduceLE, Int.reduceLT, Int.reduceEq, Int.reduceNeg, Int.reduceAdd, Int.reduceSub, Int.reduceMul]; rfl)) (by simp) (SegLe.flat (Nat.le_refl _) id (.inr rfl) fun k hk => ⟨rfl, spotsC_flat _ _⟩) (impH.cons0 (by first | (simp only [go_sem, Nat.reduceBEq, Nat.reduceLT, Nat.reduceLeDiff, Nat.reduceAdd, Nat.reduceMul, Nat.reduceSub, Nat.reduceMod, Nat.reduceDiv, Nat.reduceEqDiff, Int.reduceToNat, reduceIte, reduceCtorEq, Int.reduceLE, Int.reduceLT, Int.reduceEq, Int.reduceNeg, Int.reduceAdd, Int.reduceSub, Int.reduceMul]; done) | (simp only [go_sem, Nat.reduceBEq, Nat.reduceLT, Nat.reduceLeDiff, Nat.reduceAdd, Nat.reduceMul, Nat.reduceSub, Nat.reduceMod, Nat.reduceDiv, Nat.reduceEqDiff, Int.reduceToNat, reduceIte, reduceCtorEq, Int.reduceLE, Int.reduceLT, Int.reduceEq, Int.reduceNeg, Int.reduceAdd, Int.reduceSub, Int.reduceMul]; rfl)) (by simp) (SegLe.flat (Nat.le_refl _) id (.inr rfl) fun k hk => ⟨rfl, spotsC_flat _ _⟩) (impH.cons0 (by first | (simp only [go_sem, Nat.reduceBEq, Nat.reduceLT, Nat.reduceLeDiff, Nat.reduceAdd, Nat.reduceMul, Nat.reduceSub, Nat.reduceMod, Nat.reduceDiv, Nat.reduceEqDiff, Int.reduceToNat, reduceIte, reduceCtorEq, Int.reduceLE, Int.reduceLT, Int.reduceEq, Int.reduceNeg, Int.reduceAdd, Int.reduceSub, Int.reduceMul]; done) | (simp only [go_sem, Nat.reduceBEq, Nat.reduceLT, Nat.reduceLeDiff, Nat.reduceAdd, Nat.reduceMul, Nat.reduceSub, Nat.reduceMod, Nat.reduceDiv, Nat.reduceEqDiff, Int.reduceToNat, reduceIte, reduceCtorEq, Int.reduceLE, Int.reduceLT, Int.reduceEq, Int.reduceNeg, Int.reduceAdd, Int.reduceSub, Int.reduceMul]; rfl)) (by simp) (SegLe.flat (Nat.le_refl _) id (.inr rfl) fun z hz => ⟨rfl, cl_flat (l := [_, _, _]) (by simp [SV.flat]) hz⟩) (impH.base0 hok (by simp) (by simp only [go_sem, Nat.reduceBEq, Nat.reduceLT, Nat.reduceLeDiff, Nat.reduceAdd, Nat.reduceMul, Nat.reduceSub, Nat.reduceMod, Nat.reduceDiv, Nat.reduceEqDiff, Int.reduceToNat, reduceIte, reduceCtorEq, Int.reduceLE, Int.reduceLT, Int.reduceEq, Int.reduceNeg, Int.reduceAdd, Int.reduceSub, Int.reduceMul, HExt_cons]))))
      · have e1 : opP O c = true := by unfold opP; rw [ho]; rfl
        rw [e1] at tf
        simp only [if_true] at tf
        simp only [go_sem, Nat.reduceBEq, Nat.reduceLT, Nat.reduceLeDiff, Nat.reduceAdd, Nat.reduceMul, Nat.reduceSub, Nat.reduceMod, Nat.reduceDiv, Nat.reduceEqDiff, Int.reduceToNat, reduceIte, reduceCtorEq, Int.reduceLE, Int.reduceLT, Int.reduceEq, Int.reduceNeg, Int.reduceAdd, Int.reduceSub, Int.reduceMul]
        refine T_drawG hti 11 [] (.b 0 0 (.b 0 1 (.b 0 2 (.b 0 3 (.b 0 4 (.b 0 6 (.b 0 7 (.b 0 8 (.b 1 5 (.b 0 9 (.b 0 10 (.f) .o) .o) .o) .o) .o) .o) .o) .o) .o) .o) .o) _ _ (by kernel_rfl) (by kernel_rfl) ?_
        simp only [go_sem, Nat.reduceBEq, Nat.reduceLT, Nat.reduceLeDiff, Nat.reduceAdd, Nat.reduceMul, Nat.reduceSub, Nat.reduceMod, Nat.reduceDiv, Nat.reduceEqDiff, Int.reduceToNat, reduceIte, reduceCtorEq, Int.reduceLE, Int.reduceLT, Int.reduceEq, Int.reduceNeg, Int.reduceAdd, Int.reduceSub, Int.reduceMul, hg, hgn, hp0, hn65]
        refine CallQ.F _ (fun h' n' hn hx => shown_Q _ h' n' i P c.1 c.2 (hx _ (by omega) _ (by first | (simp only [go_sem, Nat.reduceBEq, Nat.reduceLT, Nat.reduceLeDiff, Nat.reduceAdd, Nat.reduceMul, Nat.reduceSub, Nat.reduceMod, Nat.reduceDiv, Nat.reduceEqDiff, Int.reduceToNat, reduceIte, reduceCtorEq, Int.reduceLE, Int.reduceLT, Int.reduceEq, Int.reduceNeg, Int.reduceAdd, Int.reduceSub, Int.reduceMul, hs, hi]; done) | (simp only [go_sem, Nat.reduceBEq, Nat.reduceLT, Nat.reduceLeDiff, Nat.reduceAdd, Nat.reduceMul, Nat.reduceSub, Nat.reduceMod, Nat.reduceDiv, Nat.reduceEqDiff, Int.reduceToNat, reduceIte, reduceCtorEq, Int.reduceLE, Int.reduceLT, Int.reduceEq, Int.reduceNeg, Int.reduceAdd, Int.reduceSub, Int.reduceMul, hs, hi]; rfl))) (by omega) c1 c5 c3 c6) ?_
        simp only [go_sem, Nat.reduceBEq, Nat.reduceLT, Nat.reduceLeDiff, Nat.reduceAdd, Nat.reduceMul, Nat.reduceSub, Nat.reduceMod, Nat.reduceDiv, Nat.reduceEqDiff, Int.reduceToNat, reduceIte, reduceCtorEq, Int.reduceLE, Int.reduceLT, Int.reduceEq, Int.reduceNeg, Int.reduceAdd, Int.reduceSub, Int.reduceMul, hk1]
        by_cases he : P.ink c.2 c.1 = k + 1
        · have e2 : okP P O k c = true := by unfold okP; rw [he]; simp
          have hd2 : hdel h (n + 1) = h := hok.del (by omega)
          simp only [go_sem, Nat.reduceBEq, Nat.reduceLT, Nat.reduceLeDiff, Nat.reduceAdd, Nat.reduceMul, Nat.reduceSub, Nat.reduceMod, Nat.reduceDiv, Nat.reduceEqDiff, Int.reduceToNat, reduceIte, reduceCtorEq, Int.reduceLE, Int.reduceLT, Int.reduceEq, Int.reduceNeg, Int.reduceAdd, Int.reduceSub, Int.reduceMul, he, hd2]
          refine ⟨⟨hcap, hm, by omega⟩, fun cap' h3 h4 => ⟨⟨(q + 1, cap'), by omega, hnx e2, by simp only [tf, List.length_append, List.length_singleton]; exact h3, h4⟩, by show M.length - (q + 1) < M.length - q; omega, ?_⟩⟩
          refine Imp.of1 (n + 1) (n + 5) (by simp) (by omega) (by simp) ?_ ?_
          · simp only [go_sem, Nat.reduceBEq, Nat.reduceLT, Nat.reduceLeDiff, Nat.reduceAdd, Nat.reduceMul, Nat.reduceSub, Nat.reduceMod, Nat.reduceDiv, Nat.reduceEqDiff, Int.reduceToNat, reduceIte, reduceCtorEq, Int.reduceLE, Int.reduceLT, Int.reduceEq, Int.reduceNeg, Int.reduceAdd, Int.reduceSub, Int.reduceMul, hgn, tf, List.length_append, List.length_singleton, w64 (n := (q : Int) + 1) (by omega), Int.natCast_add, Int.natCast_one]
            (repeat' apply And.intro) <;> first | omega | rfl | trivial | assumption | skip
          · simp only [tf]
            refine impH.cons2 (by first | (simp only [go_sem, Nat.reduceBEq, Nat.reduceLT, Nat.reduceLeDiff, Nat.reduceAdd, Nat.reduceMul, Nat.reduceSub, Nat.reduceMod, Nat.reduceDiv, Nat.reduceEqDiff, Int.reduceToNat, reduceIte, reduceCtorEq, Int.reduceLE, Int.reduceLT, Int.reduceEq, Int.reduceNeg, Int.reduceAdd, Int.reduceSub, Int.reduceMul]; done) | (simp only [go_sem, Nat.reduceBEq, Nat.reduceLT, Nat.reduceLeDiff, Nat.reduceAdd, Nat.reduceMul, Nat.reduceSub, Nat.reduceMod, Nat.reduceDiv, Nat.reduceEqDiff, Int.reduceToNat, reduceIte, reduceCtorEq, Int.reduceLE, Int.reduceLT, Int.reduceEq, Int.reduceNeg, Int.reduceAdd, Int.reduceSub, Int.reduceMul]; rfl)) (by simp) (by omega) (SegLe.flat (Nat.le_refl _) id (.inr rfl) fun z hz => ⟨rfl, spotsC_flat _ _⟩) (impH.cons1 (hget_hit _ _ _) (by simp) (SegLe.flat (by simp) id (.inr rfl) fun z hz => ⟨?_, spotsC_flat _ _⟩) (impH.cons2 (by first | (simp only [go_sem, Nat.reduceBEq, Nat.reduceLT, Nat.reduceLeDiff, Nat.reduceAdd, Nat.reduceMul, Nat.reduceSub, Nat.reduceMod, Nat.reduceDiv, Nat.reduceEqDiff, Int.reduceToNat, reduceIte, reduceCtorEq, Int.reduceLE, Int.reduceLT, Int.reduceEq, Int.reduceNeg, Int.reduceAdd, Int.reduceSub, Int.reduceMul]; done) | (simp only [go_sem, Nat.reduceBEq, Nat.reduceLT, Nat.reduceLeDiff, Nat.reduceAdd, Nat.reduceMul, Nat.reduceSub, Nat.reduceMod, Nat.reduceDiv, Nat.reduceEqDiff, Int.reduceToNat, reduceIte, reduceCtorEq, Int.reduceLE, Int.reduceLT, Int.reduceEq, Int.reduceNeg, Int.reduceAdd, Int.reduceSub, Int.reduceMul]; rfl)) (by simp) (by omega) (SegLe.flat (Nat.le_refl _) id (.inr rfl) fun z hz => ⟨rfl, cl_flat (l := [_, _, _]) (by simp [SV.flat]) hz⟩) (impH.base1 hok (by simp) (by simp) (by simp only [go_sem, Nat.reduceBEq, Nat.reduceLT, Nat.reduceLeDiff, Nat.reduceAdd, Nat.reduceMul, Nat.reduceSub, Nat.reduceMod, Nat.reduceDiv, Nat.reduceEqDiff, Int.reduceToNat, reduceIte, reduceCtorEq, Int.reduceLE, Int.reduceLT, Int.reduceEq, Int.reduceNeg, Int.reduceAdd, Int.reduceSub, Int.reduceMul, HExt_cons]))))
            have hz : z < ((M.take q).filter (opP O) ++ [c]).length * 2 := hz
            rw [List.length_append, List.length_singleton] at hz
            exact both_snoc _ _ _ rfl rfl hz
        · have e2 : okP P O k c = false := by unfold okP; rw [ho]; simp [he]
          have e4 : M.all (okP P O k) = false := all_not hqM (by rw [hcc]; exact e2)
          simp only [go_sem, Nat.reduceBEq, Nat.reduceLT, Nat.reduceLeDiff, Nat.reduceAdd, Nat.reduceMul, Nat.reduceSub, Nat.reduceMod, Nat.reduceDiv, Nat.reduceEqDiff, Int.reduceToNat, reduceIte, reduceCtorEq, Int.reduceLE, Int.reduceLT, Int.reduceEq, Int.reduceNeg, Int.reduceAdd, Int.reduceSub, Int.reduceMul, he]

          exact .inl e4
    · have hq2 : q = M.length := by omega
      subst hq2
      have e4 : M.all (okP P O k) = true := all_getD hall
      rw [List.take_length] at hcap
      simp only [go_sem, Nat.reduceBEq, Nat.reduceLT, Nat.reduceLeDiff, Nat.reduceAdd, Nat.reduceMul, Nat.reduceSub, Nat.reduceMod, Nat.reduceDiv, Nat.reduceEqDiff, Int.reduceToNat, reduceIte, reduceCtorEq, Int.reduceLE, Int.reduceLT, Int.reduceEq, Int.reduceNeg, Int.reduceAdd, Int.reduceSub, Int.reduceMul, List.take_length]

      simp only [Int.natCast_pos]
      exact .inr ⟨e4, n + 1, cap1, by omega, rfl, _, (by first | (simp only [go_sem, Nat.reduceBEq, Nat.reduceLT, Nat.reduceLeDiff, Nat.reduceAdd, Nat.reduceMul, Nat.reduceSub, Nat.reduceMod, Nat.reduceDiv, Nat.reduceEqDiff, Int.reduceToNat, reduceIte, reduceCtorEq, Int.reduceLE, Int.reduceLT, Int.reduceEq, Int.reduceNeg, Int.reduceAdd, Int.reduceSub, Int.reduceMul]; done) | (simp only [go_sem, Nat.reduceBEq, Nat.reduceLT, Nat.reduceLeDiff, Nat.reduceAdd, Nat.reduceMul, Nat.reduceSub, Nat.reduceMod, Nat.reduceDiv, Nat.reduceEqDiff, Int.reduceToNat, reduceIte, reduceCtorEq, Int.reduceLE, Int.reduceLT, Int.reduceEq, Int.reduceNeg, Int.reduceAdd, Int.reduceSub, Int.reduceMul]; rfl)), rfl, rfl, fun _ _ => rfl⟩
end
end Go.Proofs.Ytodgbpkdanefaaa.V

/- CanBeLast of both codes; its law: the walk. -/
namespace Go.Proofs.Ytodgbpkdanefaaa.V
def off : Gr := fun _ _ => false
theorem peelsB_eq (P : Pc) (O : Gr) (x y k : Int) : peelsB P O x y k = (okAll P O x y k && decide (0 < (opF P O x y).length)) := rfl
theorem pelAt_new {s : Seg} {v : SV} (hn : s.n = 65) (h0 : s.c 0 = v) (h1 : ∀ j, s.c (1 + j) = .bool false) : PelAt s v off := ⟨by omega, h0, fun j _ => (h1 j).trans rfl⟩
theorem opF_off' (P : Pc) (x y : Int) : opF P off x y = covL P.wide P.high x y := opF_off P x y
@[go_sem] theorem mkAgg_65 (F : Nat → SV) : mkAgg 65 F = .agg 65 F := rfl
section
variable (cx : Cx) (h : List (Nat × Seg)) (n : Nat)
theorem canBeLast_Q (i : Nat) (P : Pc) (x y k : Int) (hs : hget h i = some (pcS P)) (hi : i < n) (hR : PcR P) (hP : PcOk P) (hx : 0 ≤ x) (hx1 : x < P.wide) (hy : 0 ≤ y) (hy1 : y < P.high) (hk : 0 ≤ k ∧ k < 3) :
    CallQ Try.prog cx 57 [.ptr i 0, dropV x y k] h n (.bool (peelsB P off x y k)) := by
  rw [peelsB_eq]
  refine callQ_of_T (P := Try.prog) hti (nt := 26) (rs := [.tmp 4]) rfl rfl Try.call57 Try.func57 rfl _ (by simp only [go_sem, and_self]) (Nat.le_of_ble_eq_true rfl) _ (by first | exact trivial | (refine lt_flat rfl ?_; simp [SV.flat]; done) | simp only [go_sem]) fun hok => ?_
  simp only [go_sem, Nat.reduceBEq, Nat.reduceLT, Nat.reduceLeDiff, Nat.reduceAdd, Nat.reduceMul, Nat.reduceSub, Nat.reduceMod, Nat.reduceDiv, Nat.reduceEqDiff, Int.reduceToNat, reduceIte, reduceCtorEq, Int.reduceLE, Int.reduceLT, Int.reduceEq, Int.reduceNeg, Int.reduceAdd, Int.reduceSub, Int.reduceMul]
  refine callA_false (can_E _ _ _ i (n + 1) P off x y k _ (by first | (simp only [go_sem, Nat.reduceBEq, Nat.reduceLT, Nat.reduceLeDiff, Nat.reduceAdd, Nat.reduceMul, Nat.reduceSub, Nat.reduceMod, Nat.reduceDiv, Nat.reduceEqDiff, Int.reduceToNat, reduceIte, reduceCtorEq, Int.reduceLE, Int.reduceLT, Int.reduceEq, Int.reduceNeg, Int.reduceAdd, Int.reduceSub, Int.reduceMul, hs, hi]; done) | (simp only [go_sem, Nat.reduceBEq, Nat.reduceLT, Nat.reduceLeDiff, Nat.reduceAdd, Nat.reduceMul, Nat.reduceSub, Nat.reduceMod, Nat.reduceDiv, Nat.reduceEqDiff, Int.reduceToNat, reduceIte, reduceCtorEq, Int.reduceLE, Int.reduceLT, Int.reduceEq, Int.reduceNeg, Int.reduceAdd, Int.reduceSub, Int.reduceMul, hs, hi]; rfl)) (by omega) (by first | (simp only [go_sem, Nat.reduceBEq, Nat.reduceLT, Nat.reduceLeDiff, Nat.reduceAdd, Nat.reduceMul, Nat.reduceSub, Nat.reduceMod, Nat.reduceDiv, Nat.reduceEqDiff, Int.reduceToNat, reduceIte, reduceCtorEq, Int.reduceLE, Int.reduceLT, Int.reduceEq, Int.reduceNeg, Int.reduceAdd, Int.reduceSub, Int.reduceMul]; done) | (simp only [go_sem, Nat.reduceBEq, Nat.reduceLT, Nat.reduceLeDiff, Nat.reduceAdd, Nat.reduceMul, Nat.reduceSub, Nat.reduceMod, Nat.reduceDiv, Nat.reduceEqDiff, Int.reduceToNat, reduceIte, reduceCtorEq, Int.reduceLE, Int.reduceLT, Int.reduceEq, Int.reduceNeg, Int.reduceAdd, Int.reduceSub, Int.reduceMul]; rfl)) (by omega) (pelAt_new rfl rfl fun j => by simp only [go_sem, Nat.reduceBEq, Nat.reduceLT, Nat.reduceLeDiff, Nat.reduceAdd, Nat.reduceMul, Nat.reduceSub, Nat.reduceMod, Nat.reduceDiv, Nat.reduceEqDiff, Int.reduceToNat, reduceIte, reduceCtorEq, Int.reduceLE, Int.reduceLT, Int.reduceEq, Int.reduceNeg, Int.reduceAdd, Int.reduceSub, Int.reduceMul, upd_far (show 1 + j ≠ 0 by omega), show ¬ (1 + j < 1) by omega]) hR hP hx hx1 hy hy1 hk _ (fun ha => ?_) (fun ha cap => ?_))
  · simp only [go_sem, Nat.reduceBEq, Nat.reduceLT, Nat.reduceLeDiff, Nat.reduceAdd, Nat.reduceMul, Nat.reduceSub, Nat.reduceMod, Nat.reduceDiv, Nat.reduceEqDiff, Int.reduceToNat, reduceIte, reduceCtorEq, Int.reduceLE, Int.reduceLT, Int.reduceEq, Int.reduceNeg, Int.reduceAdd, Int.reduceSub, Int.reduceMul, ha, Bool.false_and]
  · rw [ha]
    by_cases h0 : 0 < (opF P off x y).length
    · simp only [go_sem, Nat.reduceBEq, Nat.reduceLT, Nat.reduceLeDiff, Nat.reduceAdd, Nat.reduceMul, Nat.reduceSub, Nat.reduceMod, Nat.reduceDiv, Nat.reduceEqDiff, Int.reduceToNat, reduceIte, reduceCtorEq, Int.reduceLE, Int.reduceLT, Int.reduceEq, Int.reduceNeg, Int.reduceAdd, Int.reduceSub, Int.reduceMul, h0, decide_true, Bool.and_true]
      refine callA_false (covered_E _ _ _ i P x y (by first | (simp only [go_sem, Nat.reduceBEq, Nat.reduceLT, Nat.reduceLeDiff, Nat.reduceAdd, Nat.reduceMul, Nat.reduceSub, Nat.reduceMod, Nat.reduceDiv, Nat.reduceEqDiff, Int.reduceToNat, reduceIte, reduceCtorEq, Int.reduceLE, Int.reduceLT, Int.reduceEq, Int.reduceNeg, Int.reduceAdd, Int.reduceSub, Int.reduceMul, hs, hi]; done) | (simp only [go_sem, Nat.reduceBEq, Nat.reduceLT, Nat.reduceLeDiff, Nat.reduceAdd, Nat.reduceMul, Nat.reduceSub, Nat.reduceMod, Nat.reduceDiv, Nat.reduceEqDiff, Int.reduceToNat, reduceIte, reduceCtorEq, Int.reduceLE, Int.reduceLT, Int.reduceEq, Int.reduceNeg, Int.reduceAdd, Int.reduceSub, Int.reduceMul, hs, hi]; rfl)) (by omega) hR hP hx hx1 hy hy1 _ fun cap => ?_)
      simp only [go_sem, Nat.reduceBEq, Nat.reduceLT, Nat.reduceLeDiff, Nat.reduceAdd, Nat.reduceMul, Nat.reduceSub, Nat.reduceMod, Nat.reduceDiv, Nat.reduceEqDiff, Int.reduceToNat, reduceIte, reduceCtorEq, Int.reduceLE, Int.reduceLT, Int.reduceEq, Int.reduceNeg, Int.reduceAdd, Int.reduceSub, Int.reduceMul, opF_off', decide_true]
    · simp only [go_sem, Nat.reduceBEq, Nat.reduceLT, Nat.reduceLeDiff, Nat.reduceAdd, Nat.reduceMul, Nat.reduceSub, Nat.reduceMod, Nat.reduceDiv, Nat.reduceEqDiff, Int.reduceToNat, reduceIte, reduceCtorEq, Int.reduceLE, Int.reduceLT, Int.reduceEq, Int.reduceNeg, Int.reduceAdd, Int.reduceSub, Int.reduceMul, h0, decide_false, Bool.and_false]
theorem lastR_1 {P : Pc} {d : Dr} (h : ¬ pcokB P = true) : lastR P d = (false, 1) := by unfold lastR codePc; simp [h]
theorem lastR_2 {P : Pc} {d : Dr} (h : pcokB P = true) (hc : canD P d = false) : lastR P d = (false, 2) := by unfold lastR codePc; simp [h, hc]
theorem lastR_0 {P : Pc} {d : Dr} (h : pcokB P = true) (hc : canD P d = true) : lastR P d = (peelsB P off d.1 d.2.1 d.2.2, 0) := by unfold lastR codePc; simp [h, hc]; rfl
theorem canBeLast2_Q (P : Pc) (d : Dr) (hR : PcR P) (hx : -128 ≤ d.1 ∧ d.1 < 128) (hy : -128 ≤ d.2.1 ∧ d.2.1 < 128) (hk0 : 0 ≤ d.2.2 ∧ d.2.2 < 256) :
    CallQ Try.prog cx 19 [.agg 66 (pcC P), dropV d.1 d.2.1 d.2.2] h n (.tup 2 (cl [.bool (lastR P d).1, .int .i64 (lastR P d).2])) := by
  refine callQ_of_T (P := Try.prog) hti (nt := 15) (rs := [.tmp 4, .tmp 5]) rfl rfl Try.call19 Try.func19 rfl _ (by simp only [go_sem, and_self]) (Nat.le_of_ble_eq_true rfl) _ (by first | exact trivial | (refine lt_flat rfl ?_; simp [SV.flat]; done) | simp only [go_sem]) fun hok => ?_
  simp only [go_sem, Nat.reduceBEq, Nat.reduceLT, Nat.reduceLeDiff, Nat.reduceAdd, Nat.reduceMul, Nat.reduceSub, Nat.reduceMod, Nat.reduceDiv, Nat.reduceEqDiff, Int.reduceToNat, reduceIte, reduceCtorEq, Int.reduceLE, Int.reduceLT, Int.reduceEq, Int.reduceNeg, Int.reduceAdd, Int.reduceSub, Int.reduceMul]
  refine (ok7_Q _ _ _ n P (by first | (simp only [go_sem, Nat.reduceBEq, Nat.reduceLT, Nat.reduceLeDiff, Nat.reduceAdd, Nat.reduceMul, Nat.reduceSub, Nat.reduceMod, Nat.reduceDiv, Nat.reduceEqDiff, Int.reduceToNat, reduceIte, reduceCtorEq, Int.reduceLE, Int.reduceLT, Int.reduceEq, Int.reduceNeg, Int.reduceAdd, Int.reduceSub, Int.reduceMul]; done) | (simp only [go_sem, Nat.reduceBEq, Nat.reduceLT, Nat.reduceLeDiff, Nat.reduceAdd, Nat.reduceMul, Nat.reduceSub, Nat.reduceMod, Nat.reduceDiv, Nat.reduceEqDiff, Int.reduceToNat, reduceIte, reduceCtorEq, Int.reduceLE, Int.reduceLT, Int.reduceEq, Int.reduceNeg, Int.reduceAdd, Int.reduceSub, Int.reduceMul]; rfl)) (by omega) hR).A ?_
  by_cases hk : pcokB P = true
  rotate_left
  · rw [lastR_1 hk]
    simp only [go_sem, Nat.reduceBEq, Nat.reduceLT, Nat.reduceLeDiff, Nat.reduceAdd, Nat.reduceMul, Nat.reduceSub, Nat.reduceMod, Nat.reduceDiv, Nat.reduceEqDiff, Int.reduceToNat, reduceIte, reduceCtorEq, Int.reduceLE, Int.reduceLT, Int.reduceEq, Int.reduceNeg, Int.reduceAdd, Int.reduceSub, Int.reduceMul, hk]
  have hP : PcOk P := by simpa [pcokB] using hk
  have hP1 := hP.1
  simp only [go_sem, Nat.reduceBEq, Nat.reduceLT, Nat.reduceLeDiff, Nat.reduceAdd, Nat.reduceMul, Nat.reduceSub, Nat.reduceMod, Nat.reduceDiv, Nat.reduceEqDiff, Int.reduceToNat, reduceIte, reduceCtorEq, Int.reduceLE, Int.reduceLT, Int.reduceEq, Int.reduceNeg, Int.reduceAdd, Int.reduceSub, Int.reduceMul, hk]
  refine (canD_Q _ _ _ n P P d (by first | (simp only [go_sem, Nat.reduceBEq, Nat.reduceLT, Nat.reduceLeDiff, Nat.reduceAdd, Nat.reduceMul, Nat.reduceSub, Nat.reduceMod, Nat.reduceDiv, Nat.reduceEqDiff, Int.reduceToNat, reduceIte, reduceCtorEq, Int.reduceLE, Int.reduceLT, Int.reduceEq, Int.reduceNeg, Int.reduceAdd, Int.reduceSub, Int.reduceMul]; done) | (simp only [go_sem, Nat.reduceBEq, Nat.reduceLT, Nat.reduceLeDiff, Nat.reduceAdd, Nat.reduceMul, Nat.reduceSub, Nat.reduceMod, Nat.reduceDiv, Nat.reduceEqDiff, Int.reduceToNat, reduceIte, reduceCtorEq, Int.reduceLE, Int.reduceLT, Int.reduceEq, Int.reduceNeg, Int.reduceAdd, Int.reduceSub, Int.reduceMul]; rfl)) (by omega) hR rfl rfl hx hy).A ?_
  cases hc : canD P d
  · rw [lastR_2 hk hc]
    simp only [go_sem, Nat.reduceBEq, Nat.reduceLT, Nat.reduceLeDiff, Nat.reduceAdd, Nat.reduceMul, Nat.reduceSub, Nat.reduceMod, Nat.reduceDiv, Nat.reduceEqDiff, Int.reduceToNat, reduceIte, reduceCtorEq, Int.reduceLE, Int.reduceLT, Int.reduceEq, Int.reduceNeg, Int.reduceAdd, Int.reduceSub, Int.reduceMul]
  · rw [lastR_0 hk hc]
    obtain ⟨k1, k2, k3⟩ := canD_in hP hc
    simp only [go_sem, Nat.reduceBEq, Nat.reduceLT, Nat.reduceLeDiff, Nat.reduceAdd, Nat.reduceMul, Nat.reduceSub, Nat.reduceMod, Nat.reduceDiv, Nat.reduceEqDiff, Int.reduceToNat, reduceIte, reduceCtorEq, Int.reduceLE, Int.reduceLT, Int.reduceEq, Int.reduceNeg, Int.reduceAdd, Int.reduceSub, Int.reduceMul]
    refine (peels2_Q _ _ _ n (n + 2) P off d.1 d.2.1 d.2.2 _ (by first | (simp only [go_sem, Nat.reduceBEq, Nat.reduceLT, Nat.reduceLeDiff, Nat.reduceAdd, Nat.reduceMul, Nat.reduceSub, Nat.reduceMod, Nat.reduceDiv, Nat.reduceEqDiff, Int.reduceToNat, reduceIte, reduceCtorEq, Int.reduceLE, Int.reduceLT, Int.reduceEq, Int.reduceNeg, Int.reduceAdd, Int.reduceSub, Int.reduceMul]; done) | (simp only [go_sem, Nat.reduceBEq, Nat.reduceLT, Nat.reduceLeDiff, Nat.reduceAdd, Nat.reduceMul, Nat.reduceSub, Nat.reduceMod, Nat.reduceDiv, Nat.reduceEqDiff, Int.reduceToNat, reduceIte, reduceCtorEq, Int.reduceLE, Int.reduceLT, Int.reduceEq, Int.reduceNeg, Int.reduceAdd, Int.reduceSub, Int.reduceMul]; rfl)) (by omega) (by first | (simp only [go_sem, Nat.reduceBEq, Nat.reduceLT, Nat.reduceLeDiff, Nat.reduceAdd, Nat.reduceMul, Nat.reduceSub, Nat.reduceMod, Nat.reduceDiv, Nat.reduceEqDiff, Int.reduceToNat, reduceIte, reduceCtorEq, Int.reduceLE, Int.reduceLT, Int.reduceEq, Int.reduceNeg, Int.reduceAdd, Int.reduceSub, Int.reduceMul]; done) | (simp only [go_sem, Nat.reduceBEq, Nat.reduceLT, Nat.reduceLeDiff, Nat.reduceAdd, Nat.reduceMul, Nat.reduceSub, Nat.reduceMod, Nat.reduceDiv, Nat.reduceEqDiff, Int.reduceToNat, reduceIte, reduceCtorEq, Int.reduceLE, Int.reduceLT, Int.reduceEq, Int.reduceNeg, Int.reduceAdd, Int.reduceSub, Int.reduceMul]; rfl)) (by omega) ⟨rfl, fun j hj => rfl⟩ hR hP (by omega) (by omega) (by omega)).A ?_
    simp only [go_sem, Nat.reduceBEq, Nat.reduceLT, Nat.reduceLeDiff, Nat.reduceAdd, Nat.reduceMul, Nat.reduceSub, Nat.reduceMod, Nat.reduceDiv, Nat.reduceEqDiff, Int.reduceToNat, reduceIte, reduceCtorEq, Int.reduceLE, Int.reduceLT, Int.reduceEq, Int.reduceNeg, Int.reduceAdd, Int.reduceSub, Int.reduceMul]
theorem canBeLast1_Q (P : Pc) (d : Dr) (hR : PcR P) (hx : -128 ≤ d.1 ∧ d.1 < 128) (hy : -128 ≤ d.2.1 ∧ d.2.1 < 128) (hk0 : 0 ≤ d.2.2 ∧ d.2.2 < 256) :
    CallQ Try.prog cx 21 [.agg 66 (pcC P), dropV d.1 d.2.1 d.2.2] h n (.tup 2 (cl [.bool (lastR P d).1, .int .i64 (lastR P d).2])) := by
  refine callQ_of_T (P := Try.prog) hti (nt := 15) (rs := [.tmp 4, .tmp 5]) rfl rfl Try.call21 Try.func21 rfl _ (by simp only [go_sem, and_self]) (Nat.le_of_ble_eq_true rfl) _ (by first | exact trivial | (refine lt_flat rfl ?_; simp [SV.flat]; done) | simp only [go_sem]) fun hok => ?_
  simp only [go_sem, Nat.reduceBEq, Nat.reduceLT, Nat.reduceLeDiff, Nat.reduceAdd, Nat.reduceMul, Nat.reduceSub, Nat.reduceMod, Nat.reduceDiv, Nat.reduceEqDiff, Int.reduceToNat, reduceIte, reduceCtorEq, Int.reduceLE, Int.reduceLT, Int.reduceEq, Int.reduceNeg, Int.reduceAdd, Int.reduceSub, Int.reduceMul]
  refine (isDrop7_Q _ _ _ n P d.1 d.2.1 d.2.2 (by first | (simp only [go_sem, Nat.reduceBEq, Nat.reduceLT, Nat.reduceLeDiff, Nat.reduceAdd, Nat.reduceMul, Nat.reduceSub, Nat.reduceMod, Nat.reduceDiv, Nat.reduceEqDiff, Int.reduceToNat, reduceIte, reduceCtorEq, Int.reduceLE, Int.reduceLT, Int.reduceEq, Int.reduceNeg, Int.reduceAdd, Int.reduceSub, Int.reduceMul]; done) | (simp only [go_sem, Nat.reduceBEq, Nat.reduceLT, Nat.reduceLeDiff, Nat.reduceAdd, Nat.reduceMul, Nat.reduceSub, Nat.reduceMod, Nat.reduceDiv, Nat.reduceEqDiff, Int.reduceToNat, reduceIte, reduceCtorEq, Int.reduceLE, Int.reduceLT, Int.reduceEq, Int.reduceNeg, Int.reduceAdd, Int.reduceSub, Int.reduceMul]; rfl)) (by omega) hR).A ?_
  simp only [go_sem, Nat.reduceBEq, Nat.reduceLT, Nat.reduceLeDiff, Nat.reduceAdd, Nat.reduceMul, Nat.reduceSub, Nat.reduceMod, Nat.reduceDiv, Nat.reduceEqDiff, Int.reduceToNat, reduceIte, reduceCtorEq, Int.reduceLE, Int.reduceLT, Int.reduceEq, Int.reduceNeg, Int.reduceAdd, Int.reduceSub, Int.reduceMul]
  refine (codePc_Q _ _ _ n P (by first | (simp only [go_sem, Nat.reduceBEq, Nat.reduceLT, Nat.reduceLeDiff, Nat.reduceAdd, Nat.reduceMul, Nat.reduceSub, Nat.reduceMod, Nat.reduceDiv, Nat.reduceEqDiff, Int.reduceToNat, reduceIte, reduceCtorEq, Int.reduceLE, Int.reduceLT, Int.reduceEq, Int.reduceNeg, Int.reduceAdd, Int.reduceSub, Int.reduceMul]; done) | (simp only [go_sem, Nat.reduceBEq, Nat.reduceLT, Nat.reduceLeDiff, Nat.reduceAdd, Nat.reduceMul, Nat.reduceSub, Nat.reduceMod, Nat.reduceDiv, Nat.reduceEqDiff, Int.reduceToNat, reduceIte, reduceCtorEq, Int.reduceLE, Int.reduceLT, Int.reduceEq, Int.reduceNeg, Int.reduceAdd, Int.reduceSub, Int.reduceMul]; rfl)) (by omega) hR (canD P d)).A ?_
  by_cases hk : pcokB P = true
  rotate_left
  · rw [lastR_1 hk, show codePc P (canD P d) = 1 by unfold codePc; simp [hk]]
    simp only [go_sem, Nat.reduceBEq, Nat.reduceLT, Nat.reduceLeDiff, Nat.reduceAdd, Nat.reduceMul, Nat.reduceSub, Nat.reduceMod, Nat.reduceDiv, Nat.reduceEqDiff, Int.reduceToNat, reduceIte, reduceCtorEq, Int.reduceLE, Int.reduceLT, Int.reduceEq, Int.reduceNeg, Int.reduceAdd, Int.reduceSub, Int.reduceMul]
  have hP : PcOk P := by simpa [pcokB] using hk
  cases hc : canD P d
  · rw [lastR_2 hk hc, show codePc P false = 2 by unfold codePc; simp [hk]]
    simp only [go_sem, Nat.reduceBEq, Nat.reduceLT, Nat.reduceLeDiff, Nat.reduceAdd, Nat.reduceMul, Nat.reduceSub, Nat.reduceMod, Nat.reduceDiv, Nat.reduceEqDiff, Int.reduceToNat, reduceIte, reduceCtorEq, Int.reduceLE, Int.reduceLT, Int.reduceEq, Int.reduceNeg, Int.reduceAdd, Int.reduceSub, Int.reduceMul]
  · rw [lastR_0 hk hc, show codePc P true = 0 by unfold codePc; simp [hk]]
    obtain ⟨k1, k2, k3⟩ := canD_in hP hc
    simp only [go_sem, Nat.reduceBEq, Nat.reduceLT, Nat.reduceLeDiff, Nat.reduceAdd, Nat.reduceMul, Nat.reduceSub, Nat.reduceMod, Nat.reduceDiv, Nat.reduceEqDiff, Int.reduceToNat, reduceIte, reduceCtorEq, Int.reduceLE, Int.reduceLT, Int.reduceEq, Int.reduceNeg, Int.reduceAdd, Int.reduceSub, Int.reduceMul]
    refine (canBeLast_Q _ _ _ n P d.1 d.2.1 d.2.2 (by first | (simp only [go_sem, Nat.reduceBEq, Nat.reduceLT, Nat.reduceLeDiff, Nat.reduceAdd, Nat.reduceMul, Nat.reduceSub, Nat.reduceMod, Nat.reduceDiv, Nat.reduceEqDiff, Int.reduceToNat, reduceIte, reduceCtorEq, Int.reduceLE, Int.reduceLT, Int.reduceEq, Int.reduceNeg, Int.reduceAdd, Int.reduceSub, Int.reduceMul]; done) | (simp only [go_sem, Nat.reduceBEq, Nat.reduceLT, Nat.reduceLeDiff, Nat.reduceAdd, Nat.reduceMul, Nat.reduceSub, Nat.reduceMod, Nat.reduceDiv, Nat.reduceEqDiff, Int.reduceToNat, reduceIte, reduceCtorEq, Int.reduceLE, Int.reduceLT, Int.reduceEq, Int.reduceNeg, Int.reduceAdd, Int.reduceSub, Int.reduceMul]; rfl)) (by omega) hR hP k1.1 k1.2 k2.1 k2.2 (by omega)).A ?_
    simp only [go_sem, Nat.reduceBEq, Nat.reduceLT, Nat.reduceLeDiff, Nat.reduceAdd, Nat.reduceMul, Nat.reduceSub, Nat.reduceMod, Nat.reduceDiv, Nat.reduceEqDiff, Int.reduceToNat, reduceIte, reduceCtorEq, Int.reduceLE, Int.reduceLT, Int.reduceEq, Int.reduceNeg, Int.reduceAdd, Int.reduceSub, Int.reduceMul]
theorem lawCanBeLast_Q (P : Pc) (hR : PcR P) (x y k : Int) (hx : -128 ≤ x ∧ x < 128) (hy : -128 ≤ y ∧ y < 128) (hk : 0 ≤ k ∧ k < 256) :
    CallQ Try.prog cx 4 [.agg 66 (pcC P), dropV x y k] h n (.bool true) := by
  refine callQ_of_T (P := Try.prog) hti (nt := 33) (rs := [.tmp 4]) rfl rfl Try.call4 Try.func4 rfl _ (by simp only [go_sem, and_self]) (Nat.le_of_ble_eq_true rfl) _ (by first | exact trivial | (refine lt_flat rfl ?_; simp [SV.flat]; done) | simp only [go_sem]) fun hok => ?_
  simp only [go_sem, Nat.reduceBEq, Nat.reduceLT, Nat.reduceLeDiff, Nat.reduceAdd, Nat.reduceMul, Nat.reduceSub, Nat.reduceMod, Nat.reduceDiv, Nat.reduceEqDiff, Int.reduceToNat, reduceIte, reduceCtorEq, Int.reduceLE, Int.reduceLT, Int.reduceEq, Int.reduceNeg, Int.reduceAdd, Int.reduceSub, Int.reduceMul]
  refine T_drawG hti 10 [] (.b 0 0 (.b 0 2 (.b 1 1 (.b 1 3 (.b 1 4 (.b 0 5 (.b 0 6 (.b 0 7 (.b 0 8 (.b 0 9 (.f) .o) .o) .o) .o) .o) .o) .o) .o) .o) .o) _ _ (by kernel_rfl) (by kernel_rfl) ?_
  simp only [go_sem, Nat.reduceBEq, Nat.reduceLT, Nat.reduceLeDiff, Nat.reduceAdd, Nat.reduceMul, Nat.reduceSub, Nat.reduceMod, Nat.reduceDiv, Nat.reduceEqDiff, Int.reduceToNat, reduceIte, reduceCtorEq, Int.reduceLE, Int.reduceLT, Int.reduceEq, Int.reduceNeg, Int.reduceAdd, Int.reduceSub, Int.reduceMul]
  refine CallQ.F _ (fun h' n' hn hx => toPicture_Q _ h' n' P) ?_
  simp only [go_sem, Nat.reduceBEq, Nat.reduceLT, Nat.reduceLeDiff, Nat.reduceAdd, Nat.reduceMul, Nat.reduceSub, Nat.reduceMod, Nat.reduceDiv, Nat.reduceEqDiff, Int.reduceToNat, reduceIte, reduceCtorEq, Int.reduceLE, Int.reduceLT, Int.reduceEq, Int.reduceNeg, Int.reduceAdd, Int.reduceSub, Int.reduceMul]
  refine CallQ.F _ (fun h' n' hn hx => toDrop_Q _ h' n' x y k) ?_
  simp only [go_sem, Nat.reduceBEq, Nat.reduceLT, Nat.reduceLeDiff, Nat.reduceAdd, Nat.reduceMul, Nat.reduceSub, Nat.reduceMod, Nat.reduceDiv, Nat.reduceEqDiff, Int.reduceToNat, reduceIte, reduceCtorEq, Int.reduceLE, Int.reduceLT, Int.reduceEq, Int.reduceNeg, Int.reduceAdd, Int.reduceSub, Int.reduceMul]
  refine CallQ.F _ (fun h' n' hn hx' => canBeLast2_Q _ h' n' P (x, y, k) hR hx hy hk) ?_
  simp only [go_sem, Nat.reduceBEq, Nat.reduceLT, Nat.reduceLeDiff, Nat.reduceAdd, Nat.reduceMul, Nat.reduceSub, Nat.reduceMod, Nat.reduceDiv, Nat.reduceEqDiff, Int.reduceToNat, reduceIte, reduceCtorEq, Int.reduceLE, Int.reduceLT, Int.reduceEq, Int.reduceNeg, Int.reduceAdd, Int.reduceSub, Int.reduceMul]
  refine T_drawG hti 10 [] (.b 0 0 (.b 0 2 (.b 1 1 (.b 1 3 (.b 1 4 (.b 0 5 (.b 0 6 (.b 0 7 (.b 0 8 (.b 0 9 (.f) .o) .o) .o) .o) .o) .o) .o) .o) .o) .o) _ _ (by kernel_rfl) (by kernel_rfl) ?_
  simp only [go_sem, Nat.reduceBEq, Nat.reduceLT, Nat.reduceLeDiff, Nat.reduceAdd, Nat.reduceMul, Nat.reduceSub, Nat.reduceMod, Nat.reduceDiv, Nat.reduceEqDiff, Int.reduceToNat, reduceIte, reduceCtorEq, Int.reduceLE, Int.reduceLT, Int.reduceEq, Int.reduceNeg, Int.reduceAdd, Int.reduceSub, Int.reduceMul]
  refine CallQ.F _ (fun h' n' hn hx => toPicture_Q _ h' n' P) ?_
  simp only [go_sem, Nat.reduceBEq, Nat.reduceLT, Nat.reduceLeDiff, Nat.reduceAdd, Nat.reduceMul, Nat.reduceSub, Nat.reduceMod, Nat.reduceDiv, Nat.reduceEqDiff, Int.reduceToNat, reduceIte, reduceCtorEq, Int.reduceLE, Int.reduceLT, Int.reduceEq, Int.reduceNeg, Int.reduceAdd, Int.reduceSub, Int.reduceMul]
  refine CallQ.F _ (fun h' n' hn hx => toDrop_Q _ h' n' x y k) ?_
  simp only [go_sem, Nat.reduceBEq, Nat.reduceLT, Nat.reduceLeDiff, Nat.reduceAdd, Nat.reduceMul, Nat.reduceSub, Nat.reduceMod, Nat.reduceDiv, Nat.reduceEqDiff, Int.reduceToNat, reduceIte, reduceCtorEq, Int.reduceLE, Int.reduceLT, Int.reduceEq, Int.reduceNeg, Int.reduceAdd, Int.reduceSub, Int.reduceMul]
  refine CallQ.F _ (fun h' n' hn hx' => canBeLast1_Q _ h' n' P (x, y, k) hR hx hy hk) ?_
  simp only [go_sem, Nat.reduceBEq, Nat.reduceLT, Nat.reduceLeDiff, Nat.reduceAdd, Nat.reduceMul, Nat.reduceSub, Nat.reduceMod, Nat.reduceDiv, Nat.reduceEqDiff, Int.reduceToNat, reduceIte, reduceCtorEq, Int.reduceLE, Int.reduceLT, Int.reduceEq, Int.reduceNeg, Int.reduceAdd, Int.reduceSub, Int.reduceMul, HExt_cons, beq_self_eq_true, Bool.not_true]
end
end Go.Proofs.Ytodgbpkdanefaaa.V

/- The law's lists of spots: copied, compared, marked. -/
namespace Go.Proofs.Ytodgbpkdanefaaa.V

/-- An argument that is a list of spots. -/
def SpsArg (h : List (Nat × Seg)) (n : Nat) (A : SV) (L : List (Int × Int)) : Prop :=
  (A = .nils ∧ L = []) ∨ ∃ i cap s, A = .sl i 0 L.length cap ∧ i < n ∧ hget h i = some s ∧ SpsAt s L
theorem SpsArg.ext {h h' : List (Nat × Seg)} {n n' : Nat} {A : SV} {L : List (Int × Int)} (hA : SpsArg h n A L) (hn : n ≤ n') (hx : HExt n h h') : SpsArg h' n' A L := by
  rcases hA with h1 | ⟨i, cap, s, h1, hi, hs, hL⟩
  · exact .inl h1
  · exact .inr ⟨i, cap, s, h1, by omega, hx i hi s hs, hL⟩
theorem SpsArg.ok {h : List (Nat × Seg)} {n : Nat} {A : SV} {L : List (Int × Int)} (hA : SpsArg h n A L) : A.ok = True := by
  rcases hA with ⟨rfl, rfl⟩ | ⟨i, cap, s, rfl, hi, hs, hL⟩ <;> rfl
theorem SpsArg.lt {h : List (Nat × Seg)} {n : Nat} {A : SV} {L : List (Int × Int)} (hA : SpsArg h n A L) : A.lt n := by
  rcases hA with ⟨rfl, rfl⟩ | ⟨i, cap, s, rfl, hi, hs, hL⟩
  · trivial
  · exact hi
theorem SpsArg.ren {h : List (Nat × Seg)} {n : Nat} {A : SV} {L : List (Int × Int)} (hA : SpsArg h n A L) {σ : Nat → Nat} (hσ : ∀ i, i < n → σ i = i) : V.ren σ A = A := by
  rcases hA with ⟨rfl, rfl⟩ | ⟨i, cap, s, rfl, hi, hs, hL⟩
  · rfl
  · simp only [ren_sl, hσ i hi]
/-- A list of spots, as it was made. -/
def spsS (L : List (Int × Int)) : Seg := ⟨L.length * 2, spotsC L, true, some (34, L.length * 2)⟩
@[go_sem] theorem spsS_eq (L : List (Int × Int)) : spsS L = ⟨L.length * 2, spotsC L, true, some (34, L.length * 2)⟩ := rfl
theorem zSpot (q : Nat) (L : List (Int × Int)) (z : Nat) : zrow (ti 34) z = if z < 0 * 2 then spotsC L z else SV.int .i8 0 := by
  rw [if_neg (by omega)]
  simp only [go_sem, Nat.reduceBEq, Nat.reduceLT, Nat.reduceLeDiff, Nat.reduceAdd, Nat.reduceMul, Nat.reduceSub, Nat.reduceMod, Nat.reduceDiv, Nat.reduceEqDiff, Int.reduceToNat, reduceIte, reduceCtorEq, Int.reduceLE, Int.reduceLT, Int.reduceEq, Int.reduceNeg, Int.reduceAdd, Int.reduceSub, Int.reduceMul, zrow_mk]
  rcases (by omega : z % 2 = 0 ∨ z % 2 = 1) with e | e <;> rw [e] <;> rfl
theorem spsAt_spsS (L : List (Int × Int)) : SpsAt (spsS L) L := ⟨Nat.le_refl _, fun _ _ => rfl⟩
section
variable (cx : Cx) (h : List (Nat × Seg)) (n : Nat)
end
end Go.Proofs.Ytodgbpkdanefaaa.V

/- The law's lists of drops: measured, copied, compared. -/
namespace Go.Proofs.Ytodgbpkdanefaaa.V

/-- An argument that is a list of drops. -/
def DrArg (h : List (Nat × Seg)) (n : Nat) (A : SV) (L : List Dr) : Prop :=
  (A = .nils ∧ L = []) ∨ ∃ i cap s, A = .sl i 0 L.length cap ∧ i < n ∧ hget h i = some s ∧ DrAt s L
theorem DrArg.ext {h h' : List (Nat × Seg)} {n n' : Nat} {A : SV} {L : List Dr} (hA : DrArg h n A L) (hn : n ≤ n') (hx : HExt n h h') : DrArg h' n' A L := by
  rcases hA with h1 | ⟨i, cap, s, h1, hi, hs, hL⟩
  · exact .inl h1
  · exact .inr ⟨i, cap, s, h1, by omega, hx i hi s hs, hL⟩
theorem DrArg.ok {h : List (Nat × Seg)} {n : Nat} {A : SV} {L : List Dr} (hA : DrArg h n A L) : A.ok = True := by
  rcases hA with ⟨rfl, rfl⟩ | ⟨i, cap, s, rfl, hi, hs, hL⟩ <;> rfl
theorem DrArg.lt {h : List (Nat × Seg)} {n : Nat} {A : SV} {L : List Dr} (hA : DrArg h n A L) : A.lt n := by
  rcases hA with ⟨rfl, rfl⟩ | ⟨i, cap, s, rfl, hi, hs, hL⟩
  · trivial
  · exact hi
theorem DrArg.ren {h : List (Nat × Seg)} {n : Nat} {A : SV} {L : List Dr} (hA : DrArg h n A L) {σ : Nat → Nat} (hσ : ∀ i, i < n → σ i = i) : V.ren σ A = A := by
  rcases hA with ⟨rfl, rfl⟩ | ⟨i, cap, s, rfl, hi, hs, hL⟩
  · rfl
  · simp only [ren_sl, hσ i hi]
/-- A list of drops, as it was made. -/
def drS (L : List Dr) : Seg := ⟨L.length * 3, dropsC L, true, some (44, L.length * 3)⟩
@[go_sem] theorem drS_eq (L : List Dr) : drS L = ⟨L.length * 3, dropsC L, true, some (44, L.length * 3)⟩ := rfl
theorem zDrop (L : List Dr) (z : Nat) : zrow (ti 44) z = if z < 0 * 3 then dropsC L z else cl [.int .i8 0, .int .i8 0, .int .u8 0] (z % 3) := by
  rw [if_neg (by omega)]
  simp only [go_sem, Nat.reduceBEq, Nat.reduceLT, Nat.reduceLeDiff, Nat.reduceAdd, Nat.reduceMul, Nat.reduceSub, Nat.reduceMod, Nat.reduceDiv, Nat.reduceEqDiff, Int.reduceToNat, reduceIte, reduceCtorEq, Int.reduceLE, Int.reduceLT, Int.reduceEq, Int.reduceNeg, Int.reduceAdd, Int.reduceSub, Int.reduceMul, zrow_mk]
theorem drAt_drS (L : List Dr) : DrAt (drS L) L := ⟨Nat.le_refl _, fun _ _ => rfl⟩
section
variable (cx : Cx) (h : List (Nat × Seg)) (n : Nat)
theorem szDropS_Q (A : SV) (L : List Dr) (hA : DrArg h n A L) (left : Int) (hl : -9223372036854775808 ≤ left - L.length) (hl2 : left - L.length < 9223372036854775808) :
    CallQ Try.prog cx 25 [A, .int .i64 left] h n (.int .i64 (if left - L.length < 0 then -1 else left - L.length)) := by
  rcases hA with ⟨rfl, rfl⟩ | ⟨i, cap, s, rfl, hi, hs, hL⟩
  · refine callQ_of_T (P := Try.prog) hti (nt := 12) (rs := [.tmp 4]) rfl rfl Try.call25 Try.func25 rfl _ (by simp only [go_sem, and_self]) (Nat.le_of_ble_eq_true rfl) _ (by first | exact trivial | (refine lt_flat rfl ?_; simp [SV.flat]; done) | simp only [go_sem]) fun hok => ?_
    simp only [List.length_nil] at hl hl2
    by_cases hn : left < 0
    · simp only [go_sem, Nat.reduceBEq, Nat.reduceLT, Nat.reduceLeDiff, Nat.reduceAdd, Nat.reduceMul, Nat.reduceSub, Nat.reduceMod, Nat.reduceDiv, Nat.reduceEqDiff, Int.reduceToNat, reduceIte, reduceCtorEq, Int.reduceLE, Int.reduceLT, Int.reduceEq, Int.reduceNeg, Int.reduceAdd, Int.reduceSub, Int.reduceMul, w64 (n := left) (by omega), hn, Int.sub_zero, Int.natCast_zero]
    · simp only [go_sem, Nat.reduceBEq, Nat.reduceLT, Nat.reduceLeDiff, Nat.reduceAdd, Nat.reduceMul, Nat.reduceSub, Nat.reduceMod, Nat.reduceDiv, Nat.reduceEqDiff, Int.reduceToNat, reduceIte, reduceCtorEq, Int.reduceLE, Int.reduceLT, Int.reduceEq, Int.reduceNeg, Int.reduceAdd, Int.reduceSub, Int.reduceMul, w64 (n := left) (by omega), hn, Int.sub_zero, Int.natCast_zero]
  · refine callQ_of_T (P := Try.prog) hti (nt := 12) (rs := [.tmp 4]) rfl rfl Try.call25 Try.func25 rfl _ (by simp only [go_sem, and_self]) (Nat.le_of_ble_eq_true rfl) _ (by first | exact trivial | (refine lt_flat rfl ?_; simp [SV.flat]; done) | simp only [go_sem]) fun hok => ?_
    by_cases hn : left - L.length < 0
    · simp only [go_sem, Nat.reduceBEq, Nat.reduceLT, Nat.reduceLeDiff, Nat.reduceAdd, Nat.reduceMul, Nat.reduceSub, Nat.reduceMod, Nat.reduceDiv, Nat.reduceEqDiff, Int.reduceToNat, reduceIte, reduceCtorEq, Int.reduceLE, Int.reduceLT, Int.reduceEq, Int.reduceNeg, Int.reduceAdd, Int.reduceSub, Int.reduceMul, w64 (n := left - L.length) ⟨hl, hl2⟩, hn]
    · simp only [go_sem, Nat.reduceBEq, Nat.reduceLT, Nat.reduceLeDiff, Nat.reduceAdd, Nat.reduceMul, Nat.reduceSub, Nat.reduceMod, Nat.reduceDiv, Nat.reduceEqDiff, Int.reduceToNat, reduceIte, reduceCtorEq, Int.reduceLE, Int.reduceLT, Int.reduceEq, Int.reduceNeg, Int.reduceAdd, Int.reduceSub, Int.reduceMul, w64 (n := left - L.length) ⟨hl, hl2⟩, hn]
theorem toDropS_E (A : SV) (L : List Dr) (hA : DrArg h n A L) (hm9 : L.length ≤ 10000000) (K : HK) (hK : K (.sl n 0 L.length L.length) ((n, drS L) :: h) (n + 1)) :
    CallE Try.prog cx 27 [A] h n K := by
  have fl : ∀ q z, (if z < q * 3 then dropsC L z else cl [.int .i8 0, .int .i8 0, .int .u8 0] (z % 3)).flat := fun q z => by
    split
    · exact dropsC_flat _ _
    · exact cl_flat (l := [.int .i8 0, .int .i8 0, .int .u8 0]) (by simp [SV.flat]) (Nat.mod_lt z (by omega : 3 > 0))
  refine CallE.imp0 (K := fun r h1 n1 => r = .sl n 0 L.length L.length ∧ n + 1 ≤ n1 ∧ HExt n h h1 ∧ ∃ s, hget h1 n = some s ∧ s.n = L.length * 3 ∧ s.rw = true ∧ s.own = (drS L).own ∧ ∀ z, z < L.length * 3 → s.c z = dropsC L z) ?_ ?_
  rotate_left
  · rintro hok r h1 n1 ⟨rfl, hn, hx, s, hs, s1, s2, s3, s4⟩
    exact ⟨_, (n, drS L) :: h, n + 1, by omega, by simp only [ren_nil], by simp [SV.lt], impH.cons0 hs (by omega) (SegLe.flat (by simp [s1, drS]) (fun _ => s2) (.inr s3.symm) fun z hz => ⟨s4 z hz, dropsC_flat _ _⟩) (impH.base0 hok (by omega) hx), hK⟩
  rcases hA with ⟨rfl, rfl⟩ | ⟨i, cap, s, rfl, hi, hs, hL⟩
  · refine callE_of_T (P := Try.prog) hti (nt := 23) (rs := [.tmp 2]) rfl rfl Try.call27 Try.func27 rfl _ (by simp only [go_sem, and_self]) (Nat.le_of_ble_eq_true rfl) _ fun hok => ?_
    simp only [go_sem, Nat.reduceBEq, Nat.reduceLT, Nat.reduceLeDiff, Nat.reduceAdd, Nat.reduceMul, Nat.reduceSub, Nat.reduceMod, Nat.reduceDiv, Nat.reduceEqDiff, Int.reduceToNat, reduceIte, reduceCtorEq, Int.reduceLE, Int.reduceLT, Int.reduceEq, Int.reduceNeg, Int.reduceAdd, Int.reduceSub, Int.reduceMul]
    refine T_unroll 0 ?_
    simp only [go_sem, Nat.reduceBEq, Nat.reduceLT, Nat.reduceLeDiff, Nat.reduceAdd, Nat.reduceMul, Nat.reduceSub, Nat.reduceMod, Nat.reduceDiv, Nat.reduceEqDiff, Int.reduceToNat, reduceIte, reduceCtorEq, Int.reduceLE, Int.reduceLT, Int.reduceEq, Int.reduceNeg, Int.reduceAdd, Int.reduceSub, Int.reduceMul, HExt_cons, Option.some.injEq, exists_eq_left']
    intro z hz
    omega
  · have hn := hL.1
    refine callE_of_T (P := Try.prog) hti (nt := 23) (rs := [.tmp 2]) rfl rfl Try.call27 Try.func27 rfl _ (by simp only [go_sem, and_self]) (Nat.le_of_ble_eq_true rfl) _ fun hok => ?_
    simp only [go_sem, Nat.reduceBEq, Nat.reduceLT, Nat.reduceLeDiff, Nat.reduceAdd, Nat.reduceMul, Nat.reduceSub, Nat.reduceMod, Nat.reduceDiv, Nat.reduceEqDiff, Int.reduceToNat, reduceIte, reduceCtorEq, Int.reduceLE, Int.reduceLT, Int.reduceEq, Int.reduceNeg, Int.reduceAdd, Int.reduceSub, Int.reduceMul]
    refine ⟨by omega, ?_⟩
    refine T_lp (ι := { q : Nat // q ≤ L.length })
      (fun q => ([(0, .sl i 0 L.length cap), (3, .sl n 0 L.length L.length), (4, .int .i64 q.1)], (n, ⟨L.length * 3, fun z => if z < q.1 * 3 then dropsC L z else cl [.int .i8 0, .int .i8 0, .int .u8 0] (z % 3), true, some (44, L.length * 3)⟩) :: h, n + 1)) (fun q => L.length - q.1) ⟨0, by omega⟩ ?_ ?_
    · refine Imp.id (by simp) ?_ ?_
      · simp only [go_sem, Nat.reduceBEq, Nat.reduceLT, Nat.reduceLeDiff, Nat.reduceAdd, Nat.reduceMul, Nat.reduceSub, Nat.reduceMod, Nat.reduceDiv, Nat.reduceEqDiff, Int.reduceToNat, reduceIte, reduceCtorEq, Int.reduceLE, Int.reduceLT, Int.reduceEq, Int.reduceNeg, Int.reduceAdd, Int.reduceSub, Int.reduceMul]
        omega
      · refine impH.cons0 (hget_hit _ _ _) (by simp) (SegLe.flat (Nat.le_refl _) id (.inr rfl) fun z hz => ⟨?_, fl 0 z⟩) (impH.base0 hok (by simp) (HExt.rfl.cons (Nat.le_refl n)))
        exact zDrop L z
    · rintro ⟨q, hq⟩
      simp only [go_sem, Nat.reduceBEq, Nat.reduceLT, Nat.reduceLeDiff, Nat.reduceAdd, Nat.reduceMul, Nat.reduceSub, Nat.reduceMod, Nat.reduceDiv, Nat.reduceEqDiff, Int.reduceToNat, reduceIte, reduceCtorEq, Int.reduceLE, Int.reduceLT, Int.reduceEq, Int.reduceNeg, Int.reduceAdd, Int.reduceSub, Int.reduceMul, decide_eq_true_eq, decide_eq_false_iff_not]
      refine ⟨fun h1 => ?_, fun h1 => ?_⟩
      · have r1 : (0 : Int) ≤ q ∧ (q : Int) < L.length := ⟨by omega, by omega⟩
        have b1 : q * 3 ≤ s.n - 3 := by omega
        have b2 : q * 3 ≤ L.length * 3 - 3 := by omega
        have b3 : 3 ≤ s.n := by omega
        have b4 : 3 ≤ L.length * 3 := by omega
        have b5 : q * 3 + 3 ≤ L.length * 3 := by omega
        simp only [go_sem, Nat.reduceBEq, Nat.reduceLT, Nat.reduceLeDiff, Nat.reduceAdd, Nat.reduceMul, Nat.reduceSub, Nat.reduceMod, Nat.reduceDiv, Nat.reduceEqDiff, Int.reduceToNat, reduceIte, reduceCtorEq, Int.reduceLE, Int.reduceLT, Int.reduceEq, Int.reduceNeg, Int.reduceAdd, Int.reduceSub, Int.reduceMul, hs, hi, r1, b1, b3, hL.c0 (j := q) (by omega), hL.c1 (j := q) (by omega), hL.c2 (j := q) (by omega)]
        refine ⟨by omega, (toDrop_Q _ _ _ _ _ _).A ?_⟩
        simp only [go_sem, Nat.reduceBEq, Nat.reduceLT, Nat.reduceLeDiff, Nat.reduceAdd, Nat.reduceMul, Nat.reduceSub, Nat.reduceMod, Nat.reduceDiv, Nat.reduceEqDiff, Int.reduceToNat, reduceIte, reduceCtorEq, Int.reduceLE, Int.reduceLT, Int.reduceEq, Int.reduceNeg, Int.reduceAdd, Int.reduceSub, Int.reduceMul, r1, b5]
        refine ⟨⟨q + 1, by omega⟩, by show L.length - (q + 1) < L.length - q; omega, ?_⟩
        refine Imp.id (by simp) ?_ ?_
        · simp only [go_sem, Nat.reduceBEq, Nat.reduceLT, Nat.reduceLeDiff, Nat.reduceAdd, Nat.reduceMul, Nat.reduceSub, Nat.reduceMod, Nat.reduceDiv, Nat.reduceEqDiff, Int.reduceToNat, reduceIte, reduceCtorEq, Int.reduceLE, Int.reduceLT, Int.reduceEq, Int.reduceNeg, Int.reduceAdd, Int.reduceSub, Int.reduceMul, w64 (n := (q : Int) + 1) (by omega), Int.natCast_add, Int.natCast_one]
          exact ⟨by omega, by omega⟩
        · refine impH.cons0 (hget_hit _ _ _) (by simp) (SegLe.flat (Nat.le_refl _) id (.inr rfl) fun z hz => ⟨?_, fl (q + 1) z⟩) (impH.base0 hok (by simp) (HExt.rfl.cons (Nat.le_refl n)))
          exact part_agg (C := dropsC L) (Z := fun z => cl [.int .i8 0, .int .i8 0, .int .u8 0] (z % 3)) (sz := 3) (fun j hj => by
            rcases (by omega : j = 0 ∨ j = 1 ∨ j = 2) with rfl | rfl | rfl
            · exact (dropsC_0 L q).symm
            · exact (dropsC_1 L q).symm
            · exact (dropsC_2 L q).symm) (by omega) hz
      · have hq' : q = L.length := by omega
        subst hq'
        simp only [go_sem, Nat.reduceBEq, Nat.reduceLT, Nat.reduceLeDiff, Nat.reduceAdd, Nat.reduceMul, Nat.reduceSub, Nat.reduceMod, Nat.reduceDiv, Nat.reduceEqDiff, Int.reduceToNat, reduceIte, reduceCtorEq, Int.reduceLE, Int.reduceLT, Int.reduceEq, Int.reduceNeg, Int.reduceAdd, Int.reduceSub, Int.reduceMul, HExt_cons, Option.some.injEq, exists_eq_left']
        intro z hz
        rw [if_pos hz]
theorem eqDrop_Q (x y k : Int) : CallQ Try.prog cx 63 [dropV x y k, dropV x y k] h n (.bool true) := by
  refine callQ_of_T (P := Try.prog) hti (nt := 16) (rs := [.tmp 4]) rfl rfl Try.call63 Try.func63 rfl _ (by simp only [go_sem, and_self]) (Nat.le_of_ble_eq_true rfl) _ (by first | exact trivial | (refine lt_flat rfl ?_; simp [SV.flat]; done) | simp only [go_sem]) fun hok => ?_
  simp only [go_sem, Nat.reduceBEq, Nat.reduceLT, Nat.reduceLeDiff, Nat.reduceAdd, Nat.reduceMul, Nat.reduceSub, Nat.reduceMod, Nat.reduceDiv, Nat.reduceEqDiff, Int.reduceToNat, reduceIte, reduceCtorEq, Int.reduceLE, Int.reduceLT, Int.reduceEq, Int.reduceNeg, Int.reduceAdd, Int.reduceSub, Int.reduceMul]
  refine (eqSpot_Q _ _ _ _ _ _ _).A ?_
  simp only [go_sem, Nat.reduceBEq, Nat.reduceLT, Nat.reduceLeDiff, Nat.reduceAdd, Nat.reduceMul, Nat.reduceSub, Nat.reduceMod, Nat.reduceDiv, Nat.reduceEqDiff, Int.reduceToNat, reduceIte, reduceCtorEq, Int.reduceLE, Int.reduceLT, Int.reduceEq, Int.reduceNeg, Int.reduceAdd, Int.reduceSub, Int.reduceMul]
theorem eqDropS_Q (i cap i' cap' : Nat) (L : List Dr) (s s' : Seg) (hs : hget h i = some s) (hi : i < n) (hL : DrAt s L) (hs' : hget h i' = some s') (hi' : i' < n) (hL' : DrAt s' L) (hm9 : L.length ≤ 10000000) :
    CallQ Try.prog cx 29 [.sl i 0 L.length cap, .sl i' 0 L.length cap'] h n (.bool true) := by
  have hn := hL.1; have hn' := hL'.1
  refine callQ_of_T (P := Try.prog) hti (nt := 27) (rs := [.tmp 4]) rfl rfl Try.call29 Try.func29 rfl _ (by simp only [go_sem, and_self]) (Nat.le_of_ble_eq_true rfl) _ (by first | exact trivial | (refine lt_flat rfl ?_; simp [SV.flat]; done) | simp only [go_sem]) fun hok => ?_
  simp only [go_sem, Nat.reduceBEq, Nat.reduceLT, Nat.reduceLeDiff, Nat.reduceAdd, Nat.reduceMul, Nat.reduceSub, Nat.reduceMod, Nat.reduceDiv, Nat.reduceEqDiff, Int.reduceToNat, reduceIte, reduceCtorEq, Int.reduceLE, Int.reduceLT, Int.reduceEq, Int.reduceNeg, Int.reduceAdd, Int.reduceSub, Int.reduceMul]
  refine T_lp (ι := { q : Nat // q ≤ L.length }) (fun q => ([(0, .sl i 0 L.length cap), (1, .sl i' 0 L.length cap'), (5, .int .i64 q.1)], h, n)) (fun q => L.length - q.1) ⟨0, by omega⟩ ?_ ?_
  · refine Imp.id (by simp) ?_ (impH.base0 hok (by simp) HExt.rfl)
    simp only [go_sem, Nat.reduceBEq, Nat.reduceLT, Nat.reduceLeDiff, Nat.reduceAdd, Nat.reduceMul, Nat.reduceSub, Nat.reduceMod, Nat.reduceDiv, Nat.reduceEqDiff, Int.reduceToNat, reduceIte, reduceCtorEq, Int.reduceLE, Int.reduceLT, Int.reduceEq, Int.reduceNeg, Int.reduceAdd, Int.reduceSub, Int.reduceMul]
    exact ⟨hi, hi'⟩
  · rintro ⟨q, hq⟩
    simp only [go_sem, Nat.reduceBEq, Nat.reduceLT, Nat.reduceLeDiff, Nat.reduceAdd, Nat.reduceMul, Nat.reduceSub, Nat.reduceMod, Nat.reduceDiv, Nat.reduceEqDiff, Int.reduceToNat, reduceIte, reduceCtorEq, Int.reduceLE, Int.reduceLT, Int.reduceEq, Int.reduceNeg, Int.reduceAdd, Int.reduceSub, Int.reduceMul, decide_eq_true_eq, decide_eq_false_iff_not]
    refine ⟨fun h1 => ?_, fun h1 => ?_⟩
    · have r1 : (0 : Int) ≤ q ∧ (q : Int) < L.length := ⟨by omega, by omega⟩
      have b1 : q * 3 ≤ s.n - 3 := by omega
      have b2 : q * 3 ≤ s'.n - 3 := by omega
      have b3 : 3 ≤ s.n := by omega
      have b4 : 3 ≤ s'.n := by omega
      refine T_draw hti _ _ (by kernel_rfl) (by kernel_rfl) ?_
      simp only [go_sem, Nat.reduceBEq, Nat.reduceLT, Nat.reduceLeDiff, Nat.reduceAdd, Nat.reduceMul, Nat.reduceSub, Nat.reduceMod, Nat.reduceDiv, Nat.reduceEqDiff, Int.reduceToNat, reduceIte, reduceCtorEq, Int.reduceLE, Int.reduceLT, Int.reduceEq, Int.reduceNeg, Int.reduceAdd, Int.reduceSub, Int.reduceMul, hs, hs', r1, b1, b2, b3, b4, hL.c0 (j := q) (by omega), hL.c1 (j := q) (by omega), hL.c2 (j := q) (by omega), hL'.c0 (j := q) (by omega), hL'.c1 (j := q) (by omega), hL'.c2 (j := q) (by omega)]
      refine ⟨by omega, by omega, (eqDrop_Q _ _ _ _ _ _).A ?_⟩
      simp only [go_sem, Nat.reduceBEq, Nat.reduceLT, Nat.reduceLeDiff, Nat.reduceAdd, Nat.reduceMul, Nat.reduceSub, Nat.reduceMod, Nat.reduceDiv, Nat.reduceEqDiff, Int.reduceToNat, reduceIte, reduceCtorEq, Int.reduceLE, Int.reduceLT, Int.reduceEq, Int.reduceNeg, Int.reduceAdd, Int.reduceSub, Int.reduceMul]
      refine ⟨⟨q + 1, by omega⟩, by show L.length - (q + 1) < L.length - q; omega, ?_⟩
      refine Imp.id (by simp) ?_ (impH.base0 hok (by simp) HExt.rfl)
      simp only [go_sem, Nat.reduceBEq, Nat.reduceLT, Nat.reduceLeDiff, Nat.reduceAdd, Nat.reduceMul, Nat.reduceSub, Nat.reduceMod, Nat.reduceDiv, Nat.reduceEqDiff, Int.reduceToNat, reduceIte, reduceCtorEq, Int.reduceLE, Int.reduceLT, Int.reduceEq, Int.reduceNeg, Int.reduceAdd, Int.reduceSub, Int.reduceMul, w64 (n := (q : Int) + 1) (by omega), Int.natCast_add, Int.natCast_one]
      exact ⟨hi, hi'⟩
    · simp only [go_sem, Nat.reduceBEq, Nat.reduceLT, Nat.reduceLeDiff, Nat.reduceAdd, Nat.reduceMul, Nat.reduceSub, Nat.reduceMod, Nat.reduceDiv, Nat.reduceEqDiff, Int.reduceToNat, reduceIte, reduceCtorEq, Int.reduceLE, Int.reduceLT, Int.reduceEq, Int.reduceNeg, Int.reduceAdd, Int.reduceSub, Int.reduceMul]
end
end Go.Proofs.Ytodgbpkdanefaaa.V

/- Lists of drops: filtered in place; the cells of a picture. -/
namespace Go.Proofs.Ytodgbpkdanefaaa.V
abbrev dr0 : Dr := (0, 0, 0)
theorem dropsC_take {a b : List Dr} {k : Nat} (h : k < a.length * 3) : dropsC (a ++ b) k = dropsC a k := by
  unfold dropsC
  have : (a ++ b).getD (k / 3) (0, 0, 0) = a.getD (k / 3) (0, 0, 0) := by
    rw [List.getD_eq_getElem?_getD, List.getD_eq_getElem?_getD, List.getElem?_append_left (by omega)]
  rw [this]
theorem dropsC_take2 (L : List Dr) (j k : Nat) (h : k < j * 3) : dropsC (L.take j) k = dropsC L k := by
  unfold dropsC
  have : (L.take j).getD (k / 3) (0, 0, 0) = L.getD (k / 3) (0, 0, 0) := by
    rw [List.getD_eq_getElem?_getD, List.getD_eq_getElem?_getD, List.getElem?_take_of_lt (by omega)]
  rw [this]
theorem dropsC_last (A : List Dr) (x : Dr) : dropsC (A ++ [x]) (A.length * 3) = .int .i8 x.1 ∧ dropsC (A ++ [x]) (A.length * 3 + 1) = .int .i8 x.2.1 ∧ dropsC (A ++ [x]) (A.length * 3 + 2) = .int .u8 x.2.2 := by
  rw [dropsC_0, dropsC_1, dropsC_2]
  simp [List.getD_eq_getElem?_getD]
theorem takeD_filter (P : Dr → Bool) (L : List Dr) (j : Nat) (hj : j < L.length) : (L.take (j + 1)).filter P = (L.take j).filter P ++ (if P (L.getD j (0, 0, 0)) then [L.getD j (0, 0, 0)] else []) := by
  rw [List.take_succ, List.getElem?_eq_getElem hj, List.filter_append]
  congr 1
  simp [List.getD_eq_getElem?_getD, hj, List.filter_cons]
theorem filterD_len (P : Dr → Bool) (L : List Dr) (j : Nat) : ((L.take j).filter P).length ≤ j := Nat.le_trans (List.length_filter_le _ _) (by simp; omega)
theorem filterD_all {P : Dr → Bool} {L : List Dr} (j : Nat) (hj : j ≤ L.length) (hall : ∀ k, k < j → P (L.getD k (0, 0, 0)) = true) : (L.take j).filter P = L.take j := by
  rw [List.filter_eq_self]
  intro a ha
  obtain ⟨k, hk, rfl⟩ := List.mem_iff_getElem.1 ha
  simp only [List.length_take] at hk
  have := hall k (by omega)
  rw [List.getD_eq_getElem?_getD, List.getElem?_eq_getElem (by omega)] at this
  simpa using this
/-- One drop written behind k others. -/
def putD (k : Nat) (x : Dr) (c : Nat → SV) : Nat → SV := fun z => if k * 3 ≤ z ∧ z < k * 3 + 3 then cl [.int .i8 x.1, .int .i8 x.2.1, .int .u8 x.2.2] (z - k * 3) else c z
theorem putD_in (k : Nat) (x : Dr) (c : Nat → SV) (j : Nat) (h : j < 3) : putD k x c (k * 3 + j) = cl [.int .i8 x.1, .int .i8 x.2.1, .int .u8 x.2.2] j := by unfold putD; rw [if_pos (by omega), Nat.add_sub_cancel_left]
theorem putD_o (k : Nat) (x : Dr) (c : Nat → SV) (z : Nat) (h : z < k * 3 ∨ k * 3 + 3 ≤ z) : putD k x c z = c z := by unfold putD; rw [if_neg (by omega)]
theorem putD_flat (k : Nat) (x : Dr) {c : Nat → SV} {z : Nat} (h : (c z).flat) : (putD k x c z).flat := by
  by_cases h' : k * 3 ≤ z ∧ z < k * 3 + 3
  · obtain ⟨j, rfl⟩ : ∃ j, z = k * 3 + j := ⟨z - k * 3, by omega⟩
    rw [putD_in _ _ _ _ (by omega)]
    exact cl_flat (l := [.int .i8 x.1, .int .i8 x.2.1, .int .u8 x.2.2]) (by simp [SV.flat]) (show j < 3 by omega)
  · rw [putD_o _ _ _ _ (by omega)]; exact h
section
variable (cx : Cx) (h : List (Nat × Seg)) (n : Nat)
set_option maxHeartbeats 800000 in
theorem deleteDr_E (i m cap : Nat) (L : List Dr) (s : Seg) (f a b : Nat) (G F : Nat → SV) (p : Dr → Bool) (r : Int)
    (hs : hget h i = some s) (hi : i < n) (hm : L.length = m) (hm9 : m ≤ 10000000) (hcap : m ≤ cap) (hn : s.n = m * 3) (hrw : s.rw = true) (hc : ∀ k, k < m * 3 → s.c k = dropsC L k) (hF : (SV.fn f a G b F).lt n)
    (hr0 : r = -1 → ∀ j, j < m → p (L.getD j (0, 0, 0)) = false) (hr1 : r ≠ -1 → 0 ≤ r ∧ r < m ∧ p (L.getD r.toNat (0, 0, 0)) = true ∧ ∀ j : Nat, (j : Int) < r → p (L.getD j (0, 0, 0)) = false)
    (hp : ∀ j, j < m → ∀ nt n0 h' n', n ≤ n' → HBut i n h h' → CallQ Try.prog ⟨cx.w0, cx.W, nt, n0⟩ f (lst a G ++ [dropV (L.getD j (0, 0, 0)).1 (L.getD j (0, 0, 0)).2.1 (L.getD j (0, 0, 0)).2.2] ++ lst b F) h' n' (.bool (p (L.getD j (0, 0, 0)))))
    (K : HK) (hK : ∀ own, K (.sl i 0 (L.filter fun a => !p a).length cap) (hset h i ⟨(L.filter fun a => !p a).length * 3, dropsC (L.filter fun a => !p a), true, own⟩) n) :
    CallE Try.prog cx 66 [.sl i 0 m cap, .fn f a G b F] h n K := by
  generalize hP : (fun a : Dr => !p a) = P at *
  have hPj : ∀ j, P (L.getD j (0, 0, 0)) = !p (L.getD j (0, 0, 0)) := fun j => by rw [← hP]
  obtain ⟨sn, sc, sr, so⟩ := s
  simp only at hn hrw hc
  subst hn hrw
  have hgi : ∀ t, hget (hset h i t) i = some t := fun t => by rw [hget_hset, if_pos rfl, hs]; rfl
  have hbut : ∀ t, HBut i n h (hset h i t) := fun t j hj hji u hu => by rw [hget_hset, if_neg (Ne.symm hji)]; exact hu
  refine CallE.imp0 (K := fun r h' n' => n ≤ n' ∧ r = .sl i 0 (L.filter P).length cap ∧ HBut i n h h' ∧ ∃ t, hget h' i = some t ∧ (L.filter P).length * 3 ≤ t.n ∧ t.rw = true ∧ t.own = so ∧ ∀ k, k < (L.filter P).length * 3 → t.c k = dropsC (L.filter P) k) ?_ ?_
  · refine callE_of_T (P := Try.prog) hti (nt := 42) (rs := [.tmp 4]) rfl rfl Try.call66 Try.func66 rfl _ (by simp only [go_sem, and_self]) (Nat.le_of_ble_eq_true rfl) _ fun hok => ?_
    simp only [go_sem, Nat.reduceBEq, Nat.reduceLT, Nat.reduceLeDiff, Nat.reduceAdd, Nat.reduceMul, Nat.reduceSub, Nat.reduceMod, Nat.reduceDiv, Nat.reduceEqDiff, Int.reduceToNat, reduceIte, reduceCtorEq, Int.reduceLE, Int.reduceLT, Int.reduceEq, Int.reduceNeg, Int.reduceAdd, Int.reduceSub, Int.reduceMul]
    refine (show CallQ Try.prog ⟨cx.w0, cx.W, 42, n⟩ 74 [.sl i 0 m cap, .fn f a G b F] h n (.int .i64 r) by
      subst hm
      exact indexDr_Q ⟨cx.w0, cx.W, 42, n⟩ h n i cap L _ f a b G F (fun j => p (L.getD j (0, 0, 0))) r hs hi hm9 ⟨Nat.le_refl _, hc⟩ hF hr0 hr1 (fun j hj nt n0 => hp j hj nt n0 h n (Nat.le_refl _) (fun _ _ _ _ h => h))).A ?_
    simp only [go_sem, Nat.reduceBEq, Nat.reduceLT, Nat.reduceLeDiff, Nat.reduceAdd, Nat.reduceMul, Nat.reduceSub, Nat.reduceMod, Nat.reduceDiv, Nat.reduceEqDiff, Int.reduceToNat, reduceIte, reduceCtorEq, Int.reduceLE, Int.reduceLT, Int.reduceEq, Int.reduceNeg, Int.reduceAdd, Int.reduceSub, Int.reduceMul, decide_eq_true_eq, decide_eq_false_iff_not]
    refine ⟨fun h1 => ?_, fun h1 => ?_⟩
    · have hall : L.filter P = L := by
        have := filterD_all (P := P) L.length (Nat.le_refl _) fun k hk => by rw [hPj, hr0 h1 k (by omega)]; rfl
        rwa [List.take_length] at this
      rw [hall, hm]
      exact ⟨rfl, fun _ _ _ _ h => h, _, hs, Nat.le_refl _, rfl, rfl, hc⟩
    · obtain ⟨r0, r1, r2, r3⟩ := hr1 h1
      refine T_lp (ι := { q : Nat × (Nat → SV) // q.1 ≤ m ∧ (∀ z, z < ((L.take q.1).filter P).length * 3 → q.2 z = dropsC ((L.take q.1).filter P) z) ∧ (∀ z, q.1 * 3 ≤ z → z < m * 3 → q.2 z = dropsC L z) ∧ ∀ z, z < m * 3 → (q.2 z).flat })
        (fun q => ([(0, .sl i 0 m cap), (1, .fn f a G b F), (5, .int .i64 ((L.take q.1.1).filter P).length), (6, .int .i64 q.1.1)], hset h i ⟨m * 3, q.1.2, true, so⟩, n)) (fun q => m - q.1.1)
        ⟨(r.toNat + 1, sc), by
          have hf : ((L.take (r.toNat + 1)).filter P) = L.take r.toNat := by
            rw [takeD_filter P L r.toNat (by omega), filterD_all r.toNat (by omega) (fun k hk => by rw [hPj, r3 k (by omega)]; rfl), hPj, r2]
            simp
          refine ⟨by omega, fun z hz => ?_, fun z _ hz => hc z hz, fun z hz => by show (sc z).flat; rw [hc z hz]; exact dropsC_flat _ _⟩
          simp only [hf, List.length_take] at hz ⊢
          rw [hc z (by omega), dropsC_take2 L r.toNat z (by omega)]⟩ ?_ ?_
      · have hf : ((L.take (r.toNat + 1)).filter P) = L.take r.toNat := by
          rw [takeD_filter P L r.toNat (by omega), filterD_all r.toNat (by omega) (fun k hk => by rw [hPj, r3 k (by omega)]; rfl), hPj, r2]
          simp
        refine Imp.id (by simp) ?_ ?_
        · simp only [go_sem, Nat.reduceBEq, Nat.reduceLT, Nat.reduceLeDiff, Nat.reduceAdd, Nat.reduceMul, Nat.reduceSub, Nat.reduceMod, Nat.reduceDiv, Nat.reduceEqDiff, Int.reduceToNat, reduceIte, reduceCtorEq, Int.reduceLE, Int.reduceLT, Int.reduceEq, Int.reduceNeg, Int.reduceAdd, Int.reduceSub, Int.reduceMul, w64 (n := r + 1) (by omega), hf, List.length_take]
          refine ⟨hi, hF, ?_, ?_⟩
          · congr 1; omega
          · congr 1; omega
        · show impH h (sig []) n (hset h i ⟨m * 3, sc, true, so⟩)
          rw [hset_self hs]
          exact impH.base0 hok (by simp) (by simp only [go_sem, Nat.reduceBEq, Nat.reduceLT, Nat.reduceLeDiff, Nat.reduceAdd, Nat.reduceMul, Nat.reduceSub, Nat.reduceMod, Nat.reduceDiv, Nat.reduceEqDiff, Int.reduceToNat, reduceIte, reduceCtorEq, Int.reduceLE, Int.reduceLT, Int.reduceEq, Int.reduceNeg, Int.reduceAdd, Int.reduceSub, Int.reduceMul])
      · rintro ⟨⟨j, c'⟩, hj, hk, hrest, hflat⟩
        simp only at hj hk hrest hflat
        have hlen := filterD_len P L j
        have hne : (n == i) = false := by simp; omega
        simp only [go_sem, Nat.reduceBEq, Nat.reduceLT, Nat.reduceLeDiff, Nat.reduceAdd, Nat.reduceMul, Nat.reduceSub, Nat.reduceMod, Nat.reduceDiv, Nat.reduceEqDiff, Int.reduceToNat, reduceIte, reduceCtorEq, Int.reduceLE, Int.reduceLT, Int.reduceEq, Int.reduceNeg, Int.reduceAdd, Int.reduceSub, Int.reduceMul, hgi, hne, decide_eq_true_eq, decide_eq_false_iff_not]
        refine ⟨fun h2 => ?_, fun h2 => ?_⟩
        · have r1' : (0 : Int) ≤ j ∧ (j : Int) < m := ⟨by omega, h2⟩
          have b1 : j * 3 ≤ m * 3 - 3 := by omega
          have b3 : 3 ≤ m * 3 := by omega
          have b6 : j * 3 + 3 ≤ m * 3 := by omega
          have q0 := (hrest (j * 3) (Nat.le_refl _) (by omega)).trans (dropsC_0 L j)
          have q1 := (hrest (j * 3 + 1) (by omega) (by omega)).trans (dropsC_1 L j)
          have q2 := (hrest (j * 3 + 2) (by omega) (by omega)).trans (dropsC_2 L j)
          simp only [go_sem, Nat.reduceBEq, Nat.reduceLT, Nat.reduceLeDiff, Nat.reduceAdd, Nat.reduceMul, Nat.reduceSub, Nat.reduceMod, Nat.reduceDiv, Nat.reduceEqDiff, Int.reduceToNat, reduceIte, reduceCtorEq, Int.reduceLE, Int.reduceLT, Int.reduceEq, Int.reduceNeg, Int.reduceAdd, Int.reduceSub, Int.reduceMul, hgi, hne, r1', b1, b3, b6, q0, q1, q2]
          refine (hp j (by omega) _ _ _ _ (by simp) ((hbut _).cons (Nat.le_refl n))).A ?_
          cases h3 : p (L.getD j (0, 0, 0))
          · have hf : (L.take (j + 1)).filter P = (L.take j).filter P ++ [L.getD j (0, 0, 0)] := by
              rw [takeD_filter P L j (by omega), hPj, h3]; rfl
            have r2' : (0 : Int) ≤ (((L.take j).filter P).length : Int) ∧ (((L.take j).filter P).length : Int) < m := ⟨by omega, by omega⟩
            have b2 : ((L.take j).filter P).length * 3 ≤ m * 3 - 3 := by omega
            have b5 : ((L.take j).filter P).length * 3 + 3 ≤ m * 3 := by omega
            simp only [go_sem, Nat.reduceBEq, Nat.reduceLT, Nat.reduceLeDiff, Nat.reduceAdd, Nat.reduceMul, Nat.reduceSub, Nat.reduceMod, Nat.reduceDiv, Nat.reduceEqDiff, Int.reduceToNat, reduceIte, reduceCtorEq, Int.reduceLE, Int.reduceLT, Int.reduceEq, Int.reduceNeg, Int.reduceAdd, Int.reduceSub, Int.reduceMul, hgi, hne, hset_hset, r2', b2, b3, b5]
            refine ⟨⟨(j + 1, putD ((L.take j).filter P).length (L.getD j (0, 0, 0)) c'), by omega, fun z hz => ?_, fun z hz hz2 => ?_, fun z hz => putD_flat _ _ (hflat z hz)⟩, by show m - (j + 1) < m - j; omega, ?_⟩
            · simp only [hf] at hz ⊢
              rw [List.length_append, List.length_singleton] at hz
              by_cases h : z < ((L.take j).filter P).length * 3
              · rw [putD_o _ _ _ _ (.inl h), hk z h, dropsC_take (b := [L.getD j (0, 0, 0)]) h]
              · obtain ⟨e, rfl⟩ : ∃ e, z = ((L.take j).filter P).length * 3 + e := ⟨z - ((L.take j).filter P).length * 3, by omega⟩
                rw [putD_in _ _ _ _ (by omega)]
                obtain ⟨l0, l1, l2⟩ := dropsC_last ((L.take j).filter P) (L.getD j (0, 0, 0))
                rcases (by omega : e = 0 ∨ e = 1 ∨ e = 2) with rfl | rfl | rfl
                · exact l0.symm
                · exact l1.symm
                · exact l2.symm
            · have hz : (j + 1) * 3 ≤ z := hz
              show putD _ _ _ _ = _
              rw [putD_o _ _ _ _ (.inr (by omega))]
              exact hrest z (by omega) hz2
            · refine Imp.id (by simp) ?_ ?_
              · simp only [go_sem, Nat.reduceBEq, Nat.reduceLT, Nat.reduceLeDiff, Nat.reduceAdd, Nat.reduceMul, Nat.reduceSub, Nat.reduceMod, Nat.reduceDiv, Nat.reduceEqDiff, Int.reduceToNat, reduceIte, reduceCtorEq, Int.reduceLE, Int.reduceLT, Int.reduceEq, Int.reduceNeg, Int.reduceAdd, Int.reduceSub, Int.reduceMul, w64 (n := (j : Int) + 1) (by omega), w64 (n := (((L.take j).filter P).length : Int) + 1) (by omega), Int.natCast_add, Int.natCast_one, hf, List.length_append, List.length_singleton]
                exact ⟨hi, hF⟩
              · refine impH.set0 hok (Nat.le_refl n) hs ((hbut _).cons (Nat.le_refl n)) ((hget_miss _ _ _ _ hne).trans (hgi _)) (SegLe.flat (Nat.le_refl _) id (.inr rfl) fun z hz => ⟨?_, putD_flat _ _ (hflat z hz)⟩)
                have hz : z < m * 3 := hz
                simp only [putD]
                split
                · rename_i e
                  rw [if_pos (by omega), e.1, Nat.sub_zero]
                · rfl
          · have hf : (L.take (j + 1)).filter P = (L.take j).filter P := by
              rw [takeD_filter P L j (by omega), hPj, h3]; simp
            simp only [go_sem, Nat.reduceBEq, Nat.reduceLT, Nat.reduceLeDiff, Nat.reduceAdd, Nat.reduceMul, Nat.reduceSub, Nat.reduceMod, Nat.reduceDiv, Nat.reduceEqDiff, Int.reduceToNat, reduceIte, reduceCtorEq, Int.reduceLE, Int.reduceLT, Int.reduceEq, Int.reduceNeg, Int.reduceAdd, Int.reduceSub, Int.reduceMul]
            refine ⟨⟨(j + 1, c'), by omega, by simp only [hf]; exact hk, fun z hz hz2 => hrest z (by have hz : (j + 1) * 3 ≤ z := hz; omega) hz2, hflat⟩, by show m - (j + 1) < m - j; omega, ?_⟩
            refine Imp.id (by simp) ?_ ?_
            · simp only [go_sem, Nat.reduceBEq, Nat.reduceLT, Nat.reduceLeDiff, Nat.reduceAdd, Nat.reduceMul, Nat.reduceSub, Nat.reduceMod, Nat.reduceDiv, Nat.reduceEqDiff, Int.reduceToNat, reduceIte, reduceCtorEq, Int.reduceLE, Int.reduceLT, Int.reduceEq, Int.reduceNeg, Int.reduceAdd, Int.reduceSub, Int.reduceMul, w64 (n := (j : Int) + 1) (by omega), Int.natCast_add, Int.natCast_one, hf]
              exact ⟨hi, hF⟩
            · refine impH.base0 (h0 := hset h i ⟨m * 3, c', true, so⟩) (hok.hset fun z hz => ?_) (Nat.le_refl n) (by simp only [go_sem, Nat.reduceBEq, Nat.reduceLT, Nat.reduceLeDiff, Nat.reduceAdd, Nat.reduceMul, Nat.reduceSub, Nat.reduceMod, Nat.reduceDiv, Nat.reduceEqDiff, Int.reduceToNat, reduceIte, reduceCtorEq, Int.reduceLE, Int.reduceLT, Int.reduceEq, Int.reduceNeg, Int.reduceAdd, Int.reduceSub, Int.reduceMul, HExt_cons])
              exact (hflat z hz).below n
        · have hjm : j = m := by omega
          subst hjm
          have hft : (L.take j).filter P = L.filter P := by rw [← hm, List.take_length]
          simp only [hft] at *
          have hll : (L.filter P).length ≤ j := by omega
          refine ⟨⟨by omega, by omega, by omega⟩, ?_, ⟨by omega, by omega⟩, ?_, ?_, ?_⟩
          · split <;> omega
          · simp
          · exact hbut _
          · skip
            refine ⟨_, rfl, by show _ ≤ j * 3; omega, rfl, rfl, fun z hz => ?_⟩
            show clrC _ _ _ _ _ = _
            unfold clrC
            rw [if_neg]
            · exact hk z hz
            · split <;> omega
  · rintro hok r h' n' ⟨h0, rfl, hx, t, ht, h1, h2, h3, h4⟩
    exact ⟨.sl i 0 (L.filter P).length cap, _, n, Nat.le_refl _, by simp only [ren_nil], hi, impH.set0 hok (Nat.le_refl n) hs hx ht (SegLe.flat h1 (fun _ => h2) (.inl rfl) fun k hk => ⟨h4 k hk, dropsC_flat _ _⟩), hK none⟩
end
end Go.Proofs.Ytodgbpkdanefaaa.V

/- The drops of a picture; those that can be the last: both walks. -/
namespace Go.Proofs.Ytodgbpkdanefaaa.V
/-- Every drop of a picture, in order. -/
def dropsL (W H : Nat) : List Dr := (List.range (H * W * 3)).map fun j => (((j / 3 % W : Nat) : Int), ((j / 3 / W : Nat) : Int), ((j % 3 : Nat) : Int))
theorem dropsL_len (W H : Nat) : (dropsL W H).length = H * W * 3 := by simp [dropsL]
theorem dropsL_get (W H j : Nat) (h : j < H * W * 3) : (dropsL W H).getD j (0, 0, 0) = (((j / 3 % W : Nat) : Int), ((j / 3 / W : Nat) : Int), ((j % 3 : Nat) : Int)) := by simp [dropsL, List.getD_eq_getElem?_getD, h]
theorem dropsL_in {W H j : Nat} (h : j < H * W * 3) (hW8 : W ≤ 8) (hH8 : H ≤ 8) : (0 ≤ ((dropsL W H).getD j (0, 0, 0)).1 ∧ ((dropsL W H).getD j (0, 0, 0)).1 < W) ∧ (0 ≤ ((dropsL W H).getD j (0, 0, 0)).2.1 ∧ ((dropsL W H).getD j (0, 0, 0)).2.1 < H) ∧ 0 ≤ ((dropsL W H).getD j (0, 0, 0)).2.2 ∧ ((dropsL W H).getD j (0, 0, 0)).2.2 < 3 := by
  rw [dropsL_get W H j h]
  have hq : j / 3 < H * W := by omega
  have hW0 : 0 < W := Nat.pos_of_ne_zero fun e => by rw [e, Nat.mul_zero] at hq; omega
  have h1 : j / 3 % W < W := Nat.mod_lt _ hW0
  have h2 : j / 3 / W < H := (Nat.div_lt_iff_lt_mul hW0).2 hq
  have h3 : j % 3 < 3 := Nat.mod_lt _ (by omega)
  generalize j / 3 % W = u at *
  generalize j / 3 / W = v at *
  generalize j % 3 = w at *
  simp only
  omega
theorem both_drop (A : List Dr) (a : Dr) (c : Nat → SV) (h0 : c 0 = .int .i8 a.1) (h1 : c 1 = .int .i8 a.2.1) (h2 : c 2 = .int .u8 a.2.2) {z : Nat} (hz : z < (A.length + 1) * 3) : both (A.length * 3) (dropsC A) (news c 0) z = dropsC (A ++ [a]) z := by
  unfold both news
  obtain ⟨l0, l1, l2⟩ := dropsC_last A a
  split
  · rename_i h5; rw [dropsC_take (b := [a]) h5]
  · rename_i h5
    obtain ⟨e, rfl⟩ : ∃ e, z = A.length * 3 + e := ⟨z - A.length * 3, by omega⟩
    rw [Nat.add_sub_cancel_left, Nat.zero_add]
    rcases (by omega : e = 0 ∨ e = 1 ∨ e = 2) with rfl | rfl | rfl
    · exact h0.trans l0.symm
    · exact h1.trans l1.symm
    · exact h2.trans l2.symm
section
variable (cx : Cx) (h : List (Nat × Seg)) (n : Nat)
theorem spots7_E (i : Nat) (P : Pc) (W H : Nat) (hs : hget h i = some (pcS P)) (hi : i < n) (hW : P.wide = W) (hH : P.high = H) (hW8 : W ≤ 8) (hH8 : H ≤ 8) (K : HK)
    (hK : ∀ cap, H * W ≤ cap → cap ≤ maxLen → K (.sl n 0 (H * W) cap) ((n, ⟨H * W * 2, cellC W, true, some (34, cap * 2)⟩) :: h) (n + 1)) :
    CallE Try.prog cx 92 [.ptr i 0] h n K := by
  have hne : (n == i) = false := by simp; omega
  refine callE_of_T (P := Try.prog) hti (nt := 30) (rs := [.tmp 2]) rfl rfl Try.call92 Try.func92 rfl _ (by simp only [go_sem, and_self]) (Nat.le_of_ble_eq_true rfl) _ fun hok => ?_
  simp only [go_sem, Nat.reduceBEq, Nat.reduceLT, Nat.reduceLeDiff, Nat.reduceAdd, Nat.reduceMul, Nat.reduceSub, Nat.reduceMod, Nat.reduceDiv, Nat.reduceEqDiff, Int.reduceToNat, reduceIte, reduceCtorEq, Int.reduceLE, Int.reduceLT, Int.reduceEq, Int.reduceNeg, Int.reduceAdd, Int.reduceSub, Int.reduceMul, hne, hs, hi]
  refine T_lp (ι := { p : Nat × Nat // p.1 ≤ H ∧ p.1 * W ≤ p.2 ∧ p.2 ≤ maxLen })
    (fun p => ([(0, .ptr i 0), (3, .sl n 0 (p.1.1 * W) p.1.2), (4, .int .i8 p.1.1)], (n, ⟨p.1.1 * W * 2, cellC W, true, some (34, p.1.2 * 2)⟩) :: h, n + 1)) (fun p => H - p.1.1) ⟨(0, 0), by simp⟩ ?_ ?_
  · refine Imp.id (by simp) ?_ ?_
    · simp only [go_sem, Nat.reduceBEq, Nat.reduceLT, Nat.reduceLeDiff, Nat.reduceAdd, Nat.reduceMul, Nat.reduceSub, Nat.reduceMod, Nat.reduceDiv, Nat.reduceEqDiff, Int.reduceToNat, reduceIte, reduceCtorEq, Int.reduceLE, Int.reduceLT, Int.reduceEq, Int.reduceNeg, Int.reduceAdd, Int.reduceSub, Int.reduceMul, hH]
      exact ⟨by omega, by simp, by omega⟩
    · refine impH.cons (Nat.lt_succ_self n) (hget_hit _ _ _) (SegLe.flat (by simp) id (.inr (by simp)) fun k hk => by simp at hk) (impH.base hok (by simp) (fun _ _ => rfl) ?_)
      simp only [go_sem, Nat.reduceBEq, Nat.reduceLT, Nat.reduceLeDiff, Nat.reduceAdd, Nat.reduceMul, Nat.reduceSub, Nat.reduceMod, Nat.reduceDiv, Nat.reduceEqDiff, Int.reduceToNat, reduceIte, reduceCtorEq, Int.reduceLE, Int.reduceLT, Int.reduceEq, Int.reduceNeg, Int.reduceAdd, Int.reduceSub, Int.reduceMul, HExt_cons]
  · rintro ⟨⟨y, cap⟩, hy, hcap, hm⟩
    simp only at hy hcap hm
    simp only [go_sem, Nat.reduceBEq, Nat.reduceLT, Nat.reduceLeDiff, Nat.reduceAdd, Nat.reduceMul, Nat.reduceSub, Nat.reduceMod, Nat.reduceDiv, Nat.reduceEqDiff, Int.reduceToNat, reduceIte, reduceCtorEq, Int.reduceLE, Int.reduceLT, Int.reduceEq, Int.reduceNeg, Int.reduceAdd, Int.reduceSub, Int.reduceMul, hne, hs, hH, hi, decide_eq_true_eq, decide_eq_false_iff_not]
    refine ⟨fun h1 => ?_, fun h1 => ?_⟩
    · refine T_lp (ι := { p : Nat × Nat // p.1 ≤ W ∧ y * W + p.1 ≤ p.2 ∧ p.2 ≤ maxLen })
        (fun p => ([(0, .ptr i 0), (3, .sl n 0 (y * W + p.1.1) p.1.2), (4, .int .i8 y), (5, .int .i8 p.1.1)], (n, ⟨(y * W + p.1.1) * 2, cellC W, true, some (34, p.1.2 * 2)⟩) :: h, n + 1)) (fun p => W - p.1.1) ⟨(0, cap), by simp; omega⟩ ?_ ?_
      · refine Imp.id (by simp) ?_ ?_
        · simp only [go_sem, Nat.reduceBEq, Nat.reduceLT, Nat.reduceLeDiff, Nat.reduceAdd, Nat.reduceMul, Nat.reduceSub, Nat.reduceMod, Nat.reduceDiv, Nat.reduceEqDiff, Int.reduceToNat, reduceIte, reduceCtorEq, Int.reduceLE, Int.reduceLT, Int.reduceEq, Int.reduceNeg, Int.reduceAdd, Int.reduceSub, Int.reduceMul]
          omega
        · refine impH.cons (Nat.lt_succ_self n) (hget_hit _ _ _) (SegLe.flat (by simp) id (.inr rfl) fun k hk => ⟨rfl, cellC_flat W k⟩) (impH.base hok (by simp) (fun _ _ => rfl) ?_)
          simp only [go_sem, Nat.reduceBEq, Nat.reduceLT, Nat.reduceLeDiff, Nat.reduceAdd, Nat.reduceMul, Nat.reduceSub, Nat.reduceMod, Nat.reduceDiv, Nat.reduceEqDiff, Int.reduceToNat, reduceIte, reduceCtorEq, Int.reduceLE, Int.reduceLT, Int.reduceEq, Int.reduceNeg, Int.reduceAdd, Int.reduceSub, Int.reduceMul, HExt_cons]
      · rintro ⟨⟨x, cap⟩, hx, hcap, hm⟩
        simp only at hx hcap hm
        simp only [go_sem, Nat.reduceBEq, Nat.reduceLT, Nat.reduceLeDiff, Nat.reduceAdd, Nat.reduceMul, Nat.reduceSub, Nat.reduceMod, Nat.reduceDiv, Nat.reduceEqDiff, Int.reduceToNat, reduceIte, reduceCtorEq, Int.reduceLE, Int.reduceLT, Int.reduceEq, Int.reduceNeg, Int.reduceAdd, Int.reduceSub, Int.reduceMul, hne, hs, hi, hW, ↓hok.del (Nat.le_refl n), decide_eq_true_eq, decide_eq_false_iff_not]
        have hyW : y * W ≤ 7 * 8 := Nat.mul_le_mul (by omega) hW8
        refine ⟨fun h2 => ⟨⟨by omega, by omega, by omega⟩, fun cap' h3 h4 => ⟨⟨(x + 1, cap'), by omega, h3, h4⟩, (by show W - (x + 1) < W - x; omega), ?_⟩⟩, fun h2 => ?_⟩
        · refine Imp.of1 n (n + 2) (by simp) (by omega) (by simp) ?_ ?_
          · simp only [go_sem, Nat.reduceBEq, Nat.reduceLT, Nat.reduceLeDiff, Nat.reduceAdd, Nat.reduceMul, Nat.reduceSub, Nat.reduceMod, Nat.reduceDiv, Nat.reduceEqDiff, Int.reduceToNat, reduceIte, reduceCtorEq, Int.reduceLE, Int.reduceLT, Int.reduceEq, Int.reduceNeg, Int.reduceAdd, Int.reduceSub, Int.reduceMul, hne, w8 (n := (x : Int) + 1) (by omega), Int.natCast_add, Int.natCast_one, Nat.add_assoc]
            omega
          · refine impH.cons1 (hget_hit _ _ _) (Nat.lt_succ_self n) (SegLe.flat (Nat.le_refl _) id (.inr rfl) fun k hk => ⟨?_, cellC_flat W k⟩) (impH.base1 hok (by simp) (Nat.le_refl n) ?_)
            · have hk : k < (y * W + (x + 1)) * 2 := hk
              show both ((y * W + x) * 2) (cellC W) _ k = _
              unfold both news
              split
              · rfl
              · rename_i hk2
                have h5 : (y * W + x) % W = x := by rw [Nat.mul_comm, Nat.mul_add_mod, Nat.mod_eq_of_lt (by omega)]
                have h6 : (y * W + x) / W = y := by rw [Nat.mul_comm, Nat.mul_add_div (by omega), Nat.div_eq_of_lt (by omega), Nat.add_zero]
                rcases (by omega : k = (y * W + x) * 2 ∨ k = (y * W + x) * 2 + 1) with rfl | rfl
                · simp [cellC, h5, cl]
                · have : ((y * W + x) * 2 + 1) / 2 = y * W + x := by omega
                  simp [cellC, this, h6, cl]
            · simp only [go_sem, Nat.reduceBEq, Nat.reduceLT, Nat.reduceLeDiff, Nat.reduceAdd, Nat.reduceMul, Nat.reduceSub, Nat.reduceMod, Nat.reduceDiv, Nat.reduceEqDiff, Int.reduceToNat, reduceIte, reduceCtorEq, Int.reduceLE, Int.reduceLT, Int.reduceEq, Int.reduceNeg, Int.reduceAdd, Int.reduceSub, Int.reduceMul, HExt_cons]
        · refine ⟨⟨(y + 1, cap), by omega, by rw [Nat.succ_mul]; omega, hm⟩, (by show H - (y + 1) < H - y; omega), ?_⟩
          have hx2 : x = W := by omega
          subst hx2
          refine Imp.id (by simp) ?_ ?_
          · simp only [go_sem, Nat.reduceBEq, Nat.reduceLT, Nat.reduceLeDiff, Nat.reduceAdd, Nat.reduceMul, Nat.reduceSub, Nat.reduceMod, Nat.reduceDiv, Nat.reduceEqDiff, Int.reduceToNat, reduceIte, reduceCtorEq, Int.reduceLE, Int.reduceLT, Int.reduceEq, Int.reduceNeg, Int.reduceAdd, Int.reduceSub, Int.reduceMul, hne, w8 (n := (y : Int) + 1) (by omega), Int.natCast_add, Int.natCast_one, Nat.succ_mul]
            omega
          · exact impH.cons0 (hget_hit _ _ _) (Nat.lt_succ_self n) (SegLe.flat (by show (y + 1) * x * 2 ≤ _; rw [Nat.succ_mul]; exact Nat.le_refl _) id (.inr rfl) fun k hk => ⟨rfl, cellC_flat x k⟩) (impH.base0 hok (by simp) (by simp only [go_sem, Nat.reduceBEq, Nat.reduceLT, Nat.reduceLeDiff, Nat.reduceAdd, Nat.reduceMul, Nat.reduceSub, Nat.reduceMod, Nat.reduceDiv, Nat.reduceEqDiff, Int.reduceToNat, reduceIte, reduceCtorEq, Int.reduceLE, Int.reduceLT, Int.reduceEq, Int.reduceNeg, Int.reduceAdd, Int.reduceSub, Int.reduceMul, HExt_cons]))
    · have hy2 : y = H := by omega
      subst hy2
      exact hK cap hcap hm
end
end Go.Proofs.Ytodgbpkdanefaaa.V

/- The drops that can be the last, listed: both walks. -/
namespace Go.Proofs.Ytodgbpkdanefaaa.V
theorem CallE.dropsE {P : Program} {cx : Cx} {h : List (Nat × Seg)} {n f : Nat} {args : List SV} {K : HK} (M : List Dr) (hK : ∀ cap, K (.sl n 0 M.length cap) ((n, ⟨M.length * 3, dropsC M, true, none⟩) :: h) (n + 1))
    (hc : CallE P cx f args h n fun r h1 n1 => ∃ b cap, n ≤ b ∧ r = .sl b 0 M.length cap ∧ HExt n h h1 ∧ ∃ t, hget h1 b = some t ∧ t.n = M.length * 3 ∧ t.rw = true ∧ ∀ k, k < M.length * 3 → t.c k = dropsC M k) : CallE P cx f args h n K :=
  hc.imp fun hok r h1 n1 ⟨b, cap, hb, hr, hx, t, ht, t1, t2, t3⟩ => by
    subst hr
    have le : ∀ σ, SegLe σ (n + 1) t ⟨M.length * 3, dropsC M, true, none⟩ := fun σ => SegLe.flat (by rw [t1]; exact Nat.le_refl _) (fun _ => t2) (.inl rfl) fun k hk => ⟨t3 k hk, dropsC_flat _ _⟩
    rcases Nat.eq_or_lt_of_le hb with rfl | hb'
    · exact ⟨[], .sl n 0 M.length cap, (n, ⟨M.length * 3, dropsC M, true, none⟩) :: h, n + 1, fun _ _ => rfl, by omega, by simp only [ren_nil], Nat.lt_succ_self n,
        impH.cons0 ht (Nat.lt_succ_self n) (le _) (impH.base0 hok (by simp) hx), fun i j _ _ _ _ hij => hij, hK cap⟩
    · have a4 : impH h1 (sig [(n, b)]) (n + 1) ((n, ⟨M.length * 3, dropsC M, true, none⟩) :: h) := impH.cons1 ht (Nat.lt_succ_self n) (le _) (impH.base1 hok (by simp) (Nat.le_refl n) hx)
      refine ⟨[(n, b)], .sl n 0 M.length cap, (n, ⟨M.length * 3, dropsC M, true, none⟩) :: h, n + 1, fun i hi => sig_miss _ _ _ _ (by simp; omega), by omega, by simp only [ren_sl, sig_hit], Nat.lt_succ_self n, a4, fun i j s t hi hj hij => ?_, hK cap⟩
      have h1 := (a4 i s hi).1
      have h2 := (a4 j t hj).1
      simp only [sig]
      split <;> split <;> omega
def lastP (P : Pc) (O : Gr) (d : Dr) : Bool := peelsB P O d.1 d.2.1 d.2.2
theorem cellC_0 (W q : Nat) : cellC W (q * 2) = .int .i8 ((q % W : Nat) : Int) := by unfold cellC; rw [if_pos (by omega), show q * 2 / 2 = q by omega]
theorem cellC_1 (W q : Nat) : cellC W (q * 2 + 1) = .int .i8 ((q / W : Nat) : Int) := by unfold cellC; rw [if_neg (by omega), show (q * 2 + 1) / 2 = q by omega]
theorem dropsL_at {W H q k : Nat} (hq : q < H * W) (hk : k < 3) : (dropsL W H).getD (q * 3 + k) (0, 0, 0) = (((q % W : Nat) : Int), ((q / W : Nat) : Int), (k : Int)) := by
  rw [dropsL_get W H _ (by omega), show (q * 3 + k) / 3 = q by omega, show (q * 3 + k) % 3 = k by omega]
section
variable (cx : Cx) (h : List (Nat × Seg)) (n : Nat)
set_option maxHeartbeats 800000 in
theorem next7_E (i g : Nat) (P : Pc) (O : Gr) (s : Seg) (W H : Nat) (hs : hget h i = some (pcS P)) (hi : i < n) (hg : hget h g = some s) (hgn : g < n) (hG : GrAt s O) (hR : PcR P) (hP : PcOk P) (hW : P.wide = W) (hH : P.high = H) (K : HK)
    (hK : ∀ cap, K (.sl n 0 ((dropsL W H).filter (lastP P O)).length cap) ((n, ⟨((dropsL W H).filter (lastP P O)).length * 3, dropsC ((dropsL W H).filter (lastP P O)), true, none⟩) :: h) (n + 1)) :
    CallE Try.prog cx 65 [.ptr i 0, .ptr g 0] h n K := by
  refine CallE.dropsE ((dropsL W H).filter (lastP P O)) hK ?_
  have hs8 := hP.1
  have hW8 : W ≤ 8 := by omega
  have hH8 : H ≤ 8 := by omega
  have hm : H * W ≤ 8 * 8 := Nat.mul_le_mul hH8 hW8
  have hDl := dropsL_len W H
  refine callE_of_T (P := Try.prog) hti (nt := 38) (rs := [.tmp 4]) rfl rfl Try.call65 Try.func65 rfl _ (by simp only [go_sem, and_self]) (Nat.le_of_ble_eq_true rfl) _ fun hok => ?_
  simp only [go_sem, Nat.reduceBEq, Nat.reduceLT, Nat.reduceLeDiff, Nat.reduceAdd, Nat.reduceMul, Nat.reduceSub, Nat.reduceMod, Nat.reduceDiv, Nat.reduceEqDiff, Int.reduceToNat, reduceIte, reduceCtorEq, Int.reduceLE, Int.reduceLT, Int.reduceEq, Int.reduceNeg, Int.reduceAdd, Int.reduceSub, Int.reduceMul]
  refine callA_false (spots7_E _ _ _ i P W H (by first | (simp only [go_sem, Nat.reduceBEq, Nat.reduceLT, Nat.reduceLeDiff, Nat.reduceAdd, Nat.reduceMul, Nat.reduceSub, Nat.reduceMod, Nat.reduceDiv, Nat.reduceEqDiff, Int.reduceToNat, reduceIte, reduceCtorEq, Int.reduceLE, Int.reduceLT, Int.reduceEq, Int.reduceNeg, Int.reduceAdd, Int.reduceSub, Int.reduceMul, hs, hi]; done) | (simp only [go_sem, Nat.reduceBEq, Nat.reduceLT, Nat.reduceLeDiff, Nat.reduceAdd, Nat.reduceMul, Nat.reduceSub, Nat.reduceMod, Nat.reduceDiv, Nat.reduceEqDiff, Int.reduceToNat, reduceIte, reduceCtorEq, Int.reduceLE, Int.reduceLT, Int.reduceEq, Int.reduceNeg, Int.reduceAdd, Int.reduceSub, Int.reduceMul, hs, hi]; rfl)) (by omega) hW hH hW8 hH8 _ fun capM hc1 hc2 => ?_)
  generalize hMM : H * W = m at *
  simp only [go_sem, Nat.reduceBEq, Nat.reduceLT, Nat.reduceLeDiff, Nat.reduceAdd, Nat.reduceMul, Nat.reduceSub, Nat.reduceMod, Nat.reduceDiv, Nat.reduceEqDiff, Int.reduceToNat, reduceIte, reduceCtorEq, Int.reduceLE, Int.reduceLT, Int.reduceEq, Int.reduceNeg, Int.reduceAdd, Int.reduceSub, Int.reduceMul]
  refine T_lp (ι := { q : Nat × Nat // q.1 ≤ m ∧ (((dropsL W H).take (q.1 * 3)).filter (lastP P O)).length ≤ q.2 ∧ q.2 ≤ maxLen })
    (fun q => ([(0, .ptr i 0), (1, .ptr g 0), (5, .sl n 0 (((dropsL W H).take (q.1.1 * 3)).filter (lastP P O)).length q.1.2), (6, .sl (n + 1) 0 m capM), (7, .int .i64 q.1.1)],
      (n + 1, ⟨m * 2, cellC W, true, none⟩) :: (n, ⟨(((dropsL W H).take (q.1.1 * 3)).filter (lastP P O)).length * 3, dropsC (((dropsL W H).take (q.1.1 * 3)).filter (lastP P O)), true, some (44, q.1.2 * 3)⟩) :: h, n + 2)) (fun q => m - q.1.1) ⟨(0, 0), by simp⟩ ?_ ?_
  · refine Imp.id (by simp) ?_ ?_
    · simp only [go_sem, Nat.reduceBEq, Nat.reduceLT, Nat.reduceLeDiff, Nat.reduceAdd, Nat.reduceMul, Nat.reduceSub, Nat.reduceMod, Nat.reduceDiv, Nat.reduceEqDiff, Int.reduceToNat, reduceIte, reduceCtorEq, Int.reduceLE, Int.reduceLT, Int.reduceEq, Int.reduceNeg, Int.reduceAdd, Int.reduceSub, Int.reduceMul]
      (repeat' apply And.intro) <;> first | omega | rfl | trivial | assumption | skip
    · exact impH.cons0 (hget_hit _ _ _) (by simp) (SegLe.flat (Nat.le_refl _) id (.inl rfl) fun k hk => ⟨rfl, cellC_flat _ _⟩) (impH.cons0 ((hget_miss _ _ _ _ (by simp)).trans (hget_hit _ _ _)) (by simp) (SegLe.flat (by simp) id (.inr (by simp)) fun k hk => by simp at hk) (impH.base0 hok (by simp) (by simp only [go_sem, Nat.reduceBEq, Nat.reduceLT, Nat.reduceLeDiff, Nat.reduceAdd, Nat.reduceMul, Nat.reduceSub, Nat.reduceMod, Nat.reduceDiv, Nat.reduceEqDiff, Int.reduceToNat, reduceIte, reduceCtorEq, Int.reduceLE, Int.reduceLT, Int.reduceEq, Int.reduceNeg, Int.reduceAdd, Int.reduceSub, Int.reduceMul, HExt_cons])))
  · rintro ⟨⟨q, cap1⟩, hq, hcap, hmx⟩
    simp only at hq hcap hmx
    simp only [go_sem, Nat.reduceBEq, Nat.reduceLT, Nat.reduceLeDiff, Nat.reduceAdd, Nat.reduceMul, Nat.reduceSub, Nat.reduceMod, Nat.reduceDiv, Nat.reduceEqDiff, Int.reduceToNat, reduceIte, reduceCtorEq, Int.reduceLE, Int.reduceLT, Int.reduceEq, Int.reduceNeg, Int.reduceAdd, Int.reduceSub, Int.reduceMul, decide_eq_true_eq, decide_eq_false_iff_not]
    refine ⟨fun h1 => ?_, fun h1 => ?_⟩
    rotate_left
    · have hq2 : q = m := by omega
      subst hq2
      have e : ((dropsL W H).take (q * 3)) = dropsL W H := by rw [← hDl, List.take_length]
      rw [e] at hcap ⊢
      exact ⟨n, cap1, Nat.le_refl _, rfl, _, (by first | (simp only [go_sem, Nat.reduceBEq, Nat.reduceLT, Nat.reduceLeDiff, Nat.reduceAdd, Nat.reduceMul, Nat.reduceSub, Nat.reduceMod, Nat.reduceDiv, Nat.reduceEqDiff, Int.reduceToNat, reduceIte, reduceCtorEq, Int.reduceLE, Int.reduceLT, Int.reduceEq, Int.reduceNeg, Int.reduceAdd, Int.reduceSub, Int.reduceMul]; done) | (simp only [go_sem, Nat.reduceBEq, Nat.reduceLT, Nat.reduceLeDiff, Nat.reduceAdd, Nat.reduceMul, Nat.reduceSub, Nat.reduceMod, Nat.reduceDiv, Nat.reduceEqDiff, Int.reduceToNat, reduceIte, reduceCtorEq, Int.reduceLE, Int.reduceLT, Int.reduceEq, Int.reduceNeg, Int.reduceAdd, Int.reduceSub, Int.reduceMul]; rfl)), rfl, rfl, fun _ _ => rfl⟩
    have hqm : q < m := by omega
    refine T_lp (ι := { q' : Nat × Nat // q'.1 ≤ 3 ∧ (((dropsL W H).take (q * 3 + q'.1)).filter (lastP P O)).length ≤ q'.2 ∧ q'.2 ≤ maxLen })
      (fun q' => ([(0, .ptr i 0), (1, .ptr g 0), (5, .sl n 0 (((dropsL W H).take (q * 3 + q'.1.1)).filter (lastP P O)).length q'.1.2), (6, .sl (n + 1) 0 m capM), (7, .int .i64 q), (8, .int .u8 q'.1.1)],
        (n + 1, ⟨m * 2, cellC W, true, none⟩) :: (n, ⟨(((dropsL W H).take (q * 3 + q'.1.1)).filter (lastP P O)).length * 3, dropsC (((dropsL W H).take (q * 3 + q'.1.1)).filter (lastP P O)), true, some (44, q'.1.2 * 3)⟩) :: h, n + 2)) (fun q' => 3 - q'.1.1) ⟨(0, cap1), by simp; exact ⟨hcap, hmx⟩⟩ ?_ ?_
    · refine Imp.id (by simp) ?_ ?_
      · simp only [go_sem, Nat.reduceBEq, Nat.reduceLT, Nat.reduceLeDiff, Nat.reduceAdd, Nat.reduceMul, Nat.reduceSub, Nat.reduceMod, Nat.reduceDiv, Nat.reduceEqDiff, Int.reduceToNat, reduceIte, reduceCtorEq, Int.reduceLE, Int.reduceLT, Int.reduceEq, Int.reduceNeg, Int.reduceAdd, Int.reduceSub, Int.reduceMul]
        (repeat' apply And.intro) <;> first | omega | rfl | trivial | assumption | skip
      · exact impH.cons0 (by first | (simp only [go_sem, Nat.reduceBEq, Nat.reduceLT, Nat.reduceLeDiff, Nat.reduceAdd, Nat.reduceMul, Nat.reduceSub, Nat.reduceMod, Nat.reduceDiv, Nat.reduceEqDiff, Int.reduceToNat, reduceIte, reduceCtorEq, Int.reduceLE, Int.reduceLT, Int.reduceEq, Int.reduceNeg, Int.reduceAdd, Int.reduceSub, Int.reduceMul]; done) | (simp only [go_sem, Nat.reduceBEq, Nat.reduceLT, Nat.reduceLeDiff, Nat.reduceAdd, Nat.reduceMul, Nat.reduceSub, Nat.reduceMod, Nat.reduceDiv, Nat.reduceEqDiff, Int.reduceToNat, reduceIte, reduceCtorEq, Int.reduceLE, Int.reduceLT, Int.reduceEq, Int.reduceNeg, Int.reduceAdd, Int.reduceSub, Int.reduceMul]; rfl)) (by simp) (SegLe.flat (Nat.le_refl _) id (.inr rfl) fun k hk => ⟨rfl, cellC_flat _ _⟩) (impH.cons0 (by first | (simp only [go_sem, Nat.reduceBEq, Nat.reduceLT, Nat.reduceLeDiff, Nat.reduceAdd, Nat.reduceMul, Nat.reduceSub, Nat.reduceMod, Nat.reduceDiv, Nat.reduceEqDiff, Int.reduceToNat, reduceIte, reduceCtorEq, Int.reduceLE, Int.reduceLT, Int.reduceEq, Int.reduceNeg, Int.reduceAdd, Int.reduceSub, Int.reduceMul]; done) | (simp only [go_sem, Nat.reduceBEq, Nat.reduceLT, Nat.reduceLeDiff, Nat.reduceAdd, Nat.reduceMul, Nat.reduceSub, Nat.reduceMod, Nat.reduceDiv, Nat.reduceEqDiff, Int.reduceToNat, reduceIte, reduceCtorEq, Int.reduceLE, Int.reduceLT, Int.reduceEq, Int.reduceNeg, Int.reduceAdd, Int.reduceSub, Int.reduceMul]; rfl)) (by simp) (SegLe.flat (Nat.le_refl _) id (.inr rfl) fun k hk => ⟨rfl, dropsC_flat _ _⟩) (impH.base0 hok (by simp) (by simp only [go_sem, Nat.reduceBEq, Nat.reduceLT, Nat.reduceLeDiff, Nat.reduceAdd, Nat.reduceMul, Nat.reduceSub, Nat.reduceMod, Nat.reduceDiv, Nat.reduceEqDiff, Int.reduceToNat, reduceIte, reduceCtorEq, Int.reduceLE, Int.reduceLT, Int.reduceEq, Int.reduceNeg, Int.reduceAdd, Int.reduceSub, Int.reduceMul, HExt_cons])))
    · rintro ⟨⟨k, cap2⟩, hk, hcap2, hmx2⟩
      simp only at hk hcap2 hmx2
      have hlen := filterD_len (lastP P O) (dropsL W H) (q * 3 + k)
      simp only [go_sem, Nat.reduceBEq, Nat.reduceLT, Nat.reduceLeDiff, Nat.reduceAdd, Nat.reduceMul, Nat.reduceSub, Nat.reduceMod, Nat.reduceDiv, Nat.reduceEqDiff, Int.reduceToNat, reduceIte, reduceCtorEq, Int.reduceLE, Int.reduceLT, Int.reduceEq, Int.reduceNeg, Int.reduceAdd, Int.reduceSub, Int.reduceMul, decide_eq_true_eq, decide_eq_false_iff_not]
      refine ⟨fun h2 => ?_, fun h2 => ?_⟩
      · have hk3 : k < 3 := by omega
        have hj : q * 3 + k < (dropsL W H).length := by omega
        have tf := takeD_filter (lastP P O) (dropsL W H) (q * 3 + k) hj
        have hin := dropsL_in (W := W) (H := H) (j := q * 3 + k) (by omega) hW8 hH8
        have hat := dropsL_at (W := W) (H := H) (q := q) (k := k) (by omega) hk3
        rw [hat] at tf hin
        simp only at hin
        have r1 : (0 : Int) ≤ q ∧ (q : Int) < m := ⟨by omega, h1⟩
        have b1 : q * 2 ≤ m * 2 - 2 := by omega
        have b2 : q * 2 + 2 ≤ m * 2 := by omega
        have b3 : 2 ≤ m * 2 := by omega
        simp only [go_sem, Nat.reduceBEq, Nat.reduceLT, Nat.reduceLeDiff, Nat.reduceAdd, Nat.reduceMul, Nat.reduceSub, Nat.reduceMod, Nat.reduceDiv, Nat.reduceEqDiff, Int.reduceToNat, reduceIte, reduceCtorEq, Int.reduceLE, Int.reduceLT, Int.reduceEq, Int.reduceNeg, Int.reduceAdd, Int.reduceSub, Int.reduceMul, r1, b1, b2, b3, cellC_0, cellC_1]
        refine (peels2_Q _ _ _ i g P O _ _ _ s (by first | (simp only [go_sem, Nat.reduceBEq, Nat.reduceLT, Nat.reduceLeDiff, Nat.reduceAdd, Nat.reduceMul, Nat.reduceSub, Nat.reduceMod, Nat.reduceDiv, Nat.reduceEqDiff, Int.reduceToNat, reduceIte, reduceCtorEq, Int.reduceLE, Int.reduceLT, Int.reduceEq, Int.reduceNeg, Int.reduceAdd, Int.reduceSub, Int.reduceMul, hs, hi]; done) | (simp only [go_sem, Nat.reduceBEq, Nat.reduceLT, Nat.reduceLeDiff, Nat.reduceAdd, Nat.reduceMul, Nat.reduceSub, Nat.reduceMod, Nat.reduceDiv, Nat.reduceEqDiff, Int.reduceToNat, reduceIte, reduceCtorEq, Int.reduceLE, Int.reduceLT, Int.reduceEq, Int.reduceNeg, Int.reduceAdd, Int.reduceSub, Int.reduceMul, hs, hi]; rfl)) (by omega) (by first | (simp only [go_sem, Nat.reduceBEq, Nat.reduceLT, Nat.reduceLeDiff, Nat.reduceAdd, Nat.reduceMul, Nat.reduceSub, Nat.reduceMod, Nat.reduceDiv, Nat.reduceEqDiff, Int.reduceToNat, reduceIte, reduceCtorEq, Int.reduceLE, Int.reduceLT, Int.reduceEq, Int.reduceNeg, Int.reduceAdd, Int.reduceSub, Int.reduceMul, hg, hgn]; done) | (simp only [go_sem, Nat.reduceBEq, Nat.reduceLT, Nat.reduceLeDiff, Nat.reduceAdd, Nat.reduceMul, Nat.reduceSub, Nat.reduceMod, Nat.reduceDiv, Nat.reduceEqDiff, Int.reduceToNat, reduceIte, reduceCtorEq, Int.reduceLE, Int.reduceLT, Int.reduceEq, Int.reduceNeg, Int.reduceAdd, Int.reduceSub, Int.reduceMul, hg, hgn]; rfl)) (by omega) hG hR hP (by omega) (by omega) (by omega)).A ?_
        cases hb : peelsB P O ((q % W : Nat) : Int) ((q / W : Nat) : Int) (k : Int)
        · have e : lastP P O (((q % W : Nat) : Int), ((q / W : Nat) : Int), (k : Int)) = false := hb
          rw [e] at tf
          simp only [Bool.false_eq_true, if_false, List.append_nil] at tf
          simp only [go_sem, Nat.reduceBEq, Nat.reduceLT, Nat.reduceLeDiff, Nat.reduceAdd, Nat.reduceMul, Nat.reduceSub, Nat.reduceMod, Nat.reduceDiv, Nat.reduceEqDiff, Int.reduceToNat, reduceIte, reduceCtorEq, Int.reduceLE, Int.reduceLT, Int.reduceEq, Int.reduceNeg, Int.reduceAdd, Int.reduceSub, Int.reduceMul]
          refine ⟨⟨(k + 1, cap2), by omega, by show ((List.take (q * 3 + (k + 1)) _).filter _).length ≤ _; rw [← Nat.add_assoc, tf]; exact hcap2, hmx2⟩, by show 3 - (k + 1) < 3 - k; omega, ?_⟩
          refine Imp.id (by simp) ?_ ?_
          · simp only [go_sem, Nat.reduceBEq, Nat.reduceLT, Nat.reduceLeDiff, Nat.reduceAdd, Nat.reduceMul, Nat.reduceSub, Nat.reduceMod, Nat.reduceDiv, Nat.reduceEqDiff, Int.reduceToNat, reduceIte, reduceCtorEq, Int.reduceLE, Int.reduceLT, Int.reduceEq, Int.reduceNeg, Int.reduceAdd, Int.reduceSub, Int.reduceMul, ← Nat.add_assoc, tf, wu8 (n := (k : Int) + 1) (by omega), Int.natCast_add, Int.natCast_one]
            (repeat' apply And.intro) <;> first | omega | rfl | trivial | assumption | skip
          · simp only [← Nat.add_assoc, tf]
            exact impH.cons0 (by first | (simp only [go_sem, Nat.reduceBEq, Nat.reduceLT, Nat.reduceLeDiff, Nat.reduceAdd, Nat.reduceMul, Nat.reduceSub, Nat.reduceMod, Nat.reduceDiv, Nat.reduceEqDiff, Int.reduceToNat, reduceIte, reduceCtorEq, Int.reduceLE, Int.reduceLT, Int.reduceEq, Int.reduceNeg, Int.reduceAdd, Int.reduceSub, Int.reduceMul]; done) | (simp only [go_sem, Nat.reduceBEq, Nat.reduceLT, Nat.reduceLeDiff, Nat.reduceAdd, Nat.reduceMul, Nat.reduceSub, Nat.reduceMod, Nat.reduceDiv, Nat.reduceEqDiff, Int.reduceToNat, reduceIte, reduceCtorEq, Int.reduceLE, Int.reduceLT, Int.reduceEq, Int.reduceNeg, Int.reduceAdd, Int.reduceSub, Int.reduceMul]; rfl)) (by simp) (SegLe.flat (Nat.le_refl _) id (.inr rfl) fun k hk => ⟨rfl, cellC_flat _ _⟩) (impH.cons0 (by first | (simp only [go_sem, Nat.reduceBEq, Nat.reduceLT, Nat.reduceLeDiff, Nat.reduceAdd, Nat.reduceMul, Nat.reduceSub, Nat.reduceMod, Nat.reduceDiv, Nat.reduceEqDiff, Int.reduceToNat, reduceIte, reduceCtorEq, Int.reduceLE, Int.reduceLT, Int.reduceEq, Int.reduceNeg, Int.reduceAdd, Int.reduceSub, Int.reduceMul]; done) | (simp only [go_sem, Nat.reduceBEq, Nat.reduceLT, Nat.reduceLeDiff, Nat.reduceAdd, Nat.reduceMul, Nat.reduceSub, Nat.reduceMod, Nat.reduceDiv, Nat.reduceEqDiff, Int.reduceToNat, reduceIte, reduceCtorEq, Int.reduceLE, Int.reduceLT, Int.reduceEq, Int.reduceNeg, Int.reduceAdd, Int.reduceSub, Int.reduceMul]; rfl)) (by simp) (SegLe.flat (Nat.le_refl _) id (.inr rfl) fun k hk => ⟨rfl, dropsC_flat _ _⟩) (impH.base0 hok (by simp) (by simp only [go_sem, Nat.reduceBEq, Nat.reduceLT, Nat.reduceLeDiff, Nat.reduceAdd, Nat.reduceMul, Nat.reduceSub, Nat.reduceMod, Nat.reduceDiv, Nat.reduceEqDiff, Int.reduceToNat, reduceIte, reduceCtorEq, Int.reduceLE, Int.reduceLT, Int.reduceEq, Int.reduceNeg, Int.reduceAdd, Int.reduceSub, Int.reduceMul, HExt_cons])))
        · have e : lastP P O (((q % W : Nat) : Int), ((q / W : Nat) : Int), (k : Int)) = true := hb
          rw [e] at tf
          simp only [if_true] at tf
          have hd2 : hdel h n = h := hok.del (by omega)
          simp only [go_sem, Nat.reduceBEq, Nat.reduceLT, Nat.reduceLeDiff, Nat.reduceAdd, Nat.reduceMul, Nat.reduceSub, Nat.reduceMod, Nat.reduceDiv, Nat.reduceEqDiff, Int.reduceToNat, reduceIte, reduceCtorEq, Int.reduceLE, Int.reduceLT, Int.reduceEq, Int.reduceNeg, Int.reduceAdd, Int.reduceSub, Int.reduceMul, hd2]
          refine ⟨⟨hcap2, hmx2, by omega⟩, fun cap' h3 h4 => ⟨⟨(k + 1, cap'), by omega, by show ((List.take (q * 3 + (k + 1)) _).filter _).length ≤ _; rw [← Nat.add_assoc, tf, List.length_append, List.length_singleton]; exact h3, h4⟩, by show 3 - (k + 1) < 3 - k; omega, ?_⟩⟩
          refine Imp.of1 n (n + 4) (by simp) (by omega) (by simp) ?_ ?_
          · simp only [go_sem, Nat.reduceBEq, Nat.reduceLT, Nat.reduceLeDiff, Nat.reduceAdd, Nat.reduceMul, Nat.reduceSub, Nat.reduceMod, Nat.reduceDiv, Nat.reduceEqDiff, Int.reduceToNat, reduceIte, reduceCtorEq, Int.reduceLE, Int.reduceLT, Int.reduceEq, Int.reduceNeg, Int.reduceAdd, Int.reduceSub, Int.reduceMul, ← Nat.add_assoc, hi, hgn, tf, List.length_append, List.length_singleton, wu8 (n := (k : Int) + 1) (by omega), Int.natCast_add, Int.natCast_one]
            (repeat' apply And.intro) <;> first | omega | rfl | trivial | assumption | skip
          · simp only [← Nat.add_assoc, tf]
            refine impH.cons2 (by first | (simp only [go_sem, Nat.reduceBEq, Nat.reduceLT, Nat.reduceLeDiff, Nat.reduceAdd, Nat.reduceMul, Nat.reduceSub, Nat.reduceMod, Nat.reduceDiv, Nat.reduceEqDiff, Int.reduceToNat, reduceIte, reduceCtorEq, Int.reduceLE, Int.reduceLT, Int.reduceEq, Int.reduceNeg, Int.reduceAdd, Int.reduceSub, Int.reduceMul]; done) | (simp only [go_sem, Nat.reduceBEq, Nat.reduceLT, Nat.reduceLeDiff, Nat.reduceAdd, Nat.reduceMul, Nat.reduceSub, Nat.reduceMod, Nat.reduceDiv, Nat.reduceEqDiff, Int.reduceToNat, reduceIte, reduceCtorEq, Int.reduceLE, Int.reduceLT, Int.reduceEq, Int.reduceNeg, Int.reduceAdd, Int.reduceSub, Int.reduceMul]; rfl)) (by simp) (by omega) (SegLe.flat (Nat.le_refl _) id (.inr rfl) fun z hz => ⟨rfl, cellC_flat _ _⟩) (impH.cons1 (hget_hit _ _ _) (by simp) (SegLe.flat (by simp) id (.inr rfl) fun z hz => ⟨?_, dropsC_flat _ _⟩) (impH.base1 hok (by simp) (Nat.le_refl n) (by simp only [go_sem, Nat.reduceBEq, Nat.reduceLT, Nat.reduceLeDiff, Nat.reduceAdd, Nat.reduceMul, Nat.reduceSub, Nat.reduceMod, Nat.reduceDiv, Nat.reduceEqDiff, Int.reduceToNat, reduceIte, reduceCtorEq, Int.reduceLE, Int.reduceLT, Int.reduceEq, Int.reduceNeg, Int.reduceAdd, Int.reduceSub, Int.reduceMul, HExt_cons])))
            have hz : z < (((dropsL W H).take (q * 3 + k)).filter (lastP P O) ++ [(((q % W : Nat) : Int), ((q / W : Nat) : Int), (k : Int))]).length * 3 := hz
            rw [List.length_append, List.length_singleton] at hz
            exact both_drop _ _ _ rfl rfl rfl hz
      · have hk3 : k = 3 := by omega
        subst hk3
        refine ⟨⟨(q + 1, cap2), by omega, by show ((List.take ((q + 1) * 3) _).filter _).length ≤ _; rw [Nat.succ_mul]; exact hcap2, hmx2⟩, by show m - (q + 1) < m - q; omega, ?_⟩
        refine Imp.id (by simp) ?_ ?_
        · simp only [go_sem, Nat.reduceBEq, Nat.reduceLT, Nat.reduceLeDiff, Nat.reduceAdd, Nat.reduceMul, Nat.reduceSub, Nat.reduceMod, Nat.reduceDiv, Nat.reduceEqDiff, Int.reduceToNat, reduceIte, reduceCtorEq, Int.reduceLE, Int.reduceLT, Int.reduceEq, Int.reduceNeg, Int.reduceAdd, Int.reduceSub, Int.reduceMul, Nat.succ_mul, w64 (n := (q : Int) + 1) (by omega), Int.natCast_add, Int.natCast_one]
          (repeat' apply And.intro) <;> first | omega | rfl | trivial | assumption | skip
        · simp only [Nat.succ_mul]
          exact impH.cons0 (by first | (simp only [go_sem, Nat.reduceBEq, Nat.reduceLT, Nat.reduceLeDiff, Nat.reduceAdd, Nat.reduceMul, Nat.reduceSub, Nat.reduceMod, Nat.reduceDiv, Nat.reduceEqDiff, Int.reduceToNat, reduceIte, reduceCtorEq, Int.reduceLE, Int.reduceLT, Int.reduceEq, Int.reduceNeg, Int.reduceAdd, Int.reduceSub, Int.reduceMul]; done) | (simp only [go_sem, Nat.reduceBEq, Nat.reduceLT, Nat.reduceLeDiff, Nat.reduceAdd, Nat.reduceMul, Nat.reduceSub, Nat.reduceMod, Nat.reduceDiv, Nat.reduceEqDiff, Int.reduceToNat, reduceIte, reduceCtorEq, Int.reduceLE, Int.reduceLT, Int.reduceEq, Int.reduceNeg, Int.reduceAdd, Int.reduceSub, Int.reduceMul]; rfl)) (by simp) (SegLe.flat (Nat.le_refl _) id (.inr rfl) fun k hk => ⟨rfl, cellC_flat _ _⟩) (impH.cons0 (by first | (simp only [go_sem, Nat.reduceBEq, Nat.reduceLT, Nat.reduceLeDiff, Nat.reduceAdd, Nat.reduceMul, Nat.reduceSub, Nat.reduceMod, Nat.reduceDiv, Nat.reduceEqDiff, Int.reduceToNat, reduceIte, reduceCtorEq, Int.reduceLE, Int.reduceLT, Int.reduceEq, Int.reduceNeg, Int.reduceAdd, Int.reduceSub, Int.reduceMul]; done) | (simp only [go_sem, Nat.reduceBEq, Nat.reduceLT, Nat.reduceLeDiff, Nat.reduceAdd, Nat.reduceMul, Nat.reduceSub, Nat.reduceMod, Nat.reduceDiv, Nat.reduceEqDiff, Int.reduceToNat, reduceIte, reduceCtorEq, Int.reduceLE, Int.reduceLT, Int.reduceEq, Int.reduceNeg, Int.reduceAdd, Int.reduceSub, Int.reduceMul]; rfl)) (by simp) (SegLe.flat (Nat.le_refl _) id (.inr rfl) fun k hk => ⟨rfl, dropsC_flat _ _⟩) (impH.base0 hok (by simp) (by simp only [go_sem, Nat.reduceBEq, Nat.reduceLT, Nat.reduceLeDiff, Nat.reduceAdd, Nat.reduceMul, Nat.reduceSub, Nat.reduceMod, Nat.reduceDiv, Nat.reduceEqDiff, Int.reduceToNat, reduceIte, reduceCtorEq, Int.reduceLE, Int.reduceLT, Int.reduceEq, Int.reduceNeg, Int.reduceAdd, Int.reduceSub, Int.reduceMul, HExt_cons])))
end
end Go.Proofs.Ytodgbpkdanefaaa.V

/- LastDrops of both codes. -/
namespace Go.Proofs.Ytodgbpkdanefaaa.V
/-- A list of drops that a call has made. -/
def DrOut (h : List (Nat × Seg)) (lo n : Nat) (V : SV) (L : List Dr) : Prop :=
  (V = .nils ∧ L = []) ∨ ∃ i cap s, V = .sl i 0 L.length cap ∧ lo ≤ i ∧ i < n ∧ hget h i = some s ∧ s.rw = true ∧ s.n = L.length * 3 ∧ ∀ k, k < L.length * 3 → s.c k = dropsC L k
theorem DrOut.ok {h : List (Nat × Seg)} {lo n : Nat} {V : SV} {L : List Dr} (hA : DrOut h lo n V L) : V.ok = True := by
  rcases hA with ⟨rfl, rfl⟩ | ⟨i, cap, s, rfl, _⟩ <;> rfl
theorem DrOut.mono {h h' : List (Nat × Seg)} {lo n n' : Nat} {V : SV} {L : List Dr} (hA : DrOut h lo n V L) (hn : n ≤ n') (hx : ∀ i, lo ≤ i → i < n → ∀ t, hget h i = some t → hget h' i = some t) : DrOut h' lo n' V L := by
  rcases hA with h1 | ⟨i, cap, s, rfl, h1, h2, h3, h4⟩
  · exact .inl h1
  · exact .inr ⟨i, cap, s, rfl, h1, by omega, hx i h1 h2 s h3, h4⟩
theorem DrOut.ext {h h' : List (Nat × Seg)} {lo n n' : Nat} {V : SV} {L : List Dr} (hA : DrOut h lo n V L) (hn : n ≤ n') (hx : HExt n h h') : DrOut h' lo n' V L := hA.mono hn fun i _ hi => hx i hi
def lastL (P : Pc) : List Dr := (dropsL P.wide.toNat P.high.toNat).filter (lastP P off)
noncomputable def lastDR (P : Pc) : List Dr × Int := haveI := Classical.propDecidable; if pcokB P then (lastL P, 0) else ([], 1)
theorem lastDR_0 {P : Pc} (h : pcokB P = true) : lastDR P = (lastL P, 0) := by unfold lastDR; rw [if_pos h]
theorem lastDR_1 {P : Pc} (h : ¬ pcokB P = true) : lastDR P = ([], 1) := by unfold lastDR; rw [if_neg h]
theorem dropsL_le {P : Pc} (hP : PcOk P) : (dropsL P.wide.toNat P.high.toNat).length ≤ 192 := by
  rw [dropsL_len]
  have := hP.1
  have : P.high.toNat * P.wide.toNat ≤ 8 * 8 := Nat.mul_le_mul (by omega) (by omega)
  omega
theorem lastDR_len (P : Pc) : (lastDR P).1.length ≤ 192 := by
  by_cases h : pcokB P = true
  · rw [lastDR_0 h]
    exact Nat.le_trans (List.length_filter_le _ _) (dropsL_le (by simpa [pcokB] using h))
  · rw [lastDR_1 h]; simp
section
variable (cx : Cx) (h : List (Nat × Seg)) (n : Nat)
set_option maxHeartbeats 800000 in
theorem drops7_E (i : Nat) (P : Pc) (W H : Nat) (hs : hget h i = some (pcS P)) (hi : i < n) (hR : PcR P) (hP : PcOk P) (hW : P.wide = W) (hH : P.high = H) (K : HK)
    (hK : ∀ cap, (dropsL W H).length ≤ cap → K (.sl n 0 (dropsL W H).length cap) ((n, ⟨(dropsL W H).length * 3, dropsC (dropsL W H), true, none⟩) :: h) (n + 1)) :
    CallE Try.prog cx 67 [.ptr i 0] h n K := by
  refine CallE.hokE ?_
  have hs8 := hP.1
  have hW8 : W ≤ 8 := by omega
  have hH8 : H ≤ 8 := by omega
  have hm : H * W ≤ 8 * 8 := Nat.mul_le_mul hH8 hW8
  have hDl := dropsL_len W H
  refine CallE.imp (K := fun r h1 n1 => ∃ b cap, n ≤ b ∧ (dropsL W H).length ≤ cap ∧ r = .sl b 0 (dropsL W H).length cap ∧ HExt n h h1 ∧ ∃ t, hget h1 b = some t ∧ t.n = (dropsL W H).length * 3 ∧ t.rw = true ∧ ∀ k, k < (dropsL W H).length * 3 → t.c k = dropsC (dropsL W H) k) ?_ ?_
  rotate_left
  · rintro hok r h1 n1 ⟨b, cap, hb, hcap, rfl, hx, t, ht, t1, t2, t3⟩
    have le : ∀ σ, SegLe σ (n + 1) t ⟨(dropsL W H).length * 3, dropsC (dropsL W H), true, none⟩ := fun σ => SegLe.flat (by rw [t1]; exact Nat.le_refl _) (fun _ => t2) (.inl rfl) fun k hk => ⟨t3 k hk, dropsC_flat _ _⟩
    rcases Nat.eq_or_lt_of_le hb with rfl | hb'
    · exact ⟨[], .sl n 0 (dropsL W H).length cap, (n, ⟨(dropsL W H).length * 3, dropsC (dropsL W H), true, none⟩) :: h, n + 1, fun _ _ => rfl, by omega, by simp only [ren_nil], Nat.lt_succ_self n,
        impH.cons0 ht (Nat.lt_succ_self n) (le _) (impH.base0 hok (by simp) hx), fun i j _ _ _ _ hij => hij, fun _ => hK cap hcap⟩
    · have a4 : impH h1 (sig [(n, b)]) (n + 1) ((n, ⟨(dropsL W H).length * 3, dropsC (dropsL W H), true, none⟩) :: h) := impH.cons1 ht (Nat.lt_succ_self n) (le _) (impH.base1 hok (by simp) (Nat.le_refl n) hx)
      refine ⟨[(n, b)], .sl n 0 (dropsL W H).length cap, (n, ⟨(dropsL W H).length * 3, dropsC (dropsL W H), true, none⟩) :: h, n + 1, fun i hi => sig_miss _ _ _ _ (by simp; omega), by omega, by simp only [ren_sl, sig_hit], Nat.lt_succ_self n, a4, fun i j s t hi hj hij => ?_, fun _ => hK cap hcap⟩
      have h1 := (a4 i s hi).1
      have h2 := (a4 j t hj).1
      simp only [sig]
      split <;> split <;> omega
  refine callE_of_T (P := Try.prog) hti (nt := 28) (rs := [.tmp 2]) rfl rfl Try.call67 Try.func67 rfl _ (by simp only [go_sem, and_self]) (Nat.le_of_ble_eq_true rfl) _ fun hok => ?_
  simp only [go_sem, Nat.reduceBEq, Nat.reduceLT, Nat.reduceLeDiff, Nat.reduceAdd, Nat.reduceMul, Nat.reduceSub, Nat.reduceMod, Nat.reduceDiv, Nat.reduceEqDiff, Int.reduceToNat, reduceIte, reduceCtorEq, Int.reduceLE, Int.reduceLT, Int.reduceEq, Int.reduceNeg, Int.reduceAdd, Int.reduceSub, Int.reduceMul]
  refine callA_false (sheet_E _ _ _ i P (by first | (simp only [go_sem, Nat.reduceBEq, Nat.reduceLT, Nat.reduceLeDiff, Nat.reduceAdd, Nat.reduceMul, Nat.reduceSub, Nat.reduceMod, Nat.reduceDiv, Nat.reduceEqDiff, Int.reduceToNat, reduceIte, reduceCtorEq, Int.reduceLE, Int.reduceLT, Int.reduceEq, Int.reduceNeg, Int.reduceAdd, Int.reduceSub, Int.reduceMul, hs, hi]; done) | (simp only [go_sem, Nat.reduceBEq, Nat.reduceLT, Nat.reduceLeDiff, Nat.reduceAdd, Nat.reduceMul, Nat.reduceSub, Nat.reduceMod, Nat.reduceDiv, Nat.reduceEqDiff, Int.reduceToNat, reduceIte, reduceCtorEq, Int.reduceLE, Int.reduceLT, Int.reduceEq, Int.reduceNeg, Int.reduceAdd, Int.reduceSub, Int.reduceMul, hs, hi]; rfl)) (by omega) _ ?_)
  simp only [go_sem, Nat.reduceBEq, Nat.reduceLT, Nat.reduceLeDiff, Nat.reduceAdd, Nat.reduceMul, Nat.reduceSub, Nat.reduceMod, Nat.reduceDiv, Nat.reduceEqDiff, Int.reduceToNat, reduceIte, reduceCtorEq, Int.reduceLE, Int.reduceLT, Int.reduceEq, Int.reduceNeg, Int.reduceAdd, Int.reduceSub, Int.reduceMul]
  refine callA_false (cells_E _ _ _ (n + 1) 0 (shS (psh P)) (psh P) W H (by first | (simp only [go_sem, Nat.reduceBEq, Nat.reduceLT, Nat.reduceLeDiff, Nat.reduceAdd, Nat.reduceMul, Nat.reduceSub, Nat.reduceMod, Nat.reduceDiv, Nat.reduceEqDiff, Int.reduceToNat, reduceIte, reduceCtorEq, Int.reduceLE, Int.reduceLT, Int.reduceEq, Int.reduceNeg, Int.reduceAdd, Int.reduceSub, Int.reduceMul]; done) | (simp only [go_sem, Nat.reduceBEq, Nat.reduceLT, Nat.reduceLeDiff, Nat.reduceAdd, Nat.reduceMul, Nat.reduceSub, Nat.reduceMod, Nat.reduceDiv, Nat.reduceEqDiff, Int.reduceToNat, reduceIte, reduceCtorEq, Int.reduceLE, Int.reduceLT, Int.reduceEq, Int.reduceNeg, Int.reduceAdd, Int.reduceSub, Int.reduceMul]; rfl)) (by omega) (shAt_shC (psh_R hR)) hW hH hW8 hH8 _ fun capM hc1 hc2 => ?_)
  generalize hMM : H * W = m at *
  simp only [go_sem, Nat.reduceBEq, Nat.reduceLT, Nat.reduceLeDiff, Nat.reduceAdd, Nat.reduceMul, Nat.reduceSub, Nat.reduceMod, Nat.reduceDiv, Nat.reduceEqDiff, Int.reduceToNat, reduceIte, reduceCtorEq, Int.reduceLE, Int.reduceLT, Int.reduceEq, Int.reduceNeg, Int.reduceAdd, Int.reduceSub, Int.reduceMul]
  refine T_lp (ι := { q : Nat × Nat // q.1 ≤ m ∧ q.1 * 3 ≤ q.2 ∧ q.2 ≤ maxLen })
    (fun q => ([(3, .sl n 0 (q.1.1 * 3) q.1.2), (10, .sl (n + 2) 0 m capM), (11, .int .i64 m), (12, .int .i64 q.1.1)],
      (n + 2, ⟨m * 2, cellC W, true, none⟩) :: (n, ⟨q.1.1 * 3 * 3, dropsC (dropsL W H), true, some (44, q.1.2 * 3)⟩) :: h, n + 3)) (fun q => m - q.1.1) ⟨(0, 0), by simp⟩ ?_ ?_
  · refine Imp.id (by simp) ?_ ?_
    · simp only [go_sem, Nat.reduceBEq, Nat.reduceLT, Nat.reduceLeDiff, Nat.reduceAdd, Nat.reduceMul, Nat.reduceSub, Nat.reduceMod, Nat.reduceDiv, Nat.reduceEqDiff, Int.reduceToNat, reduceIte, reduceCtorEq, Int.reduceLE, Int.reduceLT, Int.reduceEq, Int.reduceNeg, Int.reduceAdd, Int.reduceSub, Int.reduceMul]
      (repeat' apply And.intro) <;> first | omega | rfl | trivial | assumption | skip
    · exact impH.cons0 (hget_hit _ _ _) (by simp) (SegLe.flat (Nat.le_refl _) id (.inl rfl) fun k hk => ⟨rfl, cellC_flat _ _⟩) (impH.cons0 (s := ⟨0, zrow (ti 44), true, some (44, 0)⟩) (by first | (simp only [go_sem, Nat.reduceBEq, Nat.reduceLT, Nat.reduceLeDiff, Nat.reduceAdd, Nat.reduceMul, Nat.reduceSub, Nat.reduceMod, Nat.reduceDiv, Nat.reduceEqDiff, Int.reduceToNat, reduceIte, reduceCtorEq, Int.reduceLE, Int.reduceLT, Int.reduceEq, Int.reduceNeg, Int.reduceAdd, Int.reduceSub, Int.reduceMul]; done) | (simp only [go_sem, Nat.reduceBEq, Nat.reduceLT, Nat.reduceLeDiff, Nat.reduceAdd, Nat.reduceMul, Nat.reduceSub, Nat.reduceMod, Nat.reduceDiv, Nat.reduceEqDiff, Int.reduceToNat, reduceIte, reduceCtorEq, Int.reduceLE, Int.reduceLT, Int.reduceEq, Int.reduceNeg, Int.reduceAdd, Int.reduceSub, Int.reduceMul]; rfl)) (by simp) (SegLe.flat (by simp) id (.inr (by simp)) fun k hk => by simp at hk) (impH.base0 hok (by simp) (by simp only [go_sem, Nat.reduceBEq, Nat.reduceLT, Nat.reduceLeDiff, Nat.reduceAdd, Nat.reduceMul, Nat.reduceSub, Nat.reduceMod, Nat.reduceDiv, Nat.reduceEqDiff, Int.reduceToNat, reduceIte, reduceCtorEq, Int.reduceLE, Int.reduceLT, Int.reduceEq, Int.reduceNeg, Int.reduceAdd, Int.reduceSub, Int.reduceMul, HExt_cons])))
  · rintro ⟨⟨q, cap1⟩, hq, hcap, hmx⟩
    simp only at hq hcap hmx
    simp only [go_sem, Nat.reduceBEq, Nat.reduceLT, Nat.reduceLeDiff, Nat.reduceAdd, Nat.reduceMul, Nat.reduceSub, Nat.reduceMod, Nat.reduceDiv, Nat.reduceEqDiff, Int.reduceToNat, reduceIte, reduceCtorEq, Int.reduceLE, Int.reduceLT, Int.reduceEq, Int.reduceNeg, Int.reduceAdd, Int.reduceSub, Int.reduceMul, decide_eq_true_eq, decide_eq_false_iff_not]
    refine ⟨fun h1 => ?_, fun h1 => ?_⟩
    rotate_left
    · have hq2 : q = m := by omega
      subst hq2
      rw [hDl]
      exact ⟨n, cap1, Nat.le_refl _, hcap, rfl, _, (by first | (simp only [go_sem, Nat.reduceBEq, Nat.reduceLT, Nat.reduceLeDiff, Nat.reduceAdd, Nat.reduceMul, Nat.reduceSub, Nat.reduceMod, Nat.reduceDiv, Nat.reduceEqDiff, Int.reduceToNat, reduceIte, reduceCtorEq, Int.reduceLE, Int.reduceLT, Int.reduceEq, Int.reduceNeg, Int.reduceAdd, Int.reduceSub, Int.reduceMul]; done) | (simp only [go_sem, Nat.reduceBEq, Nat.reduceLT, Nat.reduceLeDiff, Nat.reduceAdd, Nat.reduceMul, Nat.reduceSub, Nat.reduceMod, Nat.reduceDiv, Nat.reduceEqDiff, Int.reduceToNat, reduceIte, reduceCtorEq, Int.reduceLE, Int.reduceLT, Int.reduceEq, Int.reduceNeg, Int.reduceAdd, Int.reduceSub, Int.reduceMul]; rfl)), rfl, rfl, fun _ _ => rfl⟩
    have hqm : q < m := by omega
    have r1 : (0 : Int) ≤ q ∧ (q : Int) < m := ⟨by omega, by omega⟩
    have b1 : q * 2 ≤ m * 2 - 2 := by omega
    have b2 : q * 2 + 2 ≤ m * 2 := by omega
    have b3 : 2 ≤ m * 2 := by omega
    simp only [go_sem, Nat.reduceBEq, Nat.reduceLT, Nat.reduceLeDiff, Nat.reduceAdd, Nat.reduceMul, Nat.reduceSub, Nat.reduceMod, Nat.reduceDiv, Nat.reduceEqDiff, Int.reduceToNat, reduceIte, reduceCtorEq, Int.reduceLE, Int.reduceLT, Int.reduceEq, Int.reduceNeg, Int.reduceAdd, Int.reduceSub, Int.reduceMul, r1, b1, b2, b3, cellC_0, cellC_1]
    refine T_lp (ι := { q' : Nat × Nat // q'.1 ≤ 3 ∧ q * 3 + q'.1 ≤ q'.2 ∧ q'.2 ≤ maxLen })
      (fun q' => ([(3, .sl n 0 (q * 3 + q'.1.1) q'.1.2), (5, .ptr (n + 3) 0), (10, .sl (n + 2) 0 m capM), (11, .int .i64 m), (12, .int .i64 q), (16, .int .u8 q'.1.1)],
        (n + 3, ⟨2, cl [.int .i8 ((q % W : Nat) : Int), .int .i8 ((q / W : Nat) : Int)], true, none⟩) :: (n + 2, ⟨m * 2, cellC W, true, none⟩) :: (n, ⟨(q * 3 + q'.1.1) * 3, dropsC (dropsL W H), true, some (44, q'.1.2 * 3)⟩) :: h, n + 4)) (fun q' => 3 - q'.1.1) ⟨(0, cap1), by simp; exact ⟨hcap, hmx⟩⟩ ?_ ?_
    · refine Imp.id (by simp) ?_ ?_
      · simp only [go_sem, Nat.reduceBEq, Nat.reduceLT, Nat.reduceLeDiff, Nat.reduceAdd, Nat.reduceMul, Nat.reduceSub, Nat.reduceMod, Nat.reduceDiv, Nat.reduceEqDiff, Int.reduceToNat, reduceIte, reduceCtorEq, Int.reduceLE, Int.reduceLT, Int.reduceEq, Int.reduceNeg, Int.reduceAdd, Int.reduceSub, Int.reduceMul]
        (repeat' apply And.intro) <;> first | omega | rfl | trivial | assumption | skip
      · exact impH.cons0 (by first | (simp only [go_sem, Nat.reduceBEq, Nat.reduceLT, Nat.reduceLeDiff, Nat.reduceAdd, Nat.reduceMul, Nat.reduceSub, Nat.reduceMod, Nat.reduceDiv, Nat.reduceEqDiff, Int.reduceToNat, reduceIte, reduceCtorEq, Int.reduceLE, Int.reduceLT, Int.reduceEq, Int.reduceNeg, Int.reduceAdd, Int.reduceSub, Int.reduceMul]; done) | (simp only [go_sem, Nat.reduceBEq, Nat.reduceLT, Nat.reduceLeDiff, Nat.reduceAdd, Nat.reduceMul, Nat.reduceSub, Nat.reduceMod, Nat.reduceDiv, Nat.reduceEqDiff, Int.reduceToNat, reduceIte, reduceCtorEq, Int.reduceLE, Int.reduceLT, Int.reduceEq, Int.reduceNeg, Int.reduceAdd, Int.reduceSub, Int.reduceMul]; rfl)) (by simp) (SegLe.flat (Nat.le_refl _) id (.inr rfl) fun z hz => ⟨rfl, pair_flat _ _ hz⟩) (impH.cons0 (by first | (simp only [go_sem, Nat.reduceBEq, Nat.reduceLT, Nat.reduceLeDiff, Nat.reduceAdd, Nat.reduceMul, Nat.reduceSub, Nat.reduceMod, Nat.reduceDiv, Nat.reduceEqDiff, Int.reduceToNat, reduceIte, reduceCtorEq, Int.reduceLE, Int.reduceLT, Int.reduceEq, Int.reduceNeg, Int.reduceAdd, Int.reduceSub, Int.reduceMul]; done) | (simp only [go_sem, Nat.reduceBEq, Nat.reduceLT, Nat.reduceLeDiff, Nat.reduceAdd, Nat.reduceMul, Nat.reduceSub, Nat.reduceMod, Nat.reduceDiv, Nat.reduceEqDiff, Int.reduceToNat, reduceIte, reduceCtorEq, Int.reduceLE, Int.reduceLT, Int.reduceEq, Int.reduceNeg, Int.reduceAdd, Int.reduceSub, Int.reduceMul]; rfl)) (by simp) (SegLe.flat (Nat.le_refl _) id (.inr rfl) fun k hk => ⟨rfl, cellC_flat _ _⟩) (impH.cons0 (by first | (simp only [go_sem, Nat.reduceBEq, Nat.reduceLT, Nat.reduceLeDiff, Nat.reduceAdd, Nat.reduceMul, Nat.reduceSub, Nat.reduceMod, Nat.reduceDiv, Nat.reduceEqDiff, Int.reduceToNat, reduceIte, reduceCtorEq, Int.reduceLE, Int.reduceLT, Int.reduceEq, Int.reduceNeg, Int.reduceAdd, Int.reduceSub, Int.reduceMul]; done) | (simp only [go_sem, Nat.reduceBEq, Nat.reduceLT, Nat.reduceLeDiff, Nat.reduceAdd, Nat.reduceMul, Nat.reduceSub, Nat.reduceMod, Nat.reduceDiv, Nat.reduceEqDiff, Int.reduceToNat, reduceIte, reduceCtorEq, Int.reduceLE, Int.reduceLT, Int.reduceEq, Int.reduceNeg, Int.reduceAdd, Int.reduceSub, Int.reduceMul]; rfl)) (by simp) (SegLe.flat (Nat.le_refl _) id (.inr rfl) fun k hk => ⟨rfl, dropsC_flat _ _⟩) (impH.base0 hok (by simp) (by simp only [go_sem, Nat.reduceBEq, Nat.reduceLT, Nat.reduceLeDiff, Nat.reduceAdd, Nat.reduceMul, Nat.reduceSub, Nat.reduceMod, Nat.reduceDiv, Nat.reduceEqDiff, Int.reduceToNat, reduceIte, reduceCtorEq, Int.reduceLE, Int.reduceLT, Int.reduceEq, Int.reduceNeg, Int.reduceAdd, Int.reduceSub, Int.reduceMul, HExt_cons]))))
    · rintro ⟨⟨k, cap2⟩, hk, hcap2, hmx2⟩
      simp only at hk hcap2 hmx2
      simp only [go_sem, Nat.reduceBEq, Nat.reduceLT, Nat.reduceLeDiff, Nat.reduceAdd, Nat.reduceMul, Nat.reduceSub, Nat.reduceMod, Nat.reduceDiv, Nat.reduceEqDiff, Int.reduceToNat, reduceIte, reduceCtorEq, Int.reduceLE, Int.reduceLT, Int.reduceEq, Int.reduceNeg, Int.reduceAdd, Int.reduceSub, Int.reduceMul, decide_eq_true_eq, decide_eq_false_iff_not]
      refine ⟨fun h2 => ?_, fun h2 => ?_⟩
      · have hk3 : k < 3 := by omega
        have hat := dropsL_at (W := W) (H := H) (q := q) (k := k) (by omega) hk3
        have hd2 : hdel h n = h := hok.del (by omega)
        simp only [go_sem, Nat.reduceBEq, Nat.reduceLT, Nat.reduceLeDiff, Nat.reduceAdd, Nat.reduceMul, Nat.reduceSub, Nat.reduceMod, Nat.reduceDiv, Nat.reduceEqDiff, Int.reduceToNat, reduceIte, reduceCtorEq, Int.reduceLE, Int.reduceLT, Int.reduceEq, Int.reduceNeg, Int.reduceAdd, Int.reduceSub, Int.reduceMul, hd2]
        refine ⟨⟨hcap2, hmx2, by omega⟩, fun cap' h3 h4 => ⟨⟨(k + 1, cap'), by omega, h3, h4⟩, by show 3 - (k + 1) < 3 - k; omega, ?_⟩⟩
        refine Imp.of1 n (n + 5) (by simp) (by omega) (by simp) ?_ ?_
        · simp only [go_sem, Nat.reduceBEq, Nat.reduceLT, Nat.reduceLeDiff, Nat.reduceAdd, Nat.reduceMul, Nat.reduceSub, Nat.reduceMod, Nat.reduceDiv, Nat.reduceEqDiff, Int.reduceToNat, reduceIte, reduceCtorEq, Int.reduceLE, Int.reduceLT, Int.reduceEq, Int.reduceNeg, Int.reduceAdd, Int.reduceSub, Int.reduceMul, ← Nat.add_assoc, wu8 (n := (k : Int) + 1) (by omega), Int.natCast_add, Int.natCast_one]
          (repeat' apply And.intro) <;> first | omega | rfl | trivial | assumption | skip
        · refine impH.cons2 (by first | (simp only [go_sem, Nat.reduceBEq, Nat.reduceLT, Nat.reduceLeDiff, Nat.reduceAdd, Nat.reduceMul, Nat.reduceSub, Nat.reduceMod, Nat.reduceDiv, Nat.reduceEqDiff, Int.reduceToNat, reduceIte, reduceCtorEq, Int.reduceLE, Int.reduceLT, Int.reduceEq, Int.reduceNeg, Int.reduceAdd, Int.reduceSub, Int.reduceMul]; done) | (simp only [go_sem, Nat.reduceBEq, Nat.reduceLT, Nat.reduceLeDiff, Nat.reduceAdd, Nat.reduceMul, Nat.reduceSub, Nat.reduceMod, Nat.reduceDiv, Nat.reduceEqDiff, Int.reduceToNat, reduceIte, reduceCtorEq, Int.reduceLE, Int.reduceLT, Int.reduceEq, Int.reduceNeg, Int.reduceAdd, Int.reduceSub, Int.reduceMul]; rfl)) (by simp) (by omega) (SegLe.flat (Nat.le_refl _) id (.inr rfl) fun z hz => ⟨rfl, pair_flat _ _ hz⟩) (impH.cons2 (by first | (simp only [go_sem, Nat.reduceBEq, Nat.reduceLT, Nat.reduceLeDiff, Nat.reduceAdd, Nat.reduceMul, Nat.reduceSub, Nat.reduceMod, Nat.reduceDiv, Nat.reduceEqDiff, Int.reduceToNat, reduceIte, reduceCtorEq, Int.reduceLE, Int.reduceLT, Int.reduceEq, Int.reduceNeg, Int.reduceAdd, Int.reduceSub, Int.reduceMul]; done) | (simp only [go_sem, Nat.reduceBEq, Nat.reduceLT, Nat.reduceLeDiff, Nat.reduceAdd, Nat.reduceMul, Nat.reduceSub, Nat.reduceMod, Nat.reduceDiv, Nat.reduceEqDiff, Int.reduceToNat, reduceIte, reduceCtorEq, Int.reduceLE, Int.reduceLT, Int.reduceEq, Int.reduceNeg, Int.reduceAdd, Int.reduceSub, Int.reduceMul]; rfl)) (by simp) (by omega) (SegLe.flat (Nat.le_refl _) id (.inr rfl) fun z hz => ⟨rfl, cellC_flat _ _⟩) (impH.cons1 (hget_hit _ _ _) (by simp) (SegLe.flat (Nat.le_refl _) id (.inr rfl) fun z hz => ⟨?_, dropsC_flat _ _⟩) (impH.base1 hok (by simp) (Nat.le_refl n) (by simp only [go_sem, Nat.reduceBEq, Nat.reduceLT, Nat.reduceLeDiff, Nat.reduceAdd, Nat.reduceMul, Nat.reduceSub, Nat.reduceMod, Nat.reduceDiv, Nat.reduceEqDiff, Int.reduceToNat, reduceIte, reduceCtorEq, Int.reduceLE, Int.reduceLT, Int.reduceEq, Int.reduceNeg, Int.reduceAdd, Int.reduceSub, Int.reduceMul, HExt_cons]))))
          have hz : z < (q * 3 + (k + 1)) * 3 := hz
          show both ((q * 3 + k) * 3) (dropsC (dropsL W H)) (news _ 0) z = dropsC (dropsL W H) z
          unfold both news
          split
          · rfl
          · rename_i h5
            obtain ⟨e, rfl⟩ : ∃ e, z = (q * 3 + k) * 3 + e := ⟨z - (q * 3 + k) * 3, by omega⟩
            rw [Nat.add_sub_cancel_left, Nat.zero_add]
            rcases (by omega : e = 0 ∨ e = 1 ∨ e = 2) with rfl | rfl | rfl
            · rw [Nat.add_zero, dropsC_0, hat]; rfl
            · rw [dropsC_1, hat]; rfl
            · rw [dropsC_2, hat]; rfl
      · have hk3 : k = 3 := by omega
        subst hk3
        refine ⟨⟨(q + 1, cap2), by omega, by show (q + 1) * 3 ≤ _; omega, hmx2⟩, by show m - (q + 1) < m - q; omega, ?_⟩
        refine Imp.id (by simp) ?_ ?_
        · simp only [go_sem, Nat.reduceBEq, Nat.reduceLT, Nat.reduceLeDiff, Nat.reduceAdd, Nat.reduceMul, Nat.reduceSub, Nat.reduceMod, Nat.reduceDiv, Nat.reduceEqDiff, Int.reduceToNat, reduceIte, reduceCtorEq, Int.reduceLE, Int.reduceLT, Int.reduceEq, Int.reduceNeg, Int.reduceAdd, Int.reduceSub, Int.reduceMul, Nat.succ_mul, w64 (n := (q : Int) + 1) (by omega), Int.natCast_add, Int.natCast_one]
          (repeat' apply And.intro) <;> first | omega | rfl | trivial | assumption | skip
        · simp only [Nat.succ_mul]
          exact impH.cons0 (by first | (simp only [go_sem, Nat.reduceBEq, Nat.reduceLT, Nat.reduceLeDiff, Nat.reduceAdd, Nat.reduceMul, Nat.reduceSub, Nat.reduceMod, Nat.reduceDiv, Nat.reduceEqDiff, Int.reduceToNat, reduceIte, reduceCtorEq, Int.reduceLE, Int.reduceLT, Int.reduceEq, Int.reduceNeg, Int.reduceAdd, Int.reduceSub, Int.reduceMul]; done) | (simp only [go_sem, Nat.reduceBEq, Nat.reduceLT, Nat.reduceLeDiff, Nat.reduceAdd, Nat.reduceMul, Nat.reduceSub, Nat.reduceMod, Nat.reduceDiv, Nat.reduceEqDiff, Int.reduceToNat, reduceIte, reduceCtorEq, Int.reduceLE, Int.reduceLT, Int.reduceEq, Int.reduceNeg, Int.reduceAdd, Int.reduceSub, Int.reduceMul]; rfl)) (by simp) (SegLe.flat (Nat.le_refl _) id (.inr rfl) fun k hk => ⟨rfl, cellC_flat _ _⟩) (impH.cons0 (by first | (simp only [go_sem, Nat.reduceBEq, Nat.reduceLT, Nat.reduceLeDiff, Nat.reduceAdd, Nat.reduceMul, Nat.reduceSub, Nat.reduceMod, Nat.reduceDiv, Nat.reduceEqDiff, Int.reduceToNat, reduceIte, reduceCtorEq, Int.reduceLE, Int.reduceLT, Int.reduceEq, Int.reduceNeg, Int.reduceAdd, Int.reduceSub, Int.reduceMul]; done) | (simp only [go_sem, Nat.reduceBEq, Nat.reduceLT, Nat.reduceLeDiff, Nat.reduceAdd, Nat.reduceMul, Nat.reduceSub, Nat.reduceMod, Nat.reduceDiv, Nat.reduceEqDiff, Int.reduceToNat, reduceIte, reduceCtorEq, Int.reduceLE, Int.reduceLT, Int.reduceEq, Int.reduceNeg, Int.reduceAdd, Int.reduceSub, Int.reduceMul]; rfl)) (by simp) (SegLe.flat (Nat.le_refl _) id (.inr rfl) fun k hk => ⟨rfl, dropsC_flat _ _⟩) (impH.base0 hok (by simp) (by simp only [go_sem, Nat.reduceBEq, Nat.reduceLT, Nat.reduceLeDiff, Nat.reduceAdd, Nat.reduceMul, Nat.reduceSub, Nat.reduceMod, Nat.reduceDiv, Nat.reduceEqDiff, Int.reduceToNat, reduceIte, reduceCtorEq, Int.reduceLE, Int.reduceLT, Int.reduceEq, Int.reduceNeg, Int.reduceAdd, Int.reduceSub, Int.reduceMul, HExt_cons])))
theorem lastDrops1_Q (iv : Nat) (P : Pc) (x y k : Int) (hv : hget h iv = some (pcS P)) (hvi : iv < n) (hR : PcR P) (hP : PcOk P) (hx : 0 ≤ x) (hx1 : x < P.wide) (hy : 0 ≤ y) (hy1 : y < P.high) (hk : 0 ≤ k ∧ k < 3) :
    CallQ Try.prog cx 68 [dropV x y k, .ptr iv 0] h n (.bool (!lastP P off (x, y, k))) := by
  refine callQ_of_T (P := Try.prog) hti (nt := 7) (rs := [.tmp 3]) rfl rfl Try.call68 Try.func68 rfl _ (by simp only [go_sem, and_self]) (Nat.le_of_ble_eq_true rfl) _ (by first | exact trivial | (refine lt_flat rfl ?_; simp [SV.flat]; done) | simp only [go_sem]) fun hok => ?_
  simp only [go_sem, Nat.reduceBEq, Nat.reduceLT, Nat.reduceLeDiff, Nat.reduceAdd, Nat.reduceMul, Nat.reduceSub, Nat.reduceMod, Nat.reduceDiv, Nat.reduceEqDiff, Int.reduceToNat, reduceIte, reduceCtorEq, Int.reduceLE, Int.reduceLT, Int.reduceEq, Int.reduceNeg, Int.reduceAdd, Int.reduceSub, Int.reduceMul]
  refine (canBeLast_Q _ _ _ iv P x y k (by first | (simp only [go_sem, Nat.reduceBEq, Nat.reduceLT, Nat.reduceLeDiff, Nat.reduceAdd, Nat.reduceMul, Nat.reduceSub, Nat.reduceMod, Nat.reduceDiv, Nat.reduceEqDiff, Int.reduceToNat, reduceIte, reduceCtorEq, Int.reduceLE, Int.reduceLT, Int.reduceEq, Int.reduceNeg, Int.reduceAdd, Int.reduceSub, Int.reduceMul, hv, hvi]; done) | (simp only [go_sem, Nat.reduceBEq, Nat.reduceLT, Nat.reduceLeDiff, Nat.reduceAdd, Nat.reduceMul, Nat.reduceSub, Nat.reduceMod, Nat.reduceDiv, Nat.reduceEqDiff, Int.reduceToNat, reduceIte, reduceCtorEq, Int.reduceLE, Int.reduceLT, Int.reduceEq, Int.reduceNeg, Int.reduceAdd, Int.reduceSub, Int.reduceMul, hv, hvi]; rfl)) (by omega) hR hP hx hx1 hy hy1 hk).A ?_
  simp only [go_sem, Nat.reduceBEq, Nat.reduceLT, Nat.reduceLeDiff, Nat.reduceAdd, Nat.reduceMul, Nat.reduceSub, Nat.reduceMod, Nat.reduceDiv, Nat.reduceEqDiff, Int.reduceToNat, reduceIte, reduceCtorEq, Int.reduceLE, Int.reduceLT, Int.reduceEq, Int.reduceNeg, Int.reduceAdd, Int.reduceSub, Int.reduceMul]
  rfl
theorem lastDrops2_E (P : Pc) (hR : PcR P) (K : HK)
    (hK : ∀ V h' n', n ≤ n' → HExt n h h' → HOk n' h' → DrOut h' n n' V (lastDR P).1 → K (.tup 2 (cl [V, .int .i64 (lastDR P).2])) h' n') :
    CallE Try.prog cx 32 [.agg 66 (pcC P)] h n K := by
  refine CallE.hokE ?_
  refine callE_of_T (P := Try.prog) hti (nt := 10) (rs := [.tmp 2, .tmp 3]) rfl rfl Try.call32 Try.func32 rfl _ (by simp only [go_sem, and_self]) (Nat.le_of_ble_eq_true rfl) _ fun hok => ?_
  simp only [go_sem, Nat.reduceBEq, Nat.reduceLT, Nat.reduceLeDiff, Nat.reduceAdd, Nat.reduceMul, Nat.reduceSub, Nat.reduceMod, Nat.reduceDiv, Nat.reduceEqDiff, Int.reduceToNat, reduceIte, reduceCtorEq, Int.reduceLE, Int.reduceLT, Int.reduceEq, Int.reduceNeg, Int.reduceAdd, Int.reduceSub, Int.reduceMul]
  refine (ok7_Q _ _ _ n P (by first | (simp only [go_sem, Nat.reduceBEq, Nat.reduceLT, Nat.reduceLeDiff, Nat.reduceAdd, Nat.reduceMul, Nat.reduceSub, Nat.reduceMod, Nat.reduceDiv, Nat.reduceEqDiff, Int.reduceToNat, reduceIte, reduceCtorEq, Int.reduceLE, Int.reduceLT, Int.reduceEq, Int.reduceNeg, Int.reduceAdd, Int.reduceSub, Int.reduceMul]; done) | (simp only [go_sem, Nat.reduceBEq, Nat.reduceLT, Nat.reduceLeDiff, Nat.reduceAdd, Nat.reduceMul, Nat.reduceSub, Nat.reduceMod, Nat.reduceDiv, Nat.reduceEqDiff, Int.reduceToNat, reduceIte, reduceCtorEq, Int.reduceLE, Int.reduceLT, Int.reduceEq, Int.reduceNeg, Int.reduceAdd, Int.reduceSub, Int.reduceMul]; rfl)) (by omega) hR).A ?_
  by_cases hk : pcokB P = true
  rotate_left
  · rw [lastDR_1 hk] at hK
    simp only [go_sem, Nat.reduceBEq, Nat.reduceLT, Nat.reduceLeDiff, Nat.reduceAdd, Nat.reduceMul, Nat.reduceSub, Nat.reduceMod, Nat.reduceDiv, Nat.reduceEqDiff, Int.reduceToNat, reduceIte, reduceCtorEq, Int.reduceLE, Int.reduceLT, Int.reduceEq, Int.reduceNeg, Int.reduceAdd, Int.reduceSub, Int.reduceMul, hk]
    exact fun hok' => hK _ _ _ (by omega) (by simp only [go_sem, Nat.reduceBEq, Nat.reduceLT, Nat.reduceLeDiff, Nat.reduceAdd, Nat.reduceMul, Nat.reduceSub, Nat.reduceMod, Nat.reduceDiv, Nat.reduceEqDiff, Int.reduceToNat, reduceIte, reduceCtorEq, Int.reduceLE, Int.reduceLT, Int.reduceEq, Int.reduceNeg, Int.reduceAdd, Int.reduceSub, Int.reduceMul, HExt_cons]) hok' (.inr ⟨n + 1, 0, _, rfl, by omega, by omega, (by first | (simp only [go_sem, Nat.reduceBEq, Nat.reduceLT, Nat.reduceLeDiff, Nat.reduceAdd, Nat.reduceMul, Nat.reduceSub, Nat.reduceMod, Nat.reduceDiv, Nat.reduceEqDiff, Int.reduceToNat, reduceIte, reduceCtorEq, Int.reduceLE, Int.reduceLT, Int.reduceEq, Int.reduceNeg, Int.reduceAdd, Int.reduceSub, Int.reduceMul]; done) | (simp only [go_sem, Nat.reduceBEq, Nat.reduceLT, Nat.reduceLeDiff, Nat.reduceAdd, Nat.reduceMul, Nat.reduceSub, Nat.reduceMod, Nat.reduceDiv, Nat.reduceEqDiff, Int.reduceToNat, reduceIte, reduceCtorEq, Int.reduceLE, Int.reduceLT, Int.reduceEq, Int.reduceNeg, Int.reduceAdd, Int.reduceSub, Int.reduceMul]; rfl)), rfl, rfl, fun k hk => by simp at hk⟩)
  have hP : PcOk P := by simpa [pcokB] using hk
  have hs8 := hP.1
  rw [lastDR_0 hk] at hK
  simp only [go_sem, Nat.reduceBEq, Nat.reduceLT, Nat.reduceLeDiff, Nat.reduceAdd, Nat.reduceMul, Nat.reduceSub, Nat.reduceMod, Nat.reduceDiv, Nat.reduceEqDiff, Int.reduceToNat, reduceIte, reduceCtorEq, Int.reduceLE, Int.reduceLT, Int.reduceEq, Int.reduceNeg, Int.reduceAdd, Int.reduceSub, Int.reduceMul, hk]
  refine callA_false (next7_E _ _ _ n (n + 1) P off _ P.wide.toNat P.high.toNat (by first | (simp only [go_sem, Nat.reduceBEq, Nat.reduceLT, Nat.reduceLeDiff, Nat.reduceAdd, Nat.reduceMul, Nat.reduceSub, Nat.reduceMod, Nat.reduceDiv, Nat.reduceEqDiff, Int.reduceToNat, reduceIte, reduceCtorEq, Int.reduceLE, Int.reduceLT, Int.reduceEq, Int.reduceNeg, Int.reduceAdd, Int.reduceSub, Int.reduceMul]; done) | (simp only [go_sem, Nat.reduceBEq, Nat.reduceLT, Nat.reduceLeDiff, Nat.reduceAdd, Nat.reduceMul, Nat.reduceSub, Nat.reduceMod, Nat.reduceDiv, Nat.reduceEqDiff, Int.reduceToNat, reduceIte, reduceCtorEq, Int.reduceLE, Int.reduceLT, Int.reduceEq, Int.reduceNeg, Int.reduceAdd, Int.reduceSub, Int.reduceMul]; rfl)) (by omega) (by first | (simp only [go_sem, Nat.reduceBEq, Nat.reduceLT, Nat.reduceLeDiff, Nat.reduceAdd, Nat.reduceMul, Nat.reduceSub, Nat.reduceMod, Nat.reduceDiv, Nat.reduceEqDiff, Int.reduceToNat, reduceIte, reduceCtorEq, Int.reduceLE, Int.reduceLT, Int.reduceEq, Int.reduceNeg, Int.reduceAdd, Int.reduceSub, Int.reduceMul]; done) | (simp only [go_sem, Nat.reduceBEq, Nat.reduceLT, Nat.reduceLeDiff, Nat.reduceAdd, Nat.reduceMul, Nat.reduceSub, Nat.reduceMod, Nat.reduceDiv, Nat.reduceEqDiff, Int.reduceToNat, reduceIte, reduceCtorEq, Int.reduceLE, Int.reduceLT, Int.reduceEq, Int.reduceNeg, Int.reduceAdd, Int.reduceSub, Int.reduceMul]; rfl)) (by omega) ⟨rfl, fun j hj => rfl⟩ hR hP (by omega) (by omega) _ fun cap => ?_)
  simp only [go_sem, Nat.reduceBEq, Nat.reduceLT, Nat.reduceLeDiff, Nat.reduceAdd, Nat.reduceMul, Nat.reduceSub, Nat.reduceMod, Nat.reduceDiv, Nat.reduceEqDiff, Int.reduceToNat, reduceIte, reduceCtorEq, Int.reduceLE, Int.reduceLT, Int.reduceEq, Int.reduceNeg, Int.reduceAdd, Int.reduceSub, Int.reduceMul]
  exact fun hok' => hK _ _ _ (by omega) (by simp only [go_sem, Nat.reduceBEq, Nat.reduceLT, Nat.reduceLeDiff, Nat.reduceAdd, Nat.reduceMul, Nat.reduceSub, Nat.reduceMod, Nat.reduceDiv, Nat.reduceEqDiff, Int.reduceToNat, reduceIte, reduceCtorEq, Int.reduceLE, Int.reduceLT, Int.reduceEq, Int.reduceNeg, Int.reduceAdd, Int.reduceSub, Int.reduceMul, HExt_cons]) hok' (.inr ⟨n + 2, cap, _, rfl, by omega, by omega, (by first | (simp only [go_sem, Nat.reduceBEq, Nat.reduceLT, Nat.reduceLeDiff, Nat.reduceAdd, Nat.reduceMul, Nat.reduceSub, Nat.reduceMod, Nat.reduceDiv, Nat.reduceEqDiff, Int.reduceToNat, reduceIte, reduceCtorEq, Int.reduceLE, Int.reduceLT, Int.reduceEq, Int.reduceNeg, Int.reduceAdd, Int.reduceSub, Int.reduceMul]; done) | (simp only [go_sem, Nat.reduceBEq, Nat.reduceLT, Nat.reduceLeDiff, Nat.reduceAdd, Nat.reduceMul, Nat.reduceSub, Nat.reduceMod, Nat.reduceDiv, Nat.reduceEqDiff, Int.reduceToNat, reduceIte, reduceCtorEq, Int.reduceLE, Int.reduceLT, Int.reduceEq, Int.reduceNeg, Int.reduceAdd, Int.reduceSub, Int.reduceMul]; rfl)), rfl, rfl, fun _ _ => rfl⟩)
theorem lastDrops_E (P : Pc) (hR : PcR P) (K : HK)
    (hK : ∀ V h' n', n ≤ n' → HExt n h h' → HOk n' h' → DrOut h' n n' V (lastDR P).1 → K (.tup 2 (cl [V, .int .i64 (lastDR P).2])) h' n') :
    CallE Try.prog cx 33 [.agg 66 (pcC P)] h n K := by
  refine CallE.hokE ?_
  refine callE_of_T (P := Try.prog) hti (nt := 12) (rs := [.tmp 2, .tmp 3]) rfl rfl Try.call33 Try.func33 rfl _ (by simp only [go_sem, and_self]) (Nat.le_of_ble_eq_true rfl) _ fun hok => ?_
  simp only [go_sem, Nat.reduceBEq, Nat.reduceLT, Nat.reduceLeDiff, Nat.reduceAdd, Nat.reduceMul, Nat.reduceSub, Nat.reduceMod, Nat.reduceDiv, Nat.reduceEqDiff, Int.reduceToNat, reduceIte, reduceCtorEq, Int.reduceLE, Int.reduceLT, Int.reduceEq, Int.reduceNeg, Int.reduceAdd, Int.reduceSub, Int.reduceMul]
  refine (codePc_Q _ _ _ n P (by first | (simp only [go_sem, Nat.reduceBEq, Nat.reduceLT, Nat.reduceLeDiff, Nat.reduceAdd, Nat.reduceMul, Nat.reduceSub, Nat.reduceMod, Nat.reduceDiv, Nat.reduceEqDiff, Int.reduceToNat, reduceIte, reduceCtorEq, Int.reduceLE, Int.reduceLT, Int.reduceEq, Int.reduceNeg, Int.reduceAdd, Int.reduceSub, Int.reduceMul]; done) | (simp only [go_sem, Nat.reduceBEq, Nat.reduceLT, Nat.reduceLeDiff, Nat.reduceAdd, Nat.reduceMul, Nat.reduceSub, Nat.reduceMod, Nat.reduceDiv, Nat.reduceEqDiff, Int.reduceToNat, reduceIte, reduceCtorEq, Int.reduceLE, Int.reduceLT, Int.reduceEq, Int.reduceNeg, Int.reduceAdd, Int.reduceSub, Int.reduceMul]; rfl)) (by omega) hR true).A ?_
  by_cases hk : pcokB P = true
  rotate_left
  · rw [lastDR_1 hk] at hK
    have e : codePc P true = 1 := by unfold codePc; simp [hk]
    simp only [go_sem, Nat.reduceBEq, Nat.reduceLT, Nat.reduceLeDiff, Nat.reduceAdd, Nat.reduceMul, Nat.reduceSub, Nat.reduceMod, Nat.reduceDiv, Nat.reduceEqDiff, Int.reduceToNat, reduceIte, reduceCtorEq, Int.reduceLE, Int.reduceLT, Int.reduceEq, Int.reduceNeg, Int.reduceAdd, Int.reduceSub, Int.reduceMul, e]
    exact fun hok' => hK _ _ _ (by omega) (by simp only [go_sem, Nat.reduceBEq, Nat.reduceLT, Nat.reduceLeDiff, Nat.reduceAdd, Nat.reduceMul, Nat.reduceSub, Nat.reduceMod, Nat.reduceDiv, Nat.reduceEqDiff, Int.reduceToNat, reduceIte, reduceCtorEq, Int.reduceLE, Int.reduceLT, Int.reduceEq, Int.reduceNeg, Int.reduceAdd, Int.reduceSub, Int.reduceMul, HExt_cons]) hok' (.inl ⟨rfl, rfl⟩)
  have e : codePc P true = 0 := by unfold codePc; simp [hk]
  have hP : PcOk P := by simpa [pcokB] using hk
  have hs8 := hP.1
  rw [lastDR_0 hk] at hK
  simp only [go_sem, Nat.reduceBEq, Nat.reduceLT, Nat.reduceLeDiff, Nat.reduceAdd, Nat.reduceMul, Nat.reduceSub, Nat.reduceMod, Nat.reduceDiv, Nat.reduceEqDiff, Int.reduceToNat, reduceIte, reduceCtorEq, Int.reduceLE, Int.reduceLT, Int.reduceEq, Int.reduceNeg, Int.reduceAdd, Int.reduceSub, Int.reduceMul, e]
  have hle := dropsL_le hP
  have hDl := dropsL_len P.wide.toNat P.high.toNat
  have hfl : (dropsL P.wide.toNat P.high.toNat).filter (fun a => !!lastP P off a) = lastL P := by simp only [Bool.not_not]; rfl
  refine callA_false (drops7_E _ _ _ n P P.wide.toNat P.high.toNat (by first | (simp only [go_sem, Nat.reduceBEq, Nat.reduceLT, Nat.reduceLeDiff, Nat.reduceAdd, Nat.reduceMul, Nat.reduceSub, Nat.reduceMod, Nat.reduceDiv, Nat.reduceEqDiff, Int.reduceToNat, reduceIte, reduceCtorEq, Int.reduceLE, Int.reduceLT, Int.reduceEq, Int.reduceNeg, Int.reduceAdd, Int.reduceSub, Int.reduceMul]; done) | (simp only [go_sem, Nat.reduceBEq, Nat.reduceLT, Nat.reduceLeDiff, Nat.reduceAdd, Nat.reduceMul, Nat.reduceSub, Nat.reduceMod, Nat.reduceDiv, Nat.reduceEqDiff, Int.reduceToNat, reduceIte, reduceCtorEq, Int.reduceLE, Int.reduceLT, Int.reduceEq, Int.reduceNeg, Int.reduceAdd, Int.reduceSub, Int.reduceMul]; rfl)) (by omega) hR hP (by omega) (by omega) _ fun cap hcap => ?_)
  obtain ⟨r, hr0, hr1⟩ := fst_ex (fun q => !lastP P off ((dropsL P.wide.toNat P.high.toNat).getD q (0, 0, 0))) (dropsL P.wide.toNat P.high.toNat).length
  have hin := fun j => dropsL_in (W := P.wide.toNat) (H := P.high.toNat) (j := j)
  simp only [go_sem, Nat.reduceBEq, Nat.reduceLT, Nat.reduceLeDiff, Nat.reduceAdd, Nat.reduceMul, Nat.reduceSub, Nat.reduceMod, Nat.reduceDiv, Nat.reduceEqDiff, Int.reduceToNat, reduceIte, reduceCtorEq, Int.reduceLE, Int.reduceLT, Int.reduceEq, Int.reduceNeg, Int.reduceAdd, Int.reduceSub, Int.reduceMul]
  generalize hLL : dropsL P.wide.toNat P.high.toNat = L at *
  refine callA_false (deleteDr_E _ _ _ (n + 1) L.length cap L _ _ 0 1 (cl []) (cl [.ptr n 0]) (fun d => !lastP P off d) r (by first | (simp only [go_sem, Nat.reduceBEq, Nat.reduceLT, Nat.reduceLeDiff, Nat.reduceAdd, Nat.reduceMul, Nat.reduceSub, Nat.reduceMod, Nat.reduceDiv, Nat.reduceEqDiff, Int.reduceToNat, reduceIte, reduceCtorEq, Int.reduceLE, Int.reduceLT, Int.reduceEq, Int.reduceNeg, Int.reduceAdd, Int.reduceSub, Int.reduceMul]; done) | (simp only [go_sem, Nat.reduceBEq, Nat.reduceLT, Nat.reduceLeDiff, Nat.reduceAdd, Nat.reduceMul, Nat.reduceSub, Nat.reduceMod, Nat.reduceDiv, Nat.reduceEqDiff, Int.reduceToNat, reduceIte, reduceCtorEq, Int.reduceLE, Int.reduceLT, Int.reduceEq, Int.reduceNeg, Int.reduceAdd, Int.reduceSub, Int.reduceMul]; rfl)) (by omega) rfl (by omega) hcap rfl rfl (fun k hk => rfl)
    (fn_lt (xs := []) (ys := [.ptr n 0]) (fun v hv => by cases hv) (fun v hv => by simp at hv; subst hv; show n < _; omega)) hr0 hr1
    (fun j hj nt n0 h' n' hn hb => by
      obtain ⟨a1, a2, a3⟩ := hin j (by omega) (by omega) (by omega)
      exact lastDrops1_Q _ h' n' n P _ _ _ (hb n (by omega) (by omega) _ (by first | (simp only [go_sem, Nat.reduceBEq, Nat.reduceLT, Nat.reduceLeDiff, Nat.reduceAdd, Nat.reduceMul, Nat.reduceSub, Nat.reduceMod, Nat.reduceDiv, Nat.reduceEqDiff, Int.reduceToNat, reduceIte, reduceCtorEq, Int.reduceLE, Int.reduceLT, Int.reduceEq, Int.reduceNeg, Int.reduceAdd, Int.reduceSub, Int.reduceMul]; done) | (simp only [go_sem, Nat.reduceBEq, Nat.reduceLT, Nat.reduceLeDiff, Nat.reduceAdd, Nat.reduceMul, Nat.reduceSub, Nat.reduceMod, Nat.reduceDiv, Nat.reduceEqDiff, Int.reduceToNat, reduceIte, reduceCtorEq, Int.reduceLE, Int.reduceLT, Int.reduceEq, Int.reduceNeg, Int.reduceAdd, Int.reduceSub, Int.reduceMul]; rfl))) (by omega) hR hP a1.1 (by omega) a2.1 (by omega) a3) _ fun own => ?_)
  simp only [go_sem, Nat.reduceBEq, Nat.reduceLT, Nat.reduceLeDiff, Nat.reduceAdd, Nat.reduceMul, Nat.reduceSub, Nat.reduceMod, Nat.reduceDiv, Nat.reduceEqDiff, Int.reduceToNat, reduceIte, reduceCtorEq, Int.reduceLE, Int.reduceLT, Int.reduceEq, Int.reduceNeg, Int.reduceAdd, Int.reduceSub, Int.reduceMul, hfl]
  exact fun hok' => hK _ _ _ (by omega) (by simp only [go_sem, Nat.reduceBEq, Nat.reduceLT, Nat.reduceLeDiff, Nat.reduceAdd, Nat.reduceMul, Nat.reduceSub, Nat.reduceMod, Nat.reduceDiv, Nat.reduceEqDiff, Int.reduceToNat, reduceIte, reduceCtorEq, Int.reduceLE, Int.reduceLT, Int.reduceEq, Int.reduceNeg, Int.reduceAdd, Int.reduceSub, Int.reduceMul, HExt_cons]) hok' (.inr ⟨n + 1, cap, _, rfl, by omega, by omega, (by first | (simp only [go_sem, Nat.reduceBEq, Nat.reduceLT, Nat.reduceLeDiff, Nat.reduceAdd, Nat.reduceMul, Nat.reduceSub, Nat.reduceMod, Nat.reduceDiv, Nat.reduceEqDiff, Int.reduceToNat, reduceIte, reduceCtorEq, Int.reduceLE, Int.reduceLT, Int.reduceEq, Int.reduceNeg, Int.reduceAdd, Int.reduceSub, Int.reduceMul]; done) | (simp only [go_sem, Nat.reduceBEq, Nat.reduceLT, Nat.reduceLeDiff, Nat.reduceAdd, Nat.reduceMul, Nat.reduceSub, Nat.reduceMod, Nat.reduceDiv, Nat.reduceEqDiff, Int.reduceToNat, reduceIte, reduceCtorEq, Int.reduceLE, Int.reduceLT, Int.reduceEq, Int.reduceNeg, Int.reduceAdd, Int.reduceSub, Int.reduceMul]; rfl)), rfl, rfl, fun _ _ => rfl⟩)
end
end Go.Proofs.Ytodgbpkdanefaaa.V

/- The law's lists of drops: compared, marked, looked at again. The law of LastDrops: the walk. -/
namespace Go.Proofs.Ytodgbpkdanefaaa.V
/-- Drops that were marked. -/
def DrHeld (h : List (Nat × Seg)) (lo n : Nat) (V : SV) (len : Nat) : Prop :=
  (V = .nils ∧ len = 0) ∨ ∃ i cap s, V = .sl i 0 len cap ∧ lo ≤ i ∧ i < n ∧ hget h i = some s ∧ s.n = len * 3 ∧ ∀ k : Nat, k < len → s.c (k * 3) = .int .i8 (IntKind.i8.wrap (3 * (k : Int) + 1)) ∧ s.c (k * 3 + 1) = .int .i8 (IntKind.i8.wrap (3 * (k : Int) + 1 + 1)) ∧ s.c (k * 3 + 2) = .int .u8 (IntKind.u8.wrap (3 * (k : Int) + 1 + 1 + 1))
theorem DrHeld.ext {h h' : List (Nat × Seg)} {lo n n' : Nat} {V : SV} {len : Nat} (hA : DrHeld h lo n V len) (hn : n ≤ n') (hx : HExt n h h') : DrHeld h' lo n' V len := by
  rcases hA with h1 | ⟨i, cap, s, rfl, h1, h2, h3, h4⟩
  · exact .inl h1
  · exact .inr ⟨i, cap, s, rfl, h1, by omega, hx i h2 s h3, h4⟩
/-- Three cells written one after the other. -/
def put3 (N q : Nat) (c : Nat → SV) (v1 v2 v3 : SV) : Nat → SV := upd (upd (if q * 3 = 0 ∧ 1 = N then cl [v1] else upd c (q * 3) v1) (q * 3 + 1) v2) (q * 3 + 2) v3
theorem put3_at {N q : Nat} (c : Nat → SV) (v1 v2 v3 : SV) (h : 3 ≤ N) : put3 N q c v1 v2 v3 (q * 3) = v1 ∧ put3 N q c v1 v2 v3 (q * 3 + 1) = v2 ∧ put3 N q c v1 v2 v3 (q * 3 + 2) = v3 ∧
    ∀ z, z ≠ q * 3 → z ≠ q * 3 + 1 → z ≠ q * 3 + 2 → put3 N q c v1 v2 v3 z = c z := by
  unfold put3
  have e0 : ¬ (q * 3 = 0 ∧ 1 = N) := by omega
  rw [if_neg e0]
  refine ⟨?_, ?_, ?_, fun z h1 h2 h3 => ?_⟩
  · rw [upd_far (by omega), upd_far (by omega)]; simp [upd]
  · rw [upd_far (by omega)]; simp [upd]
  · simp [upd]
  · rw [upd_far h3, upd_far h2, upd_far h1]
section
variable (cx : Cx) (h : List (Nat × Seg)) (n : Nat)
theorem eqDrOut_Q (V V' : SV) (L : List Dr) (lo lo' : Nat) (hA : DrOut h lo n V L) (hA' : DrOut h lo' n V' L) (hm9 : L.length ≤ 10000000) :
    CallQ Try.prog cx 29 [V, V'] h n (.bool true) := by
  rcases hA with ⟨rfl, rfl⟩ | ⟨i, cap, s, rfl, h0, hi, hs, _, hn, hc⟩ <;> rcases hA' with ⟨rfl, hL⟩ | ⟨i', cap', s', rfl, h0', hi', hs', _, hn', hc'⟩
  · refine callQ_of_T (P := Try.prog) hti (nt := 27) (rs := [.tmp 4]) rfl rfl Try.call29 Try.func29 rfl _ (by simp only [go_sem, and_self]) (Nat.le_of_ble_eq_true rfl) _ (by first | exact trivial | (refine lt_flat rfl ?_; simp [SV.flat]; done) | simp only [go_sem]) fun hok => ?_
    simp only [go_sem, Nat.reduceBEq, Nat.reduceLT, Nat.reduceLeDiff, Nat.reduceAdd, Nat.reduceMul, Nat.reduceSub, Nat.reduceMod, Nat.reduceDiv, Nat.reduceEqDiff, Int.reduceToNat, reduceIte, reduceCtorEq, Int.reduceLE, Int.reduceLT, Int.reduceEq, Int.reduceNeg, Int.reduceAdd, Int.reduceSub, Int.reduceMul]
    refine T_unroll 0 ?_
    simp only [go_sem, Nat.reduceBEq, Nat.reduceLT, Nat.reduceLeDiff, Nat.reduceAdd, Nat.reduceMul, Nat.reduceSub, Nat.reduceMod, Nat.reduceDiv, Nat.reduceEqDiff, Int.reduceToNat, reduceIte, reduceCtorEq, Int.reduceLE, Int.reduceLT, Int.reduceEq, Int.reduceNeg, Int.reduceAdd, Int.reduceSub, Int.reduceMul]
  · refine callQ_of_T (P := Try.prog) hti (nt := 27) (rs := [.tmp 4]) rfl rfl Try.call29 Try.func29 rfl _ (by simp only [go_sem, and_self]) (Nat.le_of_ble_eq_true rfl) _ (by first | exact trivial | (refine lt_flat rfl ?_; simp [SV.flat]; done) | simp only [go_sem]) fun hok => ?_
    simp only [go_sem, Nat.reduceBEq, Nat.reduceLT, Nat.reduceLeDiff, Nat.reduceAdd, Nat.reduceMul, Nat.reduceSub, Nat.reduceMod, Nat.reduceDiv, Nat.reduceEqDiff, Int.reduceToNat, reduceIte, reduceCtorEq, Int.reduceLE, Int.reduceLT, Int.reduceEq, Int.reduceNeg, Int.reduceAdd, Int.reduceSub, Int.reduceMul]
    refine T_unroll 0 ?_
    simp only [go_sem, Nat.reduceBEq, Nat.reduceLT, Nat.reduceLeDiff, Nat.reduceAdd, Nat.reduceMul, Nat.reduceSub, Nat.reduceMod, Nat.reduceDiv, Nat.reduceEqDiff, Int.reduceToNat, reduceIte, reduceCtorEq, Int.reduceLE, Int.reduceLT, Int.reduceEq, Int.reduceNeg, Int.reduceAdd, Int.reduceSub, Int.reduceMul]
  · subst hL
    refine callQ_of_T (P := Try.prog) hti (nt := 27) (rs := [.tmp 4]) rfl rfl Try.call29 Try.func29 rfl _ (by simp only [go_sem, and_self]) (Nat.le_of_ble_eq_true rfl) _ (by first | exact trivial | (refine lt_flat rfl ?_; simp [SV.flat]; done) | simp only [go_sem]) fun hok => ?_
    simp only [go_sem, Nat.reduceBEq, Nat.reduceLT, Nat.reduceLeDiff, Nat.reduceAdd, Nat.reduceMul, Nat.reduceSub, Nat.reduceMod, Nat.reduceDiv, Nat.reduceEqDiff, Int.reduceToNat, reduceIte, reduceCtorEq, Int.reduceLE, Int.reduceLT, Int.reduceEq, Int.reduceNeg, Int.reduceAdd, Int.reduceSub, Int.reduceMul]
    refine T_unroll 0 ?_
    simp only [go_sem, Nat.reduceBEq, Nat.reduceLT, Nat.reduceLeDiff, Nat.reduceAdd, Nat.reduceMul, Nat.reduceSub, Nat.reduceMod, Nat.reduceDiv, Nat.reduceEqDiff, Int.reduceToNat, reduceIte, reduceCtorEq, Int.reduceLE, Int.reduceLT, Int.reduceEq, Int.reduceNeg, Int.reduceAdd, Int.reduceSub, Int.reduceMul]
  · exact eqDropS_Q cx h n i cap i' cap' L s s' hs hi ⟨by omega, hc⟩ hs' hi' ⟨by omega, hc'⟩ hm9
theorem markDr_E (V : SV) (L : List Dr) (lo : Nat) (hA : DrOut h lo n V L) (hm9 : L.length ≤ 10000000) (K : HK)
    (hK : ∀ h', HOk n h' → (∀ m h0, m ≤ lo → HExt m h0 h → HExt m h0 h') → (∀ j t, hget h j = some t → (∀ i o a b, V = .sl i o a b → j ≠ i) → hget h' j = some t) → DrHeld h' lo n V L.length → K (.int .i64 (3 * L.length + 1)) h' n) :
    CallE Try.prog cx 34 [V, .int .i64 1] h n K := by
  refine CallE.hokE ?_
  rcases hA with ⟨rfl, rfl⟩ | ⟨i, cap, s, rfl, h0, hi, hs, hrw, hn, hc⟩
  · refine callE_of_T (P := Try.prog) hti (nt := 39) (rs := [.tmp 4]) rfl rfl Try.call34 Try.func34 rfl _ (by simp only [go_sem, and_self]) (Nat.le_of_ble_eq_true rfl) _ fun hok => ?_
    simp only [go_sem, Nat.reduceBEq, Nat.reduceLT, Nat.reduceLeDiff, Nat.reduceAdd, Nat.reduceMul, Nat.reduceSub, Nat.reduceMod, Nat.reduceDiv, Nat.reduceEqDiff, Int.reduceToNat, reduceIte, reduceCtorEq, Int.reduceLE, Int.reduceLT, Int.reduceEq, Int.reduceNeg, Int.reduceAdd, Int.reduceSub, Int.reduceMul]
    refine T_unroll 0 ?_
    simp only [go_sem, Nat.reduceBEq, Nat.reduceLT, Nat.reduceLeDiff, Nat.reduceAdd, Nat.reduceMul, Nat.reduceSub, Nat.reduceMod, Nat.reduceDiv, Nat.reduceEqDiff, Int.reduceToNat, reduceIte, reduceCtorEq, Int.reduceLE, Int.reduceLT, Int.reduceEq, Int.reduceNeg, Int.reduceAdd, Int.reduceSub, Int.reduceMul]
    exact fun hok' => hK h hok' (fun m h0 _ hx => hx) (fun j t ht _ => ht) (.inl ⟨rfl, rfl⟩)
  · have hfl0 : ∀ k, k < s.n → (s.c k).flat := fun k hk => by rw [hc k (by omega)]; exact dropsC_flat _ _
    refine callE_of_T (P := Try.prog) hti (nt := 39) (rs := [.tmp 4]) rfl rfl Try.call34 Try.func34 rfl _ (by simp only [go_sem, and_self]) (Nat.le_of_ble_eq_true rfl) _ fun hok => ?_
    simp only [go_sem, Nat.reduceBEq, Nat.reduceLT, Nat.reduceLeDiff, Nat.reduceAdd, Nat.reduceMul, Nat.reduceSub, Nat.reduceMod, Nat.reduceDiv, Nat.reduceEqDiff, Int.reduceToNat, reduceIte, reduceCtorEq, Int.reduceLE, Int.reduceLT, Int.reduceEq, Int.reduceNeg, Int.reduceAdd, Int.reduceSub, Int.reduceMul]
    refine T_lp (ι := { w : Nat × (Nat → SV) // w.1 ≤ L.length ∧ (∀ k, k < s.n → (w.2 k).flat) ∧ ∀ k : Nat, k < w.1 → w.2 (k * 3) = .int .i8 (IntKind.i8.wrap (3 * (k : Int) + 1)) ∧ w.2 (k * 3 + 1) = .int .i8 (IntKind.i8.wrap (3 * (k : Int) + 1 + 1)) ∧ w.2 (k * 3 + 2) = .int .u8 (IntKind.u8.wrap (3 * (k : Int) + 1 + 1 + 1)) })
      (fun w => ([(0, .sl i 0 L.length cap), (1, .int .i64 (3 * w.1.1 + 1)), (5, .int .i64 w.1.1)], hset h i ⟨s.n, w.1.2, true, s.own⟩, n)) (fun w => L.length - w.1.1) ⟨(0, s.c), by simp, hfl0, fun k hk => absurd hk (Nat.not_lt_zero k)⟩ ?_ ?_
    · refine Imp.id (by simp) ?_ ?_
      · simp only [go_sem, Nat.reduceBEq, Nat.reduceLT, Nat.reduceLeDiff, Nat.reduceAdd, Nat.reduceMul, Nat.reduceSub, Nat.reduceMod, Nat.reduceDiv, Nat.reduceEqDiff, Int.reduceToNat, reduceIte, reduceCtorEq, Int.reduceLE, Int.reduceLT, Int.reduceEq, Int.reduceNeg, Int.reduceAdd, Int.reduceSub, Int.reduceMul]
        exact hi
      · have e : hset h i ⟨s.n, s.c, true, s.own⟩ = hset h i s := by rw [← hrw]
        rw [e]
        exact impH.set0 hok (Nat.le_refl _) hs (fun j hj hji t ht => ht) hs (SegLe.flat (Nat.le_refl _) id (.inr rfl) fun k hk => ⟨rfl, hfl0 k hk⟩)
    · rintro ⟨⟨q, c⟩, hq, hfl, hmk⟩
      simp only at hq hfl hmk
      simp only [go_sem, Nat.reduceBEq, Nat.reduceLT, Nat.reduceLeDiff, Nat.reduceAdd, Nat.reduceMul, Nat.reduceSub, Nat.reduceMod, Nat.reduceDiv, Nat.reduceEqDiff, Int.reduceToNat, reduceIte, reduceCtorEq, Int.reduceLE, Int.reduceLT, Int.reduceEq, Int.reduceNeg, Int.reduceAdd, Int.reduceSub, Int.reduceMul, decide_eq_true_eq, decide_eq_false_iff_not]
      refine ⟨fun h1 => ?_, fun h1 => ?_⟩
      · have r1 : (0 : Int) ≤ q ∧ (q : Int) < L.length := ⟨by omega, by omega⟩
        have b1 : q * 3 ≤ s.n - 3 := by omega
        have b2 : q * 3 ≤ s.n - 1 := by omega
        have b3 : q * 3 + 1 ≤ s.n - 1 := by omega
        have b4 : q * 3 + 3 ≤ s.n := by omega
        have b5 : 3 ≤ s.n := by omega
        have b6 : 1 ≤ s.n := by omega
        have b7 : q * 3 + 2 ≤ s.n := by omega
        have b8 : q * 3 + 2 ≤ s.n - 1 := by omega
        have b9 : q * 3 + 1 ≤ s.n := by omega
        have hg : ∀ c, hget (hset h i ⟨s.n, c, true, s.own⟩) i = some ⟨s.n, c, true, s.own⟩ := fun c => hget_hset_self hs _
        simp only [go_sem, Nat.reduceBEq, Nat.reduceLT, Nat.reduceLeDiff, Nat.reduceAdd, Nat.reduceMul, Nat.reduceSub, Nat.reduceMod, Nat.reduceDiv, Nat.reduceEqDiff, Int.reduceToNat, reduceIte, reduceCtorEq, Int.reduceLE, Int.reduceLT, Int.reduceEq, Int.reduceNeg, Int.reduceAdd, Int.reduceSub, Int.reduceMul, hg, hi, r1, b1, b2, b3, b4, b5, b6, b7, b8, b9, w64 (n := 3 * (q : Int) + 1 + 1) (by omega), w64 (n := 3 * (q : Int) + 1 + 1 + 1) (by omega)]
        have hf1 := wr_flat (N := s.n) (o := q * 3) (v := .int .i8 (IntKind.i8.wrap (3 * (q : Int) + 1))) trivial hfl
        have hf3 : ∀ k, k < s.n → (put3 s.n q c (.int .i8 (IntKind.i8.wrap (3 * (q : Int) + 1))) (.int .i8 (IntKind.i8.wrap (3 * (q : Int) + 1 + 1))) (.int .u8 (IntKind.u8.wrap (3 * (q : Int) + 1 + 1 + 1))) k).flat := fun k hk => by
          unfold put3 upd; split
          · trivial
          · split
            · trivial
            · exact hf1 k hk
        refine ⟨⟨(q + 1, put3 s.n q c (.int .i8 (IntKind.i8.wrap (3 * (q : Int) + 1))) (.int .i8 (IntKind.i8.wrap (3 * (q : Int) + 1 + 1))) (.int .u8 (IntKind.u8.wrap (3 * (q : Int) + 1 + 1 + 1)))), by show q + 1 ≤ L.length; omega, hf3, fun k hk => ?_⟩, by show L.length - (q + 1) < L.length - q; omega, ?_⟩
        · obtain ⟨u1, u2, u3, u4⟩ := put3_at (N := s.n) (q := q) c (.int .i8 (IntKind.i8.wrap (3 * (q : Int) + 1))) (.int .i8 (IntKind.i8.wrap (3 * (q : Int) + 1 + 1))) (.int .u8 (IntKind.u8.wrap (3 * (q : Int) + 1 + 1 + 1))) b5
          by_cases hkq : k = q
          · subst hkq; exact ⟨u1, u2, u3⟩
          · have hk' : k < q := by have : k < q + 1 := hk; omega
            exact ⟨(u4 _ (by omega) (by omega) (by omega)).trans (hmk k hk').1, (u4 _ (by omega) (by omega) (by omega)).trans (hmk k hk').2.1, (u4 _ (by omega) (by omega) (by omega)).trans (hmk k hk').2.2⟩
        refine Imp.id (by simp) ?_ (impH.base0 (hok_set hok hf3) (by simp) HExt.rfl)
        simp only [go_sem, Nat.reduceBEq, Nat.reduceLT, Nat.reduceLeDiff, Nat.reduceAdd, Nat.reduceMul, Nat.reduceSub, Nat.reduceMod, Nat.reduceDiv, Nat.reduceEqDiff, Int.reduceToNat, reduceIte, reduceCtorEq, Int.reduceLE, Int.reduceLT, Int.reduceEq, Int.reduceNeg, Int.reduceAdd, Int.reduceSub, Int.reduceMul, w64 (n := (q : Int) + 1) (by omega), w64 (n := 3 * (q : Int) + 1 + 1 + 1 + 1) (by omega), Int.natCast_add, Int.natCast_one]
        exact ⟨hi, by rw [show (3 * (q : Int) + 1 + 1 + 1 + 1) = 3 * ((q : Int) + 1) + 1 by omega]⟩
      · have hq' : q = L.length := by omega
        subst hq'
        refine fun hok' => hK _ hok' (fun m h0 hm hx j hj t ht => ?_) (fun j t ht hne => ?_) (.inr ⟨i, cap, _, rfl, h0, hi, hget_hset_self hs _, hn, hmk⟩)
        · rw [hget_hset, if_neg (by omega)]; exact hx j hj t ht
        · rw [hget_hset, if_neg (Ne.symm (hne _ _ _ _ rfl))]; exact ht
theorem heldDr_Q (V : SV) (len : Nat) (lo : Nat) (hA : DrHeld h lo n V len) (hm9 : len ≤ 10000000) :
    CallQ Try.prog cx 35 [V, .int .i64 1] h n (.int .i64 (3 * len + 1)) := by
  rcases hA with ⟨rfl, rfl⟩ | ⟨i, cap, s, rfl, h0, hi, hs, hn, hc⟩
  · refine callQ_of_T (P := Try.prog) hti (nt := 45) (rs := [.tmp 4]) rfl rfl Try.call35 Try.func35 rfl _ (by simp only [go_sem, and_self]) (Nat.le_of_ble_eq_true rfl) _ (by first | exact trivial | (refine lt_flat rfl ?_; simp [SV.flat]; done) | simp only [go_sem]) fun hok => ?_
    simp only [go_sem, Nat.reduceBEq, Nat.reduceLT, Nat.reduceLeDiff, Nat.reduceAdd, Nat.reduceMul, Nat.reduceSub, Nat.reduceMod, Nat.reduceDiv, Nat.reduceEqDiff, Int.reduceToNat, reduceIte, reduceCtorEq, Int.reduceLE, Int.reduceLT, Int.reduceEq, Int.reduceNeg, Int.reduceAdd, Int.reduceSub, Int.reduceMul]
    refine T_unroll 0 ?_
    simp only [go_sem, Nat.reduceBEq, Nat.reduceLT, Nat.reduceLeDiff, Nat.reduceAdd, Nat.reduceMul, Nat.reduceSub, Nat.reduceMod, Nat.reduceDiv, Nat.reduceEqDiff, Int.reduceToNat, reduceIte, reduceCtorEq, Int.reduceLE, Int.reduceLT, Int.reduceEq, Int.reduceNeg, Int.reduceAdd, Int.reduceSub, Int.reduceMul]
  · refine callQ_of_T (P := Try.prog) hti (nt := 45) (rs := [.tmp 4]) rfl rfl Try.call35 Try.func35 rfl _ (by simp only [go_sem, and_self]) (Nat.le_of_ble_eq_true rfl) _ (by first | exact trivial | (refine lt_flat rfl ?_; simp [SV.flat]; done) | simp only [go_sem]) fun hok => ?_
    simp only [go_sem, Nat.reduceBEq, Nat.reduceLT, Nat.reduceLeDiff, Nat.reduceAdd, Nat.reduceMul, Nat.reduceSub, Nat.reduceMod, Nat.reduceDiv, Nat.reduceEqDiff, Int.reduceToNat, reduceIte, reduceCtorEq, Int.reduceLE, Int.reduceLT, Int.reduceEq, Int.reduceNeg, Int.reduceAdd, Int.reduceSub, Int.reduceMul]
    refine T_lp (ι := { q : Nat // q ≤ len }) (fun q => ([(0, .sl i 0 len cap), (1, .int .i64 (3 * q.1 + 1)), (5, .int .i64 q.1)], h, n)) (fun q => len - q.1) ⟨0, by omega⟩ ?_ ?_
    · refine Imp.id (by simp) ?_ (impH.base0 hok (by simp) HExt.rfl)
      simp only [go_sem, Nat.reduceBEq, Nat.reduceLT, Nat.reduceLeDiff, Nat.reduceAdd, Nat.reduceMul, Nat.reduceSub, Nat.reduceMod, Nat.reduceDiv, Nat.reduceEqDiff, Int.reduceToNat, reduceIte, reduceCtorEq, Int.reduceLE, Int.reduceLT, Int.reduceEq, Int.reduceNeg, Int.reduceAdd, Int.reduceSub, Int.reduceMul]
      exact hi
    · rintro ⟨q, hq⟩
      simp only [go_sem, Nat.reduceBEq, Nat.reduceLT, Nat.reduceLeDiff, Nat.reduceAdd, Nat.reduceMul, Nat.reduceSub, Nat.reduceMod, Nat.reduceDiv, Nat.reduceEqDiff, Int.reduceToNat, reduceIte, reduceCtorEq, Int.reduceLE, Int.reduceLT, Int.reduceEq, Int.reduceNeg, Int.reduceAdd, Int.reduceSub, Int.reduceMul, decide_eq_true_eq, decide_eq_false_iff_not]
      refine ⟨fun h1 => ?_, fun h1 => ?_⟩
      · have r1 : (0 : Int) ≤ q ∧ (q : Int) < len := ⟨by omega, by omega⟩
        have b1 : q * 3 ≤ s.n - 3 := by omega
        have b2 : q * 3 ≤ s.n - 1 := by omega
        have b3 : q * 3 + 1 ≤ s.n - 1 := by omega
        have b5 : 3 ≤ s.n := by omega
        have b6 : 1 ≤ s.n := by omega
        have b8 : q * 3 + 2 ≤ s.n - 1 := by omega
        have b4 : q * 3 ≤ s.n - 2 := by omega
        have b7 : 2 ≤ s.n := by omega
        have b9 : q * 3 + 1 ≤ s.n := by omega
        have b10 : q * 3 + 2 ≤ s.n := by omega
        have b11 : q * 3 + 3 ≤ s.n := by omega
        obtain ⟨e1, e2, e3⟩ := hc q (by omega)
        simp only [go_sem, Nat.reduceBEq, Nat.reduceLT, Nat.reduceLeDiff, Nat.reduceAdd, Nat.reduceMul, Nat.reduceSub, Nat.reduceMod, Nat.reduceDiv, Nat.reduceEqDiff, Int.reduceToNat, reduceIte, reduceCtorEq, Int.reduceLE, Int.reduceLT, Int.reduceEq, Int.reduceNeg, Int.reduceAdd, Int.reduceSub, Int.reduceMul, hs, hi, r1, b1, b2, b3, b4, b5, b6, b7, b8, b9, b10, b11, e1, e2, e3, w64 (n := 3 * (q : Int) + 1 + 1) (by omega), w64 (n := 3 * (q : Int) + 1 + 1 + 1) (by omega)]
        refine ⟨⟨q + 1, by omega⟩, by show len - (q + 1) < len - q; omega, ?_⟩
        refine Imp.id (by simp) ?_ (impH.base0 hok (by simp) HExt.rfl)
        simp only [go_sem, Nat.reduceBEq, Nat.reduceLT, Nat.reduceLeDiff, Nat.reduceAdd, Nat.reduceMul, Nat.reduceSub, Nat.reduceMod, Nat.reduceDiv, Nat.reduceEqDiff, Int.reduceToNat, reduceIte, reduceCtorEq, Int.reduceLE, Int.reduceLT, Int.reduceEq, Int.reduceNeg, Int.reduceAdd, Int.reduceSub, Int.reduceMul, w64 (n := (q : Int) + 1) (by omega), w64 (n := 3 * (q : Int) + 1 + 1 + 1 + 1) (by omega), Int.natCast_add, Int.natCast_one]
        exact ⟨hi, by rw [show (3 * (q : Int) + 1 + 1 + 1 + 1) = 3 * ((q : Int) + 1) + 1 by omega]⟩
      · have hq' : q = len := by omega
        subst hq'
        simp only [go_sem, Nat.reduceBEq, Nat.reduceLT, Nat.reduceLeDiff, Nat.reduceAdd, Nat.reduceMul, Nat.reduceSub, Nat.reduceMod, Nat.reduceDiv, Nat.reduceEqDiff, Int.reduceToNat, reduceIte, reduceCtorEq, Int.reduceLE, Int.reduceLT, Int.reduceEq, Int.reduceNeg, Int.reduceAdd, Int.reduceSub, Int.reduceMul]
theorem lawLast_Q (P : Pc) (hR : PcR P) : CallQ Try.prog cx 8 [.agg 66 (pcC P)] h n (.bool true) := by
  have hRl := lastDR_len P
  refine callQ_of_T (P := Try.prog) hti (nt := 66) (rs := [.tmp 2]) rfl rfl Try.call8 Try.func8 rfl _ (by simp only [go_sem, and_self]) (Nat.le_of_ble_eq_true rfl) _ (by first | exact trivial | (refine lt_flat rfl ?_; simp [SV.flat]; done) | simp only [go_sem]) fun hok => ?_
  simp only [go_sem, Nat.reduceBEq, Nat.reduceLT, Nat.reduceLeDiff, Nat.reduceAdd, Nat.reduceMul, Nat.reduceSub, Nat.reduceMod, Nat.reduceDiv, Nat.reduceEqDiff, Int.reduceToNat, reduceIte, reduceCtorEq, Int.reduceLE, Int.reduceLT, Int.reduceEq, Int.reduceNeg, Int.reduceAdd, Int.reduceSub, Int.reduceMul]
  generalize hRR : (lastDR P).1 = R at hRl
  generalize hcc : (lastDR P).2 = c
  refine (toPicture_Q _ _ _ P).A ?_
  simp only [go_sem, Nat.reduceBEq, Nat.reduceLT, Nat.reduceLeDiff, Nat.reduceAdd, Nat.reduceMul, Nat.reduceSub, Nat.reduceMod, Nat.reduceDiv, Nat.reduceEqDiff, Int.reduceToNat, reduceIte, reduceCtorEq, Int.reduceLE, Int.reduceLT, Int.reduceEq, Int.reduceNeg, Int.reduceAdd, Int.reduceSub, Int.reduceMul]
  refine callA_false (lastDrops2_E _ _ _ P hR _ ?_)
  intro V1 h1 n1 hn1 hx1 ok1 I1
  rw [hRR] at I1
  rw [hcc]
  have V1o := I1.ok
  have g10 : hget h1 n = some ⟨66, pcC P, true, none⟩ := hx1 n (by omega) _ (by simp only [go_sem, Nat.reduceBEq, Nat.reduceLT, Nat.reduceLeDiff, Nat.reduceAdd, Nat.reduceMul, Nat.reduceSub, Nat.reduceMod, Nat.reduceDiv, Nat.reduceEqDiff, Int.reduceToNat, reduceIte, reduceCtorEq, Int.reduceLE, Int.reduceLT, Int.reduceEq, Int.reduceNeg, Int.reduceAdd, Int.reduceSub, Int.reduceMul])
  have X1 : HExt n h h1 := HExt.tr (m' := n + 1) (by simp only [go_sem, Nat.reduceBEq, Nat.reduceLT, Nat.reduceLeDiff, Nat.reduceAdd, Nat.reduceMul, Nat.reduceSub, Nat.reduceMod, Nat.reduceDiv, Nat.reduceEqDiff, Int.reduceToNat, reduceIte, reduceCtorEq, Int.reduceLE, Int.reduceLT, Int.reduceEq, Int.reduceNeg, Int.reduceAdd, Int.reduceSub, Int.reduceMul, HExt_cons]) hx1 (by omega)
  have lt1 : n < n1 := by omega
  simp only [go_sem, Nat.reduceBEq, Nat.reduceLT, Nat.reduceLeDiff, Nat.reduceAdd, Nat.reduceMul, Nat.reduceSub, Nat.reduceMod, Nat.reduceDiv, Nat.reduceEqDiff, Int.reduceToNat, reduceIte, reduceCtorEq, Int.reduceLE, Int.reduceLT, Int.reduceEq, Int.reduceNeg, Int.reduceAdd, Int.reduceSub, Int.reduceMul, V1o, g10, lt1]
  refine (toPicture_Q _ _ _ P).A ?_
  simp only [go_sem, Nat.reduceBEq, Nat.reduceLT, Nat.reduceLeDiff, Nat.reduceAdd, Nat.reduceMul, Nat.reduceSub, Nat.reduceMod, Nat.reduceDiv, Nat.reduceEqDiff, Int.reduceToNat, reduceIte, reduceCtorEq, Int.reduceLE, Int.reduceLT, Int.reduceEq, Int.reduceNeg, Int.reduceAdd, Int.reduceSub, Int.reduceMul, V1o]
  refine callA_false (lastDrops_E _ _ _ P hR _ ?_)
  intro V2 h2 n2 hn2 hx2 ok2 I2
  rw [hRR] at I2
  rw [hcc]
  have V2o := I2.ok
  have X2 := X1.tr hx2 (by omega)
  simp only [go_sem, Nat.reduceBEq, Nat.reduceLT, Nat.reduceLeDiff, Nat.reduceAdd, Nat.reduceMul, Nat.reduceSub, Nat.reduceMod, Nat.reduceDiv, Nat.reduceEqDiff, Int.reduceToNat, reduceIte, reduceCtorEq, Int.reduceLE, Int.reduceLT, Int.reduceEq, Int.reduceNeg, Int.reduceAdd, Int.reduceSub, Int.reduceMul, V1o, V2o]
  refine (eqDrOut_Q _ _ _ V2 V1 R _ _ I2 (I1.ext (by omega) hx2) (by omega)).A ?_
  simp only [go_sem, Nat.reduceBEq, Nat.reduceLT, Nat.reduceLeDiff, Nat.reduceAdd, Nat.reduceMul, Nat.reduceSub, Nat.reduceMod, Nat.reduceDiv, Nat.reduceEqDiff, Int.reduceToNat, reduceIte, reduceCtorEq, Int.reduceLE, Int.reduceLT, Int.reduceEq, Int.reduceNeg, Int.reduceAdd, Int.reduceSub, Int.reduceMul, V1o, V2o]
  refine callA_false (markDr_E _ _ _ V2 R n1 I2 (by omega) _ ?_)
  intro h4 ok4 keep4 _ I24
  have x4 : HExt n1 h1 h4 := keep4 _ _ (by omega) hx2
  have X4 : HExt n h h4 := X1.tr x4 (by omega)
  have I14 : DrOut h4 (n + 1) n2 V1 R := I1.ext (by omega) x4
  have g40 : hget h4 n = some ⟨66, pcC P, true, none⟩ := x4 n (by omega) _ g10
  have posr : ¬ (3 * (R.length : Int) + 1 < 0) := by omega
  have lt2 : n < n2 := by omega
  simp only [go_sem, Nat.reduceBEq, Nat.reduceLT, Nat.reduceLeDiff, Nat.reduceAdd, Nat.reduceMul, Nat.reduceSub, Nat.reduceMod, Nat.reduceDiv, Nat.reduceEqDiff, Int.reduceToNat, reduceIte, reduceCtorEq, Int.reduceLE, Int.reduceLT, Int.reduceEq, Int.reduceNeg, Int.reduceAdd, Int.reduceSub, Int.reduceMul, V1o, V2o]
  refine (heldDr_Q _ _ _ V2 R.length _ I24 (by omega)).A ?_
  simp only [go_sem, Nat.reduceBEq, Nat.reduceLT, Nat.reduceLeDiff, Nat.reduceAdd, Nat.reduceMul, Nat.reduceSub, Nat.reduceMod, Nat.reduceDiv, Nat.reduceEqDiff, Int.reduceToNat, reduceIte, reduceCtorEq, Int.reduceLE, Int.reduceLT, Int.reduceEq, Int.reduceNeg, Int.reduceAdd, Int.reduceSub, Int.reduceMul, V1o, V2o, posr, g40, lt2]
  refine (toPicture_Q _ _ _ P).A ?_
  simp only [go_sem, Nat.reduceBEq, Nat.reduceLT, Nat.reduceLeDiff, Nat.reduceAdd, Nat.reduceMul, Nat.reduceSub, Nat.reduceMod, Nat.reduceDiv, Nat.reduceEqDiff, Int.reduceToNat, reduceIte, reduceCtorEq, Int.reduceLE, Int.reduceLT, Int.reduceEq, Int.reduceNeg, Int.reduceAdd, Int.reduceSub, Int.reduceMul, V1o, V2o]
  refine callA_false (lastDrops_E _ _ _ P hR _ ?_)
  intro V3 h5 n5 hn5 hx5 ok5 I35
  rw [hRR] at I35
  rw [hcc]
  have V3o := I35.ok
  have X5 := X4.tr hx5 (by omega)
  simp only [go_sem, Nat.reduceBEq, Nat.reduceLT, Nat.reduceLeDiff, Nat.reduceAdd, Nat.reduceMul, Nat.reduceSub, Nat.reduceMod, Nat.reduceDiv, Nat.reduceEqDiff, Int.reduceToNat, reduceIte, reduceCtorEq, Int.reduceLE, Int.reduceLT, Int.reduceEq, Int.reduceNeg, Int.reduceAdd, Int.reduceSub, Int.reduceMul, V1o, V2o, V3o]
  refine (eqDrOut_Q _ _ _ V3 V1 R _ _ I35 (I14.ext (by omega) hx5) (by omega)).A ?_
  simp only [go_sem, Nat.reduceBEq, Nat.reduceLT, Nat.reduceLeDiff, Nat.reduceAdd, Nat.reduceMul, Nat.reduceSub, Nat.reduceMod, Nat.reduceDiv, Nat.reduceEqDiff, Int.reduceToNat, reduceIte, reduceCtorEq, Int.reduceLE, Int.reduceLT, Int.reduceEq, Int.reduceNeg, Int.reduceAdd, Int.reduceSub, Int.reduceMul, V1o, V2o, V3o]
  refine (heldDr_Q _ _ _ V2 R.length _ (I24.ext (by omega) hx5) (by omega)).A ?_
  simp only [go_sem, Nat.reduceBEq, Nat.reduceLT, Nat.reduceLeDiff, Nat.reduceAdd, Nat.reduceMul, Nat.reduceSub, Nat.reduceMod, Nat.reduceDiv, Nat.reduceEqDiff, Int.reduceToNat, reduceIte, reduceCtorEq, Int.reduceLE, Int.reduceLT, Int.reduceEq, Int.reduceNeg, Int.reduceAdd, Int.reduceSub, Int.reduceMul, V1o, V2o, V3o, posr]
  exact X5
end
end Go.Proofs.Ytodgbpkdanefaaa.V

/- Cells opened; cells left: both walks. -/
namespace Go.Proofs.Ytodgbpkdanefaaa.V
def setO (O : Gr) (y x : Int) : Gr := fun y' x' => O y' x' || decide (y' = y ∧ x' = x)
def opn (O : Gr) (M : List (Int × Int)) : Nat → Gr
  | 0 => O
  | j + 1 => setO (opn O M j) (M.getD j (0, 0)).2 (M.getD j (0, 0)).1
def openBy (O : Gr) (M : List (Int × Int)) : Gr := fun y x => O y x || decide ((x, y) ∈ M)
theorem opn_take (O : Gr) (M : List (Int × Int)) : ∀ j, j ≤ M.length → opn O M j = openBy O (M.take j)
  | 0, _ => by funext y x; simp [opn, openBy]
  | j + 1, hj => by
    have hj' : j < M.length := hj
    funext y x
    show setO (opn O M j) _ _ y x = _
    rw [opn_take O M j (by omega)]
    unfold setO openBy
    rw [List.take_succ, List.getElem?_eq_getElem hj', List.getD_eq_getElem?_getD, List.getElem?_eq_getElem hj', Bool.eq_iff_iff]
    simp only [Option.getD_some, Option.toList_some, List.mem_append, List.mem_singleton, Bool.or_eq_true, decide_eq_true_eq, Prod.ext_iff]
    constructor
    · rintro ((h | h) | ⟨h1, h2⟩)
      · exact .inl h
      · exact .inr (.inl h)
      · exact .inr (.inr ⟨h2, h1⟩)
    · rintro (h | h | ⟨h1, h2⟩)
      · exact .inl (.inl h)
      · exact .inl (.inr h)
      · exact .inr ⟨h2, h1⟩
theorem opn_all (O : Gr) (M : List (Int × Int)) : opn O M M.length = openBy O M := by rw [opn_take O M _ (Nat.le_refl _), List.take_length]
theorem openBy_filter (O : Gr) (M : List (Int × Int)) : openBy O (M.filter (opP O)) = openBy O M := by
  funext y x
  unfold openBy
  cases h : O y x
  · rw [Bool.eq_iff_iff]
    simp only [Bool.false_or, decide_eq_true_eq, List.mem_filter]
    exact ⟨fun h => h.1, fun hm => ⟨hm, by unfold opP; simp [h]⟩⟩
  · simp
theorem gridC_flat (O : Gr) (k : Nat) : (gridC O k).flat := trivial
theorem gridC_set (O : Gr) {y x : Int} (h1 : 0 ≤ y) (h3 : 0 ≤ x) (h4 : x < 8) : upd (gridC O) (y.toNat * 8 + x.toNat) (.bool true) = gridC (setO O y x) := by
  funext z
  unfold upd gridC setO
  split
  · rename_i h; subst h
    rw [decide_eq_true (by omega), Bool.or_true]
  · rw [decide_eq_false (by omega), Bool.or_false]
def pelC (v : SV) (O : Gr) : Nat → SV := fun j => if j < 1 then v else gridC O (j - 1)
theorem pelC_set (v : SV) (O : Gr) {y x : Int} (h1 : 0 ≤ y) (h3 : 0 ≤ x) (h4 : x < 8) : upd (pelC v O) (1 + y.toNat * 8 + x.toNat) (.bool true) = pelC v (setO O y x) := by
  have e := gridC_set O h1 h3 h4
  funext z
  have ez := congrFun e (z - 1)
  unfold upd at ez ⊢
  unfold pelC
  by_cases h : z < 1
  · rw [if_neg (by omega), if_pos h, if_pos h]
  · rw [if_neg h, if_neg h]
    by_cases h' : z = 1 + y.toNat * 8 + x.toNat
    · rw [if_pos h', ← ez, if_pos (by omega)]
    · rw [if_neg h', ← ez, if_neg (by omega)]
def pelS (i : Nat) (O : Gr) : Seg := ⟨65, pelC (.ptr i 0) O, true, none⟩
def grS (O : Gr) : Seg := ⟨64, gridC O, true, none⟩
@[go_sem] theorem grS_eq (O : Gr) : grS O = ⟨64, gridC O, true, none⟩ := rfl
@[go_sem] theorem pelS_eq (i : Nat) (O : Gr) : pelS i O = ⟨65, pelC (.ptr i 0) O, true, none⟩ := rfl
theorem pelC_lt {i n : Nat} (O : Gr) (hi : i < n) (k : Nat) : (pelC (.ptr i 0) O k).lt n := by
  unfold pelC; split
  · exact hi
  · trivial
theorem pelAt_pelS (i : Nat) (O : Gr) : PelAt (pelS i O) (.ptr i 0) O := ⟨Nat.le_refl _, rfl, fun j hj => by
  show pelC _ _ (1 + j) = _
  unfold pelC; rw [if_neg (by omega), Nat.add_sub_cancel_left]⟩
theorem grAt_grS (O : Gr) : GrAt (grS O) O := ⟨rfl, fun _ _ => rfl⟩
theorem pel_le {σ : Nat → Nat} {i n' : Nat} {s : Seg} {O : Gr} (hn : s.n = 65) (hrw : s.rw = true) (hc : ∀ k, k < 65 → s.c k = pelC (.ptr i 0) O k) (hσ : σ i = i) (hi : i < n') : SegLe σ n' s (pelS i O) :=
  SegLe.mk' (by rw [hn]; exact Nat.le_refl _) (fun _ => hrw) (.inl rfl) (fun k hk => by
    rw [hc k hk]
    show _ = ren σ (pelC (.ptr i 0) O k)
    unfold pelC
    split
    · rw [ren_ptr, hσ]
    · rfl) fun k _ => pelC_lt O hi k
/-- The cells that are left. -/
def leftB (P : Pc) (O : Gr) (W q : Nat) : Bool := decide (0 < P.ink ((q / W : Nat) : Int) ((q % W : Nat) : Int)) && !O ((q / W : Nat) : Int) ((q % W : Nat) : Int)
def leftN (P : Pc) (O : Gr) (W j : Nat) : Nat := ((List.range j).filter (leftB P O W)).length
theorem leftN_succ (P : Pc) (O : Gr) (W j : Nat) : leftN P O W (j + 1) = leftN P O W j + (if leftB P O W j then 1 else 0) := by
  unfold leftN
  rw [List.range_succ, List.filter_append, List.length_append]
  congr 1
  rw [List.filter_cons]
  split <;> rfl
theorem leftN_le (P : Pc) (O : Gr) (W j : Nat) : leftN P O W j ≤ j := Nat.le_trans (List.length_filter_le _ _) (by simp)
section
variable (cx : Cx) (h : List (Nat × Seg)) (n : Nat)
theorem peel7_E (i g : Nat) (P : Pc) (O : Gr) (x y : Int) (hs : hget h i = some (pcS P)) (hi : i < n) (hg : hget h g = some (grS O)) (hgn : g < n) (hig : i ≠ g) (hR : PcR P) (hP : PcOk P) (hx : 0 ≤ x ∧ x < 8) (hy : 0 ≤ y ∧ y < 8) (K : HK)
    (hK : K (.tup 0 (cl [])) (hset h g (grS (openBy O (covL P.wide P.high x y)))) n) : CallE Try.prog cx 71 [.ptr i 0, .ptr g 0, spot x y] h n K := by
  have hM5 := covL_len5 P.wide P.high x y
  have hmem := fun j => covL_mem (W := P.wide) (H := P.high) (x := x) (y := y) (j := j)
  have hs8 := hP.1
  refine CallE.to _ _ (by simp only [go_sem, Nat.reduceBEq, Nat.reduceLT, Nat.reduceLeDiff, Nat.reduceAdd, Nat.reduceMul, Nat.reduceSub, Nat.reduceMod, Nat.reduceDiv, Nat.reduceEqDiff, Int.reduceToNat, reduceIte, reduceCtorEq, Int.reduceLE, Int.reduceLT, Int.reduceEq, Int.reduceNeg, Int.reduceAdd, Int.reduceSub, Int.reduceMul]) (fun hok => hok_set hok fun k hk => gridC_flat _ _) hK ?_
  have hgi : ∀ t, hget (hset h g t) g = some t := hget_hset_self hg
  refine callE_of_T (P := Try.prog) hti (nt := 31) (rs := []) rfl rfl Try.call71 Try.func71 rfl _ (by simp only [go_sem, and_self]) (Nat.le_of_ble_eq_true rfl) _ fun hok => ?_
  simp only [go_sem, Nat.reduceBEq, Nat.reduceLT, Nat.reduceLeDiff, Nat.reduceAdd, Nat.reduceMul, Nat.reduceSub, Nat.reduceMod, Nat.reduceDiv, Nat.reduceEqDiff, Int.reduceToNat, reduceIte, reduceCtorEq, Int.reduceLE, Int.reduceLT, Int.reduceEq, Int.reduceNeg, Int.reduceAdd, Int.reduceSub, Int.reduceMul]
  refine callA_false (covered2_E _ _ _ i P x y (by first | (simp only [go_sem, Nat.reduceBEq, Nat.reduceLT, Nat.reduceLeDiff, Nat.reduceAdd, Nat.reduceMul, Nat.reduceSub, Nat.reduceMod, Nat.reduceDiv, Nat.reduceEqDiff, Int.reduceToNat, reduceIte, reduceCtorEq, Int.reduceLE, Int.reduceLT, Int.reduceEq, Int.reduceNeg, Int.reduceAdd, Int.reduceSub, Int.reduceMul, hs, hi]; done) | (simp only [go_sem, Nat.reduceBEq, Nat.reduceLT, Nat.reduceLeDiff, Nat.reduceAdd, Nat.reduceMul, Nat.reduceSub, Nat.reduceMod, Nat.reduceDiv, Nat.reduceEqDiff, Int.reduceToNat, reduceIte, reduceCtorEq, Int.reduceLE, Int.reduceLT, Int.reduceEq, Int.reduceNeg, Int.reduceAdd, Int.reduceSub, Int.reduceMul, hs, hi]; rfl)) (by omega) hR hx hy _ fun cap => ?_)
  rw [← opn_all]
  generalize hMM : covL P.wide P.high x y = M at *
  simp only [go_sem, Nat.reduceBEq, Nat.reduceLT, Nat.reduceLeDiff, Nat.reduceAdd, Nat.reduceMul, Nat.reduceSub, Nat.reduceMod, Nat.reduceDiv, Nat.reduceEqDiff, Int.reduceToNat, reduceIte, reduceCtorEq, Int.reduceLE, Int.reduceLT, Int.reduceEq, Int.reduceNeg, Int.reduceAdd, Int.reduceSub, Int.reduceMul]
  refine T_lp (ι := { j : Nat // j ≤ M.length })
    (fun j => ([(1, .ptr g 0), (6, .sl (n + 1) 0 M.length cap), (7, .int .i64 j.1)],
      (n + 1, ⟨M.length * 2, spotsC M, true, none⟩) :: (n, ⟨2, cl [.int .i8 x, .int .i8 y], true, none⟩) :: hset h g (grS (opn O M j.1)), n + 2)) (fun j => M.length - j.1) ⟨0, Nat.zero_le _⟩ ?_ ?_
  · refine Imp.id (by simp) ?_ ?_
    · simp only [go_sem, Nat.reduceBEq, Nat.reduceLT, Nat.reduceLeDiff, Nat.reduceAdd, Nat.reduceMul, Nat.reduceSub, Nat.reduceMod, Nat.reduceDiv, Nat.reduceEqDiff, Int.reduceToNat, reduceIte, reduceCtorEq, Int.reduceLE, Int.reduceLT, Int.reduceEq, Int.reduceNeg, Int.reduceAdd, Int.reduceSub, Int.reduceMul]
      omega
    · simp only [go_sem, Nat.reduceBEq, Nat.reduceLT, Nat.reduceLeDiff, Nat.reduceAdd, Nat.reduceMul, Nat.reduceSub, Nat.reduceMod, Nat.reduceDiv, Nat.reduceEqDiff, Int.reduceToNat, reduceIte, reduceCtorEq, Int.reduceLE, Int.reduceLT, Int.reduceEq, Int.reduceNeg, Int.reduceAdd, Int.reduceSub, Int.reduceMul, opn]
      rw [← grS_eq, hset_self hg]
      exact impH.cons0 (by first | (simp only [go_sem, Nat.reduceBEq, Nat.reduceLT, Nat.reduceLeDiff, Nat.reduceAdd, Nat.reduceMul, Nat.reduceSub, Nat.reduceMod, Nat.reduceDiv, Nat.reduceEqDiff, Int.reduceToNat, reduceIte, reduceCtorEq, Int.reduceLE, Int.reduceLT, Int.reduceEq, Int.reduceNeg, Int.reduceAdd, Int.reduceSub, Int.reduceMul]; done) | (simp only [go_sem, Nat.reduceBEq, Nat.reduceLT, Nat.reduceLeDiff, Nat.reduceAdd, Nat.reduceMul, Nat.reduceSub, Nat.reduceMod, Nat.reduceDiv, Nat.reduceEqDiff, Int.reduceToNat, reduceIte, reduceCtorEq, Int.reduceLE, Int.reduceLT, Int.reduceEq, Int.reduceNeg, Int.reduceAdd, Int.reduceSub, Int.reduceMul]; rfl)) (by simp) (SegLe.flat (Nat.le_refl _) id (.inr rfl) fun k hk => ⟨rfl, spotsC_flat _ _⟩) (impH.cons0 (by first | (simp only [go_sem, Nat.reduceBEq, Nat.reduceLT, Nat.reduceLeDiff, Nat.reduceAdd, Nat.reduceMul, Nat.reduceSub, Nat.reduceMod, Nat.reduceDiv, Nat.reduceEqDiff, Int.reduceToNat, reduceIte, reduceCtorEq, Int.reduceLE, Int.reduceLT, Int.reduceEq, Int.reduceNeg, Int.reduceAdd, Int.reduceSub, Int.reduceMul]; done) | (simp only [go_sem, Nat.reduceBEq, Nat.reduceLT, Nat.reduceLeDiff, Nat.reduceAdd, Nat.reduceMul, Nat.reduceSub, Nat.reduceMod, Nat.reduceDiv, Nat.reduceEqDiff, Int.reduceToNat, reduceIte, reduceCtorEq, Int.reduceLE, Int.reduceLT, Int.reduceEq, Int.reduceNeg, Int.reduceAdd, Int.reduceSub, Int.reduceMul]; rfl)) (by simp) (SegLe.flat (Nat.le_refl _) id (.inr rfl) fun z hz => ⟨rfl, pair_flat _ _ hz⟩) (impH.base0 hok (by simp) (by simp only [go_sem, Nat.reduceBEq, Nat.reduceLT, Nat.reduceLeDiff, Nat.reduceAdd, Nat.reduceMul, Nat.reduceSub, Nat.reduceMod, Nat.reduceDiv, Nat.reduceEqDiff, Int.reduceToNat, reduceIte, reduceCtorEq, Int.reduceLE, Int.reduceLT, Int.reduceEq, Int.reduceNeg, Int.reduceAdd, Int.reduceSub, Int.reduceMul, HExt_cons])))
  · rintro ⟨j, hj⟩
    simp only [go_sem, Nat.reduceBEq, Nat.reduceLT, Nat.reduceLeDiff, Nat.reduceAdd, Nat.reduceMul, Nat.reduceSub, Nat.reduceMod, Nat.reduceDiv, Nat.reduceEqDiff, Int.reduceToNat, reduceIte, reduceCtorEq, Int.reduceLE, Int.reduceLT, Int.reduceEq, Int.reduceNeg, Int.reduceAdd, Int.reduceSub, Int.reduceMul, decide_eq_true_eq, decide_eq_false_iff_not]
    refine ⟨fun h1 => ?_, fun h1 => ?_⟩
    · have r1 : (0 : Int) ≤ j ∧ (j : Int) < M.length := ⟨by omega, h1⟩
      have b1 : j * 2 ≤ M.length * 2 - 2 := by omega
      have b2 : j * 2 + 2 ≤ M.length * 2 := by omega
      have b3 : 2 ≤ M.length * 2 := by omega
      have b4 : j * 2 ≤ M.length * 2 - 1 := by omega
      have b5 : j * 2 + 1 ≤ M.length * 2 - 1 := by omega
      have b6 : j * 2 + 1 ≤ M.length * 2 := by omega
      have b7 : 1 ≤ M.length * 2 := by omega
      obtain ⟨⟨c1, c2⟩, c3, c4⟩ := hmem j (by omega)
      have c5 : (M.getD j (0, 0)).1 < 8 := by omega
      have c6 : (M.getD j (0, 0)).2 < 8 := by omega
      have d1 : (M.getD j (0, 0)).2.toNat * 8 + (M.getD j (0, 0)).1.toNat ≤ 63 := by omega
      have d2 : (M.getD j (0, 0)).2.toNat * 8 + (M.getD j (0, 0)).1.toNat + 1 ≤ 64 := by omega
      refine T_drawT hti 14 _ _ (by kernel_rfl) (by kernel_rfl) ?_
      simp only [go_sem, Nat.reduceBEq, Nat.reduceLT, Nat.reduceLeDiff, Nat.reduceAdd, Nat.reduceMul, Nat.reduceSub, Nat.reduceMod, Nat.reduceDiv, Nat.reduceEqDiff, Int.reduceToNat, reduceIte, reduceCtorEq, Int.reduceLE, Int.reduceLT, Int.reduceEq, Int.reduceNeg, Int.reduceAdd, Int.reduceSub, Int.reduceMul, hgi, hgn, r1, b1, b2, b3, b4, b5, b6, b7, spotsC_x, spotsC_y, c1, c3, c5, c6, d1, d2, gridC_set _ c3 c1 c5]
      refine ⟨⟨j + 1, by omega⟩, by show M.length - (j + 1) < M.length - j; omega, ?_⟩
      refine Imp.id (by simp) ?_ ?_
      · simp only [go_sem, Nat.reduceBEq, Nat.reduceLT, Nat.reduceLeDiff, Nat.reduceAdd, Nat.reduceMul, Nat.reduceSub, Nat.reduceMod, Nat.reduceDiv, Nat.reduceEqDiff, Int.reduceToNat, reduceIte, reduceCtorEq, Int.reduceLE, Int.reduceLT, Int.reduceEq, Int.reduceNeg, Int.reduceAdd, Int.reduceSub, Int.reduceMul, w64 (n := (j : Int) + 1) (by omega), Int.natCast_add, Int.natCast_one]
        omega
      · exact impH.cons0 (by first | (simp only [go_sem, Nat.reduceBEq, Nat.reduceLT, Nat.reduceLeDiff, Nat.reduceAdd, Nat.reduceMul, Nat.reduceSub, Nat.reduceMod, Nat.reduceDiv, Nat.reduceEqDiff, Int.reduceToNat, reduceIte, reduceCtorEq, Int.reduceLE, Int.reduceLT, Int.reduceEq, Int.reduceNeg, Int.reduceAdd, Int.reduceSub, Int.reduceMul]; done) | (simp only [go_sem, Nat.reduceBEq, Nat.reduceLT, Nat.reduceLeDiff, Nat.reduceAdd, Nat.reduceMul, Nat.reduceSub, Nat.reduceMod, Nat.reduceDiv, Nat.reduceEqDiff, Int.reduceToNat, reduceIte, reduceCtorEq, Int.reduceLE, Int.reduceLT, Int.reduceEq, Int.reduceNeg, Int.reduceAdd, Int.reduceSub, Int.reduceMul]; rfl)) (by simp) (SegLe.flat (Nat.le_refl _) id (.inr rfl) fun k hk => ⟨rfl, spotsC_flat _ _⟩) (impH.cons0 (by first | (simp only [go_sem, Nat.reduceBEq, Nat.reduceLT, Nat.reduceLeDiff, Nat.reduceAdd, Nat.reduceMul, Nat.reduceSub, Nat.reduceMod, Nat.reduceDiv, Nat.reduceEqDiff, Int.reduceToNat, reduceIte, reduceCtorEq, Int.reduceLE, Int.reduceLT, Int.reduceEq, Int.reduceNeg, Int.reduceAdd, Int.reduceSub, Int.reduceMul]; done) | (simp only [go_sem, Nat.reduceBEq, Nat.reduceLT, Nat.reduceLeDiff, Nat.reduceAdd, Nat.reduceMul, Nat.reduceSub, Nat.reduceMod, Nat.reduceDiv, Nat.reduceEqDiff, Int.reduceToNat, reduceIte, reduceCtorEq, Int.reduceLE, Int.reduceLT, Int.reduceEq, Int.reduceNeg, Int.reduceAdd, Int.reduceSub, Int.reduceMul]; rfl)) (by simp) (SegLe.flat (Nat.le_refl _) id (.inr rfl) fun z hz => ⟨rfl, pair_flat _ _ hz⟩) (impH.base0 (hok_set hok fun k hk => gridC_flat _ _) (by simp) (by first | (simp only [go_sem, Nat.reduceBEq, Nat.reduceLT, Nat.reduceLeDiff, Nat.reduceAdd, Nat.reduceMul, Nat.reduceSub, Nat.reduceMod, Nat.reduceDiv, Nat.reduceEqDiff, Int.reduceToNat, reduceIte, reduceCtorEq, Int.reduceLE, Int.reduceLT, Int.reduceEq, Int.reduceNeg, Int.reduceAdd, Int.reduceSub, Int.reduceMul, HExt_cons]; done) | (simp only [go_sem, Nat.reduceBEq, Nat.reduceLT, Nat.reduceLeDiff, Nat.reduceAdd, Nat.reduceMul, Nat.reduceSub, Nat.reduceMod, Nat.reduceDiv, Nat.reduceEqDiff, Int.reduceToNat, reduceIte, reduceCtorEq, Int.reduceLE, Int.reduceLT, Int.reduceEq, Int.reduceNeg, Int.reduceAdd, Int.reduceSub, Int.reduceMul, HExt_cons]; exact HExt.rfl))))
    · have hj2 : j = M.length := by omega
      subst hj2
      simp only [go_sem, Nat.reduceBEq, Nat.reduceLT, Nat.reduceLeDiff, Nat.reduceAdd, Nat.reduceMul, Nat.reduceSub, Nat.reduceMod, Nat.reduceDiv, Nat.reduceEqDiff, Int.reduceToNat, reduceIte, reduceCtorEq, Int.reduceLE, Int.reduceLT, Int.reduceEq, Int.reduceNeg, Int.reduceAdd, Int.reduceSub, Int.reduceMul]
theorem mark7_E (i g f cap : Nat) (O : Gr) (M : List (Int × Int)) (s : Seg) (hi : i < n) (hg : hget h g = some (pelS i O)) (hgn : g < n) (hf : hget h f = some s) (hfn : f < n) (hfg : f ≠ g) (hM : SpsAt s M) (hm9 : M.length ≤ 1000) (hin : ∀ j, j < M.length → (0 ≤ (M.getD j (0, 0)).1 ∧ (M.getD j (0, 0)).1 < 8) ∧ 0 ≤ (M.getD j (0, 0)).2 ∧ (M.getD j (0, 0)).2 < 8) (K : HK)
    (hK : K (.tup 0 (cl [])) (hset h g (pelS i (openBy O M))) n) : CallE Try.prog cx 77 [.ptr g 0, .sl f 0 M.length cap, .bool true] h n K := by
  have hn := hM.1
  refine CallE.to _ _ (by simp only [go_sem, Nat.reduceBEq, Nat.reduceLT, Nat.reduceLeDiff, Nat.reduceAdd, Nat.reduceMul, Nat.reduceSub, Nat.reduceMod, Nat.reduceDiv, Nat.reduceEqDiff, Int.reduceToNat, reduceIte, reduceCtorEq, Int.reduceLE, Int.reduceLT, Int.reduceEq, Int.reduceNeg, Int.reduceAdd, Int.reduceSub, Int.reduceMul]) (fun hok => HOk.hset hok fun k hk => pelC_lt _ hi _) hK ?_
  have hgi : ∀ t, hget (hset h g t) g = some t := hget_hset_self hg
  have hgf : ∀ t, hget (hset h g t) f = some s := fun t => by rw [hget_hset, if_neg (by omega)]; exact hf
  rw [← opn_all]
  refine callE_of_T (P := Try.prog) hti (nt := 25) (rs := []) rfl rfl Try.call77 Try.func77 rfl _ (by simp only [go_sem, and_self]) (Nat.le_of_ble_eq_true rfl) _ fun hok => ?_
  simp only [go_sem, Nat.reduceBEq, Nat.reduceLT, Nat.reduceLeDiff, Nat.reduceAdd, Nat.reduceMul, Nat.reduceSub, Nat.reduceMod, Nat.reduceDiv, Nat.reduceEqDiff, Int.reduceToNat, reduceIte, reduceCtorEq, Int.reduceLE, Int.reduceLT, Int.reduceEq, Int.reduceNeg, Int.reduceAdd, Int.reduceSub, Int.reduceMul]
  refine T_lp (ι := { j : Nat // j ≤ M.length })
    (fun j => ([(0, .ptr g 0), (2, .bool true), (8, .sl f 0 M.length cap), (9, .int .i64 M.length), (10, .int .i64 j.1)], hset h g (pelS i (opn O M j.1)), n)) (fun j => M.length - j.1) ⟨0, Nat.zero_le _⟩ ?_ ?_
  · refine Imp.id (by simp) ?_ ?_
    · simp only [go_sem, Nat.reduceBEq, Nat.reduceLT, Nat.reduceLeDiff, Nat.reduceAdd, Nat.reduceMul, Nat.reduceSub, Nat.reduceMod, Nat.reduceDiv, Nat.reduceEqDiff, Int.reduceToNat, reduceIte, reduceCtorEq, Int.reduceLE, Int.reduceLT, Int.reduceEq, Int.reduceNeg, Int.reduceAdd, Int.reduceSub, Int.reduceMul]
      omega
    · show impH h (sig []) n (hset h g (pelS i O))
      rw [hset_self hg]
      exact impH.base0 hok (by simp) HExt.rfl
  · rintro ⟨j, hj⟩
    simp only [go_sem, Nat.reduceBEq, Nat.reduceLT, Nat.reduceLeDiff, Nat.reduceAdd, Nat.reduceMul, Nat.reduceSub, Nat.reduceMod, Nat.reduceDiv, Nat.reduceEqDiff, Int.reduceToNat, reduceIte, reduceCtorEq, Int.reduceLE, Int.reduceLT, Int.reduceEq, Int.reduceNeg, Int.reduceAdd, Int.reduceSub, Int.reduceMul, decide_eq_true_eq, decide_eq_false_iff_not]
    refine ⟨fun h1 => ?_, fun h1 => ?_⟩
    · have r1 : (0 : Int) ≤ j ∧ (j : Int) < M.length := ⟨by omega, by omega⟩
      have b1 : j * 2 ≤ s.n - 2 := by omega
      have b2 : j * 2 + 2 ≤ s.n := by omega
      have b3 : 2 ≤ s.n := by omega
      obtain ⟨⟨c1, c5⟩, c3, c6⟩ := hin j (by omega)
      have d1 : 1 + (M.getD j (0, 0)).2.toNat * 8 + (M.getD j (0, 0)).1.toNat ≤ 64 := by omega
      have d2 : 1 + (M.getD j (0, 0)).2.toNat * 8 + (M.getD j (0, 0)).1.toNat + 1 ≤ 65 := by omega
      simp only [go_sem, Nat.reduceBEq, Nat.reduceLT, Nat.reduceLeDiff, Nat.reduceAdd, Nat.reduceMul, Nat.reduceSub, Nat.reduceMod, Nat.reduceDiv, Nat.reduceEqDiff, Int.reduceToNat, reduceIte, reduceCtorEq, Int.reduceLE, Int.reduceLT, Int.reduceEq, Int.reduceNeg, Int.reduceAdd, Int.reduceSub, Int.reduceMul, hgf, hfn, r1, b1, b2, b3, hM.x (j := j) (by omega), hM.y (j := j) (by omega)]
      refine T_drawT hti 10 _ _ (by kernel_rfl) (by kernel_rfl) ?_
      simp only [go_sem, Nat.reduceBEq, Nat.reduceLT, Nat.reduceLeDiff, Nat.reduceAdd, Nat.reduceMul, Nat.reduceSub, Nat.reduceMod, Nat.reduceDiv, Nat.reduceEqDiff, Int.reduceToNat, reduceIte, reduceCtorEq, Int.reduceLE, Int.reduceLT, Int.reduceEq, Int.reduceNeg, Int.reduceAdd, Int.reduceSub, Int.reduceMul, hgi, hgn, c1, c3, c5, c6, d1, d2, pelC_set _ _ c3 c1 c5]
      refine ⟨⟨j + 1, by omega⟩, by show M.length - (j + 1) < M.length - j; omega, ?_⟩
      refine Imp.id (by simp) ?_ ?_
      · simp only [go_sem, Nat.reduceBEq, Nat.reduceLT, Nat.reduceLeDiff, Nat.reduceAdd, Nat.reduceMul, Nat.reduceSub, Nat.reduceMod, Nat.reduceDiv, Nat.reduceEqDiff, Int.reduceToNat, reduceIte, reduceCtorEq, Int.reduceLE, Int.reduceLT, Int.reduceEq, Int.reduceNeg, Int.reduceAdd, Int.reduceSub, Int.reduceMul, w64 (n := (j : Int) + 1) (by omega), Int.natCast_add, Int.natCast_one]
        omega
      · exact impH.base0 (HOk.hset hok fun k hk => pelC_lt _ hi _) (by simp) (by first | (simp only [go_sem, Nat.reduceBEq, Nat.reduceLT, Nat.reduceLeDiff, Nat.reduceAdd, Nat.reduceMul, Nat.reduceSub, Nat.reduceMod, Nat.reduceDiv, Nat.reduceEqDiff, Int.reduceToNat, reduceIte, reduceCtorEq, Int.reduceLE, Int.reduceLT, Int.reduceEq, Int.reduceNeg, Int.reduceAdd, Int.reduceSub, Int.reduceMul, HExt_cons]; done) | (simp only [go_sem, Nat.reduceBEq, Nat.reduceLT, Nat.reduceLeDiff, Nat.reduceAdd, Nat.reduceMul, Nat.reduceSub, Nat.reduceMod, Nat.reduceDiv, Nat.reduceEqDiff, Int.reduceToNat, reduceIte, reduceCtorEq, Int.reduceLE, Int.reduceLT, Int.reduceEq, Int.reduceNeg, Int.reduceAdd, Int.reduceSub, Int.reduceMul, HExt_cons]; exact HExt.rfl))
    · have hj2 : j = M.length := by omega
      subst hj2
      simp only [go_sem, Nat.reduceBEq, Nat.reduceLT, Nat.reduceLeDiff, Nat.reduceAdd, Nat.reduceMul, Nat.reduceSub, Nat.reduceMod, Nat.reduceDiv, Nat.reduceEqDiff, Int.reduceToNat, reduceIte, reduceCtorEq, Int.reduceLE, Int.reduceLT, Int.reduceEq, Int.reduceNeg, Int.reduceAdd, Int.reduceSub, Int.reduceMul]
theorem left7_Q (i g : Nat) (P : Pc) (O : Gr) (s : Seg) (W H : Nat) (hs : hget h i = some (pcS P)) (hi : i < n) (hg : hget h g = some s) (hgn : g < n) (hG : GrAt s O) (hR : PcR P) (hP : PcOk P) (hW : P.wide = W) (hH : P.high = H) :
    CallQ Try.prog cx 72 [.ptr i 0, .ptr g 0] h n (.int .i64 (leftN P O W (H * W))) := by
  have hs8 := hP.1
  have hW8 : W ≤ 8 := by omega
  have hH8 : H ≤ 8 := by omega
  have hm : H * W ≤ 8 * 8 := Nat.mul_le_mul hH8 hW8
  have hn64 := hG.1
  refine callQ_of_T (P := Try.prog) hti (nt := 54) (rs := [.tmp 4]) rfl rfl Try.call72 Try.func72 rfl _ (by simp only [go_sem, and_self]) (Nat.le_of_ble_eq_true rfl) _ (by first | exact trivial | (refine lt_flat rfl ?_; simp [SV.flat]; done) | simp only [go_sem]) fun hok => ?_
  simp only [go_sem, Nat.reduceBEq, Nat.reduceLT, Nat.reduceLeDiff, Nat.reduceAdd, Nat.reduceMul, Nat.reduceSub, Nat.reduceMod, Nat.reduceDiv, Nat.reduceEqDiff, Int.reduceToNat, reduceIte, reduceCtorEq, Int.reduceLE, Int.reduceLT, Int.reduceEq, Int.reduceNeg, Int.reduceAdd, Int.reduceSub, Int.reduceMul]
  refine callA_false (spots7_E _ _ _ i P W H (by first | (simp only [go_sem, Nat.reduceBEq, Nat.reduceLT, Nat.reduceLeDiff, Nat.reduceAdd, Nat.reduceMul, Nat.reduceSub, Nat.reduceMod, Nat.reduceDiv, Nat.reduceEqDiff, Int.reduceToNat, reduceIte, reduceCtorEq, Int.reduceLE, Int.reduceLT, Int.reduceEq, Int.reduceNeg, Int.reduceAdd, Int.reduceSub, Int.reduceMul, hs, hi]; done) | (simp only [go_sem, Nat.reduceBEq, Nat.reduceLT, Nat.reduceLeDiff, Nat.reduceAdd, Nat.reduceMul, Nat.reduceSub, Nat.reduceMod, Nat.reduceDiv, Nat.reduceEqDiff, Int.reduceToNat, reduceIte, reduceCtorEq, Int.reduceLE, Int.reduceLT, Int.reduceEq, Int.reduceNeg, Int.reduceAdd, Int.reduceSub, Int.reduceMul, hs, hi]; rfl)) (by omega) hW hH hW8 hH8 _ fun capM hc1 hc2 => ?_)
  have hdm : ∀ q, q < H * W → q % W < 8 ∧ q / W < 8 := fun q hq => by
    have hW0 : 0 < W := Nat.pos_of_ne_zero fun e => by rw [e, Nat.mul_zero] at hq; omega
    have h1 := Nat.mod_lt q hW0
    have h2 := (Nat.div_lt_iff_lt_mul hW0).2 hq
    exact ⟨by omega, by omega⟩
  generalize hMM : H * W = m at *
  simp only [go_sem, Nat.reduceBEq, Nat.reduceLT, Nat.reduceLeDiff, Nat.reduceAdd, Nat.reduceMul, Nat.reduceSub, Nat.reduceMod, Nat.reduceDiv, Nat.reduceEqDiff, Int.reduceToNat, reduceIte, reduceCtorEq, Int.reduceLE, Int.reduceLT, Int.reduceEq, Int.reduceNeg, Int.reduceAdd, Int.reduceSub, Int.reduceMul]
  refine T_lp (ι := { q : Nat // q ≤ m })
    (fun q => ([(0, .ptr i 0), (1, .ptr g 0), (5, .int .i64 (leftN P O W q.1)), (6, .sl n 0 m capM), (7, .int .i64 q.1)],
      (n, ⟨m * 2, cellC W, true, none⟩) :: h, n + 1)) (fun q => m - q.1) ⟨0, by omega⟩ ?_ ?_
  · refine Imp.id (by simp) ?_ ?_
    · simp only [go_sem, Nat.reduceBEq, Nat.reduceLT, Nat.reduceLeDiff, Nat.reduceAdd, Nat.reduceMul, Nat.reduceSub, Nat.reduceMod, Nat.reduceDiv, Nat.reduceEqDiff, Int.reduceToNat, reduceIte, reduceCtorEq, Int.reduceLE, Int.reduceLT, Int.reduceEq, Int.reduceNeg, Int.reduceAdd, Int.reduceSub, Int.reduceMul]
      (repeat' apply And.intro) <;> first | omega | rfl | trivial | assumption | skip
    · exact impH.cons0 (hget_hit _ _ _) (by simp) (SegLe.flat (Nat.le_refl _) id (.inl rfl) fun k hk => ⟨rfl, cellC_flat _ _⟩) (impH.base0 hok (by simp) (by simp only [go_sem, Nat.reduceBEq, Nat.reduceLT, Nat.reduceLeDiff, Nat.reduceAdd, Nat.reduceMul, Nat.reduceSub, Nat.reduceMod, Nat.reduceDiv, Nat.reduceEqDiff, Int.reduceToNat, reduceIte, reduceCtorEq, Int.reduceLE, Int.reduceLT, Int.reduceEq, Int.reduceNeg, Int.reduceAdd, Int.reduceSub, Int.reduceMul, HExt_cons]))
  · rintro ⟨q, hq⟩
    have hle := leftN_le P O W q
    simp only [go_sem, Nat.reduceBEq, Nat.reduceLT, Nat.reduceLeDiff, Nat.reduceAdd, Nat.reduceMul, Nat.reduceSub, Nat.reduceMod, Nat.reduceDiv, Nat.reduceEqDiff, Int.reduceToNat, reduceIte, reduceCtorEq, Int.reduceLE, Int.reduceLT, Int.reduceEq, Int.reduceNeg, Int.reduceAdd, Int.reduceSub, Int.reduceMul, decide_eq_true_eq, decide_eq_false_iff_not]
    refine ⟨fun h1 => ?_, fun h1 => ?_⟩
    · have hqm : q < m := by omega
      have r1 : (0 : Int) ≤ q ∧ (q : Int) < m := ⟨by omega, by omega⟩
      have b1 : q * 2 ≤ m * 2 - 2 := by omega
      have b2 : q * 2 + 2 ≤ m * 2 := by omega
      have b3 : 2 ≤ m * 2 := by omega
      have b4 : q * 2 ≤ m * 2 - 1 := by omega
      have b5 : q * 2 + 1 ≤ m * 2 - 1 := by omega
      have b6 : q * 2 + 1 ≤ m * 2 := by omega
      have b7 : 1 ≤ m * 2 := by omega
      obtain ⟨hx8, hy8⟩ := hdm q hqm
      have e0 := cellC_0 W q
      have e1 := cellC_1 W q
      have hsu := leftN_succ P O W q
      have hbB : leftB P O W q = (decide (0 < P.ink ((q / W : Nat) : Int) ((q % W : Nat) : Int)) && !O ((q / W : Nat) : Int) ((q % W : Nat) : Int)) := rfl
      generalize hyy : q / W = y at *
      generalize hxx : q % W = x at *
      have c1 : (0 : Int) ≤ (x : Int) ∧ (x : Int) < 8 := ⟨by omega, by omega⟩
      have c3 : (0 : Int) ≤ (y : Int) ∧ (y : Int) < 8 := ⟨by omega, by omega⟩
      have hat := hG.at c3.1 c3.2 c1.1 c1.2
      have hin := pcC_ink P (y : Int) (x : Int) c3.1 c3.2 c1.1 c1.2
      simp only [Int.toNat_natCast] at hat hin
      have d1 : y * 8 + x ≤ 63 := by omega
      have d2 : y * 8 + x + 1 ≤ 64 := by omega
      have d3 : 2 + y * 8 + x ≤ 65 := by omega
      have d4 : 2 + y * 8 + x + 1 ≤ 66 := by omega
      by_cases hp : 0 < P.ink (y : Int) (x : Int)
      rotate_left
      · have hbF : leftB P O W q = false := by rw [hbB]; simp [hp]
        rw [hbF, if_neg (by simp), Nat.add_zero] at hsu
        refine T_draw hti _ _ (by kernel_rfl) (by kernel_rfl) ?_
        simp only [go_sem, Nat.reduceBEq, Nat.reduceLT, Nat.reduceLeDiff, Nat.reduceAdd, Nat.reduceMul, Nat.reduceSub, Nat.reduceMod, Nat.reduceDiv, Nat.reduceEqDiff, Int.reduceToNat, reduceIte, reduceCtorEq, Int.reduceLE, Int.reduceLT, Int.reduceEq, Int.reduceNeg, Int.reduceAdd, Int.reduceSub, Int.reduceMul, hs, hi, hg, hgn, r1, b1, b2, b3, b4, b5, b6, b7, e0, e1, c1, c3, hat, hin, hn64, d1, d2, d3, d4, hp]
        refine ⟨⟨q + 1, by omega⟩, by show m - (q + 1) < m - q; omega, ?_⟩
        refine Imp.id (by simp) ?_ (impH.cons0 (hget_hit _ _ _) (by simp) (SegLe.flat (Nat.le_refl _) id (.inr rfl) fun k hk => ⟨rfl, cellC_flat _ _⟩) (impH.base0 hok (by simp) (by simp only [go_sem, Nat.reduceBEq, Nat.reduceLT, Nat.reduceLeDiff, Nat.reduceAdd, Nat.reduceMul, Nat.reduceSub, Nat.reduceMod, Nat.reduceDiv, Nat.reduceEqDiff, Int.reduceToNat, reduceIte, reduceCtorEq, Int.reduceLE, Int.reduceLT, Int.reduceEq, Int.reduceNeg, Int.reduceAdd, Int.reduceSub, Int.reduceMul, HExt_cons])))
        simp only [go_sem, Nat.reduceBEq, Nat.reduceLT, Nat.reduceLeDiff, Nat.reduceAdd, Nat.reduceMul, Nat.reduceSub, Nat.reduceMod, Nat.reduceDiv, Nat.reduceEqDiff, Int.reduceToNat, reduceIte, reduceCtorEq, Int.reduceLE, Int.reduceLT, Int.reduceEq, Int.reduceNeg, Int.reduceAdd, Int.reduceSub, Int.reduceMul, hsu, w64 (n := (q : Int) + 1) (by omega), w64 (n := (leftN P O W q : Int) + 1) (by omega), Int.natCast_add, Int.natCast_one]
        (repeat' apply And.intro) <;> first | omega | rfl | trivial | assumption | skip
      cases ho : O (y : Int) (x : Int)
      · have hbF : leftB P O W q = true := by rw [hbB, ho]; simp [hp]
        rw [hbF, if_pos rfl] at hsu
        rw [ho] at hat
        refine T_draw hti _ _ (by kernel_rfl) (by kernel_rfl) ?_
        simp only [go_sem, Nat.reduceBEq, Nat.reduceLT, Nat.reduceLeDiff, Nat.reduceAdd, Nat.reduceMul, Nat.reduceSub, Nat.reduceMod, Nat.reduceDiv, Nat.reduceEqDiff, Int.reduceToNat, reduceIte, reduceCtorEq, Int.reduceLE, Int.reduceLT, Int.reduceEq, Int.reduceNeg, Int.reduceAdd, Int.reduceSub, Int.reduceMul, hs, hi, hg, hgn, r1, b1, b2, b3, b4, b5, b6, b7, e0, e1, c1, c3, hat, hin, hn64, d1, d2, d3, d4, hp]
        refine ⟨⟨q + 1, by omega⟩, by show m - (q + 1) < m - q; omega, ?_⟩
        refine Imp.id (by simp) ?_ (impH.cons0 (hget_hit _ _ _) (by simp) (SegLe.flat (Nat.le_refl _) id (.inr rfl) fun k hk => ⟨rfl, cellC_flat _ _⟩) (impH.base0 hok (by simp) (by simp only [go_sem, Nat.reduceBEq, Nat.reduceLT, Nat.reduceLeDiff, Nat.reduceAdd, Nat.reduceMul, Nat.reduceSub, Nat.reduceMod, Nat.reduceDiv, Nat.reduceEqDiff, Int.reduceToNat, reduceIte, reduceCtorEq, Int.reduceLE, Int.reduceLT, Int.reduceEq, Int.reduceNeg, Int.reduceAdd, Int.reduceSub, Int.reduceMul, HExt_cons])))
        simp only [go_sem, Nat.reduceBEq, Nat.reduceLT, Nat.reduceLeDiff, Nat.reduceAdd, Nat.reduceMul, Nat.reduceSub, Nat.reduceMod, Nat.reduceDiv, Nat.reduceEqDiff, Int.reduceToNat, reduceIte, reduceCtorEq, Int.reduceLE, Int.reduceLT, Int.reduceEq, Int.reduceNeg, Int.reduceAdd, Int.reduceSub, Int.reduceMul, hsu, w64 (n := (q : Int) + 1) (by omega), w64 (n := (leftN P O W q : Int) + 1) (by omega), Int.natCast_add, Int.natCast_one]
        (repeat' apply And.intro) <;> first | omega | rfl | trivial | assumption | skip
      · have hbF : leftB P O W q = false := by rw [hbB, ho]; simp
        rw [hbF, if_neg (by simp), Nat.add_zero] at hsu
        rw [ho] at hat
        refine T_draw hti _ _ (by kernel_rfl) (by kernel_rfl) ?_
        simp only [go_sem, Nat.reduceBEq, Nat.reduceLT, Nat.reduceLeDiff, Nat.reduceAdd, Nat.reduceMul, Nat.reduceSub, Nat.reduceMod, Nat.reduceDiv, Nat.reduceEqDiff, Int.reduceToNat, reduceIte, reduceCtorEq, Int.reduceLE, Int.reduceLT, Int.reduceEq, Int.reduceNeg, Int.reduceAdd, Int.reduceSub, Int.reduceMul, hs, hi, hg, hgn, r1, b1, b2, b3, b4, b5, b6, b7, e0, e1, c1, c3, hat, hin, hn64, d1, d2, d3, d4, hp]
        refine ⟨⟨q + 1, by omega⟩, by show m - (q + 1) < m - q; omega, ?_⟩
        refine Imp.id (by simp) ?_ (impH.cons0 (hget_hit _ _ _) (by simp) (SegLe.flat (Nat.le_refl _) id (.inr rfl) fun k hk => ⟨rfl, cellC_flat _ _⟩) (impH.base0 hok (by simp) (by simp only [go_sem, Nat.reduceBEq, Nat.reduceLT, Nat.reduceLeDiff, Nat.reduceAdd, Nat.reduceMul, Nat.reduceSub, Nat.reduceMod, Nat.reduceDiv, Nat.reduceEqDiff, Int.reduceToNat, reduceIte, reduceCtorEq, Int.reduceLE, Int.reduceLT, Int.reduceEq, Int.reduceNeg, Int.reduceAdd, Int.reduceSub, Int.reduceMul, HExt_cons])))
        simp only [go_sem, Nat.reduceBEq, Nat.reduceLT, Nat.reduceLeDiff, Nat.reduceAdd, Nat.reduceMul, Nat.reduceSub, Nat.reduceMod, Nat.reduceDiv, Nat.reduceEqDiff, Int.reduceToNat, reduceIte, reduceCtorEq, Int.reduceLE, Int.reduceLT, Int.reduceEq, Int.reduceNeg, Int.reduceAdd, Int.reduceSub, Int.reduceMul, hsu, w64 (n := (q : Int) + 1) (by omega), w64 (n := (leftN P O W q : Int) + 1) (by omega), Int.natCast_add, Int.natCast_one]
        (repeat' apply And.intro) <;> first | omega | rfl | trivial | assumption | skip
    · have hq2 : q = m := by omega
      subst hq2
      simp only [go_sem, Nat.reduceBEq, Nat.reduceLT, Nat.reduceLeDiff, Nat.reduceAdd, Nat.reduceMul, Nat.reduceSub, Nat.reduceMod, Nat.reduceDiv, Nat.reduceEqDiff, Int.reduceToNat, reduceIte, reduceCtorEq, Int.reduceLE, Int.reduceLT, Int.reduceEq, Int.reduceNeg, Int.reduceAdd, Int.reduceSub, Int.reduceMul]
end
end Go.Proofs.Ytodgbpkdanefaaa.V

/- Cells left: the program's walk. -/
namespace Go.Proofs.Ytodgbpkdanefaaa.V
section
variable (cx : Cx) (h : List (Nat × Seg)) (n : Nat)
theorem leftP_Q (i g : Nat) (P : Pc) (O : Gr) (s : Seg) (W H : Nat) (hs : hget h i = some (pcS P)) (hi : i < n) (hg : hget h g = some s) (hgn : g < n) (hG : PelAt s (.ptr i 0) O) (hR : PcR P) (hP : PcOk P) (hW : P.wide = W) (hH : P.high = H) :
    CallQ Try.prog cx 78 [.ptr g 0] h n (.int .i64 (leftN P O W (H * W))) := by
  have hs8 := hP.1
  have hW8 : W ≤ 8 := by omega
  have hH8 : H ≤ 8 := by omega
  have hm : H * W ≤ 8 * 8 := Nat.mul_le_mul hH8 hW8
  have hn65' := hG.1
  have hn65 : 1 ≤ s.n := by omega
  have hp0 := hG.2.1
  refine callQ_of_T (P := Try.prog) hti (nt := 41) (rs := [.tmp 2]) rfl rfl Try.call78 Try.func78 rfl _ (by simp only [go_sem, and_self]) (Nat.le_of_ble_eq_true rfl) _ (by first | exact trivial | (refine lt_flat rfl ?_; simp [SV.flat]; done) | simp only [go_sem]) fun hok => ?_
  simp only [go_sem, Nat.reduceBEq, Nat.reduceLT, Nat.reduceLeDiff, Nat.reduceAdd, Nat.reduceMul, Nat.reduceSub, Nat.reduceMod, Nat.reduceDiv, Nat.reduceEqDiff, Int.reduceToNat, reduceIte, reduceCtorEq, Int.reduceLE, Int.reduceLT, Int.reduceEq, Int.reduceNeg, Int.reduceAdd, Int.reduceSub, Int.reduceMul, hg, hgn, hp0, hn65]
  refine callA_false (sheet_E _ _ _ i P (by first | (simp only [go_sem, Nat.reduceBEq, Nat.reduceLT, Nat.reduceLeDiff, Nat.reduceAdd, Nat.reduceMul, Nat.reduceSub, Nat.reduceMod, Nat.reduceDiv, Nat.reduceEqDiff, Int.reduceToNat, reduceIte, reduceCtorEq, Int.reduceLE, Int.reduceLT, Int.reduceEq, Int.reduceNeg, Int.reduceAdd, Int.reduceSub, Int.reduceMul, hs, hi]; done) | (simp only [go_sem, Nat.reduceBEq, Nat.reduceLT, Nat.reduceLeDiff, Nat.reduceAdd, Nat.reduceMul, Nat.reduceSub, Nat.reduceMod, Nat.reduceDiv, Nat.reduceEqDiff, Int.reduceToNat, reduceIte, reduceCtorEq, Int.reduceLE, Int.reduceLT, Int.reduceEq, Int.reduceNeg, Int.reduceAdd, Int.reduceSub, Int.reduceMul, hs, hi]; rfl)) (by omega) _ ?_)
  simp only [go_sem, Nat.reduceBEq, Nat.reduceLT, Nat.reduceLeDiff, Nat.reduceAdd, Nat.reduceMul, Nat.reduceSub, Nat.reduceMod, Nat.reduceDiv, Nat.reduceEqDiff, Int.reduceToNat, reduceIte, reduceCtorEq, Int.reduceLE, Int.reduceLT, Int.reduceEq, Int.reduceNeg, Int.reduceAdd, Int.reduceSub, Int.reduceMul]
  refine callA_false (cells_E _ _ _ n 0 (shS (psh P)) (psh P) W H (by first | (simp only [go_sem, Nat.reduceBEq, Nat.reduceLT, Nat.reduceLeDiff, Nat.reduceAdd, Nat.reduceMul, Nat.reduceSub, Nat.reduceMod, Nat.reduceDiv, Nat.reduceEqDiff, Int.reduceToNat, reduceIte, reduceCtorEq, Int.reduceLE, Int.reduceLT, Int.reduceEq, Int.reduceNeg, Int.reduceAdd, Int.reduceSub, Int.reduceMul]; done) | (simp only [go_sem, Nat.reduceBEq, Nat.reduceLT, Nat.reduceLeDiff, Nat.reduceAdd, Nat.reduceMul, Nat.reduceSub, Nat.reduceMod, Nat.reduceDiv, Nat.reduceEqDiff, Int.reduceToNat, reduceIte, reduceCtorEq, Int.reduceLE, Int.reduceLT, Int.reduceEq, Int.reduceNeg, Int.reduceAdd, Int.reduceSub, Int.reduceMul]; rfl)) (by omega) (shAt_shC (psh_R hR)) hW hH hW8 hH8 _ fun capM hc1 hc2 => ?_)
  have hdm : ∀ q, q < H * W → q % W < 8 ∧ q / W < 8 := fun q hq => by
    have hW0 : 0 < W := Nat.pos_of_ne_zero fun e => by rw [e, Nat.mul_zero] at hq; omega
    have h1 := Nat.mod_lt q hW0
    have h2 := (Nat.div_lt_iff_lt_mul hW0).2 hq
    exact ⟨by omega, by omega⟩
  generalize hMM : H * W = m at *
  simp only [go_sem, Nat.reduceBEq, Nat.reduceLT, Nat.reduceLeDiff, Nat.reduceAdd, Nat.reduceMul, Nat.reduceSub, Nat.reduceMod, Nat.reduceDiv, Nat.reduceEqDiff, Int.reduceToNat, reduceIte, reduceCtorEq, Int.reduceLE, Int.reduceLT, Int.reduceEq, Int.reduceNeg, Int.reduceAdd, Int.reduceSub, Int.reduceMul]
  refine T_lp (ι := { q : Nat // q ≤ m })
    (fun q => ([(0, .ptr g 0), (3, .int .i64 (leftN P O W q.1)), (11, .sl (n + 1) 0 m capM), (12, .int .i64 m), (13, .int .i64 q.1)],
      (n + 1, ⟨m * 2, cellC W, true, none⟩) :: h, n + 2)) (fun q => m - q.1) ⟨0, by omega⟩ ?_ ?_
  · refine Imp.id (by simp) ?_ ?_
    · simp only [go_sem, Nat.reduceBEq, Nat.reduceLT, Nat.reduceLeDiff, Nat.reduceAdd, Nat.reduceMul, Nat.reduceSub, Nat.reduceMod, Nat.reduceDiv, Nat.reduceEqDiff, Int.reduceToNat, reduceIte, reduceCtorEq, Int.reduceLE, Int.reduceLT, Int.reduceEq, Int.reduceNeg, Int.reduceAdd, Int.reduceSub, Int.reduceMul]
      (repeat' apply And.intro) <;> first | omega | rfl | trivial | assumption | skip
    · exact impH.cons0 (hget_hit _ _ _) (by simp) (SegLe.flat (Nat.le_refl _) id (.inl rfl) fun k hk => ⟨rfl, cellC_flat _ _⟩) (impH.base0 hok (by simp) (by simp only [go_sem, Nat.reduceBEq, Nat.reduceLT, Nat.reduceLeDiff, Nat.reduceAdd, Nat.reduceMul, Nat.reduceSub, Nat.reduceMod, Nat.reduceDiv, Nat.reduceEqDiff, Int.reduceToNat, reduceIte, reduceCtorEq, Int.reduceLE, Int.reduceLT, Int.reduceEq, Int.reduceNeg, Int.reduceAdd, Int.reduceSub, Int.reduceMul, HExt_cons]))
  · rintro ⟨q, hq⟩
    have hle := leftN_le P O W q
    simp only [go_sem, Nat.reduceBEq, Nat.reduceLT, Nat.reduceLeDiff, Nat.reduceAdd, Nat.reduceMul, Nat.reduceSub, Nat.reduceMod, Nat.reduceDiv, Nat.reduceEqDiff, Int.reduceToNat, reduceIte, reduceCtorEq, Int.reduceLE, Int.reduceLT, Int.reduceEq, Int.reduceNeg, Int.reduceAdd, Int.reduceSub, Int.reduceMul, decide_eq_true_eq, decide_eq_false_iff_not]
    refine ⟨fun h1 => ?_, fun h1 => ?_⟩
    · have hqm : q < m := by omega
      have r1 : (0 : Int) ≤ q ∧ (q : Int) < m := ⟨by omega, by omega⟩
      have b1 : q * 2 ≤ m * 2 - 2 := by omega
      have b2 : q * 2 + 2 ≤ m * 2 := by omega
      have b3 : 2 ≤ m * 2 := by omega
      have b4 : q * 2 ≤ m * 2 - 1 := by omega
      have b5 : q * 2 + 1 ≤ m * 2 - 1 := by omega
      have b6 : q * 2 + 1 ≤ m * 2 := by omega
      have b7 : 1 ≤ m * 2 := by omega
      obtain ⟨hx8, hy8⟩ := hdm q hqm
      have e0 := cellC_0 W q
      have e1 := cellC_1 W q
      have hsu := leftN_succ P O W q
      have hbB : leftB P O W q = (decide (0 < P.ink ((q / W : Nat) : Int) ((q % W : Nat) : Int)) && !O ((q / W : Nat) : Int) ((q % W : Nat) : Int)) := rfl
      generalize hyy : q / W = y at *
      generalize hxx : q % W = x at *
      have c1 : (0 : Int) ≤ (x : Int) ∧ (x : Int) < 8 := ⟨by omega, by omega⟩
      have c3 : (0 : Int) ≤ (y : Int) ∧ (y : Int) < 8 := ⟨by omega, by omega⟩
      have hat := hG.at c3.1 c3.2 c1.1 c1.2
      simp only [Int.toNat_natCast] at hat
      have d1 : 1 + y * 8 + x ≤ s.n - 1 := by omega
      have d2 : 1 + y * 8 + x + 1 ≤ s.n := by omega
      simp only [go_sem, Nat.reduceBEq, Nat.reduceLT, Nat.reduceLeDiff, Nat.reduceAdd, Nat.reduceMul, Nat.reduceSub, Nat.reduceMod, Nat.reduceDiv, Nat.reduceEqDiff, Int.reduceToNat, reduceIte, reduceCtorEq, Int.reduceLE, Int.reduceLT, Int.reduceEq, Int.reduceNeg, Int.reduceAdd, Int.reduceSub, Int.reduceMul, r1, b1, b2, b3, b4, b5, b6, b7, e0, e1]
      refine T_drawG hti 20 [] (.b 0 0 (.b 0 1 (.b 0 2 (.b 0 3 (.b 0 4 (.b 1 5 (.b 0 6 (.b 0 7 (.b 0 8 (.b 0 9 (.b 0 10 (.b 0 11 (.b 0 12 (.b 0 13 (.b 0 14 (.b 0 15 (.b 0 16 (.b 0 17 (.b 0 18 (.b 0 19 (.f) .o) .o) .o) .o) .o) .o) .o) .o) .o) .o) .o) .o) .o) .o) .o) .o) .o) .o) .o) .o) _ _ (by kernel_rfl) (by kernel_rfl) ?_
      simp only [go_sem, Nat.reduceBEq, Nat.reduceLT, Nat.reduceLeDiff, Nat.reduceAdd, Nat.reduceMul, Nat.reduceSub, Nat.reduceMod, Nat.reduceDiv, Nat.reduceEqDiff, Int.reduceToNat, reduceIte, reduceCtorEq, Int.reduceLE, Int.reduceLT, Int.reduceEq, Int.reduceNeg, Int.reduceAdd, Int.reduceSub, Int.reduceMul, hg, hgn, hp0, hn65]
      refine CallQ.F _ (fun h' n' hn hx => shown_Q _ h' n' i P x y (hx _ (by omega) _ (by first | (simp only [go_sem, Nat.reduceBEq, Nat.reduceLT, Nat.reduceLeDiff, Nat.reduceAdd, Nat.reduceMul, Nat.reduceSub, Nat.reduceMod, Nat.reduceDiv, Nat.reduceEqDiff, Int.reduceToNat, reduceIte, reduceCtorEq, Int.reduceLE, Int.reduceLT, Int.reduceEq, Int.reduceNeg, Int.reduceAdd, Int.reduceSub, Int.reduceMul, hs, hi]; done) | (simp only [go_sem, Nat.reduceBEq, Nat.reduceLT, Nat.reduceLeDiff, Nat.reduceAdd, Nat.reduceMul, Nat.reduceSub, Nat.reduceMod, Nat.reduceDiv, Nat.reduceEqDiff, Int.reduceToNat, reduceIte, reduceCtorEq, Int.reduceLE, Int.reduceLT, Int.reduceEq, Int.reduceNeg, Int.reduceAdd, Int.reduceSub, Int.reduceMul, hs, hi]; rfl))) (by omega) c1.1 c1.2 c3.1 c3.2) ?_
      by_cases hp : 0 < P.ink (y : Int) (x : Int)
      rotate_left
      · have hbF : leftB P O W q = false := by rw [hbB]; simp [hp]
        rw [hbF, if_neg (by simp), Nat.add_zero] at hsu
        simp only [go_sem, Nat.reduceBEq, Nat.reduceLT, Nat.reduceLeDiff, Nat.reduceAdd, Nat.reduceMul, Nat.reduceSub, Nat.reduceMod, Nat.reduceDiv, Nat.reduceEqDiff, Int.reduceToNat, reduceIte, reduceCtorEq, Int.reduceLE, Int.reduceLT, Int.reduceEq, Int.reduceNeg, Int.reduceAdd, Int.reduceSub, Int.reduceMul, hg, hgn, hn65, c1, c3, hat, d1, d2, hp]
        refine ⟨⟨q + 1, by omega⟩, by show m - (q + 1) < m - q; omega, ?_⟩
        refine Imp.id (by simp) ?_ (impH.cons0 (by first | (simp only [go_sem, Nat.reduceBEq, Nat.reduceLT, Nat.reduceLeDiff, Nat.reduceAdd, Nat.reduceMul, Nat.reduceSub, Nat.reduceMod, Nat.reduceDiv, Nat.reduceEqDiff, Int.reduceToNat, reduceIte, reduceCtorEq, Int.reduceLE, Int.reduceLT, Int.reduceEq, Int.reduceNeg, Int.reduceAdd, Int.reduceSub, Int.reduceMul]; done) | (simp only [go_sem, Nat.reduceBEq, Nat.reduceLT, Nat.reduceLeDiff, Nat.reduceAdd, Nat.reduceMul, Nat.reduceSub, Nat.reduceMod, Nat.reduceDiv, Nat.reduceEqDiff, Int.reduceToNat, reduceIte, reduceCtorEq, Int.reduceLE, Int.reduceLT, Int.reduceEq, Int.reduceNeg, Int.reduceAdd, Int.reduceSub, Int.reduceMul]; rfl)) (by simp) (SegLe.flat (Nat.le_refl _) id (.inr rfl) fun k hk => ⟨rfl, cellC_flat _ _⟩) (impH.base0 hok (by simp) (by simp only [go_sem, Nat.reduceBEq, Nat.reduceLT, Nat.reduceLeDiff, Nat.reduceAdd, Nat.reduceMul, Nat.reduceSub, Nat.reduceMod, Nat.reduceDiv, Nat.reduceEqDiff, Int.reduceToNat, reduceIte, reduceCtorEq, Int.reduceLE, Int.reduceLT, Int.reduceEq, Int.reduceNeg, Int.reduceAdd, Int.reduceSub, Int.reduceMul, HExt_cons])))
        simp only [go_sem, Nat.reduceBEq, Nat.reduceLT, Nat.reduceLeDiff, Nat.reduceAdd, Nat.reduceMul, Nat.reduceSub, Nat.reduceMod, Nat.reduceDiv, Nat.reduceEqDiff, Int.reduceToNat, reduceIte, reduceCtorEq, Int.reduceLE, Int.reduceLT, Int.reduceEq, Int.reduceNeg, Int.reduceAdd, Int.reduceSub, Int.reduceMul, hsu, w64 (n := (q : Int) + 1) (by omega), w64 (n := (leftN P O W q : Int) + 1) (by omega), Int.natCast_add, Int.natCast_one]
        (repeat' apply And.intro) <;> first | omega | rfl | trivial | assumption | skip
      cases ho : O (y : Int) (x : Int)
      · have hbF : leftB P O W q = true := by rw [hbB, ho]; simp [hp]
        rw [hbF, if_pos rfl] at hsu
        rw [ho] at hat
        simp only [go_sem, Nat.reduceBEq, Nat.reduceLT, Nat.reduceLeDiff, Nat.reduceAdd, Nat.reduceMul, Nat.reduceSub, Nat.reduceMod, Nat.reduceDiv, Nat.reduceEqDiff, Int.reduceToNat, reduceIte, reduceCtorEq, Int.reduceLE, Int.reduceLT, Int.reduceEq, Int.reduceNeg, Int.reduceAdd, Int.reduceSub, Int.reduceMul, hg, hgn, hn65, c1, c3, hat, d1, d2, hp]
        refine ⟨⟨q + 1, by omega⟩, by show m - (q + 1) < m - q; omega, ?_⟩
        refine Imp.id (by simp) ?_ (impH.cons0 (by first | (simp only [go_sem, Nat.reduceBEq, Nat.reduceLT, Nat.reduceLeDiff, Nat.reduceAdd, Nat.reduceMul, Nat.reduceSub, Nat.reduceMod, Nat.reduceDiv, Nat.reduceEqDiff, Int.reduceToNat, reduceIte, reduceCtorEq, Int.reduceLE, Int.reduceLT, Int.reduceEq, Int.reduceNeg, Int.reduceAdd, Int.reduceSub, Int.reduceMul]; done) | (simp only [go_sem, Nat.reduceBEq, Nat.reduceLT, Nat.reduceLeDiff, Nat.reduceAdd, Nat.reduceMul, Nat.reduceSub, Nat.reduceMod, Nat.reduceDiv, Nat.reduceEqDiff, Int.reduceToNat, reduceIte, reduceCtorEq, Int.reduceLE, Int.reduceLT, Int.reduceEq, Int.reduceNeg, Int.reduceAdd, Int.reduceSub, Int.reduceMul]; rfl)) (by simp) (SegLe.flat (Nat.le_refl _) id (.inr rfl) fun k hk => ⟨rfl, cellC_flat _ _⟩) (impH.base0 hok (by simp) (by simp only [go_sem, Nat.reduceBEq, Nat.reduceLT, Nat.reduceLeDiff, Nat.reduceAdd, Nat.reduceMul, Nat.reduceSub, Nat.reduceMod, Nat.reduceDiv, Nat.reduceEqDiff, Int.reduceToNat, reduceIte, reduceCtorEq, Int.reduceLE, Int.reduceLT, Int.reduceEq, Int.reduceNeg, Int.reduceAdd, Int.reduceSub, Int.reduceMul, HExt_cons])))
        simp only [go_sem, Nat.reduceBEq, Nat.reduceLT, Nat.reduceLeDiff, Nat.reduceAdd, Nat.reduceMul, Nat.reduceSub, Nat.reduceMod, Nat.reduceDiv, Nat.reduceEqDiff, Int.reduceToNat, reduceIte, reduceCtorEq, Int.reduceLE, Int.reduceLT, Int.reduceEq, Int.reduceNeg, Int.reduceAdd, Int.reduceSub, Int.reduceMul, hsu, w64 (n := (q : Int) + 1) (by omega), w64 (n := (leftN P O W q : Int) + 1) (by omega), Int.natCast_add, Int.natCast_one]
        (repeat' apply And.intro) <;> first | omega | rfl | trivial | assumption | skip
      · have hbF : leftB P O W q = false := by rw [hbB, ho]; simp
        rw [hbF, if_neg (by simp), Nat.add_zero] at hsu
        rw [ho] at hat
        simp only [go_sem, Nat.reduceBEq, Nat.reduceLT, Nat.reduceLeDiff, Nat.reduceAdd, Nat.reduceMul, Nat.reduceSub, Nat.reduceMod, Nat.reduceDiv, Nat.reduceEqDiff, Int.reduceToNat, reduceIte, reduceCtorEq, Int.reduceLE, Int.reduceLT, Int.reduceEq, Int.reduceNeg, Int.reduceAdd, Int.reduceSub, Int.reduceMul, hg, hgn, hn65, c1, c3, hat, d1, d2, hp]
        refine ⟨⟨q + 1, by omega⟩, by show m - (q + 1) < m - q; omega, ?_⟩
        refine Imp.id (by simp) ?_ (impH.cons0 (by first | (simp only [go_sem, Nat.reduceBEq, Nat.reduceLT, Nat.reduceLeDiff, Nat.reduceAdd, Nat.reduceMul, Nat.reduceSub, Nat.reduceMod, Nat.reduceDiv, Nat.reduceEqDiff, Int.reduceToNat, reduceIte, reduceCtorEq, Int.reduceLE, Int.reduceLT, Int.reduceEq, Int.reduceNeg, Int.reduceAdd, Int.reduceSub, Int.reduceMul]; done) | (simp only [go_sem, Nat.reduceBEq, Nat.reduceLT, Nat.reduceLeDiff, Nat.reduceAdd, Nat.reduceMul, Nat.reduceSub, Nat.reduceMod, Nat.reduceDiv, Nat.reduceEqDiff, Int.reduceToNat, reduceIte, reduceCtorEq, Int.reduceLE, Int.reduceLT, Int.reduceEq, Int.reduceNeg, Int.reduceAdd, Int.reduceSub, Int.reduceMul]; rfl)) (by simp) (SegLe.flat (Nat.le_refl _) id (.inr rfl) fun k hk => ⟨rfl, cellC_flat _ _⟩) (impH.base0 hok (by simp) (by simp only [go_sem, Nat.reduceBEq, Nat.reduceLT, Nat.reduceLeDiff, Nat.reduceAdd, Nat.reduceMul, Nat.reduceSub, Nat.reduceMod, Nat.reduceDiv, Nat.reduceEqDiff, Int.reduceToNat, reduceIte, reduceCtorEq, Int.reduceLE, Int.reduceLT, Int.reduceEq, Int.reduceNeg, Int.reduceAdd, Int.reduceSub, Int.reduceMul, HExt_cons])))
        simp only [go_sem, Nat.reduceBEq, Nat.reduceLT, Nat.reduceLeDiff, Nat.reduceAdd, Nat.reduceMul, Nat.reduceSub, Nat.reduceMod, Nat.reduceDiv, Nat.reduceEqDiff, Int.reduceToNat, reduceIte, reduceCtorEq, Int.reduceLE, Int.reduceLT, Int.reduceEq, Int.reduceNeg, Int.reduceAdd, Int.reduceSub, Int.reduceMul, hsu, w64 (n := (q : Int) + 1) (by omega), w64 (n := (leftN P O W q : Int) + 1) (by omega), Int.natCast_add, Int.natCast_one]
        (repeat' apply And.intro) <;> first | omega | rfl | trivial | assumption | skip
    · have hq2 : q = m := by omega
      subst hq2
      simp only [go_sem, Nat.reduceBEq, Nat.reduceLT, Nat.reduceLeDiff, Nat.reduceAdd, Nat.reduceMul, Nat.reduceSub, Nat.reduceMod, Nat.reduceDiv, Nat.reduceEqDiff, Int.reduceToNat, reduceIte, reduceCtorEq, Int.reduceLE, Int.reduceLT, Int.reduceEq, Int.reduceNeg, Int.reduceAdd, Int.reduceSub, Int.reduceMul]
end
end Go.Proofs.Ytodgbpkdanefaaa.V

/- Peeling, as plain data; lists of drops turned round: both walks. -/
namespace Go.Proofs.Ytodgbpkdanefaaa.V
/-- The drops that can be the last. -/
def frontL (P : Pc) (W H : Nat) (O : Gr) : List Dr := (dropsL W H).filter (lastP P O)
def peelIt (P : Pc) (W H : Nat) : Nat → Gr × List Dr
  | 0 => (off, [])
  | j + 1 => match (frontL P W H (peelIt P W H j).1).head? with
    | none => peelIt P W H j
    | some d => (openBy (peelIt P W H j).1 (covL P.wide P.high d.1 d.2.1), (peelIt P W H j).2 ++ [d])
theorem peel_some {P : Pc} {W H j : Nat} {d : Dr} {R : List Dr} (h : frontL P W H (peelIt P W H j).1 = d :: R) : peelIt P W H (j + 1) = (openBy (peelIt P W H j).1 (covL P.wide P.high d.1 d.2.1), (peelIt P W H j).2 ++ [d]) := by
  rw [peelIt, h]; rfl
theorem peel_stop {P : Pc} {W H j : Nat} (h : frontL P W H (peelIt P W H j).1 = []) : ∀ k, peelIt P W H (j + k) = peelIt P W H j
  | 0 => rfl
  | k + 1 => by
    have e := peel_stop h k
    rw [← Nat.add_assoc, peelIt, e, h]; rfl
theorem filt_le {l : List Nat} {p q : Nat → Bool} (h : ∀ a, p a = true → q a = true) : (l.filter p).length ≤ (l.filter q).length := by
  induction l with
  | nil => simp
  | cons x l ih =>
    rw [List.filter_cons, List.filter_cons]
    split
    · rename_i hp; rw [if_pos (h x hp)]; simpa using ih
    · split
      · simp only [List.length_cons]; omega
      · exact ih
theorem filt_lt {l : List Nat} {p q : Nat → Bool} (h : ∀ a, p a = true → q a = true) {a : Nat} (ha : a ∈ l) (hq : q a = true) (hp : p a = false) : (l.filter p).length < (l.filter q).length := by
  induction l with
  | nil => cases ha
  | cons x l ih =>
    rw [List.filter_cons, List.filter_cons]
    rcases List.mem_cons.1 ha with rfl | hm
    · rw [if_neg (by rw [hp]; simp), if_pos hq]
      have := filt_le (l := l) h
      simp only [List.length_cons]; omega
    · have := ih hm
      split
      · rename_i hp; rw [if_pos (h x hp)]; simpa using this
      · split
        · simp only [List.length_cons]; omega
        · exact this
/-- How many cells are closed. -/
def cntO (O : Gr) : Nat := ((List.range 64).filter fun j => !O ((j / 8 : Nat) : Int) ((j % 8 : Nat) : Int)).length
theorem cntO_le (O : Gr) : cntO O ≤ 64 := Nat.le_trans (List.length_filter_le _ _) (by simp)
theorem covL_in {W H x y : Int} {c : Int × Int} (hm : c ∈ covL W H x y) : (0 ≤ c.1 ∧ c.1 < W) ∧ 0 ≤ c.2 ∧ c.2 < H := by
  have := (List.mem_filter.1 hm).2
  simp only [Bool.and_eq_true, decide_eq_true_eq] at this
  omega
theorem cnt_peel {P : Pc} (hP : PcOk P) {O : Gr} {d : Dr} (h : lastP P O d = true) : cntO (openBy O (covL P.wide P.high d.1 d.2.1)) < cntO O := by
  have hs8 := hP.1
  unfold lastP peelsB at h
  simp only [Bool.and_eq_true, decide_eq_true_eq] at h
  obtain ⟨c, hc⟩ := List.exists_mem_of_length_pos h.2
  obtain ⟨hc1, hc2⟩ := List.mem_filter.1 hc
  obtain ⟨⟨x0, x1⟩, y0, y1⟩ := covL_in hc1
  have ey : ((c.2.toNat * 8 + c.1.toNat) / 8 : Nat) = c.2.toNat := by omega
  have ex : ((c.2.toNat * 8 + c.1.toNat) % 8 : Nat) = c.1.toNat := by omega
  unfold cntO
  refine filt_lt (a := c.2.toNat * 8 + c.1.toNat) (fun a ha => ?_) (List.mem_range.2 (by omega)) ?_ ?_
  · unfold openBy at ha
    simp only [Bool.not_or, Bool.and_eq_true] at ha
    exact ha.1
  · rw [ey, ex, nat_of _ y0, nat_of _ x0]; exact hc2
  · rw [ey, ex, nat_of _ y0, nat_of _ x0]
    unfold openBy
    rw [decide_eq_true hc1, Bool.or_true]; rfl
def PeelInv (P : Pc) (W H j : Nat) : Prop := j + cntO (peelIt P W H j).1 ≤ 64 ∧ (peelIt P W H j).2.length = j
theorem inv_0 (P : Pc) (W H : Nat) : PeelInv P W H 0 := ⟨by rw [Nat.zero_add]; exact cntO_le _, rfl⟩
theorem inv_succ {P : Pc} (hP : PcOk P) {W H j : Nat} {d : Dr} {R : List Dr} (h : frontL P W H (peelIt P W H j).1 = d :: R) (hi : PeelInv P W H j) : PeelInv P W H (j + 1) := by
  have hl : lastP P (peelIt P W H j).1 d = true := (List.mem_filter.1 (show d ∈ frontL P W H (peelIt P W H j).1 by rw [h]; exact List.mem_cons_self)).2
  have := cnt_peel hP hl
  unfold PeelInv
  rw [peel_some h, List.length_append, hi.2]
  have := hi.1
  exact ⟨by simp only; omega, rfl⟩
def peelF (P : Pc) (W H : Nat) : Gr × List Dr := peelIt P W H 64
theorem inv_stop {P : Pc} {W H j : Nat} (h : frontL P W H (peelIt P W H j).1 = []) (hi : PeelInv P W H j) : peelIt P W H j = peelF P W H := by
  have := hi.1
  have e := peel_stop h (64 - j)
  rw [show j + (64 - j) = 64 by omega] at e
  exact e.symm
theorem front_at {P : Pc} {W H : Nat} {O : Gr} {r : Nat} (hr : r < (dropsL W H).length) (h1 : lastP P O ((dropsL W H).getD r (0, 0, 0)) = true) (h0 : ∀ j, j < r → lastP P O ((dropsL W H).getD j (0, 0, 0)) = false) : ∃ R, frontL P W H O = (dropsL W H).getD r (0, 0, 0) :: R := by
  refine ⟨((dropsL W H).drop (r + 1)).filter (lastP P O), ?_⟩
  unfold frontL
  have e1 : (dropsL W H) = (dropsL W H).take r ++ (dropsL W H).getD r (0, 0, 0) :: (dropsL W H).drop (r + 1) := by
    rw [List.getD_eq_getElem?_getD, List.getElem?_eq_getElem hr, Option.getD_some, ← List.drop_eq_getElem_cons hr, List.take_append_drop]
  have e2 : ((dropsL W H).take r).filter (lastP P O) = [] := by
    rw [List.filter_eq_nil_iff]
    intro a ha
    obtain ⟨k, hk, rfl⟩ := List.mem_iff_getElem.1 ha
    simp only [List.length_take] at hk
    have := h0 k (by omega)
    rw [List.getD_eq_getElem?_getD, List.getElem?_eq_getElem (by omega)] at this
    simpa using this
  conv => lhs; rw [e1]
  rw [List.filter_append, e2, List.nil_append, List.filter_cons, if_pos h1]
theorem front_none {P : Pc} {W H : Nat} {O : Gr} (h : ∀ j, j < (dropsL W H).length → lastP P O ((dropsL W H).getD j (0, 0, 0)) = false) : frontL P W H O = [] := by
  unfold frontL
  rw [List.filter_eq_nil_iff]
  intro a ha
  obtain ⟨k, hk, rfl⟩ := List.mem_iff_getElem.1 ha
  have := h k hk
  rw [List.getD_eq_getElem?_getD, List.getElem?_eq_getElem hk] at this
  simpa using this
theorem rev_getD (D : List Dr) {q : Nat} (h : q < D.length) : D.reverse.getD q (0, 0, 0) = D.getD (D.length - 1 - q) (0, 0, 0) := by
  rw [List.getD_eq_getElem?_getD, List.getD_eq_getElem?_getD, List.getElem?_reverse h]
theorem dropsC_z (D : List Dr) (q e : Nat) (he : e < 3) : dropsC D (q * 3 + e) = cl [.int .i8 (D.getD q (0, 0, 0)).1, .int .i8 (D.getD q (0, 0, 0)).2.1, .int .u8 (D.getD q (0, 0, 0)).2.2] e := by
  rcases (by omega : e = 0 ∨ e = 1 ∨ e = 2) with rfl | rfl | rfl
  · exact dropsC_0 D q
  · exact dropsC_1 D q
  · exact dropsC_2 D q
section
variable (cx : Cx) (h : List (Nat × Seg)) (n : Nat)
theorem back7_E (j cap : Nat) (D : List Dr) (s : Seg) (hs : hget h j = some s) (hj : j < n) (hD : DrAt s D) (hm9 : D.length ≤ 1000) (K : HK)
    (hK : ∀ cap, K (.sl n 0 D.reverse.length cap) ((n, ⟨D.reverse.length * 3, dropsC D.reverse, true, none⟩) :: h) (n + 1)) :
    CallE Try.prog cx 73 [.sl j 0 D.length cap] h n K := by
  refine CallE.dropsE D.reverse hK ?_
  have hn := hD.1
  have hRl : D.reverse.length = D.length := List.length_reverse
  refine callE_of_T (P := Try.prog) hti (nt := 21) (rs := [.tmp 2]) rfl rfl Try.call73 Try.func73 rfl _ (by simp only [go_sem, and_self]) (Nat.le_of_ble_eq_true rfl) _ fun hok => ?_
  simp only [go_sem, Nat.reduceBEq, Nat.reduceLT, Nat.reduceLeDiff, Nat.reduceAdd, Nat.reduceMul, Nat.reduceSub, Nat.reduceMod, Nat.reduceDiv, Nat.reduceEqDiff, Int.reduceToNat, reduceIte, reduceCtorEq, Int.reduceLE, Int.reduceLT, Int.reduceEq, Int.reduceNeg, Int.reduceAdd, Int.reduceSub, Int.reduceMul]
  refine T_lp (ι := { p : Nat × Nat // p.1 ≤ D.length ∧ p.1 ≤ p.2 ∧ p.2 ≤ maxLen })
    (fun p => ([(0, .sl j 0 D.length cap), (3, .sl n 0 p.1.1 p.1.2), (4, .int .i64 ((D.length : Int) - 1 - p.1.1))], (n, ⟨p.1.1 * 3, dropsC D.reverse, true, some (44, p.1.2 * 3)⟩) :: h, n + 1)) (fun p => D.length - p.1.1) ⟨(0, 0), by simp⟩ ?_ ?_
  · refine Imp.id (by simp) ?_ ?_
    · simp only [go_sem, Nat.reduceBEq, Nat.reduceLT, Nat.reduceLeDiff, Nat.reduceAdd, Nat.reduceMul, Nat.reduceSub, Nat.reduceMod, Nat.reduceDiv, Nat.reduceEqDiff, Int.reduceToNat, reduceIte, reduceCtorEq, Int.reduceLE, Int.reduceLT, Int.reduceEq, Int.reduceNeg, Int.reduceAdd, Int.reduceSub, Int.reduceMul, w64 (n := (D.length : Int) - 1) (by omega), Int.natCast_zero, Int.sub_zero]
      (repeat' apply And.intro) <;> first | omega | rfl | trivial | assumption | skip
    · exact impH.cons0 (hget_hit _ _ _) (by simp) (SegLe.flat (by simp) id (.inr (by simp)) fun k hk => by simp at hk) (impH.base0 hok (by simp) (by simp only [go_sem, Nat.reduceBEq, Nat.reduceLT, Nat.reduceLeDiff, Nat.reduceAdd, Nat.reduceMul, Nat.reduceSub, Nat.reduceMod, Nat.reduceDiv, Nat.reduceEqDiff, Int.reduceToNat, reduceIte, reduceCtorEq, Int.reduceLE, Int.reduceLT, Int.reduceEq, Int.reduceNeg, Int.reduceAdd, Int.reduceSub, Int.reduceMul, HExt_cons]))
  · rintro ⟨⟨q, cap1⟩, hq, hcap, hmx⟩
    simp only at hq hcap hmx
    simp only [go_sem, Nat.reduceBEq, Nat.reduceLT, Nat.reduceLeDiff, Nat.reduceAdd, Nat.reduceMul, Nat.reduceSub, Nat.reduceMod, Nat.reduceDiv, Nat.reduceEqDiff, Int.reduceToNat, reduceIte, reduceCtorEq, Int.reduceLE, Int.reduceLT, Int.reduceEq, Int.reduceNeg, Int.reduceAdd, Int.reduceSub, Int.reduceMul, decide_eq_true_eq, decide_eq_false_iff_not]
    refine ⟨fun h1 => ?_, fun h1 => ?_⟩
    · obtain ⟨m, hm⟩ : ∃ m : Nat, D.length = q + 1 + m := ⟨D.length - q - 1, by omega⟩
      have hv : (D.length : Int) - 1 - q = (m : Int) := by omega
      have r1 : (0 : Int) ≤ m ∧ (m : Int) < D.length := ⟨by omega, by omega⟩
      have b1 : m * 3 ≤ s.n - 3 := by omega
      have b3 : 3 ≤ s.n := by omega
      have b6 : m * 3 + 3 ≤ s.n := by omega
      have hd2 : hdel h n = h := hok.del (by omega)
      simp only [go_sem, Nat.reduceBEq, Nat.reduceLT, Nat.reduceLeDiff, Nat.reduceAdd, Nat.reduceMul, Nat.reduceSub, Nat.reduceMod, Nat.reduceDiv, Nat.reduceEqDiff, Int.reduceToNat, reduceIte, reduceCtorEq, Int.reduceLE, Int.reduceLT, Int.reduceEq, Int.reduceNeg, Int.reduceAdd, Int.reduceSub, Int.reduceMul, hv, hs, hj, r1, b1, b3, b6, hD.c0 (j := m) (by omega), hD.c1 (j := m) (by omega), hD.c2 (j := m) (by omega), hd2]
      refine ⟨⟨hcap, hmx, by omega⟩, fun cap' h3 h4 => ⟨⟨(q + 1, cap'), by omega, h3, h4⟩, by show D.length - (q + 1) < D.length - q; omega, ?_⟩⟩
      refine Imp.of1 n (n + 2) (by simp) (by omega) (by simp) ?_ ?_
      · simp only [go_sem, Nat.reduceBEq, Nat.reduceLT, Nat.reduceLeDiff, Nat.reduceAdd, Nat.reduceMul, Nat.reduceSub, Nat.reduceMod, Nat.reduceDiv, Nat.reduceEqDiff, Int.reduceToNat, reduceIte, reduceCtorEq, Int.reduceLE, Int.reduceLT, Int.reduceEq, Int.reduceNeg, Int.reduceAdd, Int.reduceSub, Int.reduceMul, hj, w64 (n := (m : Int) - 1) (by omega), show ((D.length : Int) - 1 - ((q + 1 : Nat) : Int)) = (m : Int) - 1 by omega]
        (repeat' apply And.intro) <;> first | omega | rfl | trivial | assumption | skip
      · refine impH.cons1 (hget_hit _ _ _) (by simp) (SegLe.flat (Nat.le_refl _) id (.inr rfl) fun z hz => ⟨?_, dropsC_flat _ _⟩) (impH.base1 hok (by simp) (Nat.le_refl n) (by simp only [go_sem, Nat.reduceBEq, Nat.reduceLT, Nat.reduceLeDiff, Nat.reduceAdd, Nat.reduceMul, Nat.reduceSub, Nat.reduceMod, Nat.reduceDiv, Nat.reduceEqDiff, Int.reduceToNat, reduceIte, reduceCtorEq, Int.reduceLE, Int.reduceLT, Int.reduceEq, Int.reduceNeg, Int.reduceAdd, Int.reduceSub, Int.reduceMul, HExt_cons]))
        have hz : z < (q + 1) * 3 := hz
        show both (q * 3) (dropsC D.reverse) (news _ 0) z = dropsC D.reverse z
        unfold both news
        split
        · rfl
        · obtain ⟨e, rfl⟩ : ∃ e, z = q * 3 + e := ⟨z - q * 3, by omega⟩
          rw [Nat.add_sub_cancel_left, Nat.zero_add, dropsC_z _ _ _ (by omega), rev_getD D (by omega), show D.length - 1 - q = m by omega]
          rcases (by omega : e = 0 ∨ e = 1 ∨ e = 2) with rfl | rfl | rfl <;> rfl
    · have hq2 : q = D.length := by omega
      subst hq2
      rw [hRl]
      exact ⟨n, cap1, Nat.le_refl _, rfl, _, (by first | (simp only [go_sem, Nat.reduceBEq, Nat.reduceLT, Nat.reduceLeDiff, Nat.reduceAdd, Nat.reduceMul, Nat.reduceSub, Nat.reduceMod, Nat.reduceDiv, Nat.reduceEqDiff, Int.reduceToNat, reduceIte, reduceCtorEq, Int.reduceLE, Int.reduceLT, Int.reduceEq, Int.reduceNeg, Int.reduceAdd, Int.reduceSub, Int.reduceMul]; done) | (simp only [go_sem, Nat.reduceBEq, Nat.reduceLT, Nat.reduceLeDiff, Nat.reduceAdd, Nat.reduceMul, Nat.reduceSub, Nat.reduceMod, Nat.reduceDiv, Nat.reduceEqDiff, Int.reduceToNat, reduceIte, reduceCtorEq, Int.reduceLE, Int.reduceLT, Int.reduceEq, Int.reduceNeg, Int.reduceAdd, Int.reduceSub, Int.reduceMul]; rfl)), rfl, rfl, fun _ _ => rfl⟩
/-- A list with its first and last q turned round. -/
def revL (D : List Dr) (q : Nat) : List Dr := (List.range D.length).map fun z => if z < q ∨ D.length ≤ z + q then D.getD (D.length - 1 - z) (0, 0, 0) else D.getD z (0, 0, 0)
theorem revL_len (D : List Dr) (q : Nat) : (revL D q).length = D.length := by simp [revL]
theorem revL_get (D : List Dr) (q z : Nat) (h : z < D.length) : (revL D q).getD z (0, 0, 0) = if z < q ∨ D.length ≤ z + q then D.getD (D.length - 1 - z) (0, 0, 0) else D.getD z (0, 0, 0) := by simp [revL, List.getD_eq_getElem?_getD, h]
theorem revL_z (D : List Dr) (q z : Nat) (h : z < D.length * 3) : dropsC (revL D q) z = cl [.int .i8 ((revL D q).getD (z / 3) (0, 0, 0)).1, .int .i8 ((revL D q).getD (z / 3) (0, 0, 0)).2.1, .int .u8 ((revL D q).getD (z / 3) (0, 0, 0)).2.2] (z % 3) := by
  have := dropsC_z (revL D q) (z / 3) (z % 3) (by omega)
  rwa [show z / 3 * 3 + z % 3 = z by omega] at this
end
end Go.Proofs.Ytodgbpkdanefaaa.V

/- A list of drops turned round in place. -/
namespace Go.Proofs.Ytodgbpkdanefaaa.V
theorem revL_0 (D : List Dr) {z : Nat} (h : z < D.length * 3) : dropsC (revL D 0) z = dropsC D z := by
  obtain ⟨q, e, he, rfl⟩ : ∃ q e, e < 3 ∧ z = q * 3 + e := ⟨z / 3, z % 3, by omega, by omega⟩
  rw [dropsC_z _ _ _ he, dropsC_z _ _ _ he, revL_get D 0 q (by omega), if_neg (by omega)]
theorem revL_end (D : List Dr) {q z : Nat} (hq : D.length ≤ 2 * q + 1) (h : z < D.length * 3) : dropsC (revL D q) z = dropsC D.reverse z := by
  obtain ⟨j, e, he, rfl⟩ : ∃ j e, e < 3 ∧ z = j * 3 + e := ⟨z / 3, z % 3, by omega, by omega⟩
  rw [dropsC_z _ _ _ he, dropsC_z _ _ _ he, revL_get D q j (by omega), rev_getD D (by omega)]
  split
  · rfl
  · rename_i hc
    rw [show D.length - 1 - j = j by omega]
theorem revL_step (D : List Dr) {q z : Nat} (hq : 2 * q + 1 < D.length) (h : z < D.length * 3) :
    putD (D.length - 1 - q) (D.getD q (0, 0, 0)) (putD q (D.getD (D.length - 1 - q) (0, 0, 0)) (dropsC (revL D q))) z = dropsC (revL D (q + 1)) z := by
  obtain ⟨j, e, he, rfl⟩ : ∃ j e, e < 3 ∧ z = j * 3 + e := ⟨z / 3, z % 3, by omega, by omega⟩
  by_cases h1 : j = D.length - 1 - q
  · subst h1
    rw [putD_in _ _ _ _ he, dropsC_z _ _ _ he, revL_get D (q + 1) _ (by omega), if_pos (by omega), show D.length - 1 - (D.length - 1 - q) = q by omega]
  · rw [putD_o _ _ _ _ (by omega)]
    by_cases h2 : j = q
    · subst h2
      rw [putD_in _ _ _ _ he, dropsC_z _ _ _ he, revL_get D (j + 1) _ (by omega), if_pos (by omega)]
    · rw [putD_o _ _ _ _ (by omega), dropsC_z _ _ _ he, dropsC_z _ _ _ he, revL_get D (q + 1) _ (by omega), revL_get D q _ (by omega)]
      by_cases h3 : j < q ∨ D.length ≤ j + q
      · rw [if_pos h3, if_pos (by omega)]
      · rw [if_neg h3, if_neg (by omega)]
section
variable (cx : Cx) (h : List (Nat × Seg)) (n : Nat)
theorem reverseDr_E (i cap : Nat) (D : List Dr) (own : Option (Nat × Nat)) (hs : hget h i = some ⟨D.length * 3, dropsC D, true, own⟩) (hi : i < n) (hm9 : D.length ≤ 1000) (K : HK)
    (hK : K (.tup 0 (cl [])) (hset h i ⟨D.length * 3, dropsC D.reverse, true, own⟩) n) :
    CallE Try.prog cx 79 [.sl i 0 D.length cap] h n K := by
  have hgi : ∀ t, hget (hset h i t) i = some t := hget_hset_self hs
  have hbut : ∀ t, HBut i n h (hset h i t) := fun t j hj hji u hu => by rw [hget_hset, if_neg (Ne.symm hji)]; exact hu
  refine CallE.imp0 (K := fun r h' n' => n ≤ n' ∧ r = .tup 0 (cl []) ∧ HBut i n h h' ∧ ∃ t, hget h' i = some t ∧ t.n = D.length * 3 ∧ t.rw = true ∧ t.own = own ∧ ∀ k, k < D.length * 3 → t.c k = dropsC D.reverse k) ?_ ?_
  rotate_left
  · rintro hok r h' n' ⟨h0, rfl, hx, t, ht, h1, h2, h3, h4⟩
    exact ⟨.tup 0 (cl []), _, n, Nat.le_refl _, by simp only [ren_nil], by simp only [go_sem, Nat.reduceBEq, Nat.reduceLT, Nat.reduceLeDiff, Nat.reduceAdd, Nat.reduceMul, Nat.reduceSub, Nat.reduceMod, Nat.reduceDiv, Nat.reduceEqDiff, Int.reduceToNat, reduceIte, reduceCtorEq, Int.reduceLE, Int.reduceLT, Int.reduceEq, Int.reduceNeg, Int.reduceAdd, Int.reduceSub, Int.reduceMul], impH.set0 hok (Nat.le_refl n) hs hx ht (SegLe.flat (by rw [h1]; exact Nat.le_refl _) (fun _ => h2) (.inr h3.symm) fun k hk => ⟨h4 k hk, dropsC_flat _ _⟩), hK⟩
  refine callE_of_T (P := Try.prog) hti (nt := 28) (rs := []) rfl rfl Try.call79 Try.func79 rfl _ (by simp only [go_sem, and_self]) (Nat.le_of_ble_eq_true rfl) _ fun hok => ?_
  simp only [go_sem, Nat.reduceBEq, Nat.reduceLT, Nat.reduceLeDiff, Nat.reduceAdd, Nat.reduceMul, Nat.reduceSub, Nat.reduceMod, Nat.reduceDiv, Nat.reduceEqDiff, Int.reduceToNat, reduceIte, reduceCtorEq, Int.reduceLE, Int.reduceLT, Int.reduceEq, Int.reduceNeg, Int.reduceAdd, Int.reduceSub, Int.reduceMul]
  refine T_lp (ι := { q : Nat // 2 * q ≤ D.length + 1 })
    (fun q => ([(0, .sl i 0 D.length cap), (2, .int .i64 q.1), (3, .int .i64 ((D.length : Int) - 1 - q.1))], hset h i ⟨D.length * 3, dropsC (revL D q.1), true, own⟩, n)) (fun q => D.length - q.1) ⟨0, by omega⟩ ?_ ?_
  · refine Imp.id (by simp) ?_ ?_
    · simp only [go_sem, Nat.reduceBEq, Nat.reduceLT, Nat.reduceLeDiff, Nat.reduceAdd, Nat.reduceMul, Nat.reduceSub, Nat.reduceMod, Nat.reduceDiv, Nat.reduceEqDiff, Int.reduceToNat, reduceIte, reduceCtorEq, Int.reduceLE, Int.reduceLT, Int.reduceEq, Int.reduceNeg, Int.reduceAdd, Int.reduceSub, Int.reduceMul, w64 (n := (D.length : Int) - 1) (by omega), Int.natCast_zero, Int.sub_zero]
      (repeat' apply And.intro) <;> first | omega | rfl | trivial | assumption | skip
    · exact impH.set0 hok (Nat.le_refl n) hs (fun _ _ _ _ h => h) hs (SegLe.flat (Nat.le_refl _) id (.inr rfl) fun z hz => ⟨(revL_0 D hz).symm, dropsC_flat _ _⟩)
  · rintro ⟨q, hq⟩
    simp only [go_sem, Nat.reduceBEq, Nat.reduceLT, Nat.reduceLeDiff, Nat.reduceAdd, Nat.reduceMul, Nat.reduceSub, Nat.reduceMod, Nat.reduceDiv, Nat.reduceEqDiff, Int.reduceToNat, reduceIte, reduceCtorEq, Int.reduceLE, Int.reduceLT, Int.reduceEq, Int.reduceNeg, Int.reduceAdd, Int.reduceSub, Int.reduceMul, decide_eq_true_eq, decide_eq_false_iff_not]
    refine ⟨fun h1 => ?_, fun h1 => ?_⟩
    · obtain ⟨m, hm⟩ : ∃ m : Nat, D.length = q + 1 + m := ⟨D.length - q - 1, by omega⟩
      have hv : (D.length : Int) - 1 - q = (m : Int) := by omega
      have hqm : q < m := by omega
      have r1 : (0 : Int) ≤ m ∧ (m : Int) < D.length := ⟨by omega, by omega⟩
      have r2 : (0 : Int) ≤ q ∧ (q : Int) < D.length := ⟨by omega, by omega⟩
      have b1 : m * 3 ≤ D.length * 3 - 3 := by omega
      have b2 : q * 3 ≤ D.length * 3 - 3 := by omega
      have b3 : 3 ≤ D.length * 3 := by omega
      have b6 : m * 3 + 3 ≤ D.length * 3 := by omega
      have b7 : q * 3 + 3 ≤ D.length * 3 := by omega
      have hm2 : D.length - 1 - q = m := by omega
      have em : (revL D q).getD m (0, 0, 0) = D.getD m (0, 0, 0) := by rw [revL_get D q m (by omega), if_neg (by omega)]
      have eq : (revL D q).getD q (0, 0, 0) = D.getD q (0, 0, 0) := by rw [revL_get D q q (by omega), if_neg (by omega)]
      have hst := fun z => revL_step D (q := q) (z := z) (by omega)
      rw [hm2] at hst
      simp only [hv]
      have n1 : ¬(m * 3 = 0 ∧ 3 = D.length * 3) := by omega
      have n2 : ¬(q * 3 = 0 ∧ 3 = D.length * 3) := by omega
      refine T_drawG hti 16 [13, 15] (.b 0 0 (.b 0 1 (.b 0 2 (.b 0 3 (.b 0 4 (.b 0 5 (.b 0 6 (.b 0 7 (.b 0 8 (.b 0 9 (.b 0 10 (.b 0 11 (.b 0 12 (.b 4 13 (.b 0 14 (.b 4 15 (.f) .o) .o) .o) .o) .o) .o) .o) .o) .o) .o) .o) .o) .o) .o) .o) .o) _ _ (by kernel_rfl) (by kernel_rfl) ?_
      simp only [go_sem, Nat.reduceBEq, Nat.reduceLT, Nat.reduceLeDiff, Nat.reduceAdd, Nat.reduceMul, Nat.reduceSub, Nat.reduceMod, Nat.reduceDiv, Nat.reduceEqDiff, Int.reduceToNat, reduceIte, reduceCtorEq, Int.reduceLE, Int.reduceLT, Int.reduceEq, Int.reduceNeg, Int.reduceAdd, Int.reduceSub, Int.reduceMul, hgi, hi, r1, r2, b1, b2, b3, b6, b7, dropsC_0, dropsC_1, dropsC_2, em, eq, hset_hset, n1, n2]
      refine ⟨⟨q + 1, by omega⟩, by show D.length - (q + 1) < D.length - q; omega, ?_⟩
      refine Imp.id (by simp) ?_ ?_
      · simp only [go_sem, Nat.reduceBEq, Nat.reduceLT, Nat.reduceLeDiff, Nat.reduceAdd, Nat.reduceMul, Nat.reduceSub, Nat.reduceMod, Nat.reduceDiv, Nat.reduceEqDiff, Int.reduceToNat, reduceIte, reduceCtorEq, Int.reduceLE, Int.reduceLT, Int.reduceEq, Int.reduceNeg, Int.reduceAdd, Int.reduceSub, Int.reduceMul, hi, w64 (n := (m : Int) - 1) (by omega), w64 (n := (q : Int) + 1) (by omega), show (((q + 1 : Nat) : Int)) = (q : Int) + 1 by omega, show ((D.length : Int) - 1 - ((q : Int) + 1)) = (m : Int) - 1 by omega]
      · exact impH.set0 hok (Nat.le_refl n) hs (hbut _) (hgi _) (SegLe.flat (Nat.le_refl _) id (.inr rfl) fun z hz => ⟨hst z hz, dropsC_flat _ _⟩)
    · exact ⟨hbut _, _, hgi _, rfl, rfl, rfl, fun z hz => revL_end D (by omega) hz⟩
end
end Go.Proofs.Ytodgbpkdanefaaa.V

/- PeelAll of both codes. -/
namespace Go.Proofs.Ytodgbpkdanefaaa.V
noncomputable def peelR (P : Pc) : List Dr × Int := haveI := Classical.propDecidable
  if pcokB P then (if 0 < leftN P (peelF P P.wide.toNat P.high.toNat).1 P.wide.toNat (P.high.toNat * P.wide.toNat) then ([], 6) else ((peelF P P.wide.toNat P.high.toNat).2.reverse, 0)) else ([], 1)
theorem peelR_1 {P : Pc} (h : ¬ pcokB P = true) : peelR P = ([], 1) := by unfold peelR; rw [if_neg h]
theorem peelR_6 {P : Pc} (h : pcokB P = true) (hl : 0 < leftN P (peelF P P.wide.toNat P.high.toNat).1 P.wide.toNat (P.high.toNat * P.wide.toNat)) : peelR P = ([], 6) := by unfold peelR; rw [if_pos h, if_pos hl]
theorem peelR_0 {P : Pc} (h : pcokB P = true) (hl : ¬ 0 < leftN P (peelF P P.wide.toNat P.high.toNat).1 P.wide.toNat (P.high.toNat * P.wide.toNat)) : peelR P = ((peelF P P.wide.toNat P.high.toNat).2.reverse, 0) := by unfold peelR; rw [if_pos h, if_neg hl]
theorem peel_len (P : Pc) (W H : Nat) : ∀ j, (peelIt P W H j).2.length ≤ j
  | 0 => Nat.le_refl _
  | j + 1 => by
    have := peel_len P W H j
    rw [peelIt]
    split
    · omega
    · rw [List.length_append, List.length_singleton]; omega
theorem peelR_len (P : Pc) : (peelR P).1.length ≤ 64 := by
  by_cases h : pcokB P = true
  · by_cases hl : 0 < leftN P (peelF P P.wide.toNat P.high.toNat).1 P.wide.toNat (P.high.toNat * P.wide.toNat)
    · rw [peelR_6 h hl]; simp
    · rw [peelR_0 h hl]
      simp only [List.length_reverse]
      exact peel_len P _ _ 64
  · rw [peelR_1 h]; simp
theorem front_in {P : Pc} {W H : Nat} {O : Gr} {d : Dr} {R : List Dr} (h : frontL P W H O = d :: R) (hW8 : W ≤ 8) (hH8 : H ≤ 8) : (0 ≤ d.1 ∧ d.1 < W) ∧ (0 ≤ d.2.1 ∧ d.2.1 < H) ∧ 0 ≤ d.2.2 ∧ d.2.2 < 3 := by
  have hm : d ∈ dropsL W H := (List.mem_filter.1 (show d ∈ frontL P W H O by rw [h]; exact List.mem_cons_self)).1
  obtain ⟨k, hk, rfl⟩ := List.mem_iff_getElem.1 hm
  have := dropsL_in (W := W) (H := H) (j := k) (by rw [← dropsL_len]; exact hk) hW8 hH8
  rwa [List.getD_eq_getElem?_getD, List.getElem?_eq_getElem hk] at this
theorem Imp.of2 {cx : Cx} {l : List (Nat × SV)} {h : List (Nat × Seg)} {n : Nat} {l' : List (Nat × SV)} {h' : List (Nat × Seg)} {n' : Nat} (a b a' b' : Nat) (ha : cx.n0 ≤ a) (ha' : cx.n0 ≤ a') (hb : n' ≤ b) (hb' : n' ≤ b') (hbb : b ≠ b') (hn : cx.n0 ≤ n') (hl : impL l (sig [(a, b), (a', b')]) n' l') (hh : impH h (sig [(a, b), (a', b')]) n' h') : Imp cx l h n l' h' n' := by
  refine Imp.of [(a, b), (a', b')] (fun i hi => ?_) hn hl hh (fun i j s t hi hj hij => ?_)
  · have : a ≠ i := by omega
    have : a' ≠ i := by omega
    simp [sig, *]
  · have h1 := (hh i s hi).1
    have h2 := (hh j t hj).1
    simp only [sig]
    (repeat' split) <;> omega
section
variable (cx : Cx) (h : List (Nat × Seg)) (n : Nat)
set_option maxHeartbeats 1600000 in
theorem peelAll2_E (P : Pc) (hR : PcR P) (K : HK)
    (hK : ∀ V h' n', n ≤ n' → HExt n h h' → HOk n' h' → DrOut h' n n' V (peelR P).1 → K (.tup 2 (cl [V, .int .i64 (peelR P).2])) h' n') :
    CallE Try.prog cx 41 [.agg 66 (pcC P)] h n K := by
  refine CallE.hokE ?_
  refine callE_of_T (P := Try.prog) hti (nt := 33) (rs := [.tmp 2, .tmp 3]) rfl rfl Try.call41 Try.func41 rfl _ (by simp only [go_sem, and_self]) (Nat.le_of_ble_eq_true rfl) _ fun hok => ?_
  simp only [go_sem, Nat.reduceBEq, Nat.reduceLT, Nat.reduceLeDiff, Nat.reduceAdd, Nat.reduceMul, Nat.reduceSub, Nat.reduceMod, Nat.reduceDiv, Nat.reduceEqDiff, Int.reduceToNat, reduceIte, reduceCtorEq, Int.reduceLE, Int.reduceLT, Int.reduceEq, Int.reduceNeg, Int.reduceAdd, Int.reduceSub, Int.reduceMul]
  refine (ok7_Q _ _ _ n P (by first | (simp only [go_sem, Nat.reduceBEq, Nat.reduceLT, Nat.reduceLeDiff, Nat.reduceAdd, Nat.reduceMul, Nat.reduceSub, Nat.reduceMod, Nat.reduceDiv, Nat.reduceEqDiff, Int.reduceToNat, reduceIte, reduceCtorEq, Int.reduceLE, Int.reduceLT, Int.reduceEq, Int.reduceNeg, Int.reduceAdd, Int.reduceSub, Int.reduceMul]; done) | (simp only [go_sem, Nat.reduceBEq, Nat.reduceLT, Nat.reduceLeDiff, Nat.reduceAdd, Nat.reduceMul, Nat.reduceSub, Nat.reduceMod, Nat.reduceDiv, Nat.reduceEqDiff, Int.reduceToNat, reduceIte, reduceCtorEq, Int.reduceLE, Int.reduceLT, Int.reduceEq, Int.reduceNeg, Int.reduceAdd, Int.reduceSub, Int.reduceMul]; rfl)) (by omega) hR).A ?_
  by_cases hk : pcokB P = true
  rotate_left
  · rw [peelR_1 hk] at hK
    simp only [go_sem, Nat.reduceBEq, Nat.reduceLT, Nat.reduceLeDiff, Nat.reduceAdd, Nat.reduceMul, Nat.reduceSub, Nat.reduceMod, Nat.reduceDiv, Nat.reduceEqDiff, Int.reduceToNat, reduceIte, reduceCtorEq, Int.reduceLE, Int.reduceLT, Int.reduceEq, Int.reduceNeg, Int.reduceAdd, Int.reduceSub, Int.reduceMul, hk]
    exact fun hok' => hK _ _ _ (by omega) (by simp only [go_sem, Nat.reduceBEq, Nat.reduceLT, Nat.reduceLeDiff, Nat.reduceAdd, Nat.reduceMul, Nat.reduceSub, Nat.reduceMod, Nat.reduceDiv, Nat.reduceEqDiff, Int.reduceToNat, reduceIte, reduceCtorEq, Int.reduceLE, Int.reduceLT, Int.reduceEq, Int.reduceNeg, Int.reduceAdd, Int.reduceSub, Int.reduceMul, HExt_cons]) hok' (.inr ⟨n + 1, 0, _, rfl, by omega, by omega, (by first | (simp only [go_sem, Nat.reduceBEq, Nat.reduceLT, Nat.reduceLeDiff, Nat.reduceAdd, Nat.reduceMul, Nat.reduceSub, Nat.reduceMod, Nat.reduceDiv, Nat.reduceEqDiff, Int.reduceToNat, reduceIte, reduceCtorEq, Int.reduceLE, Int.reduceLT, Int.reduceEq, Int.reduceNeg, Int.reduceAdd, Int.reduceSub, Int.reduceMul]; done) | (simp only [go_sem, Nat.reduceBEq, Nat.reduceLT, Nat.reduceLeDiff, Nat.reduceAdd, Nat.reduceMul, Nat.reduceSub, Nat.reduceMod, Nat.reduceDiv, Nat.reduceEqDiff, Int.reduceToNat, reduceIte, reduceCtorEq, Int.reduceLE, Int.reduceLT, Int.reduceEq, Int.reduceNeg, Int.reduceAdd, Int.reduceSub, Int.reduceMul]; rfl)), rfl, rfl, fun k hk => by simp at hk⟩)
  have hP : PcOk P := by simpa [pcokB] using hk
  have hs8 := hP.1
  obtain ⟨W, hW⟩ : ∃ W : Nat, P.wide = W := ⟨P.wide.toNat, by omega⟩
  obtain ⟨H, hH⟩ : ∃ H : Nat, P.high = H := ⟨P.high.toNat, by omega⟩
  have hW8 : W ≤ 8 := by omega
  have hH8 : H ≤ 8 := by omega
  have hWt : P.wide.toNat = W := by omega
  have hHt : P.high.toNat = H := by omega
  have o64 : ones (.agg 64 zz_a010c9) = True := eq_true fun j hj => trivial
  simp only [go_sem, Nat.reduceBEq, Nat.reduceLT, Nat.reduceLeDiff, Nat.reduceAdd, Nat.reduceMul, Nat.reduceSub, Nat.reduceMod, Nat.reduceDiv, Nat.reduceEqDiff, Int.reduceToNat, reduceIte, reduceCtorEq, Int.reduceLE, Int.reduceLT, Int.reduceEq, Int.reduceNeg, Int.reduceAdd, Int.reduceSub, Int.reduceMul, hk, o64]
  refine callA_false (next7_E _ _ _ n (n + 1) P off _ W H (by first | (simp only [go_sem, Nat.reduceBEq, Nat.reduceLT, Nat.reduceLeDiff, Nat.reduceAdd, Nat.reduceMul, Nat.reduceSub, Nat.reduceMod, Nat.reduceDiv, Nat.reduceEqDiff, Int.reduceToNat, reduceIte, reduceCtorEq, Int.reduceLE, Int.reduceLT, Int.reduceEq, Int.reduceNeg, Int.reduceAdd, Int.reduceSub, Int.reduceMul]; done) | (simp only [go_sem, Nat.reduceBEq, Nat.reduceLT, Nat.reduceLeDiff, Nat.reduceAdd, Nat.reduceMul, Nat.reduceSub, Nat.reduceMod, Nat.reduceDiv, Nat.reduceEqDiff, Int.reduceToNat, reduceIte, reduceCtorEq, Int.reduceLE, Int.reduceLT, Int.reduceEq, Int.reduceNeg, Int.reduceAdd, Int.reduceSub, Int.reduceMul]; rfl)) (by omega) (by first | (simp only [go_sem, Nat.reduceBEq, Nat.reduceLT, Nat.reduceLeDiff, Nat.reduceAdd, Nat.reduceMul, Nat.reduceSub, Nat.reduceMod, Nat.reduceDiv, Nat.reduceEqDiff, Int.reduceToNat, reduceIte, reduceCtorEq, Int.reduceLE, Int.reduceLT, Int.reduceEq, Int.reduceNeg, Int.reduceAdd, Int.reduceSub, Int.reduceMul]; done) | (simp only [go_sem, Nat.reduceBEq, Nat.reduceLT, Nat.reduceLeDiff, Nat.reduceAdd, Nat.reduceMul, Nat.reduceSub, Nat.reduceMod, Nat.reduceDiv, Nat.reduceEqDiff, Int.reduceToNat, reduceIte, reduceCtorEq, Int.reduceLE, Int.reduceLT, Int.reduceEq, Int.reduceNeg, Int.reduceAdd, Int.reduceSub, Int.reduceMul]; rfl)) (by omega) ⟨rfl, fun j hj => rfl⟩ hR hP hW hH _ fun cap0 => ?_)
  simp only [go_sem, Nat.reduceBEq, Nat.reduceLT, Nat.reduceLeDiff, Nat.reduceAdd, Nat.reduceMul, Nat.reduceSub, Nat.reduceMod, Nat.reduceDiv, Nat.reduceEqDiff, Int.reduceToNat, reduceIte, reduceCtorEq, Int.reduceLE, Int.reduceLT, Int.reduceEq, Int.reduceNeg, Int.reduceAdd, Int.reduceSub, Int.reduceMul]
  refine T_lp (ι := { q : Nat × Nat × Nat // (PeelInv P W H q.1 ∧ q.1 ≤ 64) ∧ q.1 ≤ q.2.1 ∧ q.2.1 ≤ maxLen })
    (fun q => ([(1, .ptr n 0), (4, .ptr (n + 1) 0), (5, .sl (n + 2) 0 q.1.1 q.1.2.1), (6, .sl (n + 3) 0 (frontL P W H (peelIt P W H q.1.1).1).length q.1.2.2)],
      (n + 3, ⟨(frontL P W H (peelIt P W H q.1.1).1).length * 3, dropsC (frontL P W H (peelIt P W H q.1.1).1), true, none⟩) ::
      (n + 2, ⟨q.1.1 * 3, dropsC (peelIt P W H q.1.1).2, true, some (44, q.1.2.1 * 3)⟩) ::
      (n + 1, grS (peelIt P W H q.1.1).1) :: (n, pcS P) :: h, n + 4)) (fun q => 64 - q.1.1) ⟨(0, 0, cap0), ⟨inv_0 P W H, by simp⟩, Nat.le_refl 0, Nat.zero_le _⟩ ?_ ?_
  · refine Imp.id (by simp) ?_ ?_
    · simp only [go_sem, Nat.reduceBEq, Nat.reduceLT, Nat.reduceLeDiff, Nat.reduceAdd, Nat.reduceMul, Nat.reduceSub, Nat.reduceMod, Nat.reduceDiv, Nat.reduceEqDiff, Int.reduceToNat, reduceIte, reduceCtorEq, Int.reduceLE, Int.reduceLT, Int.reduceEq, Int.reduceNeg, Int.reduceAdd, Int.reduceSub, Int.reduceMul]
      (repeat' apply And.intro) <;> first | omega | rfl | trivial | assumption | skip
    · exact impH.cons0 (hget_hit _ _ _) (by simp) (SegLe.flat (Nat.le_refl _) id (.inr rfl) fun k hk => ⟨rfl, dropsC_flat _ _⟩) (impH.cons0 (s := ⟨0, zrow (ti 44), true, some (44, 0)⟩) (by first | (simp only [go_sem, Nat.reduceBEq, Nat.reduceLT, Nat.reduceLeDiff, Nat.reduceAdd, Nat.reduceMul, Nat.reduceSub, Nat.reduceMod, Nat.reduceDiv, Nat.reduceEqDiff, Int.reduceToNat, reduceIte, reduceCtorEq, Int.reduceLE, Int.reduceLT, Int.reduceEq, Int.reduceNeg, Int.reduceAdd, Int.reduceSub, Int.reduceMul]; done) | (simp only [go_sem, Nat.reduceBEq, Nat.reduceLT, Nat.reduceLeDiff, Nat.reduceAdd, Nat.reduceMul, Nat.reduceSub, Nat.reduceMod, Nat.reduceDiv, Nat.reduceEqDiff, Int.reduceToNat, reduceIte, reduceCtorEq, Int.reduceLE, Int.reduceLT, Int.reduceEq, Int.reduceNeg, Int.reduceAdd, Int.reduceSub, Int.reduceMul]; rfl)) (by simp) (SegLe.flat (by simp) id (.inr (by simp)) fun k hk => by simp at hk) (impH.cons0 (by first | (simp only [go_sem, Nat.reduceBEq, Nat.reduceLT, Nat.reduceLeDiff, Nat.reduceAdd, Nat.reduceMul, Nat.reduceSub, Nat.reduceMod, Nat.reduceDiv, Nat.reduceEqDiff, Int.reduceToNat, reduceIte, reduceCtorEq, Int.reduceLE, Int.reduceLT, Int.reduceEq, Int.reduceNeg, Int.reduceAdd, Int.reduceSub, Int.reduceMul]; done) | (simp only [go_sem, Nat.reduceBEq, Nat.reduceLT, Nat.reduceLeDiff, Nat.reduceAdd, Nat.reduceMul, Nat.reduceSub, Nat.reduceMod, Nat.reduceDiv, Nat.reduceEqDiff, Int.reduceToNat, reduceIte, reduceCtorEq, Int.reduceLE, Int.reduceLT, Int.reduceEq, Int.reduceNeg, Int.reduceAdd, Int.reduceSub, Int.reduceMul]; rfl)) (by simp) (SegLe.flat (Nat.le_refl _) id (.inr rfl) fun k hk => ⟨rfl, gridC_flat _ _⟩) (impH.cons0 (by first | (simp only [go_sem, Nat.reduceBEq, Nat.reduceLT, Nat.reduceLeDiff, Nat.reduceAdd, Nat.reduceMul, Nat.reduceSub, Nat.reduceMod, Nat.reduceDiv, Nat.reduceEqDiff, Int.reduceToNat, reduceIte, reduceCtorEq, Int.reduceLE, Int.reduceLT, Int.reduceEq, Int.reduceNeg, Int.reduceAdd, Int.reduceSub, Int.reduceMul]; done) | (simp only [go_sem, Nat.reduceBEq, Nat.reduceLT, Nat.reduceLeDiff, Nat.reduceAdd, Nat.reduceMul, Nat.reduceSub, Nat.reduceMod, Nat.reduceDiv, Nat.reduceEqDiff, Int.reduceToNat, reduceIte, reduceCtorEq, Int.reduceLE, Int.reduceLT, Int.reduceEq, Int.reduceNeg, Int.reduceAdd, Int.reduceSub, Int.reduceMul]; rfl)) (by simp) (SegLe.flat (Nat.le_refl _) id (.inr rfl) fun k hk => ⟨rfl, pcC_flat _ _⟩) (impH.base0 hok (by simp) (by simp only [go_sem, Nat.reduceBEq, Nat.reduceLT, Nat.reduceLeDiff, Nat.reduceAdd, Nat.reduceMul, Nat.reduceSub, Nat.reduceMod, Nat.reduceDiv, Nat.reduceEqDiff, Int.reduceToNat, reduceIte, reduceCtorEq, Int.reduceLE, Int.reduceLT, Int.reduceEq, Int.reduceNeg, Int.reduceAdd, Int.reduceSub, Int.reduceMul, HExt_cons])))))
  · rintro ⟨⟨j, cap1, cap2⟩, ⟨hinv, hj64⟩, hcap, hmx⟩
    simp only at hinv hj64 hcap hmx
    generalize hFF : frontL P W H (peelIt P W H j).1 = F
    generalize hst : peelIt P W H j = st at *
    simp only [go_sem, Nat.reduceBEq, Nat.reduceLT, Nat.reduceLeDiff, Nat.reduceAdd, Nat.reduceMul, Nat.reduceSub, Nat.reduceMod, Nat.reduceDiv, Nat.reduceEqDiff, Int.reduceToNat, reduceIte, reduceCtorEq, Int.reduceLE, Int.reduceLT, Int.reduceEq, Int.reduceNeg, Int.reduceAdd, Int.reduceSub, Int.reduceMul, decide_eq_true_eq, decide_eq_false_iff_not]
    refine ⟨fun h1 => ?_, fun h1 => ?_⟩
    · obtain ⟨d, R, hF⟩ : ∃ d R, F = d :: R := by
        cases F with
        | nil => simp at h1
        | cons d R => exact ⟨d, R, rfl⟩
      have hin := front_in (hFF.trans hF) hW8 hH8
      have hinv' : PeelInv P W H (j + 1) := inv_succ hP (by rw [hst]; exact hFF.trans hF) hinv
      have g2 : 2 ≤ F.length * 3 := by omega
      have g3 : 3 ≤ F.length * 3 := by omega
      have hj1 : j + 1 ≤ 64 := by have := hinv'.1; omega
      have hnx : peelIt P W H (j + 1) = (openBy st.1 (covL P.wide P.high d.1 d.2.1), st.2 ++ [d]) := by
        have := peel_some (P := P) (W := W) (H := H) (j := j) (d := d) (R := R) (by rw [hst]; exact hFF.trans hF)
        rwa [hst] at this
      have hlen : st.2.length = j := by have := hinv.2; rwa [hst] at this
      have f0 : dropsC F 0 = .int .i8 d.1 := by rw [hF]; rfl
      have f1 : dropsC F 1 = .int .i8 d.2.1 := by rw [hF]; rfl
      have f2 : dropsC F 2 = .int .u8 d.2.2 := by rw [hF]; rfl
      have hd2 : hdel h (n + 2) = h := hok.del (by omega)
      simp only [go_sem, Nat.reduceBEq, Nat.reduceLT, Nat.reduceLeDiff, Nat.reduceAdd, Nat.reduceMul, Nat.reduceSub, Nat.reduceMod, Nat.reduceDiv, Nat.reduceEqDiff, Int.reduceToNat, reduceIte, reduceCtorEq, Int.reduceLE, Int.reduceLT, Int.reduceEq, Int.reduceNeg, Int.reduceAdd, Int.reduceSub, Int.reduceMul, h1, g2, f0, f1]
      refine callA_false (peel7_E _ _ _ n (n + 1) P st.1 d.1 d.2.1 (by first | (simp only [go_sem, Nat.reduceBEq, Nat.reduceLT, Nat.reduceLeDiff, Nat.reduceAdd, Nat.reduceMul, Nat.reduceSub, Nat.reduceMod, Nat.reduceDiv, Nat.reduceEqDiff, Int.reduceToNat, reduceIte, reduceCtorEq, Int.reduceLE, Int.reduceLT, Int.reduceEq, Int.reduceNeg, Int.reduceAdd, Int.reduceSub, Int.reduceMul]; done) | (simp only [go_sem, Nat.reduceBEq, Nat.reduceLT, Nat.reduceLeDiff, Nat.reduceAdd, Nat.reduceMul, Nat.reduceSub, Nat.reduceMod, Nat.reduceDiv, Nat.reduceEqDiff, Int.reduceToNat, reduceIte, reduceCtorEq, Int.reduceLE, Int.reduceLT, Int.reduceEq, Int.reduceNeg, Int.reduceAdd, Int.reduceSub, Int.reduceMul]; rfl)) (by omega) (by first | (simp only [go_sem, Nat.reduceBEq, Nat.reduceLT, Nat.reduceLeDiff, Nat.reduceAdd, Nat.reduceMul, Nat.reduceSub, Nat.reduceMod, Nat.reduceDiv, Nat.reduceEqDiff, Int.reduceToNat, reduceIte, reduceCtorEq, Int.reduceLE, Int.reduceLT, Int.reduceEq, Int.reduceNeg, Int.reduceAdd, Int.reduceSub, Int.reduceMul]; done) | (simp only [go_sem, Nat.reduceBEq, Nat.reduceLT, Nat.reduceLeDiff, Nat.reduceAdd, Nat.reduceMul, Nat.reduceSub, Nat.reduceMod, Nat.reduceDiv, Nat.reduceEqDiff, Int.reduceToNat, reduceIte, reduceCtorEq, Int.reduceLE, Int.reduceLT, Int.reduceEq, Int.reduceNeg, Int.reduceAdd, Int.reduceSub, Int.reduceMul]; rfl)) (by omega) (by omega) hR hP (by omega) (by omega) _ ?_)
      simp only [go_sem, Nat.reduceBEq, Nat.reduceLT, Nat.reduceLeDiff, Nat.reduceAdd, Nat.reduceMul, Nat.reduceSub, Nat.reduceMod, Nat.reduceDiv, Nat.reduceEqDiff, Int.reduceToNat, reduceIte, reduceCtorEq, Int.reduceLE, Int.reduceLT, Int.reduceEq, Int.reduceNeg, Int.reduceAdd, Int.reduceSub, Int.reduceMul, h1, g3, f0, f1, f2, hd2]
      refine ⟨⟨hcap, hmx, by omega⟩, fun cap' h3 h4 => ?_⟩
      refine callA_false (next7_E _ _ _ n (n + 1) P (openBy st.1 (covL P.wide P.high d.1 d.2.1)) (grS (openBy st.1 (covL P.wide P.high d.1 d.2.1))) W H (by first | (simp only [go_sem, Nat.reduceBEq, Nat.reduceLT, Nat.reduceLeDiff, Nat.reduceAdd, Nat.reduceMul, Nat.reduceSub, Nat.reduceMod, Nat.reduceDiv, Nat.reduceEqDiff, Int.reduceToNat, reduceIte, reduceCtorEq, Int.reduceLE, Int.reduceLT, Int.reduceEq, Int.reduceNeg, Int.reduceAdd, Int.reduceSub, Int.reduceMul]; done) | (simp only [go_sem, Nat.reduceBEq, Nat.reduceLT, Nat.reduceLeDiff, Nat.reduceAdd, Nat.reduceMul, Nat.reduceSub, Nat.reduceMod, Nat.reduceDiv, Nat.reduceEqDiff, Int.reduceToNat, reduceIte, reduceCtorEq, Int.reduceLE, Int.reduceLT, Int.reduceEq, Int.reduceNeg, Int.reduceAdd, Int.reduceSub, Int.reduceMul]; rfl)) (by omega) (by first | (simp only [go_sem, Nat.reduceBEq, Nat.reduceLT, Nat.reduceLeDiff, Nat.reduceAdd, Nat.reduceMul, Nat.reduceSub, Nat.reduceMod, Nat.reduceDiv, Nat.reduceEqDiff, Int.reduceToNat, reduceIte, reduceCtorEq, Int.reduceLE, Int.reduceLT, Int.reduceEq, Int.reduceNeg, Int.reduceAdd, Int.reduceSub, Int.reduceMul]; done) | (simp only [go_sem, Nat.reduceBEq, Nat.reduceLT, Nat.reduceLeDiff, Nat.reduceAdd, Nat.reduceMul, Nat.reduceSub, Nat.reduceMod, Nat.reduceDiv, Nat.reduceEqDiff, Int.reduceToNat, reduceIte, reduceCtorEq, Int.reduceLE, Int.reduceLT, Int.reduceEq, Int.reduceNeg, Int.reduceAdd, Int.reduceSub, Int.reduceMul]; rfl)) (by omega) (grAt_grS _) hR hP hW hH _ fun cap3 => ?_)
      simp only [go_sem, Nat.reduceBEq, Nat.reduceLT, Nat.reduceLeDiff, Nat.reduceAdd, Nat.reduceMul, Nat.reduceSub, Nat.reduceMod, Nat.reduceDiv, Nat.reduceEqDiff, Int.reduceToNat, reduceIte, reduceCtorEq, Int.reduceLE, Int.reduceLT, Int.reduceEq, Int.reduceNeg, Int.reduceAdd, Int.reduceSub, Int.reduceMul]
      refine ⟨⟨(j + 1, cap', cap3), ⟨hinv', hj1⟩, h3, h4⟩, by show 64 - (j + 1) < 64 - j; omega, ?_⟩
      refine Imp.of2 (n + 2) (n + 5) (n + 3) (n + 6) (by simp) (by simp) (by omega) (by omega) (by omega) (by simp) ?_ ?_
      · simp only [go_sem, Nat.reduceBEq, Nat.reduceLT, Nat.reduceLeDiff, Nat.reduceAdd, Nat.reduceMul, Nat.reduceSub, Nat.reduceMod, Nat.reduceDiv, Nat.reduceEqDiff, Int.reduceToNat, reduceIte, reduceCtorEq, Int.reduceLE, Int.reduceLT, Int.reduceEq, Int.reduceNeg, Int.reduceAdd, Int.reduceSub, Int.reduceMul, hnx]
        (repeat' apply And.intro) <;> first | omega | rfl | trivial | assumption | skip
      · simp only [hnx]
        refine impH.cons (by omega) (by first | (simp only [go_sem, Nat.reduceBEq, Nat.reduceLT, Nat.reduceLeDiff, Nat.reduceAdd, Nat.reduceMul, Nat.reduceSub, Nat.reduceMod, Nat.reduceDiv, Nat.reduceEqDiff, Int.reduceToNat, reduceIte, reduceCtorEq, Int.reduceLE, Int.reduceLT, Int.reduceEq, Int.reduceNeg, Int.reduceAdd, Int.reduceSub, Int.reduceMul]; done) | (simp only [go_sem, Nat.reduceBEq, Nat.reduceLT, Nat.reduceLeDiff, Nat.reduceAdd, Nat.reduceMul, Nat.reduceSub, Nat.reduceMod, Nat.reduceDiv, Nat.reduceEqDiff, Int.reduceToNat, reduceIte, reduceCtorEq, Int.reduceLE, Int.reduceLT, Int.reduceEq, Int.reduceNeg, Int.reduceAdd, Int.reduceSub, Int.reduceMul]; rfl)) (SegLe.flat (Nat.le_refl _) id (.inr rfl) fun z hz => ⟨rfl, dropsC_flat _ _⟩) (impH.cons (s := ⟨(j + 1) * 3, both (j * 3) (dropsC st.2) (news (fun z => if z < 3 then cl [.int .i8 d.1, .int .i8 d.2.1, .int .u8 d.2.2] (z - 0) else cl [.int .i8 0, .int .i8 0, .int .u8 0] (z % 3)) 0), true, some (44, cap' * 3)⟩) (by omega) (by first | (simp only [go_sem, Nat.reduceBEq, Nat.reduceLT, Nat.reduceLeDiff, Nat.reduceAdd, Nat.reduceMul, Nat.reduceSub, Nat.reduceMod, Nat.reduceDiv, Nat.reduceEqDiff, Int.reduceToNat, reduceIte, reduceCtorEq, Int.reduceLE, Int.reduceLT, Int.reduceEq, Int.reduceNeg, Int.reduceAdd, Int.reduceSub, Int.reduceMul]; done) | (simp only [go_sem, Nat.reduceBEq, Nat.reduceLT, Nat.reduceLeDiff, Nat.reduceAdd, Nat.reduceMul, Nat.reduceSub, Nat.reduceMod, Nat.reduceDiv, Nat.reduceEqDiff, Int.reduceToNat, reduceIte, reduceCtorEq, Int.reduceLE, Int.reduceLT, Int.reduceEq, Int.reduceNeg, Int.reduceAdd, Int.reduceSub, Int.reduceMul]; rfl)) (SegLe.flat (Nat.le_refl _) id (.inr rfl) fun z hz => ⟨?_, dropsC_flat _ _⟩) (impH.cons (by omega) (by first | (simp only [go_sem, Nat.reduceBEq, Nat.reduceLT, Nat.reduceLeDiff, Nat.reduceAdd, Nat.reduceMul, Nat.reduceSub, Nat.reduceMod, Nat.reduceDiv, Nat.reduceEqDiff, Int.reduceToNat, reduceIte, reduceCtorEq, Int.reduceLE, Int.reduceLT, Int.reduceEq, Int.reduceNeg, Int.reduceAdd, Int.reduceSub, Int.reduceMul]; done) | (simp only [go_sem, Nat.reduceBEq, Nat.reduceLT, Nat.reduceLeDiff, Nat.reduceAdd, Nat.reduceMul, Nat.reduceSub, Nat.reduceMod, Nat.reduceDiv, Nat.reduceEqDiff, Int.reduceToNat, reduceIte, reduceCtorEq, Int.reduceLE, Int.reduceLT, Int.reduceEq, Int.reduceNeg, Int.reduceAdd, Int.reduceSub, Int.reduceMul]; rfl)) (SegLe.flat (Nat.le_refl _) id (.inr rfl) fun k hk => ⟨rfl, gridC_flat _ _⟩) (impH.cons (by omega) (by first | (simp only [go_sem, Nat.reduceBEq, Nat.reduceLT, Nat.reduceLeDiff, Nat.reduceAdd, Nat.reduceMul, Nat.reduceSub, Nat.reduceMod, Nat.reduceDiv, Nat.reduceEqDiff, Int.reduceToNat, reduceIte, reduceCtorEq, Int.reduceLE, Int.reduceLT, Int.reduceEq, Int.reduceNeg, Int.reduceAdd, Int.reduceSub, Int.reduceMul]; done) | (simp only [go_sem, Nat.reduceBEq, Nat.reduceLT, Nat.reduceLeDiff, Nat.reduceAdd, Nat.reduceMul, Nat.reduceSub, Nat.reduceMod, Nat.reduceDiv, Nat.reduceEqDiff, Int.reduceToNat, reduceIte, reduceCtorEq, Int.reduceLE, Int.reduceLT, Int.reduceEq, Int.reduceNeg, Int.reduceAdd, Int.reduceSub, Int.reduceMul]; rfl)) (SegLe.flat (Nat.le_refl _) id (.inr rfl) fun k hk => ⟨rfl, pcC_flat _ _⟩) (impH.base hok (by omega) (fun i hi => by rw [sig_miss _ _ _ _ (by simp; omega), sig_miss _ _ _ _ (by simp; omega)]; rfl) (by simp only [go_sem, Nat.reduceBEq, Nat.reduceLT, Nat.reduceLeDiff, Nat.reduceAdd, Nat.reduceMul, Nat.reduceSub, Nat.reduceMod, Nat.reduceDiv, Nat.reduceEqDiff, Int.reduceToNat, reduceIte, reduceCtorEq, Int.reduceLE, Int.reduceLT, Int.reduceEq, Int.reduceNeg, Int.reduceAdd, Int.reduceSub, Int.reduceMul, HExt_cons])))))
        have hz : z < (j + 1) * 3 := hz
        rw [← hlen] at hz ⊢
        exact both_drop _ _ _ rfl rfl rfl hz
    · have hF0 : F = [] := by
        cases F with
        | nil => rfl
        | cons d R => exact absurd (show (0 : Int) < ((d :: R).length : Int) by simp) h1
      subst hF0
      have hfin : st = peelF P W H := by
        have := inv_stop (P := P) (W := W) (H := H) (j := j) (by rw [hst]; exact hFF) hinv
        rwa [hst] at this
      have hlen : st.2.length = j := by have := hinv.2; rwa [hst] at this
      simp only [go_sem, Nat.reduceBEq, Nat.reduceLT, Nat.reduceLeDiff, Nat.reduceAdd, Nat.reduceMul, Nat.reduceSub, Nat.reduceMod, Nat.reduceDiv, Nat.reduceEqDiff, Int.reduceToNat, reduceIte, reduceCtorEq, Int.reduceLE, Int.reduceLT, Int.reduceEq, Int.reduceNeg, Int.reduceAdd, Int.reduceSub, Int.reduceMul]
      refine (left7_Q _ _ _ n (n + 1) P st.1 (grS st.1) W H (by first | (simp only [go_sem, Nat.reduceBEq, Nat.reduceLT, Nat.reduceLeDiff, Nat.reduceAdd, Nat.reduceMul, Nat.reduceSub, Nat.reduceMod, Nat.reduceDiv, Nat.reduceEqDiff, Int.reduceToNat, reduceIte, reduceCtorEq, Int.reduceLE, Int.reduceLT, Int.reduceEq, Int.reduceNeg, Int.reduceAdd, Int.reduceSub, Int.reduceMul]; done) | (simp only [go_sem, Nat.reduceBEq, Nat.reduceLT, Nat.reduceLeDiff, Nat.reduceAdd, Nat.reduceMul, Nat.reduceSub, Nat.reduceMod, Nat.reduceDiv, Nat.reduceEqDiff, Int.reduceToNat, reduceIte, reduceCtorEq, Int.reduceLE, Int.reduceLT, Int.reduceEq, Int.reduceNeg, Int.reduceAdd, Int.reduceSub, Int.reduceMul]; rfl)) (by omega) (by first | (simp only [go_sem, Nat.reduceBEq, Nat.reduceLT, Nat.reduceLeDiff, Nat.reduceAdd, Nat.reduceMul, Nat.reduceSub, Nat.reduceMod, Nat.reduceDiv, Nat.reduceEqDiff, Int.reduceToNat, reduceIte, reduceCtorEq, Int.reduceLE, Int.reduceLT, Int.reduceEq, Int.reduceNeg, Int.reduceAdd, Int.reduceSub, Int.reduceMul]; done) | (simp only [go_sem, Nat.reduceBEq, Nat.reduceLT, Nat.reduceLeDiff, Nat.reduceAdd, Nat.reduceMul, Nat.reduceSub, Nat.reduceMod, Nat.reduceDiv, Nat.reduceEqDiff, Int.reduceToNat, reduceIte, reduceCtorEq, Int.reduceLE, Int.reduceLT, Int.reduceEq, Int.reduceNeg, Int.reduceAdd, Int.reduceSub, Int.reduceMul]; rfl)) (by omega) (grAt_grS _) hR hP hW hH).A ?_
      by_cases hl : 0 < leftN P st.1 W (H * W)
      · rw [peelR_6 hk (by rw [hWt, hHt, ← hfin]; exact hl)] at hK
        simp only [go_sem, Nat.reduceBEq, Nat.reduceLT, Nat.reduceLeDiff, Nat.reduceAdd, Nat.reduceMul, Nat.reduceSub, Nat.reduceMod, Nat.reduceDiv, Nat.reduceEqDiff, Int.reduceToNat, reduceIte, reduceCtorEq, Int.reduceLE, Int.reduceLT, Int.reduceEq, Int.reduceNeg, Int.reduceAdd, Int.reduceSub, Int.reduceMul, show (0 : Int) < (leftN P st.1 W (H * W) : Int) by omega]
        exact fun hok' => hK _ _ _ (by omega) (by simp only [go_sem, Nat.reduceBEq, Nat.reduceLT, Nat.reduceLeDiff, Nat.reduceAdd, Nat.reduceMul, Nat.reduceSub, Nat.reduceMod, Nat.reduceDiv, Nat.reduceEqDiff, Int.reduceToNat, reduceIte, reduceCtorEq, Int.reduceLE, Int.reduceLT, Int.reduceEq, Int.reduceNeg, Int.reduceAdd, Int.reduceSub, Int.reduceMul, HExt_cons]) hok' (.inr ⟨n + 4, 0, _, rfl, by omega, by omega, (by first | (simp only [go_sem, Nat.reduceBEq, Nat.reduceLT, Nat.reduceLeDiff, Nat.reduceAdd, Nat.reduceMul, Nat.reduceSub, Nat.reduceMod, Nat.reduceDiv, Nat.reduceEqDiff, Int.reduceToNat, reduceIte, reduceCtorEq, Int.reduceLE, Int.reduceLT, Int.reduceEq, Int.reduceNeg, Int.reduceAdd, Int.reduceSub, Int.reduceMul]; done) | (simp only [go_sem, Nat.reduceBEq, Nat.reduceLT, Nat.reduceLeDiff, Nat.reduceAdd, Nat.reduceMul, Nat.reduceSub, Nat.reduceMod, Nat.reduceDiv, Nat.reduceEqDiff, Int.reduceToNat, reduceIte, reduceCtorEq, Int.reduceLE, Int.reduceLT, Int.reduceEq, Int.reduceNeg, Int.reduceAdd, Int.reduceSub, Int.reduceMul]; rfl)), rfl, rfl, fun k hk => by simp at hk⟩)
      · rw [peelR_0 hk (by rw [hWt, hHt, ← hfin]; exact hl), hWt, hHt, ← hfin] at hK
        simp only [go_sem, Nat.reduceBEq, Nat.reduceLT, Nat.reduceLeDiff, Nat.reduceAdd, Nat.reduceMul, Nat.reduceSub, Nat.reduceMod, Nat.reduceDiv, Nat.reduceEqDiff, Int.reduceToNat, reduceIte, reduceCtorEq, Int.reduceLE, Int.reduceLT, Int.reduceEq, Int.reduceNeg, Int.reduceAdd, Int.reduceSub, Int.reduceMul, show ¬ (0 : Int) < (leftN P st.1 W (H * W) : Int) by omega]
        subst hlen
        refine callA_false (back7_E _ _ _ (n + 2) _ st.2 _ (by first | (simp only [go_sem, Nat.reduceBEq, Nat.reduceLT, Nat.reduceLeDiff, Nat.reduceAdd, Nat.reduceMul, Nat.reduceSub, Nat.reduceMod, Nat.reduceDiv, Nat.reduceEqDiff, Int.reduceToNat, reduceIte, reduceCtorEq, Int.reduceLE, Int.reduceLT, Int.reduceEq, Int.reduceNeg, Int.reduceAdd, Int.reduceSub, Int.reduceMul]; done) | (simp only [go_sem, Nat.reduceBEq, Nat.reduceLT, Nat.reduceLeDiff, Nat.reduceAdd, Nat.reduceMul, Nat.reduceSub, Nat.reduceMod, Nat.reduceDiv, Nat.reduceEqDiff, Int.reduceToNat, reduceIte, reduceCtorEq, Int.reduceLE, Int.reduceLT, Int.reduceEq, Int.reduceNeg, Int.reduceAdd, Int.reduceSub, Int.reduceMul]; rfl)) (by omega) ⟨Nat.le_refl _, fun _ _ => rfl⟩ (by omega) _ fun cap5 => ?_)
        simp only [go_sem, Nat.reduceBEq, Nat.reduceLT, Nat.reduceLeDiff, Nat.reduceAdd, Nat.reduceMul, Nat.reduceSub, Nat.reduceMod, Nat.reduceDiv, Nat.reduceEqDiff, Int.reduceToNat, reduceIte, reduceCtorEq, Int.reduceLE, Int.reduceLT, Int.reduceEq, Int.reduceNeg, Int.reduceAdd, Int.reduceSub, Int.reduceMul]
        exact fun hok' => hK _ _ _ (by omega) (by simp only [go_sem, Nat.reduceBEq, Nat.reduceLT, Nat.reduceLeDiff, Nat.reduceAdd, Nat.reduceMul, Nat.reduceSub, Nat.reduceMod, Nat.reduceDiv, Nat.reduceEqDiff, Int.reduceToNat, reduceIte, reduceCtorEq, Int.reduceLE, Int.reduceLT, Int.reduceEq, Int.reduceNeg, Int.reduceAdd, Int.reduceSub, Int.reduceMul, HExt_cons]) hok' (.inr ⟨n + 4, cap5, _, rfl, by omega, by omega, (by first | (simp only [go_sem, Nat.reduceBEq, Nat.reduceLT, Nat.reduceLeDiff, Nat.reduceAdd, Nat.reduceMul, Nat.reduceSub, Nat.reduceMod, Nat.reduceDiv, Nat.reduceEqDiff, Int.reduceToNat, reduceIte, reduceCtorEq, Int.reduceLE, Int.reduceLT, Int.reduceEq, Int.reduceNeg, Int.reduceAdd, Int.reduceSub, Int.reduceMul]; done) | (simp only [go_sem, Nat.reduceBEq, Nat.reduceLT, Nat.reduceLeDiff, Nat.reduceAdd, Nat.reduceMul, Nat.reduceSub, Nat.reduceMod, Nat.reduceDiv, Nat.reduceEqDiff, Int.reduceToNat, reduceIte, reduceCtorEq, Int.reduceLE, Int.reduceLT, Int.reduceEq, Int.reduceNeg, Int.reduceAdd, Int.reduceSub, Int.reduceMul]; rfl)), rfl, rfl, fun _ _ => rfl⟩)
end
end Go.Proofs.Ytodgbpkdanefaaa.V
