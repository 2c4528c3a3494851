/- Part 6 of the texts that this proof stands on: a symbolic walk over the program, what its functions and the reference's do, plain laws. -/
import Derived.Test.YtnbpgkidphdcdaaZbae
import Derived.Test.YtnbpgkidphdcdaaZbac
import Derived.Test.YtnbpgkidphdcdaaZbab
set_option linter.all false

/- The blot of a cell: the reference's walk. -/
namespace Go.Proofs.Ytnbpgkidphdcdaa.V
theorem SpO.hset {h : List (Nat × Seg)} {lo n g : Nat} {V : SV} {L : List (Int × Int)} {t : Seg} (hA : SpO h lo n V L) (hg : g < lo) : SpO (hset h g t) lo n V L := by
  obtain ⟨i, cap, s, h1, h2, h3, h4, h5⟩ := hA
  exact ⟨i, cap, s, h1, h2, h3, by rw [hget_hset, if_neg (by omega)]; exact h4, h5⟩
theorem SpO.ext {h h' : List (Nat × Seg)} {lo n n' : Nat} {V : SV} {L : List (Int × Int)} (hA : SpO h lo n V L) (hn : n ≤ n') (hx : HExt n h h') : SpO h' lo n' V L := by
  obtain ⟨i, cap, s, h1, h2, h3, h4, h5⟩ := hA
  exact ⟨i, cap, s, h1, h2, by omega, hx i h3 s h4, h5⟩
/-- The state of a round. -/
structure MkI (h : List (Nat × Seg)) (n : Nat) (hq : List (Nat × Seg)) (nq : Nat) (V : SV) (M : List (Int × Int)) : Prop where
  hn : n + 3 ≤ nq
  ok : HOk nq hq
  ex : HExt n h hq
  g0 : hget hq (n + 1) = some (mkS [])
  g1 : hget hq (n + 2) = some (mkS M)
  ls : SpO hq (n + 3) nq V M
theorem MkI.ext {h hq h' : List (Nat × Seg)} {n nq n' : Nat} {V : SV} {M : List (Int × Int)} (I : MkI h n hq nq V M) (hx : HExt nq hq h') (hn : nq ≤ n') (ok : HOk n' h') : MkI h n h' n' V M :=
  ⟨Nat.le_trans I.hn hn, ok, I.ex.tr hx (by have := I.hn; omega), hx _ (by have := I.hn; omega) _ I.g0, hx _ (by have := I.hn; omega) _ I.g1, I.ls.ext hn hx⟩
def lstP (S : Sh) (least : Int) : Int → Int → Bool := fun x y => decide (least ≤ darkB S x y)
section
variable (cx : Cx) (h : List (Nat × Seg)) (n : Nat)
set_option maxHeartbeats 3200000 in
theorem maskAt_Q (i : Nat) (S : Sh) (a : Int × Int) (least : Int) (hs : hget h i = some (shS S)) (hi : i < n) (hR : ShR S) (hG : Good S) (ha8 : In8 a) :
    CallQ Try.prog cx 40 [.ptr i 0, spot a.1 a.2, .int .i64 least] h n (.agg 64 (mkC (bfs (isB S (lstP S least)) 65 [a] 0))) := by
  have hsm := hG.small
  have his := isB_8 hsm (lstP S least)
  have hst0 := mkC_set [] ha8.2.1 ha8.1.1 ha8.1.2
  refine callQ_of_T (P := Try.prog) hti (nt := 68) (rs := [.cell 6 68]) rfl rfl Try.call40 Try.func40 rfl _ (by simp only [go_sem, and_self]) (Nat.le_of_ble_eq_true rfl) _ (by first | exact trivial | (refine lt_flat rfl ?_; simp [SV.flat]; done) | simp only [go_sem]) fun hok => ?_
  simp only [go_sem, Nat.reduceBEq, Nat.reduceLT, Nat.reduceLeDiff, Nat.reduceAdd, Nat.reduceMul, Nat.reduceSub, Nat.reduceMod, Nat.reduceDiv, Nat.reduceEqDiff, Int.reduceToNat, reduceIte, reduceCtorEq, Int.reduceLE, Int.reduceLT, Int.reduceEq, Int.reduceNeg, Int.reduceAdd, Int.reduceSub, Int.reduceMul]
  refine T_drawT hti 6 _ _ (by kernel_rfl) (by kernel_rfl) ?_
  simp only [go_sem, Nat.reduceBEq, Nat.reduceLT, Nat.reduceLeDiff, Nat.reduceAdd, Nat.reduceMul, Nat.reduceSub, Nat.reduceMod, Nat.reduceDiv, Nat.reduceEqDiff, Int.reduceToNat, reduceIte, reduceCtorEq, Int.reduceLE, Int.reduceLT, Int.reduceEq, Int.reduceNeg, Int.reduceAdd, Int.reduceSub, Int.reduceMul, ha8.1.1, ha8.1.2, ha8.2.1, ha8.2.2]
  rw [hst0]
  have e1 : ∀ k, k < 2 → (fun j => if j < 2 then cl [SV.int .i8 a.1, SV.int .i8 a.2] (j - 0) else cl [SV.int .i8 0, SV.int .i8 0] (j % 2)) k = spotsC [a] k := fun k hk => by
    rcases (by omega : k = 0 ∨ k = 1) with rfl | rfl <;> rfl
  refine ⟨by have := ha8.1; have := ha8.2; omega, ?_⟩
  generalize hc0 : (fun j => if j < 2 then cl [SV.int .i8 a.1, SV.int .i8 a.2] (j - 0) else cl [SV.int .i8 0, SV.int .i8 0] (j % 2)) = c0 at *
  have ok1 : HOk (n + 4) ((n + 3, ⟨2, c0, true, some (39, 2)⟩) :: (n + 2, mkS [a]) :: (n + 1, mkS []) :: (n, ⟨2, cl [SV.int .i8 a.1, SV.int .i8 a.2], true, none⟩) :: h) :=
    (((hok.consF fun k hk => pair_flat _ _ hk).consF fun k hk => mkC_flat _ _).consF fun k hk => mkC_flat _ _).consF fun k hk => by rw [show Seg.c _ k = c0 k from rfl, e1 k hk]; exact spotsC_flat _ _
  have I0 : MkI h n ((n + 3, ⟨2, c0, true, some (39, 2)⟩) :: (n + 2, mkS [a]) :: (n + 1, mkS []) :: (n, ⟨2, cl [SV.int .i8 a.1, SV.int .i8 a.2], true, none⟩) :: h) (n + 4) (.sl (n + 3) 0 1 1) [a] :=
    ⟨by omega, ok1, by simp only [go_sem, Nat.reduceBEq, Nat.reduceLT, Nat.reduceLeDiff, Nat.reduceAdd, Nat.reduceMul, Nat.reduceSub, Nat.reduceMod, Nat.reduceDiv, Nat.reduceEqDiff, Int.reduceToNat, reduceIte, reduceCtorEq, Int.reduceLE, Int.reduceLT, Int.reduceEq, Int.reduceNeg, Int.reduceAdd, Int.reduceSub, Int.reduceMul, HExt_cons], by simp only [go_sem, Nat.reduceBEq, Nat.reduceLT, Nat.reduceLeDiff, Nat.reduceAdd, Nat.reduceMul, Nat.reduceSub, Nat.reduceMod, Nat.reduceDiv, Nat.reduceEqDiff, Int.reduceToNat, reduceIte, reduceCtorEq, Int.reduceLE, Int.reduceLT, Int.reduceEq, Int.reduceNeg, Int.reduceAdd, Int.reduceSub, Int.reduceMul], by simp only [go_sem, Nat.reduceBEq, Nat.reduceLT, Nat.reduceLeDiff, Nat.reduceAdd, Nat.reduceMul, Nat.reduceSub, Nat.reduceMod, Nat.reduceDiv, Nat.reduceEqDiff, Int.reduceToNat, reduceIte, reduceCtorEq, Int.reduceLE, Int.reduceLT, Int.reduceEq, Int.reduceNeg, Int.reduceAdd, Int.reduceSub, Int.reduceMul], n + 3, 1, _, rfl, Nat.le_refl _, by omega, hget_hit _ _ _, rfl, rfl, rfl, Nat.le_refl _, by decide, e1⟩
  obtain ⟨R, hRR⟩ : ∃ R, bfs (isB S (lstP S least)) 65 [a] 0 = R := ⟨_, rfl⟩
  rw [hRR]
  refine T_lp (ι := { q : Nat × List (Int × Int) × List (Nat × Seg) × Nat × SV // (q.1 ≤ q.2.1.length ∧ BOk q.2.1 ∧ bfs (isB S (lstP S least)) (65 - q.1) q.2.1 q.1 = R) ∧ MkI h n q.2.2.1 q.2.2.2.1 q.2.2.2.2 q.2.1 })
    (fun q => ([(0, .ptr i 0), (2, .int .i64 least), (6, .ptr (n + 1) 0), (7, .ptr (n + 2) 0), (8, q.1.2.2.2.2), (9, .int .i64 ((q.1.1 : Nat) : Int))], q.1.2.2.1, q.1.2.2.2.1)) (fun q => 65 - q.1.1) ⟨(0, [a], _, n + 4, .sl (n + 3) 0 1 1), ⟨Nat.zero_le _, BOk.one ha8, hRR⟩, I0⟩ ?_ ?_
  · refine Imp.id (by show n ≤ n + 4; omega) ?_ (impH.base0 ok1 (Nat.le_refl _) HExt.rfl)
    simp only [go_sem, Nat.reduceBEq, Nat.reduceLT, Nat.reduceLeDiff, Nat.reduceAdd, Nat.reduceMul, Nat.reduceSub, Nat.reduceMod, Nat.reduceDiv, Nat.reduceEqDiff, Int.reduceToNat, reduceIte, reduceCtorEq, Int.reduceLE, Int.reduceLT, Int.reduceEq, Int.reduceNeg, Int.reduceAdd, Int.reduceSub, Int.reduceMul]
    (try (repeat' apply And.intro) <;> first | omega | rfl | trivial | assumption | skip)
  rintro ⟨⟨q, out, hq, nq, V⟩, ⟨hql, hB, hF⟩, I⟩
  simp only at hql hB hF I
  have Vo := I.ls.sp.ok
  have hl64 := hB.len
  have hn0 := I.hn
  have V5 := I.ls
  obtain ⟨jv, capV, sV, e, v1, v2, v3, v4, v5, v6, v7, v8, v9⟩ := V5
  subst e
  simp only [go_sem, Nat.reduceBEq, Nat.reduceLT, Nat.reduceLeDiff, Nat.reduceAdd, Nat.reduceMul, Nat.reduceSub, Nat.reduceMod, Nat.reduceDiv, Nat.reduceEqDiff, Int.reduceToNat, reduceIte, reduceCtorEq, Int.reduceLE, Int.reduceLT, Int.reduceEq, Int.reduceNeg, Int.reduceAdd, Int.reduceSub, Int.reduceMul, decide_eq_true_eq, decide_eq_false_iff_not]
  refine ⟨fun h1 => ?_, fun h1 => ?_⟩
  rotate_left
  · have hqo : ¬ q < out.length := by omega
    rw [bfs_stop hqo] at hF
    subst hF
    have a1 := I.g1
    have a0 := I.g0
    have c1 : n + 2 < nq := by omega
    have c0' : n + 1 < nq := by omega
    simp only [go_sem, Nat.reduceBEq, Nat.reduceLT, Nat.reduceLeDiff, Nat.reduceAdd, Nat.reduceMul, Nat.reduceSub, Nat.reduceMod, Nat.reduceDiv, Nat.reduceEqDiff, Int.reduceToNat, reduceIte, reduceCtorEq, Int.reduceLE, Int.reduceLT, Int.reduceEq, Int.reduceNeg, Int.reduceAdd, Int.reduceSub, Int.reduceMul, a1, a0, c1, c0']
    exact fun z hz t ht => by rw [hget_hset, if_neg (by omega)]; exact I.ex z hz t ht
  have hqo : q < out.length := by omega
  have a8 := hB.in8 _ (spots_at hqo)
  rw [bfs_go hqo hl64] at hF
  obtain ⟨c, hcc⟩ : ∃ c, out.getD q (0, 0) = c := ⟨_, rfl⟩
  rw [hcc] at hF a8
  refine T_lp (ι := { r : Nat × List (Nat × Seg) × Nat × SV // r.1 ≤ 4 ∧ nq ≤ r.2.2.1 ∧ MkI h n r.2.1 r.2.2.1 r.2.2.2 (stepK (isB S (lstP S least)) out c r.1) })
    (fun r => ([(0, .ptr i 0), (2, .int .i64 least), (6, .ptr (n + 1) 0), (7, .ptr (n + 2) 0), (8, r.1.2.2.2), (9, .int .i64 ((q : Nat) : Int)), (10, .int .i64 ((r.1.1 : Nat) : Int))], r.1.2.1, r.1.2.2.1)) (fun r => 4 - r.1.1)
    ⟨(0, hq, nq, .sl jv 0 out.length capV), Nat.zero_le _, Nat.le_refl _, I⟩ ?_ ?_
  · refine Imp.id (by show n ≤ nq; omega) ?_ (impH.base0 I.ok (Nat.le_refl _) HExt.rfl)
    simp only [go_sem, Nat.reduceBEq, Nat.reduceLT, Nat.reduceLeDiff, Nat.reduceAdd, Nat.reduceMul, Nat.reduceSub, Nat.reduceMod, Nat.reduceDiv, Nat.reduceEqDiff, Int.reduceToNat, reduceIte, reduceCtorEq, Int.reduceLE, Int.reduceLT, Int.reduceEq, Int.reduceNeg, Int.reduceAdd, Int.reduceSub, Int.reduceMul, v2]
    (try (repeat' apply And.intro) <;> first | omega | rfl | trivial | assumption | skip)
  rintro ⟨⟨k, hr, nr, Vr⟩, hk4, hrn, J⟩
  simp only at hk4 hrn J
  have Vro := J.ls.sp.ok
  have hBk := hB.stepK his c k hk4
  have hl64k := hBk.len
  have hnr := J.hn
  simp only [go_sem, Nat.reduceBEq, Nat.reduceLT, Nat.reduceLeDiff, Nat.reduceAdd, Nat.reduceMul, Nat.reduceSub, Nat.reduceMod, Nat.reduceDiv, Nat.reduceEqDiff, Int.reduceToNat, reduceIte, reduceCtorEq, Int.reduceLE, Int.reduceLT, Int.reduceEq, Int.reduceNeg, Int.reduceAdd, Int.reduceSub, Int.reduceMul, Vro, decide_eq_true_eq, decide_eq_false_iff_not]
  refine ⟨fun k1 => ?_, fun k1 => ?_⟩
  rotate_left
  · have hk44 : k = 4 := by omega
    subst hk44
    refine ⟨⟨(q + 1, stepK (isB S (lstP S least)) out c 4, hr, nr, Vr), ⟨by show q + 1 ≤ (stepK (isB S (lstP S least)) out c 4).length; have := (stepK_get (is := isB S (lstP S least)) (p := c) (k := 4) (Nat.le_refl 4) hqo).2; omega, hBk, hF⟩, J⟩, by show 65 - (q + 1) < 65 - q; omega, ?_⟩
    refine Imp.id (by show n ≤ nr; omega) ?_ (impH.base0 J.ok (Nat.le_refl _) HExt.rfl)
    simp only [go_sem, Nat.reduceBEq, Nat.reduceLT, Nat.reduceLeDiff, Nat.reduceAdd, Nat.reduceMul, Nat.reduceSub, Nat.reduceMod, Nat.reduceDiv, Nat.reduceEqDiff, Int.reduceToNat, reduceIte, reduceCtorEq, Int.reduceLE, Int.reduceLT, Int.reduceEq, Int.reduceNeg, Int.reduceAdd, Int.reduceSub, Int.reduceMul, Vro, J.ls.sp.lt, w64N (a := (q : Int) + 1) (k := q + 1) (by omega) (by omega)]
    (try (repeat' apply And.intro) <;> first | omega | rfl | trivial | assumption | skip)
  have k4 : k < 4 := by omega
  have hsuc := stepK_succ (isB S (lstP S least)) out c k4
  have hget1 := stepK_get (is := isB S (lstP S least)) (p := c) (k := k) hk4 hqo
  rw [hcc] at hget1
  obtain ⟨d, hdd⟩ : ∃ d, (besideL c.1 c.2).getD k (0, 0) = d := ⟨_, rfl⟩
  rw [hdd] at hsuc
  have hdR := beside_in (x := c.1) (y := c.2) (by have := a8.1; omega) (by have := a8.2; omega) k
  rw [hdd] at hdR
  have hir : hget hr i = some (shS S) := J.ex i hi _ hs
  have hin : i < nr := by omega
  obtain ⟨X, hX⟩ : ∃ X, stepK (isB S (lstP S least)) out c k = X := ⟨_, rfl⟩
  rw [hX] at J hsuc hBk hl64k hget1
  have J5 := J.ls
  have j1 := J.g1
  obtain ⟨ju, capU, sU, eU, w1, w2, w3, w4, w5, w6, w7, w8, w9⟩ := J5
  subst eU
  obtain ⟨un, uc, ur, uo⟩ := sU
  simp only at w4 w5 w6 w9
  subst w4 w5 w6
  have r1 : (0 : Int) ≤ q ∧ (q : Int) < X.length := ⟨by omega, by omega⟩
  have b1 : q * 2 ≤ X.length * 2 - 2 := by omega
  have b2 : 2 ≤ X.length * 2 := by omega
  have b3 : q * 2 + 2 ≤ X.length * 2 := by omega
  simp only [go_sem, Nat.reduceBEq, Nat.reduceLT, Nat.reduceLeDiff, Nat.reduceAdd, Nat.reduceMul, Nat.reduceSub, Nat.reduceMod, Nat.reduceDiv, Nat.reduceEqDiff, Int.reduceToNat, reduceIte, reduceCtorEq, Int.reduceLE, Int.reduceLT, Int.reduceEq, Int.reduceNeg, Int.reduceAdd, Int.reduceSub, Int.reduceMul, w3, w2, r1, b1, b2, b3, w9 (q * 2) (by omega), w9 (q * 2 + 1) (by omega), spotsC_x, spotsC_y, hget1.1]
  refine (next_Q _ _ _ c.1 c.2 k k4).A ?_
  rw [hdd]
  have okC : HOk (nr + 1) ((nr, ⟨2, cl [SV.int .i8 d.1, SV.int .i8 d.2], true, none⟩) :: hr) := J.ok.consF fun k hk => pair_flat _ _ hk
  have exC : HExt nr hr ((nr, ⟨2, cl [SV.int .i8 d.1, SV.int .i8 d.2], true, none⟩) :: hr) := by simp only [go_sem, Nat.reduceBEq, Nat.reduceLT, Nat.reduceLeDiff, Nat.reduceAdd, Nat.reduceMul, Nat.reduceSub, Nat.reduceMod, Nat.reduceDiv, Nat.reduceEqDiff, Int.reduceToNat, reduceIte, reduceCtorEq, Int.reduceLE, Int.reduceLT, Int.reduceEq, Int.reduceNeg, Int.reduceAdd, Int.reduceSub, Int.reduceMul, HExt_cons]
  have JC := J.ext exC (Nat.le_succ nr) okC
  have nr1 : nr ≠ ju := by omega
  have nr2 : nr ≠ n + 2 := by omega
  have nr3 : nr ≠ i := by omega
  have c2 : n + 2 < nr := by omega
  have old : addB (isB S (lstP S least)) X d = X → ∃ j : { r : Nat × List (Nat × Seg) × Nat × SV // r.1 ≤ 4 ∧ nq ≤ r.2.2.1 ∧ MkI h n r.2.1 r.2.2.1 r.2.2.2 (stepK (isB S (lstP S least)) out c r.1) },
      j.1 = (k + 1, (nr, ⟨2, cl [SV.int .i8 d.1, SV.int .i8 d.2], true, none⟩) :: hr, nr + 1, .sl ju 0 X.length capU) := fun e =>
    ⟨⟨(k + 1, _, nr + 1, .sl ju 0 X.length capU), by show k + 1 ≤ 4; omega, by show nq ≤ nr + 1; omega, by rw [hsuc, e]; exact JC⟩, rfl⟩
  simp only [go_sem, Nat.reduceBEq, Nat.reduceLT, Nat.reduceLeDiff, Nat.reduceAdd, Nat.reduceMul, Nat.reduceSub, Nat.reduceMod, Nat.reduceDiv, Nat.reduceEqDiff, Int.reduceToNat, reduceIte, reduceCtorEq, Int.reduceLE, Int.reduceLT, Int.reduceEq, Int.reduceNeg, Int.reduceAdd, Int.reduceSub, Int.reduceMul]
  refine T_draw hti _ _ (by kernel_rfl) (by kernel_rfl) ?_
  simp only [go_sem, Nat.reduceBEq, Nat.reduceLT, Nat.reduceLeDiff, Nat.reduceAdd, Nat.reduceMul, Nat.reduceSub, Nat.reduceMod, Nat.reduceDiv, Nat.reduceEqDiff, Int.reduceToNat, reduceIte, reduceCtorEq, Int.reduceLE, Int.reduceLT, Int.reduceEq, Int.reduceNeg, Int.reduceAdd, Int.reduceSub, Int.reduceMul]
  refine (is_Q _ _ _ i 0 (shS S) S d.1 d.2 (by first | (simp only [go_sem, Nat.reduceBEq, Nat.reduceLT, Nat.reduceLeDiff, Nat.reduceAdd, Nat.reduceMul, Nat.reduceSub, Nat.reduceMod, Nat.reduceDiv, Nat.reduceEqDiff, Int.reduceToNat, reduceIte, reduceCtorEq, Int.reduceLE, Int.reduceLT, Int.reduceEq, Int.reduceNeg, Int.reduceAdd, Int.reduceSub, Int.reduceMul, hir, hin, nr3]; done) | (simp only [go_sem, Nat.reduceBEq, Nat.reduceLT, Nat.reduceLeDiff, Nat.reduceAdd, Nat.reduceMul, Nat.reduceSub, Nat.reduceMod, Nat.reduceDiv, Nat.reduceEqDiff, Int.reduceToNat, reduceIte, reduceCtorEq, Int.reduceLE, Int.reduceLT, Int.reduceEq, Int.reduceNeg, Int.reduceAdd, Int.reduceSub, Int.reduceMul, hir, hin, nr3]; rfl)) (by omega) (shAt_shC hR) hdR.1 hdR.2).A ?_
  cases hb : hasB S d.1 d.2
  · have e : addB (isB S (lstP S least)) X d = X := addB_old (by rintro ⟨h1, _⟩; unfold isB at h1; rw [hb] at h1; cases h1)
    obtain ⟨⟨v, Iv⟩, rfl⟩ := old e
    simp only [go_sem, Nat.reduceBEq, Nat.reduceLT, Nat.reduceLeDiff, Nat.reduceAdd, Nat.reduceMul, Nat.reduceSub, Nat.reduceMod, Nat.reduceDiv, Nat.reduceEqDiff, Int.reduceToNat, reduceIte, reduceCtorEq, Int.reduceLE, Int.reduceLT, Int.reduceEq, Int.reduceNeg, Int.reduceAdd, Int.reduceSub, Int.reduceMul, hb]
    refine ⟨⟨_, Iv⟩, by show 4 - (k + 1) < 4 - k; omega, ?_⟩
    refine Imp.id (by show n ≤ nr + 1; omega) ?_ (impH.base0 okC (Nat.le_refl _) HExt.rfl)
    simp only [go_sem, Nat.reduceBEq, Nat.reduceLT, Nat.reduceLeDiff, Nat.reduceAdd, Nat.reduceMul, Nat.reduceSub, Nat.reduceMod, Nat.reduceDiv, Nat.reduceEqDiff, Int.reduceToNat, reduceIte, reduceCtorEq, Int.reduceLE, Int.reduceLT, Int.reduceEq, Int.reduceNeg, Int.reduceAdd, Int.reduceSub, Int.reduceMul, w2, w64N (a := (k : Int) + 1) (k := k + 1) (by omega) (by omega)]
    (try (repeat' apply And.intro) <;> first | omega | rfl | trivial | assumption | skip)
  have d8 := hasB_in hsm hb
  have hmd := mkC_at X d8.2.2.1 d8.1 d8.2.1
  have hd63 : d.2.toNat * 8 + d.1.toNat ≤ 63 := by omega
  by_cases hdX : d ∈ X
  · have hdX' : ((d.1, d.2) ∈ X) = True := eq_true hdX
    have e : addB (isB S (lstP S least)) X d = X := addB_old (fun h => h.2 hdX)
    obtain ⟨⟨v, Iv⟩, rfl⟩ := old e
    simp only [go_sem, Nat.reduceBEq, Nat.reduceLT, Nat.reduceLeDiff, Nat.reduceAdd, Nat.reduceMul, Nat.reduceSub, Nat.reduceMod, Nat.reduceDiv, Nat.reduceEqDiff, Int.reduceToNat, reduceIte, reduceCtorEq, Int.reduceLE, Int.reduceLT, Int.reduceEq, Int.reduceNeg, Int.reduceAdd, Int.reduceSub, Int.reduceMul, hb, j1, nr2, c2, d8.1, d8.2.1, d8.2.2.1, d8.2.2.2, hmd, hd63, hdX']
    refine ⟨⟨_, Iv⟩, by show 4 - (k + 1) < 4 - k; omega, ?_⟩
    refine Imp.id (by show n ≤ nr + 1; omega) ?_ (impH.base0 okC (Nat.le_refl _) HExt.rfl)
    simp only [go_sem, Nat.reduceBEq, Nat.reduceLT, Nat.reduceLeDiff, Nat.reduceAdd, Nat.reduceMul, Nat.reduceSub, Nat.reduceMod, Nat.reduceDiv, Nat.reduceEqDiff, Int.reduceToNat, reduceIte, reduceCtorEq, Int.reduceLE, Int.reduceLT, Int.reduceEq, Int.reduceNeg, Int.reduceAdd, Int.reduceSub, Int.reduceMul, w2, w64N (a := (k : Int) + 1) (k := k + 1) (by omega) (by omega)]
    (try (repeat' apply And.intro) <;> first | omega | rfl | trivial | assumption | skip)
  have hdX' : ((d.1, d.2) ∈ X) = False := eq_false hdX
  simp only [go_sem, Nat.reduceBEq, Nat.reduceLT, Nat.reduceLeDiff, Nat.reduceAdd, Nat.reduceMul, Nat.reduceSub, Nat.reduceMod, Nat.reduceDiv, Nat.reduceEqDiff, Int.reduceToNat, reduceIte, reduceCtorEq, Int.reduceLE, Int.reduceLT, Int.reduceEq, Int.reduceNeg, Int.reduceAdd, Int.reduceSub, Int.reduceMul, hb, j1, nr2, c2, d8.1, d8.2.1, d8.2.2.1, d8.2.2.2, hmd, hd63, hdX']
  refine (dark2_Q _ _ _ i S d.1 d.2 (by first | (simp only [go_sem, Nat.reduceBEq, Nat.reduceLT, Nat.reduceLeDiff, Nat.reduceAdd, Nat.reduceMul, Nat.reduceSub, Nat.reduceMod, Nat.reduceDiv, Nat.reduceEqDiff, Int.reduceToNat, reduceIte, reduceCtorEq, Int.reduceLE, Int.reduceLT, Int.reduceEq, Int.reduceNeg, Int.reduceAdd, Int.reduceSub, Int.reduceMul, hir, hin, nr3]; done) | (simp only [go_sem, Nat.reduceBEq, Nat.reduceLT, Nat.reduceLeDiff, Nat.reduceAdd, Nat.reduceMul, Nat.reduceSub, Nat.reduceMod, Nat.reduceDiv, Nat.reduceEqDiff, Int.reduceToNat, reduceIte, reduceCtorEq, Int.reduceLE, Int.reduceLT, Int.reduceEq, Int.reduceNeg, Int.reduceAdd, Int.reduceSub, Int.reduceMul, hir, hin, nr3]; rfl)) (by omega) hG d8.1 d8.2.1 d8.2.2.1 d8.2.2.2).A ?_
  by_cases hle : least ≤ darkB S d.1 d.2
  rotate_left
  · have e : addB (isB S (lstP S least)) X d = X := addB_old (by rintro ⟨h1, _⟩; unfold isB lstP at h1; rw [decide_eq_false hle, Bool.and_false] at h1; cases h1)
    obtain ⟨⟨v, Iv⟩, rfl⟩ := old e
    simp only [go_sem, Nat.reduceBEq, Nat.reduceLT, Nat.reduceLeDiff, Nat.reduceAdd, Nat.reduceMul, Nat.reduceSub, Nat.reduceMod, Nat.reduceDiv, Nat.reduceEqDiff, Int.reduceToNat, reduceIte, reduceCtorEq, Int.reduceLE, Int.reduceLT, Int.reduceEq, Int.reduceNeg, Int.reduceAdd, Int.reduceSub, Int.reduceMul, hle]
    refine ⟨⟨_, Iv⟩, by show 4 - (k + 1) < 4 - k; omega, ?_⟩
    refine Imp.id (by show n ≤ nr + 1; omega) ?_ (impH.base0 okC (Nat.le_refl _) HExt.rfl)
    simp only [go_sem, Nat.reduceBEq, Nat.reduceLT, Nat.reduceLeDiff, Nat.reduceAdd, Nat.reduceMul, Nat.reduceSub, Nat.reduceMod, Nat.reduceDiv, Nat.reduceEqDiff, Int.reduceToNat, reduceIte, reduceCtorEq, Int.reduceLE, Int.reduceLT, Int.reduceEq, Int.reduceNeg, Int.reduceAdd, Int.reduceSub, Int.reduceMul, w2, w64N (a := (k : Int) + 1) (k := k + 1) (by omega) (by omega)]
    (try (repeat' apply And.intro) <;> first | omega | rfl | trivial | assumption | skip)
  have enew : addB (isB S (lstP S least)) X d = X ++ [d] := addB_new (by unfold isB lstP; rw [hb, decide_eq_true hle]; rfl) hdX
  rw [enew] at hsuc
  have hst3 := mkC_set X d8.2.2.1 d8.1 d8.2.1
  have emk : mkC ((d.1, d.2) :: X) = mkC (X ++ [d]) := mkC_congr fun p => by show p ∈ d :: X ↔ _; simp [or_comm]
  rw [emk] at hst3
  simp only [go_sem, Nat.reduceBEq, Nat.reduceLT, Nat.reduceLeDiff, Nat.reduceAdd, Nat.reduceMul, Nat.reduceSub, Nat.reduceMod, Nat.reduceDiv, Nat.reduceEqDiff, Int.reduceToNat, reduceIte, reduceCtorEq, Int.reduceLE, Int.reduceLT, Int.reduceEq, Int.reduceNeg, Int.reduceAdd, Int.reduceSub, Int.reduceMul, hle]
  refine T_drawT hti 6 _ _ (by kernel_rfl) (by kernel_rfl) ?_
  have w3h : ∀ t, hget (hset hr (n + 2) t) ju = some ⟨X.length * 2, uc, true, some (39, capU * 2)⟩ := fun t => by rw [hget_hset, if_neg (by omega)]; exact w3
  have nr4 : nr + 1 ≠ ju := by omega
  simp only [go_sem, Nat.reduceBEq, Nat.reduceLT, Nat.reduceLeDiff, Nat.reduceAdd, Nat.reduceMul, Nat.reduceSub, Nat.reduceMod, Nat.reduceDiv, Nat.reduceEqDiff, Int.reduceToNat, reduceIte, reduceCtorEq, Int.reduceLE, Int.reduceLT, Int.reduceEq, Int.reduceNeg, Int.reduceAdd, Int.reduceSub, Int.reduceMul, hb, j1, nr2, c2, d8.1, d8.2.1, d8.2.2.1, d8.2.2.2, hd63, hst3, w3h, w2, nr1]
  refine ⟨⟨w7, w8, by omega⟩, fun cap' m1 m2 => ?_⟩
  have okH : HOk (nr + 1) ((nr, ⟨2, cl [SV.int .i8 d.1, SV.int .i8 d.2], true, none⟩) :: hset hr (n + 2) (mkS (X ++ [d]))) := (J.ok.hset fun k hk => (mkC_flat (X ++ [d]) k).below _).consF fun k hk => pair_flat _ _ hk
  have exH : HExt n h ((nr, ⟨2, cl [SV.int .i8 d.1, SV.int .i8 d.2], true, none⟩) :: hset hr (n + 2) (mkS (X ++ [d]))) := fun z hz t ht => by
    simp only [hget]; rw [if_neg (by omega), hget_hset, if_neg (by omega)]; exact J.ex z hz t ht
  have hdl : hdel ((nr, (⟨2, cl [SV.int .i8 d.1, SV.int .i8 d.2], true, none⟩ : Seg)) :: hset hr (n + 2) (mkS (X ++ [d]))) ju = (nr, ⟨2, cl [SV.int .i8 d.1, SV.int .i8 d.2], true, none⟩) :: hdel (hset hr (n + 2) (mkS (X ++ [d]))) ju := by rw [hdel, if_neg nr1]
  obtain ⟨okM, exM, -⟩ := app1 (a := d) (n := n) (h := h) (nq := nr + 1) (jv := ju) (w := some (39, 2)) (c1 := fun j => if j < 2 then cl [SV.int IntKind.i8 d.1, SV.int IntKind.i8 d.2] (j - 0) else cl [SV.int IntKind.i8 0, SV.int IntKind.i8 0] (j % 2)) (by omega) okH exH (by omega) rfl rfl w9 m1 m2
  obtain ⟨-, -, spM⟩ := app1 (a := d) (n := n + 3) (h := []) (nq := nr + 1) (jv := ju) (w := some (39, 2)) (c1 := fun j => if j < 2 then cl [SV.int IntKind.i8 d.1, SV.int IntKind.i8 d.2] (j - 0) else cl [SV.int IntKind.i8 0, SV.int IntKind.i8 0] (j % 2)) (by omega) okH (fun z hz t ht => by simp [hget] at ht) w1 rfl rfl w9 m1 m2
  rw [hdl] at okM exM spM
  have gg : ∀ z, z < nr → z ≠ ju → z ≠ n + 2 → ∀ t1 t2, hget ((nr + 2, t1) :: (nr + 1, t2) :: (nr, (⟨2, cl [SV.int .i8 d.1, SV.int .i8 d.2], true, none⟩ : Seg)) :: hdel (hset hr (n + 2) (mkS (X ++ [d]))) ju) z = hget hr z := fun z hz hz1 hz2 t1 t2 => by
    simp only [hget]; rw [if_neg (by omega), if_neg (by omega), if_neg (by omega), hget_hdel, if_neg (Ne.symm hz1), hget_hset, if_neg (Ne.symm hz2)]
  have JM : MkI h n _ (nr + 3) (.sl (nr + 2) 0 (X.length + 1) cap') (X ++ [d]) := ⟨by omega, okM, exM, by rw [gg (n + 1) (by omega) (by omega) (by omega)]; exact J.g0, by
    simp only [hget]; rw [if_neg (by omega), if_neg (by omega), if_neg (by omega), hget_hdel, if_neg (by omega)]; exact hget_hset_self J.g1 _, spM⟩
  refine ⟨⟨(k + 1, _, nr + 3, .sl (nr + 2) 0 (X.length + 1) cap'), by show k + 1 ≤ 4; omega, by show nq ≤ nr + 3; omega, by rw [hsuc]; exact JM⟩, by show 4 - (k + 1) < 4 - k; omega, ?_⟩
  refine Imp.id (by show n ≤ nr + 3; omega) ?_ (impH.base0 okM (Nat.le_refl _) HExt.rfl)
  simp only [go_sem, Nat.reduceBEq, Nat.reduceLT, Nat.reduceLeDiff, Nat.reduceAdd, Nat.reduceMul, Nat.reduceSub, Nat.reduceMod, Nat.reduceDiv, Nat.reduceEqDiff, Int.reduceToNat, reduceIte, reduceCtorEq, Int.reduceLE, Int.reduceLT, Int.reduceEq, Int.reduceNeg, Int.reduceAdd, Int.reduceSub, Int.reduceMul, w64N (a := (k : Int) + 1) (k := k + 1) (by omega) (by omega)]
  (try (repeat' apply And.intro) <;> first | omega | rfl | trivial | assumption | skip)
end
end Go.Proofs.Ytnbpgkidphdcdaa.V

/- BlotAt: both codes. -/
namespace Go.Proofs.Ytnbpgkidphdcdaa.V
noncomputable def blotC (S : Sh) (x y least : Int) : Int := codeI S (hasB S x y && decide (1 ≤ least ∧ least ≤ 3000))
noncomputable def blotR (S : Sh) (x y least : Int) : List (Int × Int) × Int :=
  if blotC S x y least = 0 then (if darkB S x y < least then ([], 6) else (reachL (isB S (lstP S least)) (x, y), 0)) else ([], blotC S x y least)
section
variable (cx : Cx) (h : List (Nat × Seg)) (n : Nat)
theorem isDarkness_Q (a : Int) : CallQ Try.prog cx 47 [.int .i64 a] h n (.bool (decide (1 ≤ a ∧ a ≤ 3000))) := by
  refine callQ_of_T (P := Try.prog) hti (nt := 5) (rs := [.tmp 2]) rfl rfl Try.call47 Try.func47 rfl _ (by simp only [go_sem, and_self]) (Nat.le_of_ble_eq_true rfl) _ (by first | exact trivial | (refine lt_flat rfl ?_; simp [SV.flat]; done) | simp only [go_sem]) fun hok => ?_
  simp only [go_sem, Nat.reduceBEq, Nat.reduceLT, Nat.reduceLeDiff, Nat.reduceAdd, Nat.reduceMul, Nat.reduceSub, Nat.reduceMod, Nat.reduceDiv, Nat.reduceEqDiff, Int.reduceToNat, reduceIte, reduceCtorEq, Int.reduceLE, Int.reduceLT, Int.reduceEq, Int.reduceNeg, Int.reduceAdd, Int.reduceSub, Int.reduceMul]
  refine (within_Q _ _ _ a 1 3000).A ?_
  simp only [go_sem, Nat.reduceBEq, Nat.reduceLT, Nat.reduceLeDiff, Nat.reduceAdd, Nat.reduceMul, Nat.reduceSub, Nat.reduceMod, Nat.reduceDiv, Nat.reduceEqDiff, Int.reduceToNat, reduceIte, reduceCtorEq, Int.reduceLE, Int.reduceLT, Int.reduceEq, Int.reduceNeg, Int.reduceAdd, Int.reduceSub, Int.reduceMul]
theorem least2_Q (a : Int) : CallQ Try.prog cx 38 [.int .i64 a] h n (.bool (decide (1 ≤ a ∧ a ≤ 3000))) := by
  refine callQ_of_T (P := Try.prog) hti (nt := 5) (rs := [.tmp 2]) rfl rfl Try.call38 Try.func38 rfl _ (by simp only [go_sem, and_self]) (Nat.le_of_ble_eq_true rfl) _ (by first | exact trivial | (refine lt_flat rfl ?_; simp [SV.flat]; done) | simp only [go_sem]) fun hok => ?_
  simp only [go_sem, Nat.reduceBEq, Nat.reduceLT, Nat.reduceLeDiff, Nat.reduceAdd, Nat.reduceMul, Nat.reduceSub, Nat.reduceMod, Nat.reduceDiv, Nat.reduceEqDiff, Int.reduceToNat, reduceIte, reduceCtorEq, Int.reduceLE, Int.reduceLT, Int.reduceEq, Int.reduceNeg, Int.reduceAdd, Int.reduceSub, Int.reduceMul]
  refine (in_Q _ _ _ a 1 3000).A ?_
  simp only [go_sem, Nat.reduceBEq, Nat.reduceLT, Nat.reduceLeDiff, Nat.reduceAdd, Nat.reduceMul, Nat.reduceSub, Nat.reduceMod, Nat.reduceDiv, Nat.reduceEqDiff, Int.reduceToNat, reduceIte, reduceCtorEq, Int.reduceLE, Int.reduceLT, Int.reduceEq, Int.reduceNeg, Int.reduceAdd, Int.reduceSub, Int.reduceMul]
theorem blotAt1_Q (iv il : Nat) (S : Sh) (x y least : Int) (hv : hget h iv = some (shS S)) (hi : iv < n) (hR : ShR S) (hG : Good S) (hh : hasB S x y = true) (hl : hget h il = some ⟨1, cl [.int .i64 least], true, none⟩) (hln : il < n) :
    CallQ Try.prog cx 50 [spot x y, .ptr iv 0, .ptr il 0] h n (.bool (lstP S least x y)) := by
  obtain ⟨x0, x8, y0, y8⟩ := hasB_in hG.small hh
  have hnl : n ≠ il := by omega
  refine callQ_of_T (P := Try.prog) hti (nt := 9) (rs := [.tmp 4]) rfl rfl Try.call50 Try.func50 rfl _ (by simp only [go_sem, and_self]) (Nat.le_of_ble_eq_true rfl) _ (by first | exact trivial | (refine lt_flat rfl ?_; simp [SV.flat]; done) | simp only [go_sem]) fun hok => ?_
  simp only [go_sem, Nat.reduceBEq, Nat.reduceLT, Nat.reduceLeDiff, Nat.reduceAdd, Nat.reduceMul, Nat.reduceSub, Nat.reduceMod, Nat.reduceDiv, Nat.reduceEqDiff, Int.reduceToNat, reduceIte, reduceCtorEq, Int.reduceLE, Int.reduceLT, Int.reduceEq, Int.reduceNeg, Int.reduceAdd, Int.reduceSub, Int.reduceMul]
  refine T_draw hti _ _ (by kernel_rfl) (by kernel_rfl) ?_
  simp only [go_sem, Nat.reduceBEq, Nat.reduceLT, Nat.reduceLeDiff, Nat.reduceAdd, Nat.reduceMul, Nat.reduceSub, Nat.reduceMod, Nat.reduceDiv, Nat.reduceEqDiff, Int.reduceToNat, reduceIte, reduceCtorEq, Int.reduceLE, Int.reduceLT, Int.reduceEq, Int.reduceNeg, Int.reduceAdd, Int.reduceSub, Int.reduceMul, hl, hln, hnl]
  refine (dark_Q _ _ _ iv 0 _ S x y (by simp only [go_sem, Nat.reduceBEq, Nat.reduceLT, Nat.reduceLeDiff, Nat.reduceAdd, Nat.reduceMul, Nat.reduceSub, Nat.reduceMod, Nat.reduceDiv, Nat.reduceEqDiff, Int.reduceToNat, reduceIte, reduceCtorEq, Int.reduceLE, Int.reduceLT, Int.reduceEq, Int.reduceNeg, Int.reduceAdd, Int.reduceSub, Int.reduceMul, hv, hi]) (by omega) (shAt_shC hR) hG x0 x8 y0 y8).A ?_
  simp only [go_sem, Nat.reduceBEq, Nat.reduceLT, Nat.reduceLeDiff, Nat.reduceAdd, Nat.reduceMul, Nat.reduceSub, Nat.reduceMod, Nat.reduceDiv, Nat.reduceEqDiff, Int.reduceToNat, reduceIte, reduceCtorEq, Int.reduceLE, Int.reduceLT, Int.reduceEq, Int.reduceNeg, Int.reduceAdd, Int.reduceSub, Int.reduceMul, hl, hln, hnl, ge_iff_le, lstP]
theorem blotAt_E (S : Sh) (hR : ShR S) (x y : Int) (least : Int) (K : HK)
    (hK : ∀ V h' n', n ≤ n' → HExt n h h' → HOk n' h' → SpsOut h' n n' V (blotR S x y least).1 → K (.tup 2 (cl [V, .int .i64 (blotR S x y least).2])) h' n') :
    CallE Try.prog cx 14 [.agg 266 (shC S), spot x y, .int .i64 least] h n K := by
  refine CallE.hokE ?_
  refine callE_of_T (P := Try.prog) hti (nt := 30) (rs := [.tmp 6, .tmp 7]) rfl rfl Try.call14 Try.func14 rfl _ (by simp only [go_sem, and_self]) (Nat.le_of_ble_eq_true rfl) _ fun hok => ?_
  have okS : HOk (n + 3) ((n + 2, ⟨1, cl [SV.int .i64 least], true, none⟩) :: (n + 1, ⟨2, cl [SV.int .i8 x, SV.int .i8 y], true, none⟩) :: (n, shS S) :: h) :=
    ((hok.consF fun k hk => shC_flat _ _).consF fun k hk => pair_flat _ _ hk).consF fun k hk => cl_flat (l := [_]) (by simp [SV.flat]) hk
  have bad : ∀ c, blotR S x y least = ([], c) → K (.tup 2 (cl [.nils, .int .i64 c])) ((n + 2, ⟨1, cl [SV.int .i64 least], true, none⟩) :: (n + 1, ⟨2, cl [SV.int .i8 x, SV.int .i8 y], true, none⟩) :: (n, shS S) :: h) (n + 3) := fun c e => by
    have := hK .nils _ (n + 3) (by omega) (by simp only [go_sem, Nat.reduceBEq, Nat.reduceLT, Nat.reduceLeDiff, Nat.reduceAdd, Nat.reduceMul, Nat.reduceSub, Nat.reduceMod, Nat.reduceDiv, Nat.reduceEqDiff, Int.reduceToNat, reduceIte, reduceCtorEq, Int.reduceLE, Int.reduceLT, Int.reduceEq, Int.reduceNeg, Int.reduceAdd, Int.reduceSub, Int.reduceMul, HExt_cons]) okS (by rw [e]; exact .inl ⟨rfl, rfl⟩)
    rw [e] at this; exact this
  have badC : blotC S x y least ≠ 0 → blotR S x y least = ([], blotC S x y least) := fun hc => by unfold blotR; rw [if_neg hc]
  simp only [go_sem, Nat.reduceBEq, Nat.reduceLT, Nat.reduceLeDiff, Nat.reduceAdd, Nat.reduceMul, Nat.reduceSub, Nat.reduceMod, Nat.reduceDiv, Nat.reduceEqDiff, Int.reduceToNat, reduceIte, reduceCtorEq, Int.reduceLE, Int.reduceLT, Int.reduceEq, Int.reduceNeg, Int.reduceAdd, Int.reduceSub, Int.reduceMul]
  refine (has_Q _ _ _ n 0 (shS S) S x y (by simp only [go_sem, Nat.reduceBEq, Nat.reduceLT, Nat.reduceLeDiff, Nat.reduceAdd, Nat.reduceMul, Nat.reduceSub, Nat.reduceMod, Nat.reduceDiv, Nat.reduceEqDiff, Int.reduceToNat, reduceIte, reduceCtorEq, Int.reduceLE, Int.reduceLT, Int.reduceEq, Int.reduceNeg, Int.reduceAdd, Int.reduceSub, Int.reduceMul]) (by omega) (shAt_shC hR)).A ?_
  by_cases hh : hasB S x y = true
  rotate_left
  · have e0 : blotC S x y least = codeI S false := by unfold blotC; rw [show hasB S x y = false by simpa using hh, Bool.false_and]
    have hne : codeI S false ≠ 0 := fun e => by cases (codeI_0 e).2
    simp only [go_sem, Nat.reduceBEq, Nat.reduceLT, Nat.reduceLeDiff, Nat.reduceAdd, Nat.reduceMul, Nat.reduceSub, Nat.reduceMod, Nat.reduceDiv, Nat.reduceEqDiff, Int.reduceToNat, reduceIte, reduceCtorEq, Int.reduceLE, Int.reduceLT, Int.reduceEq, Int.reduceNeg, Int.reduceAdd, Int.reduceSub, Int.reduceMul, hh]
    refine (code_Q _ _ _ n 0 (shS S) S false (by simp only [go_sem, Nat.reduceBEq, Nat.reduceLT, Nat.reduceLeDiff, Nat.reduceAdd, Nat.reduceMul, Nat.reduceSub, Nat.reduceMod, Nat.reduceDiv, Nat.reduceEqDiff, Int.reduceToNat, reduceIte, reduceCtorEq, Int.reduceLE, Int.reduceLT, Int.reduceEq, Int.reduceNeg, Int.reduceAdd, Int.reduceSub, Int.reduceMul]) (by omega) (shAt_shC hR)).A ?_
    simp only [go_sem, Nat.reduceBEq, Nat.reduceLT, Nat.reduceLeDiff, Nat.reduceAdd, Nat.reduceMul, Nat.reduceSub, Nat.reduceMod, Nat.reduceDiv, Nat.reduceEqDiff, Int.reduceToNat, reduceIte, reduceCtorEq, Int.reduceLE, Int.reduceLT, Int.reduceEq, Int.reduceNeg, Int.reduceAdd, Int.reduceSub, Int.reduceMul]
    refine T_draw hti _ _ (by kernel_rfl) (by kernel_rfl) ?_
    simp only [go_sem, Nat.reduceBEq, Nat.reduceLT, Nat.reduceLeDiff, Nat.reduceAdd, Nat.reduceMul, Nat.reduceSub, Nat.reduceMod, Nat.reduceDiv, Nat.reduceEqDiff, Int.reduceToNat, reduceIte, reduceCtorEq, Int.reduceLE, Int.reduceLT, Int.reduceEq, Int.reduceNeg, Int.reduceAdd, Int.reduceSub, Int.reduceMul, hne]
    exact fun _ => bad _ (by rw [badC (by rw [e0]; exact hne), e0])
  simp only [go_sem, Nat.reduceBEq, Nat.reduceLT, Nat.reduceLeDiff, Nat.reduceAdd, Nat.reduceMul, Nat.reduceSub, Nat.reduceMod, Nat.reduceDiv, Nat.reduceEqDiff, Int.reduceToNat, reduceIte, reduceCtorEq, Int.reduceLE, Int.reduceLT, Int.reduceEq, Int.reduceNeg, Int.reduceAdd, Int.reduceSub, Int.reduceMul, hh]
  refine (isDarkness_Q _ _ _ least).A ?_
  simp only [go_sem, Nat.reduceBEq, Nat.reduceLT, Nat.reduceLeDiff, Nat.reduceAdd, Nat.reduceMul, Nat.reduceSub, Nat.reduceMod, Nat.reduceDiv, Nat.reduceEqDiff, Int.reduceToNat, reduceIte, reduceCtorEq, Int.reduceLE, Int.reduceLT, Int.reduceEq, Int.reduceNeg, Int.reduceAdd, Int.reduceSub, Int.reduceMul]
  refine (code_Q _ _ _ n 0 (shS S) S (decide (1 ≤ least ∧ least ≤ 3000)) (by simp only [go_sem, Nat.reduceBEq, Nat.reduceLT, Nat.reduceLeDiff, Nat.reduceAdd, Nat.reduceMul, Nat.reduceSub, Nat.reduceMod, Nat.reduceDiv, Nat.reduceEqDiff, Int.reduceToNat, reduceIte, reduceCtorEq, Int.reduceLE, Int.reduceLT, Int.reduceEq, Int.reduceNeg, Int.reduceAdd, Int.reduceSub, Int.reduceMul]) (by omega) (shAt_shC hR)).A ?_
  have e0 : blotC S x y least = codeI S (decide (1 ≤ least ∧ least ≤ 3000)) := by unfold blotC; rw [hh, Bool.true_and]
  by_cases hc : codeI S (decide (1 ≤ least ∧ least ≤ 3000)) = 0
  rotate_left
  · simp only [go_sem, Nat.reduceBEq, Nat.reduceLT, Nat.reduceLeDiff, Nat.reduceAdd, Nat.reduceMul, Nat.reduceSub, Nat.reduceMod, Nat.reduceDiv, Nat.reduceEqDiff, Int.reduceToNat, reduceIte, reduceCtorEq, Int.reduceLE, Int.reduceLT, Int.reduceEq, Int.reduceNeg, Int.reduceAdd, Int.reduceSub, Int.reduceMul]
    refine T_draw hti _ _ (by kernel_rfl) (by kernel_rfl) ?_
    simp only [go_sem, Nat.reduceBEq, Nat.reduceLT, Nat.reduceLeDiff, Nat.reduceAdd, Nat.reduceMul, Nat.reduceSub, Nat.reduceMod, Nat.reduceDiv, Nat.reduceEqDiff, Int.reduceToNat, reduceIte, reduceCtorEq, Int.reduceLE, Int.reduceLT, Int.reduceEq, Int.reduceNeg, Int.reduceAdd, Int.reduceSub, Int.reduceMul, hc]
    exact fun _ => bad _ (by rw [badC (by rw [e0]; exact hc), e0])
  obtain ⟨hV, -⟩ := codeI_0 hc
  have hsm := hV.1
  obtain ⟨x0, x8, y0, y8⟩ := hasB_in hsm hh
  simp only [go_sem, Nat.reduceBEq, Nat.reduceLT, Nat.reduceLeDiff, Nat.reduceAdd, Nat.reduceMul, Nat.reduceSub, Nat.reduceMod, Nat.reduceDiv, Nat.reduceEqDiff, Int.reduceToNat, reduceIte, reduceCtorEq, Int.reduceLE, Int.reduceLT, Int.reduceEq, Int.reduceNeg, Int.reduceAdd, Int.reduceSub, Int.reduceMul]
  refine T_draw hti _ _ (by kernel_rfl) (by kernel_rfl) ?_
  simp only [go_sem, Nat.reduceBEq, Nat.reduceLT, Nat.reduceLeDiff, Nat.reduceAdd, Nat.reduceMul, Nat.reduceSub, Nat.reduceMod, Nat.reduceDiv, Nat.reduceEqDiff, Int.reduceToNat, reduceIte, reduceCtorEq, Int.reduceLE, Int.reduceLT, Int.reduceEq, Int.reduceNeg, Int.reduceAdd, Int.reduceSub, Int.reduceMul, hc]
  refine (dark_Q _ _ _ n 0 (shS S) S x y (by simp only [go_sem, Nat.reduceBEq, Nat.reduceLT, Nat.reduceLeDiff, Nat.reduceAdd, Nat.reduceMul, Nat.reduceSub, Nat.reduceMod, Nat.reduceDiv, Nat.reduceEqDiff, Int.reduceToNat, reduceIte, reduceCtorEq, Int.reduceLE, Int.reduceLT, Int.reduceEq, Int.reduceNeg, Int.reduceAdd, Int.reduceSub, Int.reduceMul]) (by omega) (shAt_shC hR) hV.good x0 x8 y0 y8).A ?_
  by_cases hd : darkB S x y < least
  · simp only [go_sem, Nat.reduceBEq, Nat.reduceLT, Nat.reduceLeDiff, Nat.reduceAdd, Nat.reduceMul, Nat.reduceSub, Nat.reduceMod, Nat.reduceDiv, Nat.reduceEqDiff, Int.reduceToNat, reduceIte, reduceCtorEq, Int.reduceLE, Int.reduceLT, Int.reduceEq, Int.reduceNeg, Int.reduceAdd, Int.reduceSub, Int.reduceMul, hd]
    exact fun _ => bad 6 (by unfold blotR; rw [if_pos (by rw [e0]; exact hc), if_pos hd])
  have hgood : blotR S x y least = (reachL (isB S (lstP S least)) (x, y), 0) := by unfold blotR; rw [if_pos (by rw [e0]; exact hc), if_neg hd]
  rw [hgood] at hK
  simp only [go_sem, Nat.reduceBEq, Nat.reduceLT, Nat.reduceLeDiff, Nat.reduceAdd, Nat.reduceMul, Nat.reduceSub, Nat.reduceMod, Nat.reduceDiv, Nat.reduceEqDiff, Int.reduceToNat, reduceIte, reduceCtorEq, Int.reduceLE, Int.reduceLT, Int.reduceEq, Int.reduceNeg, Int.reduceAdd, Int.reduceSub, Int.reduceMul, hd]
  refine callA_false (reach_E _ _ _ n S (x, y) (by simp only [go_sem, Nat.reduceBEq, Nat.reduceLT, Nat.reduceLeDiff, Nat.reduceAdd, Nat.reduceMul, Nat.reduceSub, Nat.reduceMod, Nat.reduceDiv, Nat.reduceEqDiff, Int.reduceToNat, reduceIte, reduceCtorEq, Int.reduceLE, Int.reduceLT, Int.reduceEq, Int.reduceNeg, Int.reduceAdd, Int.reduceSub, Int.reduceMul]) (by omega) hR hsm ⟨⟨x0, x8⟩, y0, y8⟩ _ _ _ _ _ ?_ (lstP S least) (fun x' y' hb => ?_) _ fun V h' n' hn' hx' hok' hV' => ?_)
  · exact fn_lt (xs := []) (ys := [.ptr n 0, .ptr (n + 2) 0]) (fun v hv => by cases hv) (fun v hv => by simp at hv; rcases hv with rfl | rfl; exact (show n < _ by omega); exact (show n + 2 < _ by omega))
  · intro nt n0 h1 n1 hn1 hx1
    exact blotAt1_Q _ h1 n1 n (n + 2) S x' y' least (hx1 n (by omega) _ (by simp only [go_sem, Nat.reduceBEq, Nat.reduceLT, Nat.reduceLeDiff, Nat.reduceAdd, Nat.reduceMul, Nat.reduceSub, Nat.reduceMod, Nat.reduceDiv, Nat.reduceEqDiff, Int.reduceToNat, reduceIte, reduceCtorEq, Int.reduceLE, Int.reduceLT, Int.reduceEq, Int.reduceNeg, Int.reduceAdd, Int.reduceSub, Int.reduceMul])) (by omega) hR hV.good hb (hx1 (n + 2) (by omega) _ (by simp only [go_sem, Nat.reduceBEq, Nat.reduceLT, Nat.reduceLeDiff, Nat.reduceAdd, Nat.reduceMul, Nat.reduceSub, Nat.reduceMod, Nat.reduceDiv, Nat.reduceEqDiff, Int.reduceToNat, reduceIte, reduceCtorEq, Int.reduceLE, Int.reduceLT, Int.reduceEq, Int.reduceNeg, Int.reduceAdd, Int.reduceSub, Int.reduceMul])) (by omega)
  · have Vo := hV'.ok
    simp only [go_sem, Nat.reduceBEq, Nat.reduceLT, Nat.reduceLeDiff, Nat.reduceAdd, Nat.reduceMul, Nat.reduceSub, Nat.reduceMod, Nat.reduceDiv, Nat.reduceEqDiff, Int.reduceToNat, reduceIte, reduceCtorEq, Int.reduceLE, Int.reduceLT, Int.reduceEq, Int.reduceNeg, Int.reduceAdd, Int.reduceSub, Int.reduceMul, Vo]
    exact fun hok2 => hK V h' n' (by omega) (HExt.tr (m' := n + 3) (by simp only [go_sem, Nat.reduceBEq, Nat.reduceLT, Nat.reduceLeDiff, Nat.reduceAdd, Nat.reduceMul, Nat.reduceSub, Nat.reduceMod, Nat.reduceDiv, Nat.reduceEqDiff, Int.reduceToNat, reduceIte, reduceCtorEq, Int.reduceLE, Int.reduceLT, Int.reduceEq, Int.reduceNeg, Int.reduceAdd, Int.reduceSub, Int.reduceMul, HExt_cons]) hx' (by omega)) hok2 (hV'.lo (by omega)).out
theorem blotAt2_E (S : Sh) (hR : ShR S) (x y : Int) (hx : -128 ≤ x ∧ x < 128) (hy : -128 ≤ y ∧ y < 128) (least : Int) (K : HK)
    (hK : ∀ V h' n', n ≤ n' → HExt n h h' → HOk n' h' → SpsOut h' n n' V (blotR S x y least).1 → K (.tup 2 (cl [V, .int .i64 (blotR S x y least).2])) h' n') :
    CallE Try.prog cx 11 [.agg 266 (shC S), spot x y, .int .i64 least] h n K := by
  refine CallE.hokE ?_
  refine callE_of_T (P := Try.prog) hti (nt := 27) (rs := [.tmp 6, .tmp 7]) rfl rfl Try.call11 Try.func11 rfl _ (by simp only [go_sem, and_self]) (Nat.le_of_ble_eq_true rfl) _ fun hok => ?_
  have okS : HOk (n + 2) ((n + 1, ⟨2, cl [SV.int .i8 x, SV.int .i8 y], true, none⟩) :: (n, shS S) :: h) := (hok.consF fun k hk => shC_flat _ _).consF fun k hk => pair_flat _ _ hk
  have okZ : HOk (n + 3) ((n + 2, ⟨0, zrow (ti 39), true, some (39, 0)⟩) :: (n + 1, ⟨2, cl [SV.int .i8 x, SV.int .i8 y], true, none⟩) :: (n, shS S) :: h) := okS.consF fun k hk => absurd hk (Nat.not_lt_zero k)
  have bad : ∀ c, blotR S x y least = ([], c) → K (.tup 2 (cl [.sl (n + 2) 0 0 0, .int .i64 c])) ((n + 2, ⟨0, zrow (ti 39), true, some (39, 0)⟩) :: (n + 1, ⟨2, cl [SV.int .i8 x, SV.int .i8 y], true, none⟩) :: (n, shS S) :: h) (n + 3) := fun c e => by
    have := hK (.sl (n + 2) 0 0 0) _ (n + 3) (by omega) (by simp only [go_sem, Nat.reduceBEq, Nat.reduceLT, Nat.reduceLeDiff, Nat.reduceAdd, Nat.reduceMul, Nat.reduceSub, Nat.reduceMod, Nat.reduceDiv, Nat.reduceEqDiff, Int.reduceToNat, reduceIte, reduceCtorEq, Int.reduceLE, Int.reduceLT, Int.reduceEq, Int.reduceNeg, Int.reduceAdd, Int.reduceSub, Int.reduceMul, HExt_cons]) okZ (by rw [e]; exact .inr ⟨n + 2, 0, _, rfl, by omega, by omega, hget_hit _ _ _, rfl, rfl, fun k hk => absurd hk (Nat.not_lt_zero k)⟩)
    rw [e] at this; exact this
  have badC : blotC S x y least ≠ 0 → blotR S x y least = ([], blotC S x y least) := fun hc => by unfold blotR; rw [if_neg hc]
  simp only [go_sem, Nat.reduceBEq, Nat.reduceLT, Nat.reduceLeDiff, Nat.reduceAdd, Nat.reduceMul, Nat.reduceSub, Nat.reduceMod, Nat.reduceDiv, Nat.reduceEqDiff, Int.reduceToNat, reduceIte, reduceCtorEq, Int.reduceLE, Int.reduceLT, Int.reduceEq, Int.reduceNeg, Int.reduceAdd, Int.reduceSub, Int.reduceMul]
  refine T_draw hti _ _ (by kernel_rfl) (by kernel_rfl) ?_
  simp only [go_sem, Nat.reduceBEq, Nat.reduceLT, Nat.reduceLeDiff, Nat.reduceAdd, Nat.reduceMul, Nat.reduceSub, Nat.reduceMod, Nat.reduceDiv, Nat.reduceEqDiff, Int.reduceToNat, reduceIte, reduceCtorEq, Int.reduceLE, Int.reduceLT, Int.reduceEq, Int.reduceNeg, Int.reduceAdd, Int.reduceSub, Int.reduceMul]
  refine (least2_Q _ _ _ least).A ?_
  simp only [go_sem, Nat.reduceBEq, Nat.reduceLT, Nat.reduceLeDiff, Nat.reduceAdd, Nat.reduceMul, Nat.reduceSub, Nat.reduceMod, Nat.reduceDiv, Nat.reduceEqDiff, Int.reduceToNat, reduceIte, reduceCtorEq, Int.reduceLE, Int.reduceLT, Int.reduceEq, Int.reduceNeg, Int.reduceAdd, Int.reduceSub, Int.reduceMul]
  refine (asked2_Q _ _ _ n S x y (decide (1 ≤ least ∧ least ≤ 3000)) (by simp only [go_sem, Nat.reduceBEq, Nat.reduceLT, Nat.reduceLeDiff, Nat.reduceAdd, Nat.reduceMul, Nat.reduceSub, Nat.reduceMod, Nat.reduceDiv, Nat.reduceEqDiff, Int.reduceToNat, reduceIte, reduceCtorEq, Int.reduceLE, Int.reduceLT, Int.reduceEq, Int.reduceNeg, Int.reduceAdd, Int.reduceSub, Int.reduceMul]) (by omega) hR hx hy).A ?_
  have e0 : codeI S (hasB S x y && decide (1 ≤ least ∧ least ≤ 3000)) = blotC S x y least := rfl
  rw [e0]
  by_cases hc : blotC S x y least = 0
  rotate_left
  · simp only [go_sem, Nat.reduceBEq, Nat.reduceLT, Nat.reduceLeDiff, Nat.reduceAdd, Nat.reduceMul, Nat.reduceSub, Nat.reduceMod, Nat.reduceDiv, Nat.reduceEqDiff, Int.reduceToNat, reduceIte, reduceCtorEq, Int.reduceLE, Int.reduceLT, Int.reduceEq, Int.reduceNeg, Int.reduceAdd, Int.reduceSub, Int.reduceMul, hc]
    exact fun _ => bad _ (badC hc)
  obtain ⟨hV, hb⟩ := codeI_0 hc
  rw [Bool.and_eq_true] at hb
  have hsm := hV.1
  obtain ⟨x0, x8, y0, y8⟩ := hasB_in hsm hb.1
  simp only [go_sem, Nat.reduceBEq, Nat.reduceLT, Nat.reduceLeDiff, Nat.reduceAdd, Nat.reduceMul, Nat.reduceSub, Nat.reduceMod, Nat.reduceDiv, Nat.reduceEqDiff, Int.reduceToNat, reduceIte, reduceCtorEq, Int.reduceLE, Int.reduceLT, Int.reduceEq, Int.reduceNeg, Int.reduceAdd, Int.reduceSub, Int.reduceMul, hc]
  refine (dark2_Q _ _ _ n S x y (by simp only [go_sem, Nat.reduceBEq, Nat.reduceLT, Nat.reduceLeDiff, Nat.reduceAdd, Nat.reduceMul, Nat.reduceSub, Nat.reduceMod, Nat.reduceDiv, Nat.reduceEqDiff, Int.reduceToNat, reduceIte, reduceCtorEq, Int.reduceLE, Int.reduceLT, Int.reduceEq, Int.reduceNeg, Int.reduceAdd, Int.reduceSub, Int.reduceMul]) (by omega) hV.good x0 x8 y0 y8).A ?_
  by_cases hd : darkB S x y < least
  · simp only [go_sem, Nat.reduceBEq, Nat.reduceLT, Nat.reduceLeDiff, Nat.reduceAdd, Nat.reduceMul, Nat.reduceSub, Nat.reduceMod, Nat.reduceDiv, Nat.reduceEqDiff, Int.reduceToNat, reduceIte, reduceCtorEq, Int.reduceLE, Int.reduceLT, Int.reduceEq, Int.reduceNeg, Int.reduceAdd, Int.reduceSub, Int.reduceMul, hd]
    exact fun _ => bad 6 (by unfold blotR; rw [if_pos hc, if_pos hd])
  have hgood : blotR S x y least = (reachL (isB S (lstP S least)) (x, y), 0) := by unfold blotR; rw [if_pos hc, if_neg hd]
  rw [hgood] at hK
  simp only [go_sem, Nat.reduceBEq, Nat.reduceLT, Nat.reduceLeDiff, Nat.reduceAdd, Nat.reduceMul, Nat.reduceSub, Nat.reduceMod, Nat.reduceDiv, Nat.reduceEqDiff, Int.reduceToNat, reduceIte, reduceCtorEq, Int.reduceLE, Int.reduceLT, Int.reduceEq, Int.reduceNeg, Int.reduceAdd, Int.reduceSub, Int.reduceMul, hd]
  have a8 : In8 (x, y) := ⟨⟨x0, x8⟩, y0, y8⟩
  have hbk := BOk.bfs (isB_8 hsm (lstP S least)) 65 [(x, y)] 0 (BOk.one a8)
  refine (maskAt_Q _ _ _ n S (x, y) least (by simp only [go_sem, Nat.reduceBEq, Nat.reduceLT, Nat.reduceLeDiff, Nat.reduceAdd, Nat.reduceMul, Nat.reduceSub, Nat.reduceMod, Nat.reduceDiv, Nat.reduceEqDiff, Int.reduceToNat, reduceIte, reduceCtorEq, Int.reduceLE, Int.reduceLT, Int.reduceEq, Int.reduceNeg, Int.reduceAdd, Int.reduceSub, Int.reduceMul]) (by omega) hR hV.good a8).A ?_
  simp only [go_sem, Nat.reduceBEq, Nat.reduceLT, Nat.reduceLeDiff, Nat.reduceAdd, Nat.reduceMul, Nat.reduceSub, Nat.reduceMod, Nat.reduceDiv, Nat.reduceEqDiff, Int.reduceToNat, reduceIte, reduceCtorEq, Int.reduceLE, Int.reduceLT, Int.reduceEq, Int.reduceNeg, Int.reduceAdd, Int.reduceSub, Int.reduceMul]
  refine callA_false (list_E _ _ _ (n + 2) _ (hget_hit _ _ _) (by omega) _ fun V h1 n1 hn1 hx1 ok1 hV1 => ?_)
  rw [upM_setL hbk.in8] at hV1
  have Vo := hV1.ok
  simp only [go_sem, Nat.reduceBEq, Nat.reduceLT, Nat.reduceLeDiff, Nat.reduceAdd, Nat.reduceMul, Nat.reduceSub, Nat.reduceMod, Nat.reduceDiv, Nat.reduceEqDiff, Int.reduceToNat, reduceIte, reduceCtorEq, Int.reduceLE, Int.reduceLT, Int.reduceEq, Int.reduceNeg, Int.reduceAdd, Int.reduceSub, Int.reduceMul, Vo]
  exact fun hok' => hK V h1 n1 (by omega) (HExt.tr (m' := n + 3) (by simp only [go_sem, Nat.reduceBEq, Nat.reduceLT, Nat.reduceLeDiff, Nat.reduceAdd, Nat.reduceMul, Nat.reduceSub, Nat.reduceMod, Nat.reduceDiv, Nat.reduceEqDiff, Int.reduceToNat, reduceIte, reduceCtorEq, Int.reduceLE, Int.reduceLT, Int.reduceEq, Int.reduceNeg, Int.reduceAdd, Int.reduceSub, Int.reduceMul, HExt_cons]) hx1 (by omega)) hok' (hV1.lo (by omega)).out
end
end Go.Proofs.Ytnbpgkidphdcdaa.V

/- The law of BlotAt: the walk. -/
namespace Go.Proofs.Ytnbpgkidphdcdaa.V
theorem blotR_len (S : Sh) (x y least : Int) : (blotR S x y least).1.length ≤ 64 := by
  unfold blotR
  split
  · rename_i hc
    split
    · exact Nat.zero_le _
    · obtain ⟨hV, hb⟩ := codeI_0 hc
      rw [Bool.and_eq_true] at hb
      obtain ⟨x0, x8, y0, y8⟩ := hasB_in hV.1 hb.1
      have hbk := BOk.bfs (isB_8 hV.1 (lstP S least)) 65 [(x, y)] 0 (BOk.one ⟨⟨x0, x8⟩, y0, y8⟩)
      exact strict_len (setL_strict _) hbk.in8.setL
  · exact Nat.zero_le _
section
variable (cx : Cx) (h : List (Nat × Seg)) (n : Nat)
theorem lawBlot_Q (F : Nat → SV) (S : Sh) (hF : ShF F S) (x y : Int) (hx : -128 ≤ x ∧ x < 128) (hy : -128 ≤ y ∧ y < 128) (least : Int) :
    CallQ Try.prog cx 3 [.agg 266 F, spot x y, .int .i64 least] h n (.bool true) := by
  have hone := hF.ones
  have hRl := blotR_len S x y least
  refine callQ_of_T (P := Try.prog) hti (nt := 79) (rs := [.tmp 6]) rfl rfl Try.call3 Try.func3 rfl _ (by simp only [go_sem]) (Nat.le_of_ble_eq_true rfl) _ (by trivial) fun hok => ?_
  simp only [go_sem, Nat.reduceBEq, Nat.reduceLT, Nat.reduceLeDiff, Nat.reduceAdd, Nat.reduceMul, Nat.reduceSub, Nat.reduceMod, Nat.reduceDiv, Nat.reduceEqDiff, Int.reduceToNat, reduceIte, reduceCtorEq, Int.reduceLE, Int.reduceLT, Int.reduceEq, Int.reduceNeg, Int.reduceAdd, Int.reduceSub, Int.reduceMul, hone]
  generalize hRR : (blotR S x y least).1 = R at hRl
  generalize hcc : (blotR S x y least).2 = c
  refine T_drawG hti 11 [] (.b 0 0 (.b 0 2 (.b 0 4 (.b 1 1 (.b 1 3 (.b 2 5 (.b 0 6 (.b 0 7 (.b 0 8 (.b 0 9 (.b 0 10 (.f) .o) .o) .o) .o) .o) .o) .o) .o) .o) .o) .o) _ _ (by kernel_rfl) (by kernel_rfl) ?_
  simp only [go_sem, Nat.reduceBEq, Nat.reduceLT, Nat.reduceLeDiff, Nat.reduceAdd, Nat.reduceMul, Nat.reduceSub, Nat.reduceMod, Nat.reduceDiv, Nat.reduceEqDiff, Int.reduceToNat, reduceIte, reduceCtorEq, Int.reduceLE, Int.reduceLT, Int.reduceEq, Int.reduceNeg, Int.reduceAdd, Int.reduceSub, Int.reduceMul, hone]
  refine CallQ.F _ (fun h' n' hn hx => toSheet_Q _ h' n' F S hF) ?_
  simp only [go_sem, Nat.reduceBEq, Nat.reduceLT, Nat.reduceLeDiff, Nat.reduceAdd, Nat.reduceMul, Nat.reduceSub, Nat.reduceMod, Nat.reduceDiv, Nat.reduceEqDiff, Int.reduceToNat, reduceIte, reduceCtorEq, Int.reduceLE, Int.reduceLT, Int.reduceEq, Int.reduceNeg, Int.reduceAdd, Int.reduceSub, Int.reduceMul, hone]
  refine CallQ.F _ (fun h' n' hn hx => toSpot_Q _ h' n' x y) ?_
  simp only [go_sem, Nat.reduceBEq, Nat.reduceLT, Nat.reduceLeDiff, Nat.reduceAdd, Nat.reduceMul, Nat.reduceSub, Nat.reduceMod, Nat.reduceDiv, Nat.reduceEqDiff, Int.reduceToNat, reduceIte, reduceCtorEq, Int.reduceLE, Int.reduceLT, Int.reduceEq, Int.reduceNeg, Int.reduceAdd, Int.reduceSub, Int.reduceMul, hone]
  refine callA_false (blotAt2_E _ _ _ S hF.R x y hx hy least _ ?_)
  intro V1 h1 n1 hn1 hx1 ok1 I1
  rw [hRR] at I1
  rw [hcc]
  have V1o := I1.ok
  have g10 : hget h1 n = some ⟨266, F, true, none⟩ := hx1 n (by omega) _ (by simp only [go_sem, Nat.reduceBEq, Nat.reduceLT, Nat.reduceLeDiff, Nat.reduceAdd, Nat.reduceMul, Nat.reduceSub, Nat.reduceMod, Nat.reduceDiv, Nat.reduceEqDiff, Int.reduceToNat, reduceIte, reduceCtorEq, Int.reduceLE, Int.reduceLT, Int.reduceEq, Int.reduceNeg, Int.reduceAdd, Int.reduceSub, Int.reduceMul])
  have g11 : hget h1 (n + 1) = some ⟨2, cl [.int .i8 x, .int .i8 y], true, none⟩ := hx1 (n + 1) (by omega) _ (by simp only [go_sem, Nat.reduceBEq, Nat.reduceLT, Nat.reduceLeDiff, Nat.reduceAdd, Nat.reduceMul, Nat.reduceSub, Nat.reduceMod, Nat.reduceDiv, Nat.reduceEqDiff, Int.reduceToNat, reduceIte, reduceCtorEq, Int.reduceLE, Int.reduceLT, Int.reduceEq, Int.reduceNeg, Int.reduceAdd, Int.reduceSub, Int.reduceMul])
  have X1 : HExt n h h1 := HExt.tr (m' := n + 2) (by simp only [go_sem, Nat.reduceBEq, Nat.reduceLT, Nat.reduceLeDiff, Nat.reduceAdd, Nat.reduceMul, Nat.reduceSub, Nat.reduceMod, Nat.reduceDiv, Nat.reduceEqDiff, Int.reduceToNat, reduceIte, reduceCtorEq, Int.reduceLE, Int.reduceLT, Int.reduceEq, Int.reduceNeg, Int.reduceAdd, Int.reduceSub, Int.reduceMul, HExt_cons]) hx1 (by omega)
  simp only [go_sem, Nat.reduceBEq, Nat.reduceLT, Nat.reduceLeDiff, Nat.reduceAdd, Nat.reduceMul, Nat.reduceSub, Nat.reduceMod, Nat.reduceDiv, Nat.reduceEqDiff, Int.reduceToNat, reduceIte, reduceCtorEq, Int.reduceLE, Int.reduceLT, Int.reduceEq, Int.reduceNeg, Int.reduceAdd, Int.reduceSub, Int.reduceMul, V1o]
  refine ⟨⟨by omega, hx1⟩, ?_⟩
  refine T_drawG hti 11 [] (.b 0 0 (.b 0 2 (.b 0 4 (.b 1 1 (.b 1 3 (.b 2 5 (.b 0 6 (.b 0 7 (.b 0 8 (.b 0 9 (.b 0 10 (.f) .o) .o) .o) .o) .o) .o) .o) .o) .o) .o) .o) _ _ (by kernel_rfl) (by kernel_rfl) ?_
  simp only [go_sem, Nat.reduceBEq, Nat.reduceLT, Nat.reduceLeDiff, Nat.reduceAdd, Nat.reduceMul, Nat.reduceSub, Nat.reduceMod, Nat.reduceDiv, Nat.reduceEqDiff, Int.reduceToNat, reduceIte, reduceCtorEq, Int.reduceLE, Int.reduceLT, Int.reduceEq, Int.reduceNeg, Int.reduceAdd, Int.reduceSub, Int.reduceMul, hone, g10, g11]
  refine CallQ.F _ (fun h' n' hn hx => toSheet_Q _ h' n' F S hF) ?_
  simp only [go_sem, Nat.reduceBEq, Nat.reduceLT, Nat.reduceLeDiff, Nat.reduceAdd, Nat.reduceMul, Nat.reduceSub, Nat.reduceMod, Nat.reduceDiv, Nat.reduceEqDiff, Int.reduceToNat, reduceIte, reduceCtorEq, Int.reduceLE, Int.reduceLT, Int.reduceEq, Int.reduceNeg, Int.reduceAdd, Int.reduceSub, Int.reduceMul, hone, g10, g11]
  refine CallQ.F _ (fun h' n' hn hx => toSpot_Q _ h' n' x y) ?_
  simp only [go_sem, Nat.reduceBEq, Nat.reduceLT, Nat.reduceLeDiff, Nat.reduceAdd, Nat.reduceMul, Nat.reduceSub, Nat.reduceMod, Nat.reduceDiv, Nat.reduceEqDiff, Int.reduceToNat, reduceIte, reduceCtorEq, Int.reduceLE, Int.reduceLT, Int.reduceEq, Int.reduceNeg, Int.reduceAdd, Int.reduceSub, Int.reduceMul, hone]
  refine callA_false (blotAt_E _ _ _ S hF.R x y least _ ?_)
  intro V2 h2 n2 hn2 hx2 ok2 I2
  rw [hRR] at I2
  rw [hcc]
  have V2o := I2.ok
  have X2 := X1.tr hx2 (by omega)
  simp only [go_sem, Nat.reduceBEq, Nat.reduceLT, Nat.reduceLeDiff, Nat.reduceAdd, Nat.reduceMul, Nat.reduceSub, Nat.reduceMod, Nat.reduceDiv, Nat.reduceEqDiff, Int.reduceToNat, reduceIte, reduceCtorEq, Int.reduceLE, Int.reduceLT, Int.reduceEq, Int.reduceNeg, Int.reduceAdd, Int.reduceSub, Int.reduceMul, V1o, V2o]
  refine ⟨⟨by omega, hx2⟩, ?_⟩
  refine (eqSpots_Q _ _ _ V2 V1 R _ _ I2 (I1.ext (by omega) hx2) (by omega)).A ?_
  simp only [go_sem, Nat.reduceBEq, Nat.reduceLT, Nat.reduceLeDiff, Nat.reduceAdd, Nat.reduceMul, Nat.reduceSub, Nat.reduceMod, Nat.reduceDiv, Nat.reduceEqDiff, Int.reduceToNat, reduceIte, reduceCtorEq, Int.reduceLE, Int.reduceLT, Int.reduceEq, Int.reduceNeg, Int.reduceAdd, Int.reduceSub, Int.reduceMul, V1o, V2o]
  refine callA_false (markSpots_E _ _ _ V2 R n1 I2 (by omega) _ ?_)
  intro h4 ok4 keep4 I24
  have x4 : HExt n1 h1 h4 := keep4 _ _ (by omega) hx2
  have X4 : HExt n h h4 := X1.tr x4 (by omega)
  have I14 : SpsOut h4 (n + 2) n2 V1 R := I1.ext (by omega) x4
  have g40 : hget h4 n = some ⟨266, F, true, none⟩ := x4 n (by omega) _ g10
  have g41 : hget h4 (n + 1) = some ⟨2, cl [.int .i8 x, .int .i8 y], true, none⟩ := x4 (n + 1) (by omega) _ g11
  have posr : ¬ (2 * (R.length : Int) + 1 < 0) := by omega
  simp only [go_sem, Nat.reduceBEq, Nat.reduceLT, Nat.reduceLeDiff, Nat.reduceAdd, Nat.reduceMul, Nat.reduceSub, Nat.reduceMod, Nat.reduceDiv, Nat.reduceEqDiff, Int.reduceToNat, reduceIte, reduceCtorEq, Int.reduceLE, Int.reduceLT, Int.reduceEq, Int.reduceNeg, Int.reduceAdd, Int.reduceSub, Int.reduceMul, V1o, V2o]
  refine (heldSpots_Q _ _ _ V2 R.length _ I24 (by omega)).A ?_
  simp only [go_sem, Nat.reduceBEq, Nat.reduceLT, Nat.reduceLeDiff, Nat.reduceAdd, Nat.reduceMul, Nat.reduceSub, Nat.reduceMod, Nat.reduceDiv, Nat.reduceEqDiff, Int.reduceToNat, reduceIte, reduceCtorEq, Int.reduceLE, Int.reduceLT, Int.reduceEq, Int.reduceNeg, Int.reduceAdd, Int.reduceSub, Int.reduceMul, V1o, V2o, posr]
  refine T_drawG hti 11 [] (.b 0 0 (.b 0 2 (.b 0 4 (.b 1 1 (.b 1 3 (.b 2 5 (.b 0 6 (.b 0 7 (.b 0 8 (.b 0 9 (.b 0 10 (.f) .o) .o) .o) .o) .o) .o) .o) .o) .o) .o) .o) _ _ (by kernel_rfl) (by kernel_rfl) ?_
  simp only [go_sem, Nat.reduceBEq, Nat.reduceLT, Nat.reduceLeDiff, Nat.reduceAdd, Nat.reduceMul, Nat.reduceSub, Nat.reduceMod, Nat.reduceDiv, Nat.reduceEqDiff, Int.reduceToNat, reduceIte, reduceCtorEq, Int.reduceLE, Int.reduceLT, Int.reduceEq, Int.reduceNeg, Int.reduceAdd, Int.reduceSub, Int.reduceMul, hone, g40, g41]
  refine CallQ.F _ (fun h' n' hn hx => toSheet_Q _ h' n' F S hF) ?_
  simp only [go_sem, Nat.reduceBEq, Nat.reduceLT, Nat.reduceLeDiff, Nat.reduceAdd, Nat.reduceMul, Nat.reduceSub, Nat.reduceMod, Nat.reduceDiv, Nat.reduceEqDiff, Int.reduceToNat, reduceIte, reduceCtorEq, Int.reduceLE, Int.reduceLT, Int.reduceEq, Int.reduceNeg, Int.reduceAdd, Int.reduceSub, Int.reduceMul, hone, g40, g41]
  refine CallQ.F _ (fun h' n' hn hx => toSpot_Q _ h' n' x y) ?_
  simp only [go_sem, Nat.reduceBEq, Nat.reduceLT, Nat.reduceLeDiff, Nat.reduceAdd, Nat.reduceMul, Nat.reduceSub, Nat.reduceMod, Nat.reduceDiv, Nat.reduceEqDiff, Int.reduceToNat, reduceIte, reduceCtorEq, Int.reduceLE, Int.reduceLT, Int.reduceEq, Int.reduceNeg, Int.reduceAdd, Int.reduceSub, Int.reduceMul, hone]
  refine callA_false (blotAt_E _ _ _ S hF.R x y least _ ?_)
  intro V3 h5 n5 hn5 hx5 ok5 I35
  rw [hRR] at I35
  rw [hcc]
  have V3o := I35.ok
  have X5 := X4.tr hx5 (by omega)
  simp only [go_sem, Nat.reduceBEq, Nat.reduceLT, Nat.reduceLeDiff, Nat.reduceAdd, Nat.reduceMul, Nat.reduceSub, Nat.reduceMod, Nat.reduceDiv, Nat.reduceEqDiff, Int.reduceToNat, reduceIte, reduceCtorEq, Int.reduceLE, Int.reduceLT, Int.reduceEq, Int.reduceNeg, Int.reduceAdd, Int.reduceSub, Int.reduceMul, V1o, V2o, V3o]
  refine ⟨⟨by omega, hx5⟩, ?_⟩
  refine (eqSpots_Q _ _ _ V3 V1 R _ _ I35 (I14.ext (by omega) hx5) (by omega)).A ?_
  simp only [go_sem, Nat.reduceBEq, Nat.reduceLT, Nat.reduceLeDiff, Nat.reduceAdd, Nat.reduceMul, Nat.reduceSub, Nat.reduceMod, Nat.reduceDiv, Nat.reduceEqDiff, Int.reduceToNat, reduceIte, reduceCtorEq, Int.reduceLE, Int.reduceLT, Int.reduceEq, Int.reduceNeg, Int.reduceAdd, Int.reduceSub, Int.reduceMul, V1o, V2o, V3o]
  refine (heldSpots_Q _ _ _ V2 R.length _ (I24.ext (by omega) hx5) (by omega)).A ?_
  simp only [go_sem, Nat.reduceBEq, Nat.reduceLT, Nat.reduceLeDiff, Nat.reduceAdd, Nat.reduceMul, Nat.reduceSub, Nat.reduceMod, Nat.reduceDiv, Nat.reduceEqDiff, Int.reduceToNat, reduceIte, reduceCtorEq, Int.reduceLE, Int.reduceLT, Int.reduceEq, Int.reduceNeg, Int.reduceAdd, Int.reduceSub, Int.reduceMul, V1o, V2o, V3o, posr]
  exact X5
end
end Go.Proofs.Ytnbpgkidphdcdaa.V
