/- Part 6 of the texts that this proof stands on: a symbolic walk over the program, what its functions and the reference's do, plain laws. -/
import Derived.Test.YtnbpgkidphdcdaaZsse
import Derived.Test.YtnbpgkidphdcdaaZssc
import Derived.Test.YtnbpgkidphdcdaaZssb
set_option linter.all false

/- Spreads: the program's own walk. -/
namespace Go.Proofs.Ytnbpgkidphdcdaa.V
/-- A list to which one may append. -/
def SpO (h : List (Nat × Seg)) (lo n : Nat) (V : SV) (L : List (Int × Int)) : Prop :=
  ∃ j cap s, V = .sl j 0 L.length cap ∧ lo ≤ j ∧ j < n ∧ hget h j = some s ∧ s.own = some (39, cap * 2) ∧ s.rw = true ∧ s.n = L.length * 2 ∧ L.length ≤ cap ∧ cap ≤ maxLen ∧ ∀ k, k < L.length * 2 → s.c k = spotsC L k
theorem SpO.sp {h : List (Nat × Seg)} {lo n : Nat} {V : SV} {L : List (Int × Int)} (hA : SpO h lo n V L) : Sp h lo n V L := by
  obtain ⟨i, cap, s, h1, h2, h3, h4, h5, h6, h7, h8, h9, h10⟩ := hA
  exact ⟨i, cap, s, h1, h2, h3, h4, h6, h7, h8, h10⟩
theorem both_sp (A B : List (Int × Int)) {c d : Nat → SV} {o : Nat} (hc : ∀ k, k < A.length * 2 → c k = spotsC A k) (hd : ∀ k, k < B.length * 2 → d (o + k) = spotsC B k) {k : Nat} (hk : k < (A ++ B).length * 2) : both (A.length * 2) c (news d o) k = spotsC (A ++ B) k := by
  rw [List.length_append] at hk
  unfold both news
  split
  · rename_i h; rw [hc k h, spotsC_take (b := B) h]
  · rename_i h
    rw [hd _ (by omega)]
    unfold spotsC
    have e : (A ++ B).getD (k / 2) (0, 0) = B.getD ((k - A.length * 2) / 2) (0, 0) := by
      rw [List.getD_eq_getElem?_getD, List.getD_eq_getElem?_getD, List.getElem?_append_right (by omega)]
      congr 2; omega
    rw [e, show (k - A.length * 2) % 2 = k % 2 by omega]
theorem nbs_take_succ (S : Sh) (L : List (Int × Int)) {q : Nat} (hq : q < L.length) : nbs S (L.take (q + 1)) = nbs S (L.take q) ++ nb S (L.getD q (0, 0)).1 (L.getD q (0, 0)).2 := by
  unfold nbs
  rw [List.take_succ, List.getElem?_eq_getElem hq, List.flatMap_append, List.getD_eq_getElem?_getD, List.getElem?_eq_getElem hq]
  simp
structure SpI (S : Sh) (L : List (Int × Int)) (h : List (Nat × Seg)) (n q : Nat) (hq : List (Nat × Seg)) (nq : Nat) (V : SV) : Prop where
  le : q ≤ L.length
  hn : n ≤ nq
  ok : HOk nq hq
  ex : HExt n h hq
  out : SpO hq n nq V (L ++ nbs S (L.take q))
section
variable (cx : Cx) (h : List (Nat × Seg)) (n : Nat)
theorem spread_E (i o : Nat) (s : Seg) (S : Sh) (A : SV) (L : List (Int × Int)) (lo : Nat) (hs : hget h i = some s) (hi : i < n) (hS : ShAt s o S) (hsm : Small S) (hA : Sp h lo n A L) (hm9 : L.length ≤ 1000000) (K : HK)
    (hK : ∀ V' h' n', n ≤ n' → HExt n h h' → HOk n' h' → Sp h' n n' V' (spreadL S L) → K V' h' n') :
    CallE Try.prog cx 59 [.ptr i o, A] h n K := by
  have hA0 := hA
  obtain ⟨j, cap, t, rfl, h2, h3, h4, h5, h6, h7, h8⟩ := hA
  refine CallE.hokE ?_
  refine callE_of_T (P := Try.prog) hti (nt := 24) (rs := [.tmp 4]) rfl rfl Try.call59 Try.func59 rfl _ (by simp only [go_sem, and_self]) (Nat.le_of_ble_eq_true rfl) _ fun hok => ?_
  simp only [go_sem, Nat.reduceBEq, Nat.reduceLT, Nat.reduceLeDiff, Nat.reduceAdd, Nat.reduceMul, Nat.reduceSub, Nat.reduceMod, Nat.reduceDiv, Nat.reduceEqDiff, Int.reduceToNat, reduceIte, reduceCtorEq, Int.reduceLE, Int.reduceLT, Int.reduceEq, Int.reduceNeg, Int.reduceAdd, Int.reduceSub, Int.reduceMul]
  refine callA_false (cloneO_E _ _ _ _ L lo hA0 (by omega) _ fun cap' c1 c2 => ?_)
  simp only [go_sem, Nat.reduceBEq, Nat.reduceLT, Nat.reduceLeDiff, Nat.reduceAdd, Nat.reduceMul, Nat.reduceSub, Nat.reduceMod, Nat.reduceDiv, Nat.reduceEqDiff, Int.reduceToNat, reduceIte, reduceCtorEq, Int.reduceLE, Int.reduceLT, Int.reduceEq, Int.reduceNeg, Int.reduceAdd, Int.reduceSub, Int.reduceMul]
  have ok1 : HOk (n + 1) ((n, ⟨L.length * 2, spotsC L, true, some (39, cap' * 2)⟩) :: h) := hok.consF fun k hk => spotsC_flat _ _
  have I0 : SpI S L h n 0 ((n, ⟨L.length * 2, spotsC L, true, some (39, cap' * 2)⟩) :: h) (n + 1) (.sl n 0 L.length cap') :=
    ⟨Nat.zero_le _, by omega, ok1, by simp only [go_sem, Nat.reduceBEq, Nat.reduceLT, Nat.reduceLeDiff, Nat.reduceAdd, Nat.reduceMul, Nat.reduceSub, Nat.reduceMod, Nat.reduceDiv, Nat.reduceEqDiff, Int.reduceToNat, reduceIte, reduceCtorEq, Int.reduceLE, Int.reduceLT, Int.reduceEq, Int.reduceNeg, Int.reduceAdd, Int.reduceSub, Int.reduceMul, HExt_cons], n, cap', _, by simp [nbs], Nat.le_refl _, by omega, hget_hit _ _ _, rfl, rfl, by simp [nbs], by simpa [nbs] using c1, c2, by simp [nbs]⟩
  refine T_lp (ι := { q : Nat × List (Nat × Seg) × Nat × SV // SpI S L h n q.1 q.2.1 q.2.2.1 q.2.2.2 })
    (fun q => ([(0, .ptr i o), (5, q.1.2.2.2), (10, .sl j 0 L.length cap), (11, .int .i64 L.length), (12, .int .i64 q.1.1)], q.1.2.1, q.1.2.2.1)) (fun q => L.length - q.1.1) ⟨(0, _, _, _), I0⟩ ?_ ?_
  · refine Imp.id (by simp) ?_ (impH.base0 ok1 (Nat.le_refl _) HExt.rfl)
    simp only [go_sem, Nat.reduceBEq, Nat.reduceLT, Nat.reduceLeDiff, Nat.reduceAdd, Nat.reduceMul, Nat.reduceSub, Nat.reduceMod, Nat.reduceDiv, Nat.reduceEqDiff, Int.reduceToNat, reduceIte, reduceCtorEq, Int.reduceLE, Int.reduceLT, Int.reduceEq, Int.reduceNeg, Int.reduceAdd, Int.reduceSub, Int.reduceMul]
    (try (repeat' apply And.intro) <;> first | omega | rfl | trivial | assumption | skip)
  · rintro ⟨⟨q, hq, nq, V⟩, ⟨I1, I2, I3, I4, I5⟩⟩
    simp only at I1 I2 I3 I4 I5
    have hM : (L ++ nbs S (L.take q)).length ≤ 5 * L.length := by
      have := nbs_len S (L.take q); rw [List.length_take] at this; rw [List.length_append]; omega
    have hVok := I5.sp.ok
    simp only [go_sem, Nat.reduceBEq, Nat.reduceLT, Nat.reduceLeDiff, Nat.reduceAdd, Nat.reduceMul, Nat.reduceSub, Nat.reduceMod, Nat.reduceDiv, Nat.reduceEqDiff, Int.reduceToNat, reduceIte, reduceCtorEq, Int.reduceLE, Int.reduceLT, Int.reduceEq, Int.reduceNeg, Int.reduceAdd, Int.reduceSub, Int.reduceMul, hVok, decide_eq_true_eq, decide_eq_false_iff_not]
    refine ⟨fun h1 => ?_, fun h1 => ?_⟩
    · have r1 : (0 : Int) ≤ q ∧ (q : Int) < L.length := ⟨by omega, by omega⟩
      have b1 : q * 2 ≤ t.n - 2 := by omega
      have b2 : 2 ≤ t.n := by omega
      have b3 : q * 2 + 2 ≤ t.n := by omega
      have htq : hget hq j = some t := I4 j h3 _ h4
      have hsq : hget hq i = some s := I4 i hi _ hs
      have hjq : j < nq := by omega
      have hiq : i < nq := by omega
      simp only [go_sem, Nat.reduceBEq, Nat.reduceLT, Nat.reduceLeDiff, Nat.reduceAdd, Nat.reduceMul, Nat.reduceSub, Nat.reduceMod, Nat.reduceDiv, Nat.reduceEqDiff, Int.reduceToNat, reduceIte, reduceCtorEq, Int.reduceLE, Int.reduceLT, Int.reduceEq, Int.reduceNeg, Int.reduceAdd, Int.reduceSub, Int.reduceMul, hVok, htq, hjq, r1, b1, b2, b3, h8 (q * 2) (by omega), h8 (q * 2 + 1) (by omega), spotsC_x, spotsC_y]
      refine callA_false (neighbours_E _ _ _ i o s S _ _ (by simp only [go_sem, Nat.reduceBEq, Nat.reduceLT, Nat.reduceLeDiff, Nat.reduceAdd, Nat.reduceMul, Nat.reduceSub, Nat.reduceMod, Nat.reduceDiv, Nat.reduceEqDiff, Int.reduceToNat, reduceIte, reduceCtorEq, Int.reduceLE, Int.reduceLT, Int.reduceEq, Int.reduceNeg, Int.reduceAdd, Int.reduceSub, Int.reduceMul, hsq, hiq]) (by omega) hS hsm _ fun capN => ?_)
      have hnl := nb_len4 S (L.getD q (0, 0)).1 (L.getD q (0, 0)).2
      have hst := nbs_take_succ S L (q := q) (by omega)
      obtain ⟨jv, capV, sV, e, v1, v2, v3, v4, v5, v6, v7, v8, v9⟩ := I5
      subst e
      obtain ⟨sn, sc, sr, so⟩ := sV
      simp only at v4 v5 v6 v9
      subst v4 v5 v6
      have hjv1 : nq ≠ jv := by omega
      have hjv2 : nq + 1 ≠ jv := by omega
      simp only [go_sem, Nat.reduceBEq, Nat.reduceLT, Nat.reduceLeDiff, Nat.reduceAdd, Nat.reduceMul, Nat.reduceSub, Nat.reduceMod, Nat.reduceDiv, Nat.reduceEqDiff, Int.reduceToNat, reduceIte, reduceCtorEq, Int.reduceLE, Int.reduceLT, Int.reduceEq, Int.reduceNeg, Int.reduceAdd, Int.reduceSub, Int.reduceMul, v3, v2, hjv1, hjv2]
      generalize hNB : nb S (L.getD q (0, 0)).1 (L.getD q (0, 0)).2 = B at *
      generalize hAA : L ++ nbs S (L.take q) = A at *
      have hst2 : L ++ nbs S (L.take (q + 1)) = A ++ B := by rw [hst, ← List.append_assoc, hAA]
      have hbo : ∀ k, k < (A.length + B.length) * 2 → both (A.length * 2) sc (news (spotsC B) 0) k = spotsC (A ++ B) k := fun k hk =>
        both_sp A B v9 (fun k _ => by rw [Nat.zero_add]) (by rw [List.length_append]; exact hk)
      refine ⟨⟨allP_iff.2 fun k hk => (spotsC_flat _ _).one, by omega, by omega, by omega⟩, fun capM m1 m2 => ?_⟩
      have okM : HOk (nq + 3) ((nq + 2, ⟨(A.length + B.length) * 2, both (A.length * 2) sc (news (spotsC B) 0), true, some (39, capM * 2)⟩) :: (nq + 1, ⟨B.length * 2, spotsC B, true, none⟩) ::
          (nq, ⟨2, cl [.int .i8 (L.getD q (0, 0)).1, .int .i8 (L.getD q (0, 0)).2], true, none⟩) :: hdel hq jv) :=
        ((I3.hdel.consF fun k hk => pair_flat _ _ hk).consF fun k hk => spotsC_flat _ _).consF fun k hk => by
          show (both (A.length * 2) sc (news (spotsC B) 0) k).flat
          rw [hbo k hk]; exact spotsC_flat _ _
      have exM : HExt n h ((nq + 2, ⟨(A.length + B.length) * 2, both (A.length * 2) sc (news (spotsC B) 0), true, some (39, capM * 2)⟩) :: (nq + 1, ⟨B.length * 2, spotsC B, true, none⟩) ::
          (nq, ⟨2, cl [.int .i8 (L.getD q (0, 0)).1, .int .i8 (L.getD q (0, 0)).2], true, none⟩) :: hdel hq jv) := fun z hz t ht => by
        simp only [hget]
        rw [if_neg (by omega), if_neg (by omega), if_neg (by omega), hget_hdel, if_neg (by omega)]
        exact I4 z hz t ht
      have IM : SpI S L h n (q + 1) _ (nq + 3) (.sl (nq + 2) 0 (A.length + B.length) capM) :=
        ⟨by omega, by omega, okM, exM, nq + 2, capM, _, by rw [hst2, List.length_append], by omega, by omega, hget_hit _ _ _, rfl, rfl, by rw [hst2, List.length_append], by rw [hst2, List.length_append]; exact m1, m2, by
          rw [hst2]; intro k hk; exact hbo k (by rw [List.length_append] at hk; exact hk)⟩
      refine ⟨⟨(q + 1, _, _, _), IM⟩, by show L.length - (q + 1) < L.length - q; omega, ?_⟩
      refine Imp.id (by show n ≤ nq + 3; omega) ?_ (impH.base0 okM (Nat.le_refl _) HExt.rfl)
      simp only [go_sem, Nat.reduceBEq, Nat.reduceLT, Nat.reduceLeDiff, Nat.reduceAdd, Nat.reduceMul, Nat.reduceSub, Nat.reduceMod, Nat.reduceDiv, Nat.reduceEqDiff, Int.reduceToNat, reduceIte, reduceCtorEq, Int.reduceLE, Int.reduceLT, Int.reduceEq, Int.reduceNeg, Int.reduceAdd, Int.reduceSub, Int.reduceMul, w64N (a := (q : Int) + 1) (k := q + 1) (by omega) (by omega)]
      (try (repeat' apply And.intro) <;> first | omega | rfl | trivial | assumption | skip)
    · have hqL : q = L.length := by omega
      subst hqL
      rw [List.take_length] at I5 hM
      have hlen : (setL (L ++ nbs S L)).length ≤ (L ++ nbs S L).length := by rw [← compT_set]; exact Nat.le_trans (compT_len _ _) (Nat.le_of_eq (srtS_len _))
      obtain ⟨jv, capV, sV, rfl, v1, v2, v3, v4, v5, v6, v7, v8, v9⟩ := I5
      refine callA_false (set_E _ _ _ jv capV (L ++ nbs S L) sV v3 v2 (by omega) v9 (by omega) _ fun cap3 hc3 => ?_)
      simp only [go_sem, Nat.reduceBEq, Nat.reduceLT, Nat.reduceLeDiff, Nat.reduceAdd, Nat.reduceMul, Nat.reduceSub, Nat.reduceMod, Nat.reduceDiv, Nat.reduceEqDiff, Int.reduceToNat, reduceIte, reduceCtorEq, Int.reduceLE, Int.reduceLT, Int.reduceEq, Int.reduceNeg, Int.reduceAdd, Int.reduceSub, Int.reduceMul]
      refine fun hok' => hK _ _ _ (by omega) (fun z hz t ht => by simp only [hget]; rw [if_neg (by omega)]; exact I4 z hz t ht) hok' ⟨nq, cap3, _, rfl, by omega, by omega, hget_hit _ _ _, rfl, rfl, hc3, fun _ _ => rfl⟩
end
end Go.Proofs.Ytnbpgkidphdcdaa.V

/- Sets of cells: the reference's lists and spreads. -/
namespace Go.Proofs.Ytnbpgkidphdcdaa.V
/-- One spot appended. -/
theorem app1 {h hq : List (Nat × Seg)} {n nq jv cap : Nat} {A : List (Int × Int)} {a : Int × Int} {sc c1 : Nat → SV} {w : Option (Nat × Nat)} (I1 : n ≤ nq) (I2 : HOk nq hq) (I3 : HExt n h hq) (v1 : n ≤ jv) (c10 : c1 0 = .int .i8 a.1) (c11 : c1 1 = .int .i8 a.2)
    (v9 : ∀ k, k < A.length * 2 → sc k = spotsC A k) (m1 : A.length + 1 ≤ cap) (m2 : cap ≤ maxLen) :
    HOk (nq + 2) ((nq + 1, ⟨(A.length + 1) * 2, both (A.length * 2) sc (news c1 0), true, some (39, cap * 2)⟩) :: (nq, ⟨2, c1, true, w⟩) :: hdel hq jv) ∧
    HExt n h ((nq + 1, ⟨(A.length + 1) * 2, both (A.length * 2) sc (news c1 0), true, some (39, cap * 2)⟩) :: (nq, ⟨2, c1, true, w⟩) :: hdel hq jv) ∧
    SpO ((nq + 1, ⟨(A.length + 1) * 2, both (A.length * 2) sc (news c1 0), true, some (39, cap * 2)⟩) :: (nq, ⟨2, c1, true, w⟩) :: hdel hq jv) n (nq + 2) (.sl (nq + 1) 0 (A.length + 1) cap) (A ++ [a]) := by
  have hB : ∀ k, k < ([a] : List (Int × Int)).length * 2 → c1 (0 + k) = spotsC [a] k := fun k hk => by
    simp at hk
    rcases (by omega : k = 0 ∨ k = 1) with rfl | rfl
    · exact c10
    · exact c11
  have hbo : ∀ k, k < (A.length + 1) * 2 → both (A.length * 2) sc (news c1 0) k = spotsC (A ++ [a]) k := fun k hk =>
    both_sp A [a] v9 hB (by rw [List.length_append]; exact hk)
  refine ⟨(I2.hdel.consF fun k hk => ?_).consF fun k hk => ?_, fun z hz t ht => ?_, nq + 1, cap, _, by rw [List.length_append]; rfl, by omega, by omega, hget_hit _ _ _, rfl, rfl, by rw [List.length_append]; rfl, by rw [List.length_append]; exact m1, m2, fun k hk => hbo k (by rw [List.length_append] at hk; exact hk)⟩
  · have hk : k < 2 := hk
    have := hB k (by simpa using hk)
    rw [Nat.zero_add] at this
    show (c1 k).flat
    rw [this]; exact spotsC_flat _ _
  · show (both (A.length * 2) sc (news c1 0) k).flat
    rw [hbo k hk]; exact spotsC_flat _ _
  · simp only [hget]
    rw [if_neg (by omega), if_neg (by omega), hget_hdel, if_neg (by omega)]
    exact I3 z hz t ht
structure LsI (L : List (Int × Int)) (h : List (Nat × Seg)) (n k : Nat) (hq : List (Nat × Seg)) (nq : Nat) (V : SV) : Prop where
  hn : n ≤ nq
  ok : HOk nq hq
  ex : HExt n h hq
  out : SpO hq n nq V (upM L k)
theorem cellK_at {y x : Nat} (hx : x < 8) : cellK (y * 8 + x) = ((x : Int), (y : Int)) := by
  unfold cellK; rw [show (y * 8 + x) % 8 = x by omega, show (y * 8 + x) / 8 = y by omega]
section
variable (cx : Cx) (h : List (Nat × Seg)) (n : Nat)
set_option maxHeartbeats 1600000 in
theorem list_E (g : Nat) (L : List (Int × Int)) (hg : hget h g = some (mkS L)) (hgn : g < n) (K : HK)
    (hK : ∀ V h' n', n ≤ n' → HExt n h h' → HOk n' h' → Sp h' n n' V (upM L 64) → K V h' n') :
    CallE Try.prog cx 41 [.ptr g 0] h n K := by
  refine CallE.hokE ?_
  refine callE_of_T (P := Try.prog) hti (nt := 29) (rs := [.tmp 2]) rfl rfl Try.call41 Try.func41 rfl _ (by simp only [go_sem, and_self]) (Nat.le_of_ble_eq_true rfl) _ fun hok => ?_
  simp only [go_sem, Nat.reduceBEq, Nat.reduceLT, Nat.reduceLeDiff, Nat.reduceAdd, Nat.reduceMul, Nat.reduceSub, Nat.reduceMod, Nat.reduceDiv, Nat.reduceEqDiff, Int.reduceToNat, reduceIte, reduceCtorEq, Int.reduceLE, Int.reduceLT, Int.reduceEq, Int.reduceNeg, Int.reduceAdd, Int.reduceSub, Int.reduceMul]
  have ok1 : HOk (n + 1) ((n, ⟨0, zrow (ti 39), true, some (39, 0)⟩) :: h) := hok.consF fun k hk => absurd hk (Nat.not_lt_zero k)
  have I0 : LsI L h n 0 ((n, ⟨0, zrow (ti 39), true, some (39, 0)⟩) :: h) (n + 1) (.sl n 0 0 0) :=
    ⟨by omega, ok1, by simp only [go_sem, Nat.reduceBEq, Nat.reduceLT, Nat.reduceLeDiff, Nat.reduceAdd, Nat.reduceMul, Nat.reduceSub, Nat.reduceMod, Nat.reduceDiv, Nat.reduceEqDiff, Int.reduceToNat, reduceIte, reduceCtorEq, Int.reduceLE, Int.reduceLT, Int.reduceEq, Int.reduceNeg, Int.reduceAdd, Int.reduceSub, Int.reduceMul, HExt_cons], n, 0, _, rfl, Nat.le_refl _, by omega, hget_hit _ _ _, rfl, rfl, rfl, Nat.le_refl _, Nat.zero_le _, fun k hk => absurd hk (Nat.not_lt_zero k)⟩
  refine T_lp (ι := { q : Nat × List (Nat × Seg) × Nat × SV // q.1 ≤ 8 ∧ LsI L h n (q.1 * 8) q.2.1 q.2.2.1 q.2.2.2 })
    (fun q => ([(0, .ptr g 0), (3, q.1.2.2.2), (4, .int .i8 ((q.1.1 : Nat) : Int))], q.1.2.1, q.1.2.2.1)) (fun q => 8 - q.1.1) ⟨(0, _, _, _), by omega, I0⟩ ?_ ?_
  · refine Imp.id (by show n ≤ n + 1; omega) ?_ (impH.base0 ok1 (Nat.le_refl _) HExt.rfl)
    simp only [go_sem, Nat.reduceBEq, Nat.reduceLT, Nat.reduceLeDiff, Nat.reduceAdd, Nat.reduceMul, Nat.reduceSub, Nat.reduceMod, Nat.reduceDiv, Nat.reduceEqDiff, Int.reduceToNat, reduceIte, reduceCtorEq, Int.reduceLE, Int.reduceLT, Int.reduceEq, Int.reduceNeg, Int.reduceAdd, Int.reduceSub, Int.reduceMul]
    (try (repeat' apply And.intro) <;> first | omega | rfl | trivial | assumption | skip)
  rintro ⟨⟨y, hy, ny, Vy⟩, hy8, J1, J2, J3, J4⟩
  simp only at hy8 J1 J2 J3 J4
  have Vyo := J4.sp.ok
  simp only [go_sem, Nat.reduceBEq, Nat.reduceLT, Nat.reduceLeDiff, Nat.reduceAdd, Nat.reduceMul, Nat.reduceSub, Nat.reduceMod, Nat.reduceDiv, Nat.reduceEqDiff, Int.reduceToNat, reduceIte, reduceCtorEq, Int.reduceLE, Int.reduceLT, Int.reduceEq, Int.reduceNeg, Int.reduceAdd, Int.reduceSub, Int.reduceMul, Vyo, decide_eq_true_eq, decide_eq_false_iff_not]
  refine ⟨fun h1 => ?_, fun h1 => ?_⟩
  rotate_left
  · have hy88 : y = 8 := by omega
    subst hy88
    exact fun hok' => hK Vy hy ny J1 J3 hok' J4.sp
  refine T_lp (ι := { q : Nat × List (Nat × Seg) × Nat × SV // q.1 ≤ 8 ∧ LsI L h n (y * 8 + q.1) q.2.1 q.2.2.1 q.2.2.2 })
    (fun q => ([(0, .ptr g 0), (3, q.1.2.2.2), (4, .int .i8 ((y : Nat) : Int)), (5, .int .i8 ((q.1.1 : Nat) : Int))], q.1.2.1, q.1.2.2.1)) (fun q => 8 - q.1.1) ⟨(0, hy, ny, Vy), by omega, J1, J2, J3, J4⟩ ?_ ?_
  · refine Imp.id (by show n ≤ ny; omega) ?_ (impH.base0 J2 (Nat.le_refl _) HExt.rfl)
    simp only [go_sem, Nat.reduceBEq, Nat.reduceLT, Nat.reduceLeDiff, Nat.reduceAdd, Nat.reduceMul, Nat.reduceSub, Nat.reduceMod, Nat.reduceDiv, Nat.reduceEqDiff, Int.reduceToNat, reduceIte, reduceCtorEq, Int.reduceLE, Int.reduceLT, Int.reduceEq, Int.reduceNeg, Int.reduceAdd, Int.reduceSub, Int.reduceMul, Vyo, J4.sp.lt]
    (try omega)
  rintro ⟨⟨x, hq, nq, V⟩, hx8, I1, I2, I3, I4⟩
  simp only at hx8 I1 I2 I3 I4
  have Vo := I4.sp.ok
  have hul := upM_len L (y * 8 + x)
  have hgq : hget hq g = some (mkS L) := I3 g hgn _ hg
  have hgnq : g < nq := by omega
  simp only [go_sem, Nat.reduceBEq, Nat.reduceLT, Nat.reduceLeDiff, Nat.reduceAdd, Nat.reduceMul, Nat.reduceSub, Nat.reduceMod, Nat.reduceDiv, Nat.reduceEqDiff, Int.reduceToNat, reduceIte, reduceCtorEq, Int.reduceLE, Int.reduceLT, Int.reduceEq, Int.reduceNeg, Int.reduceAdd, Int.reduceSub, Int.reduceMul, Vo, decide_eq_true_eq, decide_eq_false_iff_not]
  refine ⟨fun h2 => ?_, fun h2 => ?_⟩
  rotate_left
  · have hx88 : x = 8 := by omega
    subst hx88
    simp only [go_sem, Nat.reduceBEq, Nat.reduceLT, Nat.reduceLeDiff, Nat.reduceAdd, Nat.reduceMul, Nat.reduceSub, Nat.reduceMod, Nat.reduceDiv, Nat.reduceEqDiff, Int.reduceToNat, reduceIte, reduceCtorEq, Int.reduceLE, Int.reduceLT, Int.reduceEq, Int.reduceNeg, Int.reduceAdd, Int.reduceSub, Int.reduceMul, Vo]
    refine ⟨⟨(y + 1, hq, nq, V), by show y + 1 ≤ 8; omega, I1, I2, I3, by rw [show (y + 1) * 8 = y * 8 + 8 by omega]; exact I4⟩, by show 8 - (y + 1) < 8 - y; omega, ?_⟩
    refine Imp.id (by show n ≤ nq; omega) ?_ (impH.base0 I2 (Nat.le_refl _) HExt.rfl)
    simp only [go_sem, Nat.reduceBEq, Nat.reduceLT, Nat.reduceLeDiff, Nat.reduceAdd, Nat.reduceMul, Nat.reduceSub, Nat.reduceMod, Nat.reduceDiv, Nat.reduceEqDiff, Int.reduceToNat, reduceIte, reduceCtorEq, Int.reduceLE, Int.reduceLT, Int.reduceEq, Int.reduceNeg, Int.reduceAdd, Int.reduceSub, Int.reduceMul, Vo, I4.sp.lt, w8 (n := (y : Int) + 1) (by omega), Int.natCast_add, Int.natCast_one]
    (try (repeat' apply And.intro) <;> first | omega | rfl | trivial | assumption | skip)
  have hyx : y * 8 + x ≤ 63 := by omega
  have hm := mkC_at L (y := (y : Int)) (x := (x : Int)) (by omega) (by omega) (by omega)
  rw [Int.toNat_natCast, Int.toNat_natCast] at hm
  have hsucc := upM_succ L (y * 8 + x)
  rw [cellK_at (by omega)] at hsucc
  have I4c := I4
  obtain ⟨jv, capV, sV, e, v1, v2, v3, v4, v5, v6, v7, v8, v9⟩ := I4
  subst e
  simp only [go_sem, Nat.reduceBEq, Nat.reduceLT, Nat.reduceLeDiff, Nat.reduceAdd, Nat.reduceMul, Nat.reduceSub, Nat.reduceMod, Nat.reduceDiv, Nat.reduceEqDiff, Int.reduceToNat, reduceIte, reduceCtorEq, Int.reduceLE, Int.reduceLT, Int.reduceEq, Int.reduceNeg, Int.reduceAdd, Int.reduceSub, Int.reduceMul, hgq, hgnq, hm, hyx, show ((0 : Int) ≤ (y : Int) ∧ (y : Int) < 8) from ⟨by omega, by omega⟩, show ((0 : Int) ≤ (x : Int) ∧ (x : Int) < 8) from ⟨by omega, by omega⟩]
  by_cases hin : ((x : Int), (y : Int)) ∈ L
  rotate_left
  · rw [if_neg hin, List.append_nil] at hsucc
    simp only [go_sem, Nat.reduceBEq, Nat.reduceLT, Nat.reduceLeDiff, Nat.reduceAdd, Nat.reduceMul, Nat.reduceSub, Nat.reduceMod, Nat.reduceDiv, Nat.reduceEqDiff, Int.reduceToNat, reduceIte, reduceCtorEq, Int.reduceLE, Int.reduceLT, Int.reduceEq, Int.reduceNeg, Int.reduceAdd, Int.reduceSub, Int.reduceMul, hin]
    refine ⟨⟨(x + 1, hq, nq, .sl jv 0 (upM L (y * 8 + x)).length capV), by show x + 1 ≤ 8; omega, I1, I2, I3, by rw [show y * 8 + (x + 1) = y * 8 + x + 1 by omega, hsucc]; exact I4c⟩, by show 8 - (x + 1) < 8 - x; omega, ?_⟩
    refine Imp.id (by show n ≤ nq; omega) ?_ (impH.base0 I2 (Nat.le_refl _) HExt.rfl)
    simp only [go_sem, Nat.reduceBEq, Nat.reduceLT, Nat.reduceLeDiff, Nat.reduceAdd, Nat.reduceMul, Nat.reduceSub, Nat.reduceMod, Nat.reduceDiv, Nat.reduceEqDiff, Int.reduceToNat, reduceIte, reduceCtorEq, Int.reduceLE, Int.reduceLT, Int.reduceEq, Int.reduceNeg, Int.reduceAdd, Int.reduceSub, Int.reduceMul, v2, w8 (n := (x : Int) + 1) (by omega), Int.natCast_add, Int.natCast_one]
    (try (repeat' apply And.intro) <;> first | omega | rfl | trivial | assumption | skip)
  · rw [if_pos hin] at hsucc
    obtain ⟨sn, sc, sr, so⟩ := sV
    simp only at v4 v5 v6 v9
    subst v4 v5 v6
    have hjv1 : nq ≠ jv := by omega
    simp only [go_sem, Nat.reduceBEq, Nat.reduceLT, Nat.reduceLeDiff, Nat.reduceAdd, Nat.reduceMul, Nat.reduceSub, Nat.reduceMod, Nat.reduceDiv, Nat.reduceEqDiff, Int.reduceToNat, reduceIte, reduceCtorEq, Int.reduceLE, Int.reduceLT, Int.reduceEq, Int.reduceNeg, Int.reduceAdd, Int.reduceSub, Int.reduceMul, hin, v3, v2, hjv1, ↓I2.del (Nat.le_refl nq)]
    generalize hAA : upM L (y * 8 + x) = A at *
    refine ⟨⟨v7, v8, by omega⟩, fun cap' m1 m2 => ?_⟩
    obtain ⟨okM, exM, spM⟩ := app1 (a := ((x : Int), (y : Int))) (w := some (39, 2)) (c1 := fun j => if j < 2 then cl [SV.int IntKind.i8 x, SV.int IntKind.i8 y] (j - 0) else cl [SV.int IntKind.i8 0, SV.int IntKind.i8 0] (j % 2)) I1 I2 I3 v1 rfl rfl v9 m1 m2
    refine ⟨⟨(x + 1, _, nq + 2, .sl (nq + 1) 0 (A.length + 1) cap'), by show x + 1 ≤ 8; omega, by show n ≤ nq + 2; omega, okM, exM, by rw [show y * 8 + (x + 1) = y * 8 + x + 1 by omega, hsucc]; exact spM⟩, by show 8 - (x + 1) < 8 - x; omega, ?_⟩
    refine Imp.id (by show n ≤ nq + 2; omega) ?_ (impH.base0 okM (Nat.le_refl _) HExt.rfl)
    simp only [go_sem, Nat.reduceBEq, Nat.reduceLT, Nat.reduceLeDiff, Nat.reduceAdd, Nat.reduceMul, Nat.reduceSub, Nat.reduceMod, Nat.reduceDiv, Nat.reduceEqDiff, Int.reduceToNat, reduceIte, reduceCtorEq, Int.reduceLE, Int.reduceLT, Int.reduceEq, Int.reduceNeg, Int.reduceAdd, Int.reduceSub, Int.reduceMul, w8 (n := (x : Int) + 1) (by omega), Int.natCast_add, Int.natCast_one]
    (try (repeat' apply And.intro) <;> first | omega | rfl | trivial | assumption | skip)
end
end Go.Proofs.Ytnbpgkidphdcdaa.V

/- Sets of cells: the program's answers. -/
namespace Go.Proofs.Ytnbpgkidphdcdaa.V
def allIn (S : Sh) (L : List (Int × Int)) : Bool := L.all fun a => hasB S a.1 a.2
theorem allIn_8 {S : Sh} (hS : Small S) {L : List (Int × Int)} (h : allIn S L = true) : In8s L := fun p hp => by
  have := hasB_in hS (List.all_eq_true.1 h p hp)
  exact ⟨⟨this.1, this.2.1⟩, this.2.2⟩
noncomputable def stepsR (S : Sh) (L : List (Int × Int)) (k : Int) : List (Int × Int) × Int :=
  if codeI S (allIn S L && decide (0 ≤ k ∧ k ≤ 16)) = 0 then (spreadN S k.toNat (bareL S L), 0) else ([], codeI S (allIn S L && decide (0 ≤ k ∧ k ≤ 16)))
theorem codeI_0 {S : Sh} {b : Bool} (h : codeI S b = 0) : Valid S ∧ b = true := by
  by_cases hV : Valid S
  · rw [codeI_ok hV] at h
    cases b
    · cases h
    · exact ⟨hV, rfl⟩
  · rw [codeI_bad hV] at h; cases h
section
variable (cx : Cx) (h : List (Nat × Seg)) (n : Nat)
/-- A set that spreads, so many times. -/
theorem steps_E (S : Sh) (hR : ShR S) (A : SV) (L : List (Int × Int)) (lo : Nat) (hA : Sp h lo n A L) (hm9 : L.length ≤ 1048576) (k : Int) (K : HK)
    (hK : ∀ V h' n', n ≤ n' → HExt n h h' → HOk n' h' → SpsOut h' n n' V (stepsR S L k).1 → K (.tup 2 (cl [V, .int .i64 (stepsR S L k).2])) h' n') :
    CallE Try.prog cx 23 [.agg 266 (shC S), A, .int .i64 k] h n K := by
  have hA0 := hA
  obtain ⟨jA, capA, tA, rfl, _⟩ := hA
  have hA1 : Sp ((n, shS S) :: h) lo (n + 1) (.sl jA 0 L.length capA) L := hA0.ext (by omega) (by simp only [go_sem, Nat.reduceBEq, Nat.reduceLT, Nat.reduceLeDiff, Nat.reduceAdd, Nat.reduceMul, Nat.reduceSub, Nat.reduceMod, Nat.reduceDiv, Nat.reduceEqDiff, Int.reduceToNat, reduceIte, reduceCtorEq, Int.reduceLE, Int.reduceLT, Int.reduceEq, Int.reduceNeg, Int.reduceAdd, Int.reduceSub, Int.reduceMul, HExt_cons])
  refine CallE.hokE ?_
  refine callE_of_T (P := Try.prog) hti (nt := 29) (rs := [.tmp 6, .tmp 7]) rfl rfl Try.call23 Try.func23 rfl _ (by simp only [go_sem, and_self]) (Nat.le_of_ble_eq_true rfl) _ fun hok => ?_
  have okS : HOk (n + 1) ((n, shS S) :: h) := hok.consF fun k hk => shC_flat _ _
  simp only [go_sem, Nat.reduceBEq, Nat.reduceLT, Nat.reduceLeDiff, Nat.reduceAdd, Nat.reduceMul, Nat.reduceSub, Nat.reduceMod, Nat.reduceDiv, Nat.reduceEqDiff, Int.reduceToNat, reduceIte, reduceCtorEq, Int.reduceLE, Int.reduceLT, Int.reduceEq, Int.reduceNeg, Int.reduceAdd, Int.reduceSub, Int.reduceMul]
  refine (hasAll_Q _ _ _ n 0 (shS S) S _ L lo (by simp only [go_sem, Nat.reduceBEq, Nat.reduceLT, Nat.reduceLeDiff, Nat.reduceAdd, Nat.reduceMul, Nat.reduceSub, Nat.reduceMod, Nat.reduceDiv, Nat.reduceEqDiff, Int.reduceToNat, reduceIte, reduceCtorEq, Int.reduceLE, Int.reduceLT, Int.reduceEq, Int.reduceNeg, Int.reduceAdd, Int.reduceSub, Int.reduceMul]) (by omega) (shAt_shC hR) hA1 (by omega)).A ?_
  have bad : ∀ (c : Int), codeI S (allIn S L && decide (0 ≤ k ∧ k ≤ 16)) = c → c ≠ 0 → HOk (n + 1) ((n, shS S) :: h) → K (.tup 2 (cl [.nils, .int .i64 c])) ((n, shS S) :: h) (n + 1) := fun c e hc _ => by
    have := hK .nils ((n, shS S) :: h) (n + 1) (by omega) (by simp only [go_sem, Nat.reduceBEq, Nat.reduceLT, Nat.reduceLeDiff, Nat.reduceAdd, Nat.reduceMul, Nat.reduceSub, Nat.reduceMod, Nat.reduceDiv, Nat.reduceEqDiff, Int.reduceToNat, reduceIte, reduceCtorEq, Int.reduceLE, Int.reduceLT, Int.reduceEq, Int.reduceNeg, Int.reduceAdd, Int.reduceSub, Int.reduceMul, HExt_cons]) okS (by unfold stepsR; rw [e, if_neg hc]; exact .inl ⟨rfl, rfl⟩)
    unfold stepsR at this; rw [e, if_neg hc] at this; exact this
  have e0 : (L.all fun a => hasB S a.1 a.2) = allIn S L := rfl
  by_cases hall : allIn S L = true
  rotate_left
  · have hall' : allIn S L = false := by simpa using hall
    rw [hall', Bool.false_and] at bad
    simp only [go_sem, Nat.reduceBEq, Nat.reduceLT, Nat.reduceLeDiff, Nat.reduceAdd, Nat.reduceMul, Nat.reduceSub, Nat.reduceMod, Nat.reduceDiv, Nat.reduceEqDiff, Int.reduceToNat, reduceIte, reduceCtorEq, Int.reduceLE, Int.reduceLT, Int.reduceEq, Int.reduceNeg, Int.reduceAdd, Int.reduceSub, Int.reduceMul, e0, hall']
    refine (code_Q _ _ _ n 0 (shS S) S false (by simp only [go_sem, Nat.reduceBEq, Nat.reduceLT, Nat.reduceLeDiff, Nat.reduceAdd, Nat.reduceMul, Nat.reduceSub, Nat.reduceMod, Nat.reduceDiv, Nat.reduceEqDiff, Int.reduceToNat, reduceIte, reduceCtorEq, Int.reduceLE, Int.reduceLT, Int.reduceEq, Int.reduceNeg, Int.reduceAdd, Int.reduceSub, Int.reduceMul]) (by omega) (shAt_shC hR)).A ?_
    have hne : codeI S false ≠ 0 := fun e => by cases (codeI_0 e).2
    simp only [go_sem, Nat.reduceBEq, Nat.reduceLT, Nat.reduceLeDiff, Nat.reduceAdd, Nat.reduceMul, Nat.reduceSub, Nat.reduceMod, Nat.reduceDiv, Nat.reduceEqDiff, Int.reduceToNat, reduceIte, reduceCtorEq, Int.reduceLE, Int.reduceLT, Int.reduceEq, Int.reduceNeg, Int.reduceAdd, Int.reduceSub, Int.reduceMul, hne]
    exact bad _ rfl hne
  rw [hall, Bool.true_and] at bad
  simp only [go_sem, Nat.reduceBEq, Nat.reduceLT, Nat.reduceLeDiff, Nat.reduceAdd, Nat.reduceMul, Nat.reduceSub, Nat.reduceMod, Nat.reduceDiv, Nat.reduceEqDiff, Int.reduceToNat, reduceIte, reduceCtorEq, Int.reduceLE, Int.reduceLT, Int.reduceEq, Int.reduceNeg, Int.reduceAdd, Int.reduceSub, Int.reduceMul, e0, hall]
  refine (within_Q _ _ _ k 0 16).A ?_
  simp only [go_sem, Nat.reduceBEq, Nat.reduceLT, Nat.reduceLeDiff, Nat.reduceAdd, Nat.reduceMul, Nat.reduceSub, Nat.reduceMod, Nat.reduceDiv, Nat.reduceEqDiff, Int.reduceToNat, reduceIte, reduceCtorEq, Int.reduceLE, Int.reduceLT, Int.reduceEq, Int.reduceNeg, Int.reduceAdd, Int.reduceSub, Int.reduceMul]
  refine (code_Q _ _ _ n 0 (shS S) S (decide (0 ≤ k ∧ k ≤ 16)) (by simp only [go_sem, Nat.reduceBEq, Nat.reduceLT, Nat.reduceLeDiff, Nat.reduceAdd, Nat.reduceMul, Nat.reduceSub, Nat.reduceMod, Nat.reduceDiv, Nat.reduceEqDiff, Int.reduceToNat, reduceIte, reduceCtorEq, Int.reduceLE, Int.reduceLT, Int.reduceEq, Int.reduceNeg, Int.reduceAdd, Int.reduceSub, Int.reduceMul]) (by omega) (shAt_shC hR)).A ?_
  by_cases hc : codeI S (decide (0 ≤ k ∧ k ≤ 16)) = 0
  rotate_left
  · simp only [go_sem, Nat.reduceBEq, Nat.reduceLT, Nat.reduceLeDiff, Nat.reduceAdd, Nat.reduceMul, Nat.reduceSub, Nat.reduceMod, Nat.reduceDiv, Nat.reduceEqDiff, Int.reduceToNat, reduceIte, reduceCtorEq, Int.reduceLE, Int.reduceLT, Int.reduceEq, Int.reduceNeg, Int.reduceAdd, Int.reduceSub, Int.reduceMul, hc]
    exact bad _ rfl hc
  have hgood : stepsR S L k = (spreadN S k.toNat (bareL S L), 0) := by unfold stepsR; rw [hall, Bool.true_and, if_pos hc]
  rw [hgood] at hK
  obtain ⟨hV, hk⟩ := codeI_0 hc
  have hk := of_decide_eq_true hk
  have hsm := hV.1
  have hL8 := allIn_8 hsm hall
  simp only [go_sem, Nat.reduceBEq, Nat.reduceLT, Nat.reduceLeDiff, Nat.reduceAdd, Nat.reduceMul, Nat.reduceSub, Nat.reduceMod, Nat.reduceDiv, Nat.reduceEqDiff, Int.reduceToNat, reduceIte, reduceCtorEq, Int.reduceLE, Int.reduceLT, Int.reduceEq, Int.reduceNeg, Int.reduceAdd, Int.reduceSub, Int.reduceMul, hc]
  refine callA_false (bare_E _ _ _ n 0 (shS S) S _ L lo (by simp only [go_sem, Nat.reduceBEq, Nat.reduceLT, Nat.reduceLeDiff, Nat.reduceAdd, Nat.reduceMul, Nat.reduceSub, Nat.reduceMod, Nat.reduceDiv, Nat.reduceEqDiff, Int.reduceToNat, reduceIte, reduceCtorEq, Int.reduceLE, Int.reduceLT, Int.reduceEq, Int.reduceNeg, Int.reduceAdd, Int.reduceSub, Int.reduceMul]) (by omega) (shAt_shC hR) hA1 (by omega) hL8 _ fun V1 h1 n1 hn1 hx1 ok1 hV1 => ?_)
  have V1o := hV1.ok
  simp only [go_sem, Nat.reduceBEq, Nat.reduceLT, Nat.reduceLeDiff, Nat.reduceAdd, Nat.reduceMul, Nat.reduceSub, Nat.reduceMod, Nat.reduceDiv, Nat.reduceEqDiff, Int.reduceToNat, reduceIte, reduceCtorEq, Int.reduceLE, Int.reduceLT, Int.reduceEq, Int.reduceNeg, Int.reduceAdd, Int.reduceSub, Int.reduceMul, V1o]
  have x1 : HExt n h h1 := HExt.tr (m' := n + 1) (by simp only [go_sem, Nat.reduceBEq, Nat.reduceLT, Nat.reduceLeDiff, Nat.reduceAdd, Nat.reduceMul, Nat.reduceSub, Nat.reduceMod, Nat.reduceDiv, Nat.reduceEqDiff, Int.reduceToNat, reduceIte, reduceCtorEq, Int.reduceLE, Int.reduceLT, Int.reduceEq, Int.reduceNeg, Int.reduceAdd, Int.reduceSub, Int.reduceMul, HExt_cons]) hx1 (by omega)
  refine T_lp (ι := { q : Nat × List (Nat × Seg) × Nat × SV // q.1 ≤ k.toNat ∧ n1 ≤ q.2.2.1 ∧ HOk q.2.2.1 q.2.1 ∧ HExt (n + 1) ((n, shS S) :: h) q.2.1 ∧ Sp q.2.1 n q.2.2.1 q.2.2.2 (spreadN S q.1 (bareL S L)) })
    (fun q => ([(3, .ptr n 0), (9, q.1.2.2.2), (22, .int .i64 k), (23, .int .i64 ((q.1.1 : Nat) : Int))], q.1.2.1, q.1.2.2.1)) (fun q => k.toNat - q.1.1) ⟨(0, h1, n1, V1), Nat.zero_le _, Nat.le_refl _, ok1, hx1, hV1.lo (by omega)⟩ ?_ ?_
  · refine Imp.id (by show n ≤ n1; omega) ?_ (impH.base0 ok1 (Nat.le_refl _) HExt.rfl)
    simp only [go_sem, Nat.reduceBEq, Nat.reduceLT, Nat.reduceLeDiff, Nat.reduceAdd, Nat.reduceMul, Nat.reduceSub, Nat.reduceMod, Nat.reduceDiv, Nat.reduceEqDiff, Int.reduceToNat, reduceIte, reduceCtorEq, Int.reduceLE, Int.reduceLT, Int.reduceEq, Int.reduceNeg, Int.reduceAdd, Int.reduceSub, Int.reduceMul, V1o, hV1.lt]
    omega
  · rintro ⟨⟨q, hq, nq, V⟩, I1, I2, I3, I4, I5⟩
    simp only at I1 I2 I3 I4 I5
    have Vo := I5.ok
    have g0 : hget hq n = some (shS S) := I4 n (by omega) _ (by simp only [go_sem, Nat.reduceBEq, Nat.reduceLT, Nat.reduceLeDiff, Nat.reduceAdd, Nat.reduceMul, Nat.reduceSub, Nat.reduceMod, Nat.reduceDiv, Nat.reduceEqDiff, Int.reduceToNat, reduceIte, reduceCtorEq, Int.reduceLE, Int.reduceLT, Int.reduceEq, Int.reduceNeg, Int.reduceAdd, Int.reduceSub, Int.reduceMul])
    simp only [go_sem, Nat.reduceBEq, Nat.reduceLT, Nat.reduceLeDiff, Nat.reduceAdd, Nat.reduceMul, Nat.reduceSub, Nat.reduceMod, Nat.reduceDiv, Nat.reduceEqDiff, Int.reduceToNat, reduceIte, reduceCtorEq, Int.reduceLE, Int.reduceLT, Int.reduceEq, Int.reduceNeg, Int.reduceAdd, Int.reduceSub, Int.reduceMul, Vo, decide_eq_true_eq, decide_eq_false_iff_not]
    have hlq := strict_len (spreadN_strict S (bareL_strict S L) q) (spreadN_in hsm (bareL_in hL8) q)
    refine ⟨fun h1 => ?_, fun h1 => ?_⟩
    · refine callA_false (spread_E _ _ _ n 0 (shS S) S V _ n g0 (by omega) (shAt_shC hR) hsm I5 (by omega) _ fun V2 h2 n2 hn2 hx2 ok2 hV2 => ?_)
      have V2o := hV2.ok
      simp only [go_sem, Nat.reduceBEq, Nat.reduceLT, Nat.reduceLeDiff, Nat.reduceAdd, Nat.reduceMul, Nat.reduceSub, Nat.reduceMod, Nat.reduceDiv, Nat.reduceEqDiff, Int.reduceToNat, reduceIte, reduceCtorEq, Int.reduceLE, Int.reduceLT, Int.reduceEq, Int.reduceNeg, Int.reduceAdd, Int.reduceSub, Int.reduceMul, V2o]
      refine ⟨⟨(q + 1, h2, n2, V2), by show q + 1 ≤ k.toNat; omega, by show n1 ≤ n2; omega, ok2, I4.tr hx2 (by omega), hV2.lo (by omega)⟩, by show k.toNat - (q + 1) < k.toNat - q; omega, ?_⟩
      refine Imp.id (by show n ≤ n2; omega) ?_ (impH.base0 ok2 (Nat.le_refl _) HExt.rfl)
      simp only [go_sem, Nat.reduceBEq, Nat.reduceLT, Nat.reduceLeDiff, Nat.reduceAdd, Nat.reduceMul, Nat.reduceSub, Nat.reduceMod, Nat.reduceDiv, Nat.reduceEqDiff, Int.reduceToNat, reduceIte, reduceCtorEq, Int.reduceLE, Int.reduceLT, Int.reduceEq, Int.reduceNeg, Int.reduceAdd, Int.reduceSub, Int.reduceMul, V2o, hV2.lt, w64N (a := (q : Int) + 1) (k := q + 1) (by omega) (by omega)]
      (try (repeat' apply And.intro) <;> first | omega | rfl | trivial | assumption | skip)
    · have hqk : q = k.toNat := by omega
      subst hqk
      exact fun hok' => hK V hq nq (by omega) (HExt.tr (m' := n + 1) (by simp only [go_sem, Nat.reduceBEq, Nat.reduceLT, Nat.reduceLeDiff, Nat.reduceAdd, Nat.reduceMul, Nat.reduceSub, Nat.reduceMod, Nat.reduceDiv, Nat.reduceEqDiff, Int.reduceToNat, reduceIte, reduceCtorEq, Int.reduceLE, Int.reduceLT, Int.reduceEq, Int.reduceNeg, Int.reduceAdd, Int.reduceSub, Int.reduceMul, HExt_cons]) I4 (by omega)) hok' I5.out
end
end Go.Proofs.Ytnbpgkidphdcdaa.V

/- Spreads, inner cells: the reference's walk. -/
namespace Go.Proofs.Ytnbpgkidphdcdaa.V
structure SI (h : List (Nat × Seg)) (n : Nat) (hq : List (Nat × Seg)) (nq : Nat) (V : SV) (Lst M : List (Int × Int)) : Prop where
  hn : n + 2 ≤ nq
  ok : HOk nq hq
  ex : HExt n h hq
  g0 : hget hq n = some (mkS [])
  g1 : hget hq (n + 1) = some (mkS M)
  ls : Sp hq (n + 2) nq V Lst
theorem SI.ext {h hq h' : List (Nat × Seg)} {n nq n' : Nat} {V : SV} {Lst M : List (Int × Int)} (I : SI h n hq nq V Lst M) (hx : HExt nq hq h') (hn : nq ≤ n') (ok : HOk n' h') : SI h n h' n' V Lst M :=
  ⟨Nat.le_trans I.hn hn, ok, I.ex.tr hx (by have := I.hn; omega), hx n (by have := I.hn; omega) _ I.g0, hx (n + 1) (by have := I.hn; omega) _ I.g1, I.ls.ext hn hx⟩
theorem Sp.hset {h : List (Nat × Seg)} {lo n g : Nat} {V : SV} {L : List (Int × Int)} {t : Seg} (hA : Sp h lo n V L) (hg : g < lo) : Sp (hset h g t) lo n V L := by
  obtain ⟨i, cap, s, h1, h2, h3, h4, h5⟩ := hA
  exact ⟨i, cap, s, h1, h2, h3, by rw [hget_hset, if_neg (by omega)]; exact h4, h5⟩
theorem SI.set {h hq : List (Nat × Seg)} {n nq : Nat} {V : SV} {Lst M : List (Int × Int)} (I : SI h n hq nq V Lst M) (M' : List (Int × Int)) : SI h n (hset hq (n + 1) (mkS M')) nq V Lst M' :=
  ⟨I.hn, I.ok.hset fun k hk => (mkC_flat M' k).below _, fun z hz t ht => by rw [hget_hset, if_neg (by omega)]; exact I.ex z hz t ht, by rw [hget_hset, if_neg (by omega)]; exact I.g0, hget_hset_self I.g1 _, I.ls.hset (by omega)⟩
section
variable (cx : Cx) (h : List (Nat × Seg)) (n : Nat)
set_option maxHeartbeats 3200000 in
theorem spread2_Q (g o m : Nat) (sS : Seg) (S : Sh) (L : List (Int × Int)) (hg : hget h g = some sS) (hgn : g < n) (hS : ShAt sS o S) (hsm : Small S) (hm : hget h m = some (mkS L)) (hmn : m < n) (hL : Strict L) (h8 : In8s L) :
    CallQ Try.prog cx 54 [.ptr g o, .ptr m 0] h n (.agg 64 (mkC (spreadL S L))) := by
  have hg1 : n ≠ m := by omega
  have h64 := strict_len hL h8
  refine callQ_of_T (P := Try.prog) hti (nt := 46) (rs := [.cell 4 68]) rfl rfl Try.call54 Try.func54 rfl _ (by simp only [go_sem, and_self]) (Nat.le_of_ble_eq_true rfl) _ (by first | exact trivial | (refine lt_flat rfl ?_; simp [SV.flat]; done) | simp only [go_sem]) fun hok => ?_
  simp only [go_sem, Nat.reduceBEq, Nat.reduceLT, Nat.reduceLeDiff, Nat.reduceAdd, Nat.reduceMul, Nat.reduceSub, Nat.reduceMod, Nat.reduceDiv, Nat.reduceEqDiff, Int.reduceToNat, reduceIte, reduceCtorEq, Int.reduceLE, Int.reduceLT, Int.reduceEq, Int.reduceNeg, Int.reduceAdd, Int.reduceSub, Int.reduceMul, hm, hmn, hg1]
  have ok2 : HOk (n + 2) ((n + 1, mkS L) :: (n, mkS []) :: h) := (hok.consF fun k hk => mkC_flat _ _).consF fun k hk => mkC_flat _ _
  refine callA_false (list_E _ _ _ m L (by simp only [go_sem, Nat.reduceBEq, Nat.reduceLT, Nat.reduceLeDiff, Nat.reduceAdd, Nat.reduceMul, Nat.reduceSub, Nat.reduceMod, Nat.reduceDiv, Nat.reduceEqDiff, Int.reduceToNat, reduceIte, reduceCtorEq, Int.reduceLE, Int.reduceLT, Int.reduceEq, Int.reduceNeg, Int.reduceAdd, Int.reduceSub, Int.reduceMul, hm, hmn]) (by omega) _ fun V h1 n1 hn1 hx1 ok1 hV => ?_)
  rw [upM_eq hL h8] at hV
  have Vo := hV.ok
  have I0 : SI h n h1 n1 V L L := ⟨hn1, ok1, HExt.tr (m' := n + 2) (by simp only [go_sem, Nat.reduceBEq, Nat.reduceLT, Nat.reduceLeDiff, Nat.reduceAdd, Nat.reduceMul, Nat.reduceSub, Nat.reduceMod, Nat.reduceDiv, Nat.reduceEqDiff, Int.reduceToNat, reduceIte, reduceCtorEq, Int.reduceLE, Int.reduceLT, Int.reduceEq, Int.reduceNeg, Int.reduceAdd, Int.reduceSub, Int.reduceMul, HExt_cons]) hx1 (by omega), hx1 n (by omega) _ (by simp only [go_sem, Nat.reduceBEq, Nat.reduceLT, Nat.reduceLeDiff, Nat.reduceAdd, Nat.reduceMul, Nat.reduceSub, Nat.reduceMod, Nat.reduceDiv, Nat.reduceEqDiff, Int.reduceToNat, reduceIte, reduceCtorEq, Int.reduceLE, Int.reduceLT, Int.reduceEq, Int.reduceNeg, Int.reduceAdd, Int.reduceSub, Int.reduceMul]), hx1 (n + 1) (by omega) _ (by simp only [go_sem, Nat.reduceBEq, Nat.reduceLT, Nat.reduceLeDiff, Nat.reduceAdd, Nat.reduceMul, Nat.reduceSub, Nat.reduceMod, Nat.reduceDiv, Nat.reduceEqDiff, Int.reduceToNat, reduceIte, reduceCtorEq, Int.reduceLE, Int.reduceLT, Int.reduceEq, Int.reduceNeg, Int.reduceAdd, Int.reduceSub, Int.reduceMul]), hV⟩
  simp only [go_sem, Nat.reduceBEq, Nat.reduceLT, Nat.reduceLeDiff, Nat.reduceAdd, Nat.reduceMul, Nat.reduceSub, Nat.reduceMod, Nat.reduceDiv, Nat.reduceEqDiff, Int.reduceToNat, reduceIte, reduceCtorEq, Int.reduceLE, Int.reduceLT, Int.reduceEq, Int.reduceNeg, Int.reduceAdd, Int.reduceSub, Int.reduceMul, Vo]
  refine T_lp (ι := { q : Nat × List (Nat × Seg) × Nat // q.1 ≤ L.length ∧ n1 ≤ q.2.2 ∧ HExt n h q.2.1 ∧ SI h n q.2.1 q.2.2 V L (L ++ nbs S (L.take q.1)) })
    (fun q => ([(0, .ptr g o), (4, .ptr n 0), (5, .ptr (n + 1) 0), (6, V), (7, .int .i64 ((q.1.1 : Nat) : Int))], q.1.2.1, q.1.2.2)) (fun q => L.length - q.1.1) ⟨(0, h1, n1), Nat.zero_le _, Nat.le_refl _, I0.ex, by simpa [nbs] using I0⟩ ?_ ?_
  · refine Imp.id (by show n ≤ n1; omega) ?_ (impH.base0 ok1 (Nat.le_refl _) HExt.rfl)
    simp only [go_sem, Nat.reduceBEq, Nat.reduceLT, Nat.reduceLeDiff, Nat.reduceAdd, Nat.reduceMul, Nat.reduceSub, Nat.reduceMod, Nat.reduceDiv, Nat.reduceEqDiff, Int.reduceToNat, reduceIte, reduceCtorEq, Int.reduceLE, Int.reduceLT, Int.reduceEq, Int.reduceNeg, Int.reduceAdd, Int.reduceSub, Int.reduceMul, Vo, hV.lt]
    (try (repeat' apply And.intro) <;> first | omega | rfl | trivial | assumption | skip)
  rintro ⟨⟨q, hq, nq⟩, hql, hqn, hqx, I⟩
  simp only at hql hqn hqx I
  obtain ⟨i, cap, s, e, h2, hi, hs, h5, h6, h7, hc⟩ := I.ls
  subst e
  simp only [go_sem, Nat.reduceBEq, Nat.reduceLT, Nat.reduceLeDiff, Nat.reduceAdd, Nat.reduceMul, Nat.reduceSub, Nat.reduceMod, Nat.reduceDiv, Nat.reduceEqDiff, Int.reduceToNat, reduceIte, reduceCtorEq, Int.reduceLE, Int.reduceLT, Int.reduceEq, Int.reduceNeg, Int.reduceAdd, Int.reduceSub, Int.reduceMul, decide_eq_true_eq, decide_eq_false_iff_not]
  refine ⟨fun h1' => ?_, fun h1' => ?_⟩
  rotate_left
  · have hqL : q = L.length := by omega
    subst hqL
    rw [List.take_length] at I
    have a1 := I.g1
    have a0 := I.g0
    have hn0 := I.hn
    have e1 : mkC (L ++ nbs S L) = mkC (spreadL S L) := (mkC_setL _).symm
    rw [mkS, e1] at a1
    have c1 : n + 1 < nq := by omega
    have c0 : n < nq := by omega
    simp only [go_sem, Nat.reduceBEq, Nat.reduceLT, Nat.reduceLeDiff, Nat.reduceAdd, Nat.reduceMul, Nat.reduceSub, Nat.reduceMod, Nat.reduceDiv, Nat.reduceEqDiff, Int.reduceToNat, reduceIte, reduceCtorEq, Int.reduceLE, Int.reduceLT, Int.reduceEq, Int.reduceNeg, Int.reduceAdd, Int.reduceSub, Int.reduceMul, a1, a0, c1, c0]
    exact fun z hz t ht => by rw [hget_hset, if_neg (by omega)]; exact hqx z hz t ht
  have r1 : (0 : Int) ≤ q ∧ (q : Int) < L.length := ⟨by omega, by omega⟩
  have b1 : q * 2 ≤ s.n - 2 := by omega
  have b2 : 2 ≤ s.n := by omega
  have b3 : q * 2 + 2 ≤ s.n := by omega
  have a8 := h8 _ (spots_at (L := L) (j := q) (by omega))
  simp only [go_sem, Nat.reduceBEq, Nat.reduceLT, Nat.reduceLeDiff, Nat.reduceAdd, Nat.reduceMul, Nat.reduceSub, Nat.reduceMod, Nat.reduceDiv, Nat.reduceEqDiff, Int.reduceToNat, reduceIte, reduceCtorEq, Int.reduceLE, Int.reduceLT, Int.reduceEq, Int.reduceNeg, Int.reduceAdd, Int.reduceSub, Int.reduceMul, hs, hi, r1, b1, b2, b3, hc (q * 2) (by omega), hc (q * 2 + 1) (by omega), spotsC_x, spotsC_y]
  refine callA_false (beside2_E _ _ _ g o sS S _ _ (hqx g hgn _ hg) (by omega) hS hsm (by have := a8.1; omega) (by have := a8.2; omega) _ fun capN => ?_)
  have hnl := nb_len4 S (L.getD q (0, 0)).1 (L.getD q (0, 0)).2
  have hst := nbs_take_succ S L (q := q) (by omega)
  have hin : In8s (nb S (L.getD q (0, 0)).1 (L.getD q (0, 0)).2) := fun p hp => nb_in hsm hp
  generalize hNB : nb S (L.getD q (0, 0)).1 (L.getD q (0, 0)).2 = B at *
  generalize hAA : L ++ nbs S (L.take q) = A at *
  have hst2 : L ++ nbs S (L.take (q + 1)) = A ++ B := by rw [hst, ← List.append_assoc, hAA]
  have okB : HOk (nq + 1) ((nq, ⟨B.length * 2, spotsC B, true, none⟩) :: hq) := I.ok.consF fun k hk => spotsC_flat _ _
  have IB := I.ext (h' := (nq, ⟨B.length * 2, spotsC B, true, none⟩) :: hq) (n' := nq + 1) (by simp only [go_sem, Nat.reduceBEq, Nat.reduceLT, Nat.reduceLeDiff, Nat.reduceAdd, Nat.reduceMul, Nat.reduceSub, Nat.reduceMod, Nat.reduceDiv, Nat.reduceEqDiff, Int.reduceToNat, reduceIte, reduceCtorEq, Int.reduceLE, Int.reduceLT, Int.reduceEq, Int.reduceNeg, Int.reduceAdd, Int.reduceSub, Int.reduceMul, HExt_cons]) (by omega) okB
  have hn0 := I.hn
  simp only [go_sem, Nat.reduceBEq, Nat.reduceLT, Nat.reduceLeDiff, Nat.reduceAdd, Nat.reduceMul, Nat.reduceSub, Nat.reduceMod, Nat.reduceDiv, Nat.reduceEqDiff, Int.reduceToNat, reduceIte, reduceCtorEq, Int.reduceLE, Int.reduceLT, Int.reduceEq, Int.reduceNeg, Int.reduceAdd, Int.reduceSub, Int.reduceMul]
  refine T_lp (ι := { q : Nat × List (Nat × Seg) × Nat // (q.1 ≤ B.length ∧ nq + 1 ≤ q.2.2) ∧ HExt n h q.2.1 ∧ hget q.2.1 nq = some ⟨B.length * 2, spotsC B, true, none⟩ ∧ SI h n q.2.1 q.2.2 (.sl i 0 L.length cap) L (A ++ B.take q.1) })
    (fun r => ([(0, .ptr g o), (4, .ptr n 0), (5, .ptr (n + 1) 0), (6, .sl i 0 L.length cap), (7, .int .i64 ((q : Nat) : Int)), (8, .sl nq 0 B.length capN), (9, .int .i64 ((r.1.1 : Nat) : Int))], r.1.2.1, r.1.2.2)) (fun r => B.length - r.1.1) ⟨(0, _, nq + 1), ⟨Nat.zero_le _, Nat.le_refl _⟩, IB.ex, hget_hit _ _ _, by simpa using IB⟩ ?_ ?_
  · refine Imp.id (by show n ≤ nq + 1; omega) ?_ (impH.base0 okB (Nat.le_refl _) HExt.rfl)
    simp only [go_sem, Nat.reduceBEq, Nat.reduceLT, Nat.reduceLeDiff, Nat.reduceAdd, Nat.reduceMul, Nat.reduceSub, Nat.reduceMod, Nat.reduceDiv, Nat.reduceEqDiff, Int.reduceToNat, reduceIte, reduceCtorEq, Int.reduceLE, Int.reduceLT, Int.reduceEq, Int.reduceNeg, Int.reduceAdd, Int.reduceSub, Int.reduceMul]
    (try (repeat' apply And.intro) <;> first | omega | rfl | trivial | assumption | skip)
  rintro ⟨⟨k, hr, nr⟩, ⟨hkl, hrn⟩, hrx, hrB, J⟩
  simp only at hkl hrn hrx hrB J
  simp only [go_sem, Nat.reduceBEq, Nat.reduceLT, Nat.reduceLeDiff, Nat.reduceAdd, Nat.reduceMul, Nat.reduceSub, Nat.reduceMod, Nat.reduceDiv, Nat.reduceEqDiff, Int.reduceToNat, reduceIte, reduceCtorEq, Int.reduceLE, Int.reduceLT, Int.reduceEq, Int.reduceNeg, Int.reduceAdd, Int.reduceSub, Int.reduceMul, decide_eq_true_eq, decide_eq_false_iff_not]
  refine ⟨fun k1 => ?_, fun k1 => ?_⟩
  rotate_left
  · have hkB : k = B.length := by omega
    subst hkB
    rw [List.take_length] at J
    refine ⟨⟨(q + 1, hr, nr), by show q + 1 ≤ L.length; omega, by show n1 ≤ nr; omega, hrx, by rw [hst2]; exact J⟩, by show L.length - (q + 1) < L.length - q; omega, ?_⟩
    refine Imp.id (by show n ≤ nr; omega) ?_ (impH.base0 J.ok (Nat.le_refl _) HExt.rfl)
    simp only [go_sem, Nat.reduceBEq, Nat.reduceLT, Nat.reduceLeDiff, Nat.reduceAdd, Nat.reduceMul, Nat.reduceSub, Nat.reduceMod, Nat.reduceDiv, Nat.reduceEqDiff, Int.reduceToNat, reduceIte, reduceCtorEq, Int.reduceLE, Int.reduceLT, Int.reduceEq, Int.reduceNeg, Int.reduceAdd, Int.reduceSub, Int.reduceMul, w64N (a := (q : Int) + 1) (k := q + 1) (by omega) (by omega)]
    (try (repeat' apply And.intro) <;> first | omega | rfl | trivial | assumption | skip)
  have p8 := hin _ (spots_at (L := B) (j := k) (by omega))
  have q1 : (0 : Int) ≤ k ∧ (k : Int) < B.length := ⟨by omega, by omega⟩
  have d1 : k * 2 ≤ B.length * 2 - 2 := by omega
  have d2 : 2 ≤ B.length * 2 := by omega
  have d3 : k * 2 + 2 ≤ B.length * 2 := by omega
  have j1 := J.g1
  have c1 : n + 1 < nr := by omega
  have c2 : nq < nr := by omega
  have hst3 := mkC_set (A ++ B.take k) p8.2.1 p8.1.1 p8.1.2
  refine T_drawT hti 12 _ _ (by kernel_rfl) (by kernel_rfl) ?_
  simp only [go_sem, Nat.reduceBEq, Nat.reduceLT, Nat.reduceLeDiff, Nat.reduceAdd, Nat.reduceMul, Nat.reduceSub, Nat.reduceMod, Nat.reduceDiv, Nat.reduceEqDiff, Int.reduceToNat, reduceIte, reduceCtorEq, Int.reduceLE, Int.reduceLT, Int.reduceEq, Int.reduceNeg, Int.reduceAdd, Int.reduceSub, Int.reduceMul, hrB, j1, c1, c2, q1, d1, d2, d3, spotsC_x, spotsC_y, p8.1.1, p8.1.2, p8.2.1, p8.2.2]
  rw [hst3, show mkC (((B.getD k (0, 0)).1, (B.getD k (0, 0)).2) :: (A ++ B.take k)) = mkC (A ++ B.take (k + 1)) from mkC_congr fun p => by
    rw [List.mem_append, take_mem_succ (by omega), List.mem_cons, List.mem_append]; show p = B.getD k (0, 0) ∨ _ ↔ _; constructor
    · rintro (h | h | h)
      · exact .inr (.inr h)
      · exact .inl h
      · exact .inr (.inl h)
    · rintro (h | h | h)
      · exact .inr (.inl h)
      · exact .inr (.inr h)
      · exact .inl h]
  have J2 := J.set (A ++ B.take (k + 1))
  refine ⟨by omega, by have := p8.1; have := p8.2; omega, ⟨(k + 1, _, nr), ⟨by show k + 1 ≤ B.length; omega, by show nq + 1 ≤ nr; omega⟩, J2.ex, by show hget (hset hr (n + 1) _) nq = _; rw [hget_hset, if_neg (by omega)]; exact hrB, J2⟩, by show B.length - (k + 1) < B.length - k; omega, ?_⟩
  refine Imp.id (by show n ≤ nr; omega) ?_ (impH.base0 J2.ok (Nat.le_refl _) HExt.rfl)
  simp only [go_sem, Nat.reduceBEq, Nat.reduceLT, Nat.reduceLeDiff, Nat.reduceAdd, Nat.reduceMul, Nat.reduceSub, Nat.reduceMod, Nat.reduceDiv, Nat.reduceEqDiff, Int.reduceToNat, reduceIte, reduceCtorEq, Int.reduceLE, Int.reduceLT, Int.reduceEq, Int.reduceNeg, Int.reduceAdd, Int.reduceSub, Int.reduceMul, w64N (a := (k : Int) + 1) (k := k + 1) (by omega) (by omega), show i < nr from J.ls.lt, c2]
  (try (repeat' apply And.intro) <;> first | omega | rfl | trivial | assumption | skip)
end
end Go.Proofs.Ytnbpgkidphdcdaa.V

/- Forerunners: the program's answers. -/
namespace Go.Proofs.Ytnbpgkidphdcdaa.V
section
variable (cx : Cx) (h : List (Nat × Seg)) (n : Nat)
end
end Go.Proofs.Ytnbpgkidphdcdaa.V

/- Sets of cells: the reference's answers. -/
namespace Go.Proofs.Ytnbpgkidphdcdaa.V
theorem mkC_bare (S : Sh) (L : List (Int × Int)) : mkC (L.filter fun p => !waxB S p.1 p.2) = mkC (bareL S L) := mkC_congr fun p => by
  unfold bareL; rw [List.mem_filter, List.mem_filter, setL_mem]
@[go_sem] theorem fitC_mk (A B : List (Int × Int)) (j k : Nat) : fitC .bool (mkC A j) (mkC B k) = True := rfl
section
variable (cx : Cx) (h : List (Nat × Seg)) (n : Nat)
end
end Go.Proofs.Ytnbpgkidphdcdaa.V

/- Sets of cells: what the reference answers. -/
namespace Go.Proofs.Ytnbpgkidphdcdaa.V
section
variable (cx : Cx) (h : List (Nat × Seg)) (n : Nat)
theorem steps2_E (S : Sh) (hR : ShR S) (A : SV) (L : List (Int × Int)) (lo : Nat) (hA : Sp h lo n A L) (hm9 : L.length ≤ 1048576) (hLR : SpotsR L) (k : Int) (K : HK)
    (hK : ∀ V h' n', n ≤ n' → HExt n h h' → HOk n' h' → SpsOut h' n n' V (stepsR S L k).1 → K (.tup 2 (cl [V, .int .i64 (stepsR S L k).2])) h' n') :
    CallE Try.prog cx 22 [.agg 266 (shC S), A, .int .i64 k] h n K := by
  have hA0 := hA
  obtain ⟨jA, capA, tA, rfl, _⟩ := hA
  have hA1 : Sp ((n, shS S) :: h) lo (n + 1) (.sl jA 0 L.length capA) L := hA0.ext (by omega) (by simp only [go_sem, Nat.reduceBEq, Nat.reduceLT, Nat.reduceLeDiff, Nat.reduceAdd, Nat.reduceMul, Nat.reduceSub, Nat.reduceMod, Nat.reduceDiv, Nat.reduceEqDiff, Int.reduceToNat, reduceIte, reduceCtorEq, Int.reduceLE, Int.reduceLT, Int.reduceEq, Int.reduceNeg, Int.reduceAdd, Int.reduceSub, Int.reduceMul, HExt_cons])
  refine CallE.hokE ?_
  refine callE_of_T (P := Try.prog) hti (nt := 33) (rs := [.tmp 6, .tmp 7]) rfl rfl Try.call22 Try.func22 rfl _ (by simp only [go_sem, and_self]) (Nat.le_of_ble_eq_true rfl) _ fun hok => ?_
  have okS : HOk (n + 1) ((n, shS S) :: h) := hok.consF fun k hk => shC_flat _ _
  have okZ : HOk (n + 2) ((n + 1, ⟨0, zrow (ti 39), true, some (39, 0)⟩) :: (n, shS S) :: h) := okS.consF fun k hk => absurd hk (Nat.not_lt_zero k)
  have bad : ∀ (c : Int), codeI S (allIn S L && decide (0 ≤ k ∧ k ≤ 16)) = c → c ≠ 0 → K (.tup 2 (cl [.sl (n + 1) 0 0 0, .int .i64 c])) ((n + 1, ⟨0, zrow (ti 39), true, some (39, 0)⟩) :: (n, shS S) :: h) (n + 2) := fun c e hc => by
    have := hK (.sl (n + 1) 0 0 0) _ (n + 2) (by omega) (by simp only [go_sem, Nat.reduceBEq, Nat.reduceLT, Nat.reduceLeDiff, Nat.reduceAdd, Nat.reduceMul, Nat.reduceSub, Nat.reduceMod, Nat.reduceDiv, Nat.reduceEqDiff, Int.reduceToNat, reduceIte, reduceCtorEq, Int.reduceLE, Int.reduceLT, Int.reduceEq, Int.reduceNeg, Int.reduceAdd, Int.reduceSub, Int.reduceMul, HExt_cons]) okZ (by unfold stepsR; rw [e, if_neg hc]; exact .inr ⟨n + 1, 0, _, rfl, by omega, by omega, hget_hit _ _ _, rfl, rfl, fun k hk => absurd hk (Nat.not_lt_zero k)⟩)
    unfold stepsR at this; rw [e, if_neg hc] at this; exact this
  have e0 : (L.all fun a => hasB S a.1 a.2) = allIn S L := rfl
  simp only [go_sem, Nat.reduceBEq, Nat.reduceLT, Nat.reduceLeDiff, Nat.reduceAdd, Nat.reduceMul, Nat.reduceSub, Nat.reduceMod, Nat.reduceDiv, Nat.reduceEqDiff, Int.reduceToNat, reduceIte, reduceCtorEq, Int.reduceLE, Int.reduceLT, Int.reduceEq, Int.reduceNeg, Int.reduceAdd, Int.reduceSub, Int.reduceMul]
  refine (asked6_Q _ _ _ n 0 (shS S) S _ L lo (by simp only [go_sem, Nat.reduceBEq, Nat.reduceLT, Nat.reduceLeDiff, Nat.reduceAdd, Nat.reduceMul, Nat.reduceSub, Nat.reduceMod, Nat.reduceDiv, Nat.reduceEqDiff, Int.reduceToNat, reduceIte, reduceCtorEq, Int.reduceLE, Int.reduceLT, Int.reduceEq, Int.reduceNeg, Int.reduceAdd, Int.reduceSub, Int.reduceMul]) (by omega) (shAt_shC hR) hA1 hm9 hLR).A ?_
  rw [e0]
  by_cases hc1 : codeI S (allIn S L) = 0
  rotate_left
  · have e1 : codeI S (allIn S L && decide (0 ≤ k ∧ k ≤ 16)) = codeI S (allIn S L) := by
      by_cases hV : Valid S
      · rw [codeI_ok hV] at hc1
        have : allIn S L = false := by cases h : allIn S L; rfl; rw [h] at hc1; exact absurd rfl hc1
        rw [this, Bool.false_and]
      · rw [codeI_bad hV, codeI_bad hV]
    simp only [go_sem, Nat.reduceBEq, Nat.reduceLT, Nat.reduceLeDiff, Nat.reduceAdd, Nat.reduceMul, Nat.reduceSub, Nat.reduceMod, Nat.reduceDiv, Nat.reduceEqDiff, Int.reduceToNat, reduceIte, reduceCtorEq, Int.reduceLE, Int.reduceLT, Int.reduceEq, Int.reduceNeg, Int.reduceAdd, Int.reduceSub, Int.reduceMul, hc1]
    exact fun _ => bad _ e1 hc1
  obtain ⟨hV, hall⟩ := codeI_0 hc1
  rw [hall, Bool.true_and] at bad
  simp only [go_sem, Nat.reduceBEq, Nat.reduceLT, Nat.reduceLeDiff, Nat.reduceAdd, Nat.reduceMul, Nat.reduceSub, Nat.reduceMod, Nat.reduceDiv, Nat.reduceEqDiff, Int.reduceToNat, reduceIte, reduceCtorEq, Int.reduceLE, Int.reduceLT, Int.reduceEq, Int.reduceNeg, Int.reduceAdd, Int.reduceSub, Int.reduceMul, hc1]
  refine (in_Q _ _ _ k 0 16).A ?_
  by_cases hk : 0 ≤ k ∧ k ≤ 16
  rotate_left
  · simp only [go_sem, Nat.reduceBEq, Nat.reduceLT, Nat.reduceLeDiff, Nat.reduceAdd, Nat.reduceMul, Nat.reduceSub, Nat.reduceMod, Nat.reduceDiv, Nat.reduceEqDiff, Int.reduceToNat, reduceIte, reduceCtorEq, Int.reduceLE, Int.reduceLT, Int.reduceEq, Int.reduceNeg, Int.reduceAdd, Int.reduceSub, Int.reduceMul, decide_eq_false hk]
    exact fun _ => bad 2 (by rw [codeI_ok hV, decide_eq_false hk]; rfl) (by omega)
  have hgood : stepsR S L k = (spreadN S k.toNat (bareL S L), 0) := by unfold stepsR; rw [hall, Bool.true_and, decide_eq_true hk, codeI_ok hV]; rfl
  rw [hgood] at hK
  have hsm := hV.1
  have hL8 := allIn_8 hsm hall
  simp only [go_sem, Nat.reduceBEq, Nat.reduceLT, Nat.reduceLeDiff, Nat.reduceAdd, Nat.reduceMul, Nat.reduceSub, Nat.reduceMod, Nat.reduceDiv, Nat.reduceEqDiff, Int.reduceToNat, reduceIte, reduceCtorEq, Int.reduceLE, Int.reduceLT, Int.reduceEq, Int.reduceNeg, Int.reduceAdd, Int.reduceSub, Int.reduceMul, decide_eq_true hk]
  refine (setM_Q _ _ _ n 0 (shS S) S _ L lo (by simp only [go_sem, Nat.reduceBEq, Nat.reduceLT, Nat.reduceLeDiff, Nat.reduceAdd, Nat.reduceMul, Nat.reduceSub, Nat.reduceMod, Nat.reduceDiv, Nat.reduceEqDiff, Int.reduceToNat, reduceIte, reduceCtorEq, Int.reduceLE, Int.reduceLT, Int.reduceEq, Int.reduceNeg, Int.reduceAdd, Int.reduceSub, Int.reduceMul]) (by omega) (shAt_shC hR) hA1 hm9 hL8).A ?_
  rw [mkC_bare]
  simp only [go_sem, Nat.reduceBEq, Nat.reduceLT, Nat.reduceLeDiff, Nat.reduceAdd, Nat.reduceMul, Nat.reduceSub, Nat.reduceMod, Nat.reduceDiv, Nat.reduceEqDiff, Int.reduceToNat, reduceIte, reduceCtorEq, Int.reduceLE, Int.reduceLT, Int.reduceEq, Int.reduceNeg, Int.reduceAdd, Int.reduceSub, Int.reduceMul]
  have okM : ∀ M, HOk (n + 2) ((n + 1, mkS M) :: (n, shS S) :: h) := fun M => okS.consF fun k hk => mkC_flat _ _
  have hb8 := bareL_in (S := S) hL8
  have hbs := bareL_strict S L
  generalize hOO : bareL S L = O at *
  refine T_lp (ι := { q : Nat // q ≤ k.toNat }) (fun q => ([(2, .int .i64 k), (3, .ptr n 0), (9, .ptr (n + 1) 0), (10, .int .i64 ((q.1 : Nat) : Int))], (n + 1, mkS (spreadN S q.1 O)) :: (n, shS S) :: h, n + 2)) (fun q => k.toNat - q.1) ⟨0, by omega⟩ ?_ ?_
  · refine Imp.id (by simp) ?_ (impH.base0 (okM O) (Nat.le_refl _) HExt.rfl)
    simp only [go_sem, Nat.reduceBEq, Nat.reduceLT, Nat.reduceLeDiff, Nat.reduceAdd, Nat.reduceMul, Nat.reduceSub, Nat.reduceMod, Nat.reduceDiv, Nat.reduceEqDiff, Int.reduceToNat, reduceIte, reduceCtorEq, Int.reduceLE, Int.reduceLT, Int.reduceEq, Int.reduceNeg, Int.reduceAdd, Int.reduceSub, Int.reduceMul]
    (try (repeat' apply And.intro) <;> first | omega | rfl | trivial | assumption | skip)
  rintro ⟨q, hq⟩
  have hqs := spreadN_strict S hbs q
  have hq8 := spreadN_in hsm hb8 q
  by_cases h1 : q < k.toNat
  · simp only [go_sem, Nat.reduceBEq, Nat.reduceLT, Nat.reduceLeDiff, Nat.reduceAdd, Nat.reduceMul, Nat.reduceSub, Nat.reduceMod, Nat.reduceDiv, Nat.reduceEqDiff, Int.reduceToNat, reduceIte, reduceCtorEq, Int.reduceLE, Int.reduceLT, Int.reduceEq, Int.reduceNeg, Int.reduceAdd, Int.reduceSub, Int.reduceMul, show ((q : Int) < k) = True from eq_true (by omega)]
    refine (spread2_Q _ _ _ n 0 (n + 1) (shS S) S _ (by simp only [go_sem, Nat.reduceBEq, Nat.reduceLT, Nat.reduceLeDiff, Nat.reduceAdd, Nat.reduceMul, Nat.reduceSub, Nat.reduceMod, Nat.reduceDiv, Nat.reduceEqDiff, Int.reduceToNat, reduceIte, reduceCtorEq, Int.reduceLE, Int.reduceLT, Int.reduceEq, Int.reduceNeg, Int.reduceAdd, Int.reduceSub, Int.reduceMul]) (by omega) (shAt_shC hR) hsm (hget_hit _ _ _) (by omega) hqs hq8).A ?_
    simp only [go_sem, Nat.reduceBEq, Nat.reduceLT, Nat.reduceLeDiff, Nat.reduceAdd, Nat.reduceMul, Nat.reduceSub, Nat.reduceMod, Nat.reduceDiv, Nat.reduceEqDiff, Int.reduceToNat, reduceIte, reduceCtorEq, Int.reduceLE, Int.reduceLT, Int.reduceEq, Int.reduceNeg, Int.reduceAdd, Int.reduceSub, Int.reduceMul]
    refine ⟨⟨q + 1, by omega⟩, by show k.toNat - (q + 1) < k.toNat - q; omega, ?_⟩
    refine Imp.id (by simp) ?_ (impH.base0 (okM (spreadN S (q + 1) O)) (Nat.le_refl _) HExt.rfl)
    simp only [go_sem, Nat.reduceBEq, Nat.reduceLT, Nat.reduceLeDiff, Nat.reduceAdd, Nat.reduceMul, Nat.reduceSub, Nat.reduceMod, Nat.reduceDiv, Nat.reduceEqDiff, Int.reduceToNat, reduceIte, reduceCtorEq, Int.reduceLE, Int.reduceLT, Int.reduceEq, Int.reduceNeg, Int.reduceAdd, Int.reduceSub, Int.reduceMul, w64N (a := (q : Int) + 1) (k := q + 1) (by omega) (by omega)]
    (try (repeat' apply And.intro) <;> first | omega | rfl | trivial | assumption | skip)
  · have hqk : q = k.toNat := by omega
    subst hqk
    simp only [go_sem, Nat.reduceBEq, Nat.reduceLT, Nat.reduceLeDiff, Nat.reduceAdd, Nat.reduceMul, Nat.reduceSub, Nat.reduceMod, Nat.reduceDiv, Nat.reduceEqDiff, Int.reduceToNat, reduceIte, reduceCtorEq, Int.reduceLE, Int.reduceLT, Int.reduceEq, Int.reduceNeg, Int.reduceAdd, Int.reduceSub, Int.reduceMul, show (((k.toNat : Nat) : Int) < k) = False from eq_false (by omega)]
    refine callA_false (list_E _ _ _ (n + 1) (spreadN S k.toNat O) (hget_hit _ _ _) (by omega) _ fun V h1 n1 hn1 hx1 ok1 hV1 => ?_)
    rw [upM_eq hqs hq8] at hV1
    have Vo := hV1.ok
    simp only [go_sem, Nat.reduceBEq, Nat.reduceLT, Nat.reduceLeDiff, Nat.reduceAdd, Nat.reduceMul, Nat.reduceSub, Nat.reduceMod, Nat.reduceDiv, Nat.reduceEqDiff, Int.reduceToNat, reduceIte, reduceCtorEq, Int.reduceLE, Int.reduceLT, Int.reduceEq, Int.reduceNeg, Int.reduceAdd, Int.reduceSub, Int.reduceMul, Vo]
    exact fun hok' => hK V h1 n1 (by omega) (HExt.tr (m' := n + 2) (by simp only [go_sem, Nat.reduceBEq, Nat.reduceLT, Nat.reduceLeDiff, Nat.reduceAdd, Nat.reduceMul, Nat.reduceSub, Nat.reduceMod, Nat.reduceDiv, Nat.reduceEqDiff, Int.reduceToNat, reduceIte, reduceCtorEq, Int.reduceLE, Int.reduceLT, Int.reduceEq, Int.reduceNeg, Int.reduceAdd, Int.reduceSub, Int.reduceMul, HExt_cons]) hx1 (by omega)) hok' (hV1.lo (by omega)).out
end
end Go.Proofs.Ytnbpgkidphdcdaa.V

/- The laws of SpreadCells, SpreadSteps, InnerCells, HasForerunner, LongestPast: the walk. -/
namespace Go.Proofs.Ytnbpgkidphdcdaa.V
theorem stepsR_len {S : Sh} (L : List (Int × Int)) (k : Int) : (stepsR S L k).1.length ≤ 64 := by
  unfold stepsR
  split
  · rename_i hc
    obtain ⟨hV, hb⟩ := codeI_0 hc
    rw [Bool.and_eq_true] at hb
    have h8 := allIn_8 hV.1 hb.1
    exact strict_len (spreadN_strict S (bareL_strict S L) _) (spreadN_in hV.1 (bareL_in h8) _)
  · exact Nat.zero_le _
theorem Sp_spsS {h : List (Nat × Seg)} {n lo : Nat} (hlo : lo ≤ n) (L : List (Int × Int)) : Sp ((n, spsS L) :: h) lo (n + 1) (.sl n 0 L.length L.length) L :=
  ⟨n, L.length, spsS L, rfl, hlo, Nat.lt_succ_self n, hget_hit _ _ _, rfl, rfl, Nat.le_refl _, fun _ _ => rfl⟩
section
variable (cx : Cx) (h : List (Nat × Seg)) (n : Nat)
theorem lawSteps_Q (F : Nat → SV) (S : Sh) (hF : ShF F S) (A : SV) (L : List (Int × Int)) (hA : SpsArg h n A L) (hLR : SpotsR L) (hl : L.length ≤ 9223372036854775807) (k : Int) :
    CallQ Try.prog cx 5 [.agg 266 F, A, .int .i64 k] h n (.bool true) := by
  have hone := hF.ones
  have hAo := hA.ok
  have hRl := stepsR_len (S := S) L k
  refine callQ_of_T (P := Try.prog) hti (nt := 109) (rs := [.tmp 6]) rfl rfl Try.call5 Try.func5 rfl _ (by simp only [go_sem, hAo]) (Nat.le_of_ble_eq_true rfl) _ (by trivial) fun hok => ?_
  simp only [go_sem, Nat.reduceBEq, Nat.reduceLT, Nat.reduceLeDiff, Nat.reduceAdd, Nat.reduceMul, Nat.reduceSub, Nat.reduceMod, Nat.reduceDiv, Nat.reduceEqDiff, Int.reduceToNat, reduceIte, reduceCtorEq, Int.reduceLE, Int.reduceLT, Int.reduceEq, Int.reduceNeg, Int.reduceAdd, Int.reduceSub, Int.reduceMul, hone, hAo]
  refine (szSpotS_Q _ _ _ A L (hA.ext (by omega) (by simp only [go_sem, Nat.reduceBEq, Nat.reduceLT, Nat.reduceLeDiff, Nat.reduceAdd, Nat.reduceMul, Nat.reduceSub, Nat.reduceMod, Nat.reduceDiv, Nat.reduceEqDiff, Int.reduceToNat, reduceIte, reduceCtorEq, Int.reduceLE, Int.reduceLT, Int.reduceEq, Int.reduceNeg, Int.reduceAdd, Int.reduceSub, Int.reduceMul, HExt_cons])) 1048576 (by omega) (by omega)).A ?_
  by_cases hbig : (1048576 : Int) - L.length < 0
  · simp only [go_sem, Nat.reduceBEq, Nat.reduceLT, Nat.reduceLeDiff, Nat.reduceAdd, Nat.reduceMul, Nat.reduceSub, Nat.reduceMod, Nat.reduceDiv, Nat.reduceEqDiff, Int.reduceToNat, reduceIte, reduceCtorEq, Int.reduceLE, Int.reduceLT, Int.reduceEq, Int.reduceNeg, Int.reduceAdd, Int.reduceSub, Int.reduceMul, hbig]
  have hm9 : L.length ≤ 1000000000 := by omega
  simp only [go_sem, Nat.reduceBEq, Nat.reduceLT, Nat.reduceLeDiff, Nat.reduceAdd, Nat.reduceMul, Nat.reduceSub, Nat.reduceMod, Nat.reduceDiv, Nat.reduceEqDiff, Int.reduceToNat, reduceIte, reduceCtorEq, Int.reduceLE, Int.reduceLT, Int.reduceEq, Int.reduceNeg, Int.reduceAdd, Int.reduceSub, Int.reduceMul, hbig, hone, hAo]
  generalize hRR : (stepsR S L k).1 = R at hRl
  generalize hcc : (stepsR S L k).2 = c
  refine (toSheet_Q _ _ _ F S hF).A ?_
  simp only [go_sem, Nat.reduceBEq, Nat.reduceLT, Nat.reduceLeDiff, Nat.reduceAdd, Nat.reduceMul, Nat.reduceSub, Nat.reduceMod, Nat.reduceDiv, Nat.reduceEqDiff, Int.reduceToNat, reduceIte, reduceCtorEq, Int.reduceLE, Int.reduceLT, Int.reduceEq, Int.reduceNeg, Int.reduceAdd, Int.reduceSub, Int.reduceMul, hone, hAo]
  refine callA_false (toSpotS_E _ _ _ A L (hA.ext (by omega) (by simp only [go_sem, Nat.reduceBEq, Nat.reduceLT, Nat.reduceLeDiff, Nat.reduceAdd, Nat.reduceMul, Nat.reduceSub, Nat.reduceMod, Nat.reduceDiv, Nat.reduceEqDiff, Int.reduceToNat, reduceIte, reduceCtorEq, Int.reduceLE, Int.reduceLT, Int.reduceEq, Int.reduceNeg, Int.reduceAdd, Int.reduceSub, Int.reduceMul, HExt_cons])) hm9 _ ?_)
  simp only [go_sem, Nat.reduceBEq, Nat.reduceLT, Nat.reduceLeDiff, Nat.reduceAdd, Nat.reduceMul, Nat.reduceSub, Nat.reduceMod, Nat.reduceDiv, Nat.reduceEqDiff, Int.reduceToNat, reduceIte, reduceCtorEq, Int.reduceLE, Int.reduceLT, Int.reduceEq, Int.reduceNeg, Int.reduceAdd, Int.reduceSub, Int.reduceMul, hone, hAo]
  refine callA_false (steps2_E _ _ _ S hF.R _ L 0 (Sp_spsS (by omega) L) (by omega) hLR k _ ?_)
  intro V1 h1 n1 hn1 hx1 ok1 I1
  rw [hRR] at I1
  rw [hcc]
  have V1o := I1.ok
  have g10 : hget h1 n = some ⟨266, F, true, none⟩ := hx1 n (by omega) _ (by simp only [go_sem, Nat.reduceBEq, Nat.reduceLT, Nat.reduceLeDiff, Nat.reduceAdd, Nat.reduceMul, Nat.reduceSub, Nat.reduceMod, Nat.reduceDiv, Nat.reduceEqDiff, Int.reduceToNat, reduceIte, reduceCtorEq, Int.reduceLE, Int.reduceLT, Int.reduceEq, Int.reduceNeg, Int.reduceAdd, Int.reduceSub, Int.reduceMul])
  have X1 : HExt n h h1 := HExt.tr (m' := n + 2) (by simp only [go_sem, Nat.reduceBEq, Nat.reduceLT, Nat.reduceLeDiff, Nat.reduceAdd, Nat.reduceMul, Nat.reduceSub, Nat.reduceMod, Nat.reduceDiv, Nat.reduceEqDiff, Int.reduceToNat, reduceIte, reduceCtorEq, Int.reduceLE, Int.reduceLT, Int.reduceEq, Int.reduceNeg, Int.reduceAdd, Int.reduceSub, Int.reduceMul, HExt_cons]) hx1 (by omega)
  have c10 : n < n1 := by omega
  simp only [go_sem, Nat.reduceBEq, Nat.reduceLT, Nat.reduceLeDiff, Nat.reduceAdd, Nat.reduceMul, Nat.reduceSub, Nat.reduceMod, Nat.reduceDiv, Nat.reduceEqDiff, Int.reduceToNat, reduceIte, reduceCtorEq, Int.reduceLE, Int.reduceLT, Int.reduceEq, Int.reduceNeg, Int.reduceAdd, Int.reduceSub, Int.reduceMul, V1o, hAo]
  refine callA_false (toSpotS_E _ _ _ A L (hA.ext (by omega) X1) hm9 _ ?_)
  have ne0 : n1 ≠ n := by omega
  simp only [go_sem, Nat.reduceBEq, Nat.reduceLT, Nat.reduceLeDiff, Nat.reduceAdd, Nat.reduceMul, Nat.reduceSub, Nat.reduceMod, Nat.reduceDiv, Nat.reduceEqDiff, Int.reduceToNat, reduceIte, reduceCtorEq, Int.reduceLE, Int.reduceLT, Int.reduceEq, Int.reduceNeg, Int.reduceAdd, Int.reduceSub, Int.reduceMul, V1o, hAo, hone, g10, c10, ne0]
  refine (toSheet_Q _ _ _ F S hF).A ?_
  simp only [go_sem, Nat.reduceBEq, Nat.reduceLT, Nat.reduceLeDiff, Nat.reduceAdd, Nat.reduceMul, Nat.reduceSub, Nat.reduceMod, Nat.reduceDiv, Nat.reduceEqDiff, Int.reduceToNat, reduceIte, reduceCtorEq, Int.reduceLE, Int.reduceLT, Int.reduceEq, Int.reduceNeg, Int.reduceAdd, Int.reduceSub, Int.reduceMul, hone, hAo]
  refine callA_false (steps_E _ _ _ S hF.R _ L 0 (Sp_spsS (by omega) L) (by omega) k _ ?_)
  intro V2 h2 n2 hn2 hx2 ok2 I2
  rw [hRR] at I2
  rw [hcc]
  have V2o := I2.ok
  have x2 : HExt n1 h1 h2 := HExt.tr (m' := n1 + 1) (by simp only [go_sem, Nat.reduceBEq, Nat.reduceLT, Nat.reduceLeDiff, Nat.reduceAdd, Nat.reduceMul, Nat.reduceSub, Nat.reduceMod, Nat.reduceDiv, Nat.reduceEqDiff, Int.reduceToNat, reduceIte, reduceCtorEq, Int.reduceLE, Int.reduceLT, Int.reduceEq, Int.reduceNeg, Int.reduceAdd, Int.reduceSub, Int.reduceMul, HExt_cons]) hx2 (by omega)
  have X2 := X1.tr x2 (by omega)
  have g21 : hget h2 n1 = some (spsS L) := hx2 n1 (by omega) _ (by simp only [go_sem, Nat.reduceBEq, Nat.reduceLT, Nat.reduceLeDiff, Nat.reduceAdd, Nat.reduceMul, Nat.reduceSub, Nat.reduceMod, Nat.reduceDiv, Nat.reduceEqDiff, Int.reduceToNat, reduceIte, reduceCtorEq, Int.reduceLE, Int.reduceLT, Int.reduceEq, Int.reduceNeg, Int.reduceAdd, Int.reduceSub, Int.reduceMul])
  have c21 : n1 < n2 := by omega
  simp only [go_sem, Nat.reduceBEq, Nat.reduceLT, Nat.reduceLeDiff, Nat.reduceAdd, Nat.reduceMul, Nat.reduceSub, Nat.reduceMod, Nat.reduceDiv, Nat.reduceEqDiff, Int.reduceToNat, reduceIte, reduceCtorEq, Int.reduceLE, Int.reduceLT, Int.reduceEq, Int.reduceNeg, Int.reduceAdd, Int.reduceSub, Int.reduceMul, V1o, V2o, hAo]
  refine (eqSpots_Q _ _ _ V2 V1 R _ _ I2 (I1.ext (by omega) x2) (by omega)).A ?_
  simp only [go_sem, Nat.reduceBEq, Nat.reduceLT, Nat.reduceLeDiff, Nat.reduceAdd, Nat.reduceMul, Nat.reduceSub, Nat.reduceMod, Nat.reduceDiv, Nat.reduceEqDiff, Int.reduceToNat, reduceIte, reduceCtorEq, Int.reduceLE, Int.reduceLT, Int.reduceEq, Int.reduceNeg, Int.reduceAdd, Int.reduceSub, Int.reduceMul, V1o, V2o, hAo]
  refine callA_false (toSpotS_E _ _ _ A L (hA.ext (by omega) X2) hm9 _ ?_)
  have ne2 : n2 ≠ n1 := by omega
  simp only [go_sem, Nat.reduceBEq, Nat.reduceLT, Nat.reduceLeDiff, Nat.reduceAdd, Nat.reduceMul, Nat.reduceSub, Nat.reduceMod, Nat.reduceDiv, Nat.reduceEqDiff, Int.reduceToNat, reduceIte, reduceCtorEq, Int.reduceLE, Int.reduceLT, Int.reduceEq, Int.reduceNeg, Int.reduceAdd, Int.reduceSub, Int.reduceMul, V1o, V2o, hAo]
  refine (eqSpotS_Q _ _ _ n1 L.length n2 L.length L (spsS L) (spsS L) (by first | (simp only [go_sem, Nat.reduceBEq, Nat.reduceLT, Nat.reduceLeDiff, Nat.reduceAdd, Nat.reduceMul, Nat.reduceSub, Nat.reduceMod, Nat.reduceDiv, Nat.reduceEqDiff, Int.reduceToNat, reduceIte, reduceCtorEq, Int.reduceLE, Int.reduceLT, Int.reduceEq, Int.reduceNeg, Int.reduceAdd, Int.reduceSub, Int.reduceMul, g21, ne2, c21]; done) | (simp only [go_sem, Nat.reduceBEq, Nat.reduceLT, Nat.reduceLeDiff, Nat.reduceAdd, Nat.reduceMul, Nat.reduceSub, Nat.reduceMod, Nat.reduceDiv, Nat.reduceEqDiff, Int.reduceToNat, reduceIte, reduceCtorEq, Int.reduceLE, Int.reduceLT, Int.reduceEq, Int.reduceNeg, Int.reduceAdd, Int.reduceSub, Int.reduceMul, g21, ne2, c21]; rfl)) (by omega) (spsAt_spsS L) (by simp only [go_sem, Nat.reduceBEq, Nat.reduceLT, Nat.reduceLeDiff, Nat.reduceAdd, Nat.reduceMul, Nat.reduceSub, Nat.reduceMod, Nat.reduceDiv, Nat.reduceEqDiff, Int.reduceToNat, reduceIte, reduceCtorEq, Int.reduceLE, Int.reduceLT, Int.reduceEq, Int.reduceNeg, Int.reduceAdd, Int.reduceSub, Int.reduceMul]) (by omega) (spsAt_spsS L) hm9).A ?_
  simp only [go_sem, Nat.reduceBEq, Nat.reduceLT, Nat.reduceLeDiff, Nat.reduceAdd, Nat.reduceMul, Nat.reduceSub, Nat.reduceMod, Nat.reduceDiv, Nat.reduceEqDiff, Int.reduceToNat, reduceIte, reduceCtorEq, Int.reduceLE, Int.reduceLT, Int.reduceEq, Int.reduceNeg, Int.reduceAdd, Int.reduceSub, Int.reduceMul, V1o, V2o, hAo]
  refine callA_false (markSpotS_E _ _ _ n1 L.length L (spsS L) (by first | (simp only [go_sem, Nat.reduceBEq, Nat.reduceLT, Nat.reduceLeDiff, Nat.reduceAdd, Nat.reduceMul, Nat.reduceSub, Nat.reduceMod, Nat.reduceDiv, Nat.reduceEqDiff, Int.reduceToNat, reduceIte, reduceCtorEq, Int.reduceLE, Int.reduceLT, Int.reduceEq, Int.reduceNeg, Int.reduceAdd, Int.reduceSub, Int.reduceMul, g21, ne2, c21]; done) | (simp only [go_sem, Nat.reduceBEq, Nat.reduceLT, Nat.reduceLeDiff, Nat.reduceAdd, Nat.reduceMul, Nat.reduceSub, Nat.reduceMod, Nat.reduceDiv, Nat.reduceEqDiff, Int.reduceToNat, reduceIte, reduceCtorEq, Int.reduceLE, Int.reduceLT, Int.reduceEq, Int.reduceNeg, Int.reduceAdd, Int.reduceSub, Int.reduceMul, g21, ne2, c21]; rfl)) (by omega) rfl (spsAt_spsS L) (fun k hk => spotsC_flat _ _) hm9 _ ?_)
  intro h3 ok3 same3
  have s3 : ∀ i, i ≠ n1 → i ≠ n2 → hget h3 i = hget h2 i := fun i hi hi2 => by rw [same3 i hi]; simp only [hget]; rw [if_neg (fun e => hi2 e.symm)]
  have x3 : HExt n1 h1 h3 := fun i hi t ht => by rw [s3 i (by omega) (by omega)]; exact x2 i hi t ht
  have I13 : SpsOut h3 (n + 2) (n2 + 1) V1 R := I1.ext (by omega) x3
  have I23 : SpsOut h3 (n1 + 1) (n2 + 1) V2 R := I2.mono (by omega) fun i h1 h2 t ht => by rw [s3 i (by omega) (by omega)]; exact ht
  have pos : ¬ (2 * (L.length : Int) + 1 < 0) := by omega
  simp only [go_sem, Nat.reduceBEq, Nat.reduceLT, Nat.reduceLeDiff, Nat.reduceAdd, Nat.reduceMul, Nat.reduceSub, Nat.reduceMod, Nat.reduceDiv, Nat.reduceEqDiff, Int.reduceToNat, reduceIte, reduceCtorEq, Int.reduceLE, Int.reduceLT, Int.reduceEq, Int.reduceNeg, Int.reduceAdd, Int.reduceSub, Int.reduceMul, V1o, V2o, hAo, pos]
  refine (eqSpots_Q _ _ _ V2 V1 R _ _ I23 I13 (by omega)).A ?_
  simp only [go_sem, Nat.reduceBEq, Nat.reduceLT, Nat.reduceLeDiff, Nat.reduceAdd, Nat.reduceMul, Nat.reduceSub, Nat.reduceMod, Nat.reduceDiv, Nat.reduceEqDiff, Int.reduceToNat, reduceIte, reduceCtorEq, Int.reduceLE, Int.reduceLT, Int.reduceEq, Int.reduceNeg, Int.reduceAdd, Int.reduceSub, Int.reduceMul, V1o, V2o, hAo, pos]
  refine callA_false (markSpots_E _ _ _ V2 R (n1 + 1) I23 (by omega) _ ?_)
  intro h4 ok4 keep4 I24
  have x4 : HExt n1 h1 h4 := keep4 _ _ (by omega) x3
  have X4 : HExt n h h4 := X1.tr x4 (by omega)
  have I14 : SpsOut h4 (n + 2) (n2 + 1) V1 R := I1.ext (by omega) x4
  have g40 : hget h4 n = some ⟨266, F, true, none⟩ := x4 n (by omega) _ g10
  have c40 : n < n2 + 1 := by omega
  have posr : ¬ (2 * (R.length : Int) + 1 < 0) := by omega
  simp only [go_sem, Nat.reduceBEq, Nat.reduceLT, Nat.reduceLeDiff, Nat.reduceAdd, Nat.reduceMul, Nat.reduceSub, Nat.reduceMod, Nat.reduceDiv, Nat.reduceEqDiff, Int.reduceToNat, reduceIte, reduceCtorEq, Int.reduceLE, Int.reduceLT, Int.reduceEq, Int.reduceNeg, Int.reduceAdd, Int.reduceSub, Int.reduceMul, V1o, V2o, hAo]
  refine (heldSpots_Q _ _ _ V2 R.length _ I24 (by omega)).A ?_
  simp only [go_sem, Nat.reduceBEq, Nat.reduceLT, Nat.reduceLeDiff, Nat.reduceAdd, Nat.reduceMul, Nat.reduceSub, Nat.reduceMod, Nat.reduceDiv, Nat.reduceEqDiff, Int.reduceToNat, reduceIte, reduceCtorEq, Int.reduceLE, Int.reduceLT, Int.reduceEq, Int.reduceNeg, Int.reduceAdd, Int.reduceSub, Int.reduceMul, V1o, V2o, hAo, posr, hone, g40, c40]
  refine (toSheet_Q _ _ _ F S hF).A ?_
  simp only [go_sem, Nat.reduceBEq, Nat.reduceLT, Nat.reduceLeDiff, Nat.reduceAdd, Nat.reduceMul, Nat.reduceSub, Nat.reduceMod, Nat.reduceDiv, Nat.reduceEqDiff, Int.reduceToNat, reduceIte, reduceCtorEq, Int.reduceLE, Int.reduceLT, Int.reduceEq, Int.reduceNeg, Int.reduceAdd, Int.reduceSub, Int.reduceMul, hone, hAo]
  refine callA_false (toSpotS_E _ _ _ A L (hA.ext (by omega) X4) hm9 _ ?_)
  simp only [go_sem, Nat.reduceBEq, Nat.reduceLT, Nat.reduceLeDiff, Nat.reduceAdd, Nat.reduceMul, Nat.reduceSub, Nat.reduceMod, Nat.reduceDiv, Nat.reduceEqDiff, Int.reduceToNat, reduceIte, reduceCtorEq, Int.reduceLE, Int.reduceLT, Int.reduceEq, Int.reduceNeg, Int.reduceAdd, Int.reduceSub, Int.reduceMul, hone, hAo]
  refine callA_false (steps_E _ _ _ S hF.R _ L 0 (Sp_spsS (by omega) L) (by omega) k _ ?_)
  intro V3 h5 n5 hn5 hx5 ok5 I35
  rw [hRR] at I35
  rw [hcc]
  have V3o := I35.ok
  have x5 : HExt (n2 + 1) h4 h5 := HExt.tr (m' := n2 + 2) (by simp only [go_sem, Nat.reduceBEq, Nat.reduceLT, Nat.reduceLeDiff, Nat.reduceAdd, Nat.reduceMul, Nat.reduceSub, Nat.reduceMod, Nat.reduceDiv, Nat.reduceEqDiff, Int.reduceToNat, reduceIte, reduceCtorEq, Int.reduceLE, Int.reduceLT, Int.reduceEq, Int.reduceNeg, Int.reduceAdd, Int.reduceSub, Int.reduceMul, HExt_cons]) hx5 (by omega)
  have X5 := X4.tr x5 (by omega)
  simp only [go_sem, Nat.reduceBEq, Nat.reduceLT, Nat.reduceLeDiff, Nat.reduceAdd, Nat.reduceMul, Nat.reduceSub, Nat.reduceMod, Nat.reduceDiv, Nat.reduceEqDiff, Int.reduceToNat, reduceIte, reduceCtorEq, Int.reduceLE, Int.reduceLT, Int.reduceEq, Int.reduceNeg, Int.reduceAdd, Int.reduceSub, Int.reduceMul, V1o, V2o, V3o, hAo]
  refine (eqSpots_Q _ _ _ V3 V1 R _ _ I35 (I14.ext (by omega) x5) (by omega)).A ?_
  simp only [go_sem, Nat.reduceBEq, Nat.reduceLT, Nat.reduceLeDiff, Nat.reduceAdd, Nat.reduceMul, Nat.reduceSub, Nat.reduceMod, Nat.reduceDiv, Nat.reduceEqDiff, Int.reduceToNat, reduceIte, reduceCtorEq, Int.reduceLE, Int.reduceLT, Int.reduceEq, Int.reduceNeg, Int.reduceAdd, Int.reduceSub, Int.reduceMul, V1o, V2o, V3o, hAo]
  refine (heldSpots_Q _ _ _ V2 R.length _ (I24.ext (by omega) x5) (by omega)).A ?_
  simp only [go_sem, Nat.reduceBEq, Nat.reduceLT, Nat.reduceLeDiff, Nat.reduceAdd, Nat.reduceMul, Nat.reduceSub, Nat.reduceMod, Nat.reduceDiv, Nat.reduceEqDiff, Int.reduceToNat, reduceIte, reduceCtorEq, Int.reduceLE, Int.reduceLT, Int.reduceEq, Int.reduceNeg, Int.reduceAdd, Int.reduceSub, Int.reduceMul, V1o, V2o, V3o, hAo, posr]
  (try exact X5)
end
end Go.Proofs.Ytnbpgkidphdcdaa.V
