/- Part 7 of the texts that this proof stands on: a symbolic walk over the program, what its functions and the reference's do, plain laws. -/
import Derived.Test.YtkanbbfddlhlcaaGreatDoorZrkf
import Derived.Test.YtkanbbfddlhlcaaGreatDoorZrkc
import Derived.Test.YtkanbbfddlhlcaaGreatDoorRows
import Derived.Test.YtkanbbfddlhlcaaGreatDoorV14
import Derived.ProofKit
import Derived.LaidMore
import Derived.OpenShut
import Derived.Stop.Joined
import Derived.Stop.LaidErr
import Derived.Shelf.Vars
import Derived.Lay
set_option linter.all false

/- Reading stacks: the reference's code: the walk. -/
namespace Go.Proofs.YtkanbbfddlhlcaaGreatDoor.V
theorem nlL_cons (l : List UInt8) (r : List (List UInt8)) : (nlL (l :: r)).length = l.length + 1 + (nlL r).length := by simp [nlL]; omega
theorem drop_cons {L : List (List UInt8)} {q : Nat} (h : q < L.length) : L.drop q = L.getD q [] :: L.drop (q + 1) := by
  rw [List.drop_eq_getElem_cons h, ← getE_D L [] h]
section
variable (cx : Cx) (h : List (Nat × Seg)) (n : Nat)
set_option maxRecDepth 20000 in
theorem readStack2_E (s : List UInt8) (L0 : List Sh) (c : Int) (hI : RkIs s L0 c) (hs9 : s.length ≤ 1048576) (K : HK)
    (hK : ∀ V h' n', n ≤ n' → HExt n h h' → HOk n' h' → StOut h' n n' V L0 → K (.tup 2 (cl [V, .int .i64 c])) h' n') :
    CallE Tryz.prog cx 4 [.str (S8 s)] h n K := by
  have e0 : (⟨#[]⟩ : ByteArray) = S8 [] := rfl
  have e10 : (⟨#[10]⟩ : ByteArray) = S8 [10] := rfl
  have e10n : (10 : Int) = (((10 : UInt8).toNat : Nat) : Int) := rfl
  have hS8 : ∀ a b : List UInt8, (S8 a = S8 b) = (a = b) := fun a b => propext ⟨fun e => by have := congrArg (fun x : ByteArray => x.data.toList) e; simpa [S8_list] using this, fun e => by rw [e]⟩
  have hno : ¬ (∃ M, StOk M ∧ StR M ∧ s = Lib.join (M.map textS) [10]) → L0 = [] ∧ c = 5 := fun hq => by
    rcases hI with ⟨_, h1, h2, h3⟩ | ⟨rfl, rfl, _⟩
    · exact absurd ⟨L0, h1, h2, h3⟩ hq
    · exact ⟨rfl, rfl⟩
  refine callE_of_T (P := Tryz.prog) hti (nt := 55) (rs := [.tmp 2, .tmp 3]) rfl rfl Tryz.call4 Tryz.func4 rfl _ (by simp only [go_sem, and_self]) (Nat.le_of_ble_eq_true rfl) _ fun hok => ?_
  simp only [go_sem, Nat.reduceLT, Nat.reduceMul]
  generalize zrow _ = Z
  have okA : HOk (n + 1) ((n, ⟨0, Z, true, some (40, 0)⟩) :: h) := fun i t hi => by
    simp only [hget] at hi
    split at hi
    · rename_i e; cases hi; exact ⟨by omega, fun k hk => absurd hk (Nat.not_lt_zero k)⟩
    · exact ⟨by have := (hok i t hi).1; omega, fun k hk => SV.lt_mono (by omega) _ ((hok i t hi).2 k hk)⟩
  have StaA : Sta ((n, ⟨0, Z, true, some (40, 0)⟩) :: h) (n + 1) n 0 Z [] := ⟨by omega, by simp [hget], Nat.le_refl _, Nat.zero_le _, fun k hk => by simp at hk⟩
  by_cases hs0 : s = []
  · subst hs0
    obtain ⟨rfl, rfl⟩ := hI.empty
    simp only [go_sem, reduceCtorEq, e0, hS8]
    exact hK _ _ _ (by omega) (by simp only [go_sem, HExt_cons]) okA (StaA.out (Nat.le_refl n))
  simp only [go_sem, e0, hS8, hs0]
  rw [e10n]
  refine callA_false (split2_E _ _ _ s 10 (by omega) _ ?_)
  intro V h1 n1 hn1 x1 ok1 SV1
  have hgood : ∀ M, StOk M → s = Lib.join (M.map textS) [10] → blks (spl 10 s) [] = (M.map textS, []) := fun M m1 m3 => blks_good m1.valid (join_ne hs0 m3) m3
  have hnl : (nlL (spl 10 s)).length = s.length + 1 := by
    rw [nlL_joinN (spl_ne 10 s), spl_join, List.length_append]; rfl
  have hback := fun B => @blks_back s B
  have hLn := List.length_pos_iff.2 (spl_ne 10 s)
  have hL9 := spl_len 10 s
  have hcnt : s.count 10 ≤ s.length := List.count_le_length
  generalize hLL : spl 10 s = L at *
  obtain ⟨jv, capV, ⟨sn, vc, sr, so⟩, rfl, v1, v2, v3, v4, v5, v6, v7, v8, v9⟩ := SV1
  simp only at v4 v5 v6 v9
  subst v4 v5 v6
  have xn1 : HExt n h h1 := HExt.tr (m' := n + 1) (by simp only [go_sem, HExt_cons]) x1 (by omega)
  have Sta1 : Sta h1 n1 n 0 Z [] := ⟨by omega, x1 n (by omega) _ (by simp [hget]), Nat.le_refl _, Nat.zero_le _, fun k hk => by simp at hk⟩
  simp only [go_sem, Nat.reduceLT]
  refine T_lp (ι := { q : Nat × List (Nat × Seg) × Nat × Nat × Nat × (Nat → SV) × List Sh × List UInt8 // q.1 ≤ L.length ∧ n1 ≤ q.2.2.1 ∧ HOk q.2.2.1 q.2.1 ∧ HExt n h q.2.1 ∧ Sta q.2.1 q.2.2.1 q.2.2.2.1 q.2.2.2.2.1 q.2.2.2.2.2.1 q.2.2.2.2.2.2.1 ∧ (q.2.2.2.1 = n ∨ n1 ≤ q.2.2.2.1) ∧
      hget q.2.1 jv = some ⟨L.length, vc, true, some (9, capV)⟩ ∧ q.2.2.2.2.2.2.1.length ≤ q.1 ∧ (∀ S ∈ q.2.2.2.2.2.2.1, Valid S ∧ ShR S) ∧ blks L [] = (q.2.2.2.2.2.2.1.map textS ++ (blks (L.drop q.1) q.2.2.2.2.2.2.2).1, (blks (L.drop q.1) q.2.2.2.2.2.2.2).2) ∧
      q.2.2.2.2.2.2.2.length + (nlL (L.drop q.1)).length ≤ s.length + 1 })
    (fun q => ([(0, .str (S8 s)), (2, .nils), (3, .int .i64 0), (4, .sl q.1.2.2.2.1 0 q.1.2.2.2.2.2.2.1.length q.1.2.2.2.2.1), (5, .sl jv 0 L.length capV), (6, .str (S8 q.1.2.2.2.2.2.2.2)), (7, .int .i64 q.1.1)], q.1.2.1, q.1.2.2.1)) (fun q => L.length - q.1.1)
    ⟨(0, h1, n1, n, 0, Z, [], []), Nat.zero_le _, Nat.le_refl _, ok1, xn1, Sta1, .inl rfl, v3, Nat.le_refl _, fun S hS => by simp at hS, by simp, by simp [hnl]⟩ ?_ ?_
  · refine Imp.id (by show n ≤ n1; omega) ?_ (impH.base0 ok1 (Nat.le_refl _) HExt.rfl)
    simp only [go_sem, Nat.reduceLT, e0]
    exact ⟨by omega, v2⟩
  rintro ⟨⟨q, hq, nq, j, cap, sc, D, bl⟩, f1, f2, f3, f4, f5, f6, f7, f8, f9, f10, f11⟩
  simp only at f1 f2 f3 f4 f5 f6 f7 f8 f9 f10 f11
  have f12 : jv < nq := by omega
  have f13 := f5.lt
  have f5s := f5.seg
  have f5l := f5.le
  have f5c := f5.cap
  have f5a := f5.arg
  have hDR : StR D := fun i hi => by
    rw [← getE_D D sh0 hi]; exact (f9 _ (List.getElem_mem _)).2
  have okE : ∀ (Z' : Nat → SV), HOk (nq + 1) ((nq, ⟨0, Z', true, some (40, 0)⟩) :: hq) := fun Z' i t hi => by
    simp only [hget] at hi
    split at hi
    · rename_i e; cases hi; exact ⟨by omega, fun k hk => absurd hk (Nat.not_lt_zero k)⟩
    · exact ⟨by have := (f3 i t hi).1; omega, fun k hk => SV.lt_mono (by omega) _ ((f3 i t hi).2 k hk)⟩
  have hfail := fun (Z' : Nat → SV) => hK (.sl nq 0 0 0) ((nq, ⟨0, Z', true, some (40, 0)⟩) :: hq) (nq + 1) (by omega) (HExt.cons f4 (by omega)) (okE Z')
  have hout0 : ∀ (Z' : Nat → SV), StOut ((nq, ⟨0, Z', true, some (40, 0)⟩) :: hq) n (nq + 1) (.sl nq 0 0 0) [] := fun Z' => .inr ⟨nq, 0, ⟨0, Z', true, some (40, 0)⟩, rfl, by omega, by omega, by simp [hget], rfl, rfl, fun k hk => by simp at hk⟩
  simp only [go_sem, Nat.reduceLT, Nat.reduceMul, decide_eq_true_eq, decide_eq_false_iff_not]
  refine ⟨fun hq1 => ?_, fun hq1 => ?_⟩
  rotate_left
  · have eq1 : q = L.length := by omega
    subst eq1
    rw [List.drop_length] at f10
    simp only [blks, List.append_nil] at f10
    by_cases hbl : bl = []
    rotate_left
    · obtain ⟨rfl, rfl⟩ := hno fun ⟨M, m1, m2, m3⟩ => by
        have := hgood M m1 m3
        rw [f10] at this
        have h2 : bl = [] := by injection this
        exact hbl h2
      simp only [go_sem, reduceCtorEq, e0, hS8, hbl]
      exact hfail _ (hout0 _)
    subst hbl
    have hsD := hback _ f10
    have hgD : (∃ M, StOk M ∧ StR M ∧ s = Lib.join (M.map textS) [10]) → StOk D := fun ⟨M, m1, m2, m3⟩ => by
      have := hgood M m1 m3
      rw [f10] at this
      have e : D.map textS = M.map textS := by injection this
      obtain ⟨g1, g2⟩ := texts_inj (fun S hS => (f9 S hS).1) (fun S hS => (f9 S hS).2) m1.valid (stR_mem m2) e
      exact stOk_of m1 (fun S hS => (f9 S hS).1) g1 g2
    simp only [go_sem, e0, hS8]
    refine (stok2_Q _ _ _ _ D f5a hDR (by omega)).A ?_
    by_cases hk : StOk D
    · rw [stokB_t hk]
      have hI2 : RkIs s D 0 := .inl ⟨rfl, hk, hDR, hsD⟩
      obtain ⟨rfl, g1, g2⟩ := hI2.two hI
      simp only [go_sem, Nat.reduceLT, f13]
      exact hK _ _ _ (by omega) f4 f3 ((f5.out (lo := n) (by omega)).congr g1 g2)
    · obtain ⟨rfl, rfl⟩ := hno fun e => hk (hgD e)
      rw [stokB_f hk]
      simp only [go_sem, Nat.reduceLT, Nat.reduceMul]
      exact hfail _ (hout0 _)
  have hql : q < L.length := by omega
  have r1 : (0 : Int) ≤ q ∧ (q : Int) < L.length := ⟨by omega, by omega⟩
  have b2 : q ≤ L.length - 1 := by omega
  have b4 : q + 1 ≤ L.length := by omega
  have hcq : vc q = .str (S8 (L.getD q [])) := v9 q hql
  rw [drop_cons hql] at f10 f11
  rw [nlL_cons] at f11
  generalize hl : L.getD q [] = l at *
  by_cases hle : l = []
  rotate_left
  · rw [blks, if_neg hle] at f10
    simp only [go_sem, Nat.reduceLT, Nat.reduceLeDiff, f7, f12, r1, b2, hLn, b4, hcq, hql, e0, e10, hS8, hle, List.length_append, List.length_singleton]
    refine ⟨by omega, by omega, ⟨(q + 1, hq, nq, j, cap, sc, D, bl ++ (l ++ [10])), by show q + 1 ≤ L.length; omega, f2, f3, f4, f5, f6, f7, by show D.length ≤ q + 1; omega, f9, f10, by show (bl ++ (l ++ [10])).length + _ ≤ _; simp only [List.length_append, List.length_singleton]; omega⟩, by show L.length - (q + 1) < L.length - q; omega, ?_⟩
    refine Imp.id (by show n ≤ nq; omega) ?_ (impH.base0 f3 (Nat.le_refl _) HExt.rfl)
    simp only [go_sem, Nat.reduceLT, w64 (n := (q : Int) + 1) (by omega), Int.natCast_add, Int.natCast_one]
    exact ⟨f13, f12⟩
  subst hle
  rw [blks, if_pos rfl] at f10
  obtain ⟨S, d, hS⟩ := rsIs_ex bl
  have hbl9 : bl.length ≤ 1100000 := by omega
  have hgq : (∃ M, StOk M ∧ StR M ∧ s = Lib.join (M.map textS) [10]) → d = 0 := fun ⟨M, m1, m2, m3⟩ => by
    have := hgood M m1 m3
    rw [f10] at this
    have e : D.map textS ++ bl :: (blks (L.drop (q + 1)) []).1 = M.map textS := by injection this
    have hm : bl ∈ M.map textS := by rw [← e]; simp
    obtain ⟨Q, hQ, hQ2⟩ := List.mem_map.1 hm
    exact hS.good ⟨Q, m1.valid Q hQ, stR_mem m2 Q hQ, hQ2.symm⟩
  simp only [go_sem, Nat.reduceLT, f7, f12, r1, b2, hLn, b4, hcq, hql, e0, hS8]
  refine (readSheet2_Q _ _ _ bl S d hS hbl9).A ?_
  rcases hS.code with rfl | rfl
  rotate_left
  · obtain ⟨rfl, rfl⟩ := hno fun e => by have := hgq e; omega
    simp only [go_sem, Nat.reduceLT, Nat.reduceMul, Nat.reduceEqDiff, reduceIte, Int.reduceEq]
    generalize zrow _ = Z'
    refine hK (.sl (nq + 1) 0 0 0) _ (nq + 2) (by omega) (HExt.cons (HExt.cons f4 (by omega)) (by omega)) (fun i t hi => ?_) (.inr ⟨nq + 1, 0, ⟨0, Z', true, some (40, 0)⟩, rfl, by omega, by omega, by simp [hget], rfl, rfl, fun k hk => by simp at hk⟩)
    simp only [hget] at hi
    split at hi
    · rename_i e; cases hi; exact ⟨by omega, fun k hk => absurd hk (Nat.not_lt_zero k)⟩
    split at hi
    · rename_i e; cases hi; exact ⟨by omega, fun k hk => (shC_flat S k).below _⟩
    · exact ⟨by have := (f3 i t hi).1; omega, fun k hk => SV.lt_mono (by omega) _ ((f3 i t hi).2 k hk)⟩
  · obtain ⟨s1, s2, s3⟩ := hS.zero
    simp only [go_sem, Nat.reduceLT, Nat.reduceLeDiff, Nat.reduceEqDiff, reduceIte, f13, f5s]
    refine ⟨⟨f5l, f5c, by omega⟩, fun cap' c1 c2 => ?_⟩
    obtain ⟨k1, k2, k3, k4⟩ := staApp (h := h) (n := n) (cap' := cap') (c1 := shX S) (S := S) (w := some (40, 266)) (t0 := ⟨266, shC S, true, none⟩) f5 f3 f4 (by omega) (by omega) (shX_eq S) (by omega) c2 (fun k hk => shC_flat S k) rfl
    have hlen : (D ++ [S]).length = D.length + 1 := by rw [List.length_append]; rfl
    refine ⟨⟨(q + 1, _, nq + 3, nq + 2, cap', _, D ++ [S], []), by show q + 1 ≤ L.length; omega, by show n1 ≤ nq + 3; omega, k1, k2, k3, .inr (by show n1 ≤ nq + 2; omega), k4 _ _ (by omega) (by omega) f7, by show (D ++ [S]).length ≤ q + 1; omega, fun T hT => ?_, ?_, ?_⟩, by show L.length - (q + 1) < L.length - q; omega, ?_⟩
    · rcases List.mem_append.1 hT with hT | hT
      · exact f9 T hT
      · rw [List.mem_singleton.1 hT]; exact ⟨s1, s2⟩
    · show blks L [] = ((D ++ [S]).map textS ++ (blks (L.drop (q + 1)) []).1, (blks (L.drop (q + 1)) []).2)
      rw [f10, s3]; simp
    · show ([] : List UInt8).length + _ ≤ _
      simp only [List.length_nil] at f11 ⊢
      omega
    · refine Imp.id (by show n ≤ nq + 3; omega) ?_ (impH.base0 k1 (Nat.le_refl _) HExt.rfl)
      simp only [go_sem, Nat.reduceLT, hlen, w64 (n := (q : Int) + 1) (by omega), Int.natCast_add, Int.natCast_one]
      omega
end
end Go.Proofs.YtkanbbfddlhlcaaGreatDoor.V

/- ReadStack: the law: the walk. -/
namespace Go.Proofs.YtkanbbfddlhlcaaGreatDoor.V
theorem RkIs.R {s : List UInt8} {L : List Sh} {c : Int} (h : RkIs s L c) : StR L ∧ L.length ≤ 6 := by
  rcases h with ⟨_, h1, h2, _⟩ | ⟨_, rfl, _⟩
  · exact ⟨h2, h1.1⟩
  · exact ⟨fun i hi => by simp at hi, by simp⟩
section
variable (cx : Cx) (h : List (Nat × Seg)) (n : Nat)
set_option maxRecDepth 20000 in
theorem lawReadStack_Q (hTM : TabOk cx ∧ MaxOk cx ∧ ErrOk cx) (b : ByteArray) (hb : b.size ≤ 9223372036854775807) : CallQ Tryz.prog cx 3 [.str b] h n (.bool true) := by
  obtain ⟨hT, hM, hE⟩ := hTM
  obtain ⟨s, rfl⟩ : ∃ s, b = S8 s := ⟨b.data.toList, by unfold S8; simp⟩
  have hsz : (S8 s).size = s.length := S8_size s
  refine callQ_of_T (P := Tryz.prog) hti (nt := 66) (rs := [.tmp 2]) rfl rfl Tryz.call3 Tryz.func3 rfl _ (by simp only [go_sem, and_self]) (Nat.le_of_ble_eq_true rfl) _ (by first | exact trivial | (refine lt_flat rfl ?_; simp [SV.flat]; done) | simp only [go_sem]) fun hok => ?_
  by_cases hl : 1048576 < s.length
  · have hlT : (1048576 < (s.length : Int)) = True := eq_true (by omega)
    simp only [go_sem, Nat.reduceLT, hsz, hlT]
    done
  have hlF : (1048576 < (s.length : Int)) = False := eq_false (by omega)
  obtain ⟨L, c, hI⟩ := rkIs_ex s
  obtain ⟨hLR, hL6⟩ := hI.R
  simp only [go_sem, Nat.reduceLT, hsz, hlF]
  refine callA_false (readStack2_E _ _ _ s L c hI (by omega) _ ?_)
  intro V1 h1 n1 hn1 hx1 ok1 I1
  have V1o := I1.ok
  simp only [go_sem, Nat.reduceLT, V1o]
  refine callA_false (readStack_E _ _ _ (hT.sub _ _) (hM.sub _ _) (hE.sub _ _) s L c hI (by omega) _ ?_)
  intro V2 h2 n2 hn2 hx2 ok2 I2
  have V2o := I2.ok
  have I12 : StOut h2 n n2 V1 L := I1.ext (by omega) hx2
  have X2 : HExt n h h2 := hx1.tr hx2 (by omega)
  simp only [go_sem, Nat.reduceLT, V1o, V2o]
  refine (eqStOut_Q _ _ _ V2 V1 L _ _ I2 I12 hLR (by omega)).A ?_
  have pos1 : ¬ (10 * (L.length : Int) + 1 < 0) := by omega
  simp only [go_sem, Nat.reduceLT, V1o, V2o, pos1]
  refine callA_false (markOut_E _ _ _ V2 L n1 I2 (by omega) _ ?_)
  intro h4 ok4 keep4 I24
  have x4 : HExt n1 h2 h4 := keep4 _ _ (Nat.le_refl _) HExt.rfl
  have X4 : HExt n h h4 := X2.tr x4 (by omega)
  have I14 : StOut h4 n n2 V1 L := (I1.ext (Nat.le_refl n1) (fun j hj t ht => x4 j hj t (hx2 j hj t ht))).ext hn2 fun j hj t ht => ht
  simp only [go_sem, Nat.reduceLT, V1o, V2o]
  refine (heldOut_Q _ _ _ V2 L.length _ I24 (by omega)).A ?_
  simp only [go_sem, Nat.reduceLT, V1o, V2o, pos1]
  refine callA_false (readStack_E _ _ _ (hT.sub _ _) (hM.sub _ _) (hE.sub _ _) s L c hI (by omega) _ ?_)
  intro V5 h5 n5 hn5 hx5 ok5 I5
  have V5o := I5.ok
  have X5 : HExt n h h5 := X4.tr hx5 (by omega)
  simp only [go_sem, Nat.reduceLT, V1o, V2o, V5o]
  refine (eqStOut_Q _ _ _ V5 V1 L _ _ I5 (I14.ext (by omega) hx5) hLR (by omega)).A ?_
  simp only [go_sem, Nat.reduceLT, V1o, V2o, V5o, pos1]
  refine (heldOut_Q _ _ _ V2 L.length _ (I24.ext (by omega) hx5) (by omega)).A ?_
  simp only [go_sem, Nat.reduceLT, V1o, V2o, V5o, pos1]
  exact X5
end
end Go.Proofs.YtkanbbfddlhlcaaGreatDoor.V

/- What the row's condition on the laid tables gives the walks; a world that meets it. -/
namespace Go.Proofs.YtkanbbfddlhlcaaGreatDoor.V
open Go.ChangeShapes Go.WideShapes Go.ChangeAt Go.WideElems Go.RowKit
theorem gPow : Tryz.prog.globalNamed "internal/strconv.uint64pow10" = some 5 := by kernel_rfl
theorem tabIs_of {W : World} {a b : String × DataW Unit} {r : List (String × DataW Unit)} (h : laidMet Tryz.prog (a :: b :: ("internal/strconv.uint64pow10", Rows.laid_internal_strconv_uint64pow10) :: r) W) : Lib.TabIs Tryz.prog W "internal/strconv.uint64pow10" .u64 Lib.pow10Tab := by
  have h2 := (laidMet.tail (laidMet.tail h))
  exact Lib.tabIs_of_head gPow (t := 141) (e := 110) (n := 20) (by kernel_rfl) (by kernel_rfl) (by kernel_rfl) (by kernel_rfl) (by kernel_rfl) (k := .u64) (zs := Lib.pow10Tab) h2
theorem tabOk_of {W : World} (h : Lib.TabIs Tryz.prog W "internal/strconv.uint64pow10" .u64 Lib.pow10Tab) : TabOk (cx0 W) := fun w hk => Joins.tab_stays gPow h hk.below (Nat.le_refl _)
end Go.Proofs.YtkanbbfddlhlcaaGreatDoor.V

/- A row at laid tables whose contract may use the world's shape; some number lies in MaxLen. -/
namespace Go.Proofs.YtkanbbfddlhlcaaGreatDoor.V
open Go.ChangeShapes Go.WideShapes Go.ChangeAt Go.WideElems Go.RowKit
theorem maxOk_of {W : World} (h : W.ShapedOpen Tryz.prog) : MaxOk (cx0 W) := by
  obtain ⟨m, hm⟩ := cell_of_shapedOpen_int (t := 3) (zero := #[.int .i64 0]) (k := .i64) h (g := 0) (of_decide_eq_true (by kernel_rfl)) (by kernel_rfl) rfl (by kernel_rfl) (by kernel_rfl) (by kernel_rfl)
  refine ⟨m, fun w hk => ?_⟩
  have hb : 0 < W.heap.size := by
    rcases Nat.lt_or_ge 0 W.heap.size with h | h
    · exact h
    · simp [World.cell?, Array.getElem?_eq_none h] at hm
  simp only [World.cell?] at hm ⊢
  rw [show w.heap[0]? = W.heap[0]? from hk.noth hb]
  exact hm
/-- The wrap of a law at laid tables, the world's shape kept for the contract. -/
theorem handed_shaped_and {H : Type} {enc : TypeId × Value → H} {a : Assume} {C : Checked} {os : Os} {f : FuncId} {fn : Func} {s : ChangeSpec} {conds : List PathCond} {apart fresh handsOn again : Bool} {X : World → Array Value → Prop}
    (hX : ∀ (w w' : World) (args : Array Value), w.heap = w'.heap → X w args → X w' args)
    (own : ownKnob C.prog.godebug = none) (started : os.Started) (noInit : C.prog.inits.idxOf? f = none) (hfn : C.prog.funcs[f]? = some fn)
    (witness : ∃ (w : World) (tape : Tape) (i : Input), w.os = os ∧ (w.forCall tape i).Shaped C.prog ∧ i.vars = [] ∧ Input.okWide C.prog (w.forCall tape i) .any w.heap.size f i ∧
      ((s.pre enc C.prog fn conds apart (w.forCall tape i).memory i.args ∧ X (w.forCall tape i).memory i.args) ∧ sizedMet enc C.prog fn (OpenSpec.ofChange s) apart (w.forCall tape i).memory i.args) ∧ a.holds C.prog (lone (Frame.enter C.prog f i.args .normal) [] (w.forCall tape i)))
    (contract : ∀ (W : World) (base : Nat) (args : Array Value) (ds gs : List (DataW H)) (before : List MemPlace),
      (∀ (j : Nat) t v, fn.params[j]? = some t → args[j]? = some v → Value.okWide C.prog W .any base t v) →
      DataW.Whole enc C.prog fn.params.toList s.vars apart W args.toList ds gs before → X W args → W.ShapedOpen C.prog →
      Calls C.prog f args W fun e W' => ∃ v, e = .returned v ∧ s.post enc C.prog fn apart fresh handsOn again W args v W') :
    ReturnsInHanded a C os f .any (fun w args => (s.pre enc C.prog fn conds apart w args ∧ X w args) ∧ sizedMet enc C.prog fn (OpenSpec.ofChange s) apart w args) (s.post enc C.prog fn apart fresh handsOn again) := by
  refine returnsInHanded_of_calls own started noInit witness ?_
  intro w tape i _ hsh _ hok hpre _
  obtain ⟨_, _, _, fn', hfn', _, _, _, _, hval⟩ := hok
  have e : fn' = fn := Option.some.inj (hfn'.symm.trans hfn)
  subst e
  obtain ⟨⟨⟨ds, gs, before, hw, _⟩, hx⟩, _⟩ := hpre
  refine (contract (w.forCall tape i) w.heap.size i.args ds gs before hval (DataW.Whole.of_heap (w' := w.forCall tape i) (by rfl) hw) (hX _ _ _ (by rfl) hx) hsh).mono fun e W' ⟨v, he, hp⟩ => ?_
  subst he
  exact ChangeSpec.post_blind hp
end Go.Proofs.YtkanbbfddlhlcaaGreatDoor.V

/- What the row's condition on the laid tables gives of the library's two error values. -/
namespace Go.Proofs.YtkanbbfddlhlcaaGreatDoor.V
open Go.ChangeShapes Go.WideShapes Go.ChangeAt Go.WideElems Go.RowKit
theorem gErrR : Tryz.prog.globalNamed "strconv.ErrRange" = some 4 := by kernel_rfl
theorem gErrS : Tryz.prog.globalNamed "strconv.ErrSyntax" = some 3 := by kernel_rfl
theorem gErrRT : (Tryz.prog.globals[4]?).map (·.type) = some 79 := by kernel_rfl
theorem gErrST : (Tryz.prog.globals[3]?).map (·.type) = some 79 := by kernel_rfl
theorem starE : "*" ++ "errors.errorString" = "*errors.errorString" := by decide
theorem rowE (u : TypeId) (h : Tryz.prog.typeName? 3 u = some "*errors.errorString") : u = 137 :=
  typeName_ptr_named (nm := "errors.errorString") (by rw [starE]; kernel_rfl) (by kernel_rfl) (by decide) u (by rw [starE]; exact h)
theorem cellsE : Tryz.prog.cellsOf 139 = 1 := by kernel_rfl
theorem cellsS : Tryz.prog.cellsOf 9 = 1 := by kernel_rfl
theorem errOk_of {W : World} {a b c d : String × DataW Unit} {t1 t2 : List UInt8} {r : List (String × DataW Unit)}
    (h : laidMet Tryz.prog (a :: b :: c :: d :: ("strconv.ErrRange", .iface "*errors.errorString" (.ptr (.agg [.lit (.string t1)]))) :: ("strconv.ErrSyntax", .iface "*errors.errorString" (.ptr (.agg [.lit (.string t2)]))) :: r) W) : ErrOk (cx0 W) := by
  have h4 := laidMet.tail (laidMet.tail (laidMet.tail (laidMet.tail h)))
  obtain ⟨a0, s0, hv0, _⟩ := laid_sentinel h4 gErrR gErrRT Tryz.underlying79 rowE Tryz.underlying137 Tryz.underlying139 rfl rfl Tryz.underlying9 cellsE cellsS
  obtain ⟨b0, s1, hv1, _⟩ := laid_sentinel (laidMet.tail h4) gErrS gErrST Tryz.underlying79 rowE Tryz.underlying137 Tryz.underlying139 rfl rfl Tryz.underlying9 cellsE cellsS
  have c0 := World.var?_cell gErrR hv0 0
  have c1 := World.var?_cell gErrS hv1 0
  have key : ∀ (g : Nat) (v : Value), W.cell? ⟨g, 0, none⟩ = some v → ∀ w, Keeps (cx0 W).W (cx0 W).w0 w → w.cell? ⟨g, 0, none⟩ = some v := fun g v hm w hk => by
    have hb : g < W.heap.size := by
      rcases Nat.lt_or_ge g W.heap.size with h | h
      · exact h
      · simp [World.cell?, Array.getElem?_eq_none h] at hm
    simp only [World.cell?] at hm ⊢
    rw [show w.heap[g]? = W.heap[g]? from hk.noth hb]
    exact hm
  exact ⟨_, _, .inr ⟨_, _, rfl⟩, .inr ⟨_, _, rfl⟩, fun w hk => ⟨key _ _ c1 w hk, key _ _ c0 w hk⟩⟩
end Go.Proofs.YtkanbbfddlhlcaaGreatDoor.V
