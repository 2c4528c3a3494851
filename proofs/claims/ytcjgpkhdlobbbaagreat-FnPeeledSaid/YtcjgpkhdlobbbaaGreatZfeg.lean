/- Part 7 of the texts that this proof stands on: a symbolic walk over the program, what its functions and the reference's do, plain laws. -/
import Derived.Test.YtcjgpkhdlobbbaaGreatV19
import Derived.Test.YtcjgpkhdlobbbaaGreatZfee
import Derived.Test.YtcjgpkhdlobbbaaGreatZfed
import Derived.Sort.LotD4
import Derived.Sort.LotD5
import Derived.Test.YtcjgpkhdlobbbaaGreatZfeb
import Derived.Test.YtcjgpkhdlobbbaaGreatZfef
set_option linter.all false

/- A slice with three bounds; drops, cloned and deleted. -/
namespace Go.Proofs.YtcjgpkhdlobbbaaGreat.V
theorem slice3_sound {P : Program} {ti : Nat → TI} {cx : Cx} {ρ : Rho} (hti : ∀ t, TyOK P t (ti t)) {t e i off len cap a b c : Nat} (hk : (ti t).k = .sl e) (hkn : (ti e).k.kn) (h1 : a ≤ b) (h2 : b ≤ c) (h3 : c ≤ cap) (hac : a < c) (w : World) :
    (Instr.sliceAt t (den ρ (.sl i off len cap)) (some (.int .i64 a)) (some (.int .i64 b)) (some (.int .i64 c))).run P w = .ok (den ρ (.sl i (off + a * (ti e).sz) (b - a) (c - a))) w := by
  have hx := (hti t).und
  rw [hk] at hx
  have e0 : (Instr.sliceBounds true len cap (some (.int .i64 a)) (some (.int .i64 b)) (some (.int .i64 c))).run P w = .ok (a, b, c) w := by
    simp [Instr.sliceBounds, Instr.sliceBound, asIntOf, h1, h2, h3, Sem.run_bind]
  simp only [Instr.sliceAt, Sem.run_bind, run_underlying hx, Result.andThen_ok, Instr.slice, den, e0, (hti e).runSize (TK.kn_iff.1 hkn), Sem.run_pure]
  congr 2
  simp [show ¬ c = a by omega, addr_add, Nat.add_assoc]
theorem T_slice3 {P : Program} {ti : Nat → TI} {cx : Cx} {Q : List (Nat × SV) → List (Nat × Seg) → Nat → Prop} {k : List It} {l : List (Nat × SV)} {h : List (Nat × Seg)} {n : Nat} {all rest : List Oper} {d : Option Nat} {t ty : Nat} {pos : String} {af : Array Edge} {x lo hi mx : Operand} {e i off len cap a b c : Nat}
    (hti : ∀ t, TyOK P t (ti t)) (hd : dok cx.nt d) (hX : ev l x = .sl i off len cap) (hA : ev l lo = .int .i64 a) (hB : ev l hi = .int .i64 b) (hC : ev l mx = .int .i64 c) (hk : (ti t).k = .sl e) (hkn : (ti e).k.kn) (h1 : a ≤ b) (h2 : b ≤ c) (h3 : c ≤ cap) (hac : a < c)
    (hT : T P ti cx Q (.ops false all rest :: k) (put l d (.sl i (off + a * (ti e).sz) (b - a) (c - a))) h n) :
    T P ti cx Q (.ops false all (⟨d, .slice t x (some lo) (some hi) (some mx), ty, pos, af, none⟩ :: rest) :: k) l h n := by
  rw [T]
  refine ⟨hd, ?_⟩
  show if isPv _ = true then _ else _
  rw [if_neg (by simp [isPv])]
  refine ⟨rfl, ?_⟩
  show OpSem P cx _ l h n _
  intro ρ ac w st sh hn
  obtain ⟨e1, f1⟩ := ev_sound st x (by rw [hX]; simp)
  obtain ⟨e2, _⟩ := ev_sound st lo (by rw [hA]; simp)
  obtain ⟨e3, _⟩ := ev_sound st hi (by rw [hB]; simp)
  obtain ⟨e4, _⟩ := ev_sound st mx (by rw [hC]; simp)
  rw [hX] at e1 f1
  rw [hA] at e2
  rw [hB] at e3
  rw [hC] at e4
  refine upon_value_eq (v := den ρ (.sl i (off + a * (ti e).sz) (b - a) (c - a))) ?_ _ _ ⟨ρ, _, _, n, fun _ _ => rfl, st.put _ (.sl i (off + a * (ti e).sz) (b - a) (c - a)) f1 (dok_lt hd), sh, hn, hT⟩
  have hs := slice3_sound (P := P) (cx := cx) (ρ := ρ) hti (i := i) (off := off) (len := len) hk hkn h1 h2 h3 hac w
  have e2' : ac.eval lo = .int .i64 a := e2
  have e3' : ac.eval hi = .int .i64 b := e3
  have e4' : ac.eval mx = .int .i64 c := e4
  simp only [execOp, e1, e2', e3', e4', Option.map_some, Sem.run_bind, hs, Result.andThen_ok, Sem.run_pure]
section
variable (cx : Cx) (h : List (Nat × Seg)) (n : Nat)
theorem cloneDr_E (i cap : Nat) (L : List Dr) (s : Seg) (hs : hget h i = some s) (hi : i < n) (hL : DrAt s L) (hm9 : L.length ≤ 10000000) (K : HK)
    (hK : ∀ cap', L.length ≤ cap' → cap' ≤ maxLen → K (.sl n 0 L.length cap') ((n, ⟨L.length * 3, dropsC L, true, some (48, cap' * 3)⟩) :: h) (n + 1)) :
    CallE Tryz.prog cx 48 [.sl i 0 L.length cap] h n K := by
  obtain ⟨hn, hc⟩ := hL
  refine CallE.imp1 (K := fun r h1 n1 => ∃ cap', L.length ≤ cap' ∧ cap' ≤ maxLen ∧ r = .sl (n + 1) 0 L.length cap' ∧ n1 = n + 2 ∧ HExt n h h1 ∧ ∃ t, hget h1 (n + 1) = some t ∧ t.n = L.length * 3 ∧ t.rw = true ∧ t.own = some (48, cap' * 3) ∧ ∀ k, k < L.length * 3 → t.c k = dropsC L k) ?_ ?_
  · refine callE_of_T (P := Tryz.prog) hti (nt := 8) (rs := [.tmp 2]) rfl rfl Tryz.call48 Tryz.func48 rfl _ (by simp only [go_sem, and_self]) (Nat.le_of_ble_eq_true rfl) _ fun hok => ?_
    simp only [go_sem, Nat.reduceLT, Nat.reduceLeDiff, Nat.reduceMul, hs, hi, ↓hok.del (Nat.le_refl n)]
    refine ⟨⟨⟨trivial, Nat.succ_pos 2, ?_, ?_⟩, by omega⟩, fun cap' c1 c2 => ?_⟩
    · show 0 + L.length * 3 ≤ s.n
      omega
    · refine allP_iff.2 fun j hj => ?_
      have hj : j < L.length * 3 := hj
      show (s.c (0 + j)).one
      rw [Nat.zero_add, hc j hj]
      exact (dropsC_flat L j).one
    · refine ⟨cap', c1, c2, rfl, _, rfl, rfl, rfl, rfl, fun k hk => ?_⟩
      refine Eq.trans ?_ (hc k hk)
      simp only [both, news, Nat.not_lt_zero, if_false, Nat.sub_zero, Nat.zero_add]
  · rintro hok r h1 n1 ⟨cap', c1, c2, rfl, rfl, hx, t, ht, t1, t2, t4, t3⟩
    exact ⟨n + 1, .sl n 0 L.length cap', (n, ⟨L.length * 3, dropsC L, true, some (48, cap' * 3)⟩) :: h, n + 1, by omega, by omega, by simp only [ren_sl, sig_hit], Nat.lt_succ_self n,
      impH.cons1 ht (Nat.lt_succ_self n) (SegLe.flat (by rw [t1]; exact Nat.le_refl _) (fun _ => t2) (.inr t4.symm) fun k hk => ⟨t3 k hk, dropsC_flat _ _⟩) (impH.base1 hok (by simp) (Nat.le_refl n) hx), hK cap' c1 c2⟩
theorem delete_E (i cap a : Nat) (L : List Dr) (hs : hget h i = some ⟨L.length * 3, dropsC L, true, some (48, cap * 3)⟩) (hi : i < n) (ha : a < L.length) (hcap : L.length ≤ cap) (hcm : cap ≤ maxLen) (hm9 : L.length ≤ 10000000) (K : HK)
    (hK : ∀ j h' n' s', n ≤ n' → j < n' → HBut i n h h' → HOk n' h' → hget h' j = some s' → DrAt s' (L.eraseIdx a) → K (.sl j 0 (L.length - 1) cap) h' n') :
    CallE Tryz.prog cx 47 [.sl i 0 L.length cap, .int .i64 a, .int .i64 ((a + 1 : Nat) : Int)] h n K := by
  refine CallE.hokE ?_
  refine callE_of_T (P := Tryz.prog) hti (nt := 33) (rs := [.tmp 6]) rfl rfl Tryz.call47 Tryz.func47 rfl _ (by simp only [go_sem, and_self]) (Nat.le_of_ble_eq_true rfl) _ fun hok => ?_
  simp only [go_sem, Nat.reduceLT]
  refine T_slice3 (a := a) (b := a + 1) (c := L.length) hti (by first | (simp only [go_sem, Nat.reduceLT]; done) | (simp only [go_sem, Nat.reduceBEq, Nat.reduceLT, Nat.reduceLeDiff, Nat.reduceAdd, Nat.reduceMul, Nat.reduceSub, Nat.reduceMod, Nat.reduceDiv, Nat.reduceEqDiff, Int.reduceToNat, reduceIte, reduceCtorEq, Int.reduceLE, Int.reduceLT, Int.reduceEq, Int.reduceNeg, Int.reduceAdd, Int.reduceSub, Int.reduceMul]; trivial)) (by first | (simp only [go_sem, Nat.reduceLT]; done) | (simp only [go_sem, Nat.reduceLT]; rfl)) (by first | (simp only [go_sem, Nat.reduceLT]; done) | (simp only [go_sem, Nat.reduceBEq, Nat.reduceLT, Nat.reduceLeDiff, Nat.reduceAdd, Nat.reduceMul, Nat.reduceSub, Nat.reduceMod, Nat.reduceDiv, Nat.reduceEqDiff, Int.reduceToNat, reduceIte, reduceCtorEq, Int.reduceLE, Int.reduceLT, Int.reduceEq, Int.reduceNeg, Int.reduceAdd, Int.reduceSub, Int.reduceMul]; rfl)) (by first | (simp only [go_sem, Nat.reduceLT]; done) | (simp only [go_sem, Nat.reduceBEq, Nat.reduceLT, Nat.reduceLeDiff, Nat.reduceAdd, Nat.reduceMul, Nat.reduceSub, Nat.reduceMod, Nat.reduceDiv, Nat.reduceEqDiff, Int.reduceToNat, reduceIte, reduceCtorEq, Int.reduceLE, Int.reduceLT, Int.reduceEq, Int.reduceNeg, Int.reduceAdd, Int.reduceSub, Int.reduceMul]; rfl)) (by first | (simp only [go_sem]; done) | (simp only [go_sem, Nat.reduceBEq, Nat.reduceLT, Nat.reduceLeDiff, Nat.reduceAdd, Nat.reduceMul, Nat.reduceSub, Nat.reduceMod, Nat.reduceDiv, Nat.reduceEqDiff, Int.reduceToNat, reduceIte, reduceCtorEq, Int.reduceLE, Int.reduceLT, Int.reduceEq, Int.reduceNeg, Int.reduceAdd, Int.reduceSub, Int.reduceMul]; rfl)) (by first | (simp only [go_sem]; done) | (simp only [go_sem]; rfl)) (by first | (simp only [go_sem]; done) | (simp only [go_sem, Nat.reduceBEq, Nat.reduceLT, Nat.reduceLeDiff, Nat.reduceAdd, Nat.reduceMul, Nat.reduceSub, Nat.reduceMod, Nat.reduceDiv, Nat.reduceEqDiff, Int.reduceToNat, reduceIte, reduceCtorEq, Int.reduceLE, Int.reduceLT, Int.reduceEq, Int.reduceNeg, Int.reduceAdd, Int.reduceSub, Int.reduceMul]; trivial)) (by omega) (by omega) hcap ha ?_
  simp only [go_sem, Nat.reduceLT, show ((a : Int) = ((a + 1 : Nat) : Int)) = False from eq_false (by omega)]
  refine T_drawG hti 8 [6] (.b 0 0 (.b 0 1 (.b 0 2 (.b 0 3 (.b 0 4 (.b 0 5 (.b 4 6 (.b 0 7 (.f) .o) .o) .o) .o) .o) .o) .o) .o) _ _ (by kernel_rfl) (by kernel_rfl) ?_
  simp only [go_sem, Nat.reduceLT, Nat.reduceLeDiff, Nat.reduceMul, Int.reduceToNat, Int.reduceLE, hs, hi]
  simp only [Nat.sub_zero]
  have em : a + (L.length - (a + 1)) = L.length - 1 := by omega
  have e1 : ((cap : Int) = ((L.length - 1 : Nat) : Int)) = False := eq_false (by omega)
  obtain ⟨o, ho⟩ : ∃ o, (if (cap : Int) = ((a + 1 : Nat) : Int) then 0 else (a + 1) * 3) = o := ⟨_, rfl⟩
  have ho2 : a + 1 < L.length → o = (a + 1) * 3 := fun hl => by rw [← ho, if_neg (by omega)]
  have ho3 : o + (L.length - (a + 1)) * 3 ≤ L.length * 3 := by
    by_cases hl : a + 1 < L.length
    · rw [ho2 hl]; omega
    · have : o ≤ (a + 1) * 3 := by rw [← ho]; split <;> omega
      omega
  simp only [em, e1, ho, if_false]
  refine ⟨⟨by omega, by omega⟩, ⟨by omega, by omega, by omega⟩, by split <;> rfl, ⟨⟨ho3, allP_iff.2 fun k hk => (dropsC_flat _ _).one⟩, trivial, by omega, hcm, by omega, by omega⟩, fun t => ⟨⟨by omega, by omega, by omega⟩, by omega, fun hok' => ?_⟩⟩
  refine hK n _ (n + 1) _ (by omega) (by omega) (fun z hz hzi u hu => by simp only [hget]; rw [if_neg (by omega), hget_hdel, if_neg (Ne.symm hzi)]; exact hu) hok' (hget_hit _ _ _) ⟨?_, fun k hk => ?_⟩
  · rw [List.length_eraseIdx_of_lt ha]; show (L.length - 1) * 3 ≤ cap * 3; omega
  · rw [List.length_eraseIdx_of_lt ha] at hk
    dsimp only
    unfold clrC
    rw [if_neg (by omega)]
    dsimp only
    rw [if_pos hk]
    unfold both news
    have hj : k / 3 < L.length - 1 := by omega
    have ge : (L.eraseIdx a).getD (k / 3) (0, 0, 0) = if k / 3 < a then L.getD (k / 3) (0, 0, 0) else L.getD (k / 3 + 1) (0, 0, 0) := by
      rw [List.getD_eq_getElem?_getD, List.getElem?_eraseIdx]
      split <;> rw [List.getD_eq_getElem?_getD]
    split
    · rename_i hk2
      unfold dropsC
      rw [ge, if_pos (show k / 3 < a by omega)]
    · rename_i hk2
      have hl : a + 1 < L.length := by omega
      rw [ho2 hl]
      unfold dropsC
      rw [ge, if_neg (show ¬ k / 3 < a by omega), show ((a + 1) * 3 + (k - a * 3)) % 3 = k % 3 by omega, show ((a + 1) * 3 + (k - a * 3)) / 3 = k / 3 + 1 by omega]
end
end Go.Proofs.YtcjgpkhdlobbbaaGreat.V

/- UselessDrops: both codes. -/
namespace Go.Proofs.YtcjgpkhdlobbbaaGreat.V
theorem HOk.consFY {n : Nat} {h : List (Nat × Seg)} {s : Seg} (hok : HOk n h) (hs : ∀ k, k < s.n → (s.c k).flat) : HOk (n + 1) ((n, s) :: h) := fun i t hi => by
  simp only [hget] at hi
  by_cases e : n = i
  · rw [if_pos e] at hi; cases hi
    exact ⟨by omega, fun k hk => (hs k hk).below _⟩
  · rw [if_neg e] at hi
    obtain ⟨g1, g2⟩ := hok i t hi
    exact ⟨by omega, fun k hk => SV.lt_mono (by omega) _ (g2 k hk)⟩
theorem HOk.hdelY {n j : Nat} {h : List (Nat × Seg)} (hok : HOk n h) : HOk n (hdel h j) := fun i t hi => by
  rw [hget_hdel] at hi
  split at hi
  · cases hi
  · exact hok i t hi
/-- A list of numbers to which one may append. -/
def InO (h : List (Nat × Seg)) (lo n : Nat) (V : SV) (L : List Int) : Prop :=
  ∃ j cap s, V = .sl j 0 L.length cap ∧ lo ≤ j ∧ j < n ∧ hget h j = some s ∧ s.own = some (2, cap) ∧ s.rw = true ∧ s.n = L.length ∧ L.length ≤ cap ∧ cap ≤ maxLen ∧ ∀ k, k < L.length → s.c k = intsC L k
theorem InO.out {h : List (Nat × Seg)} {lo n : Nat} {V : SV} {L : List Int} (hA : InO h lo n V L) : IntsOut h lo n V L := by
  obtain ⟨i, cap, s, h1, h2, h3, h4, h5, h6, h7, h8, h9, h10⟩ := hA
  exact .inr ⟨i, cap, s, h1, h2, h3, h4, h6, h7, h10⟩
theorem InO.lo {h : List (Nat × Seg)} {lo lo' n : Nat} {V : SV} {L : List Int} (hA : InO h lo n V L) (hl : lo' ≤ lo) : InO h lo' n V L := by
  obtain ⟨i, cap, s, h1, h2, h3⟩ := hA
  exact ⟨i, cap, s, h1, by omega, h3⟩
theorem InO.ext {h h' : List (Nat × Seg)} {lo n n' : Nat} {V : SV} {L : List Int} (hA : InO h lo n V L) (hn : n ≤ n') (hx : HExt n h h') : InO h' lo n' V L := by
  obtain ⟨i, cap, s, h1, h2, h3, h4, h5⟩ := hA
  exact ⟨i, cap, s, h1, h2, by omega, hx i h3 s h4, h5⟩
noncomputable def madeE (P : Pc) (D : List Dr) : Bool := pcEq (allN7 ⟨P.wide, P.high, fun _ _ => 0⟩ D D.length) P
noncomputable def uselN (P : Pc) (D : List Dr) (k : Nat) : List Int := ((List.range k).filter fun i => madeE P (D.eraseIdx i)).map fun i : Nat => (i : Int)
theorem uselN_succ (P : Pc) (D : List Dr) (k : Nat) : uselN P D (k + 1) = uselN P D k ++ (if madeE P (D.eraseIdx k) then [(k : Int)] else []) := by
  unfold uselN
  rw [List.range_succ, List.filter_append, List.map_append]
  congr 1
  cases h : madeE P (D.eraseIdx k) <;> simp [h]
theorem uselN_len (P : Pc) (D : List Dr) (k : Nat) : (uselN P D k).length ≤ k := by
  unfold uselN; rw [List.length_map]; exact Nat.le_trans (List.length_filter_le _ _) (by simp)
noncomputable def uselC (P : Pc) (D : List Dr) : Int := if dcode P D = 0 then (if madeE P D then 0 else 4) else dcode P D
noncomputable def uselR (P : Pc) (D : List Dr) : List Int × Int := if uselC P D = 0 then (uselN P D D.length, 0) else ([], uselC P D)
theorem erase_getD (L : List Dr) (a q : Nat) : (L.eraseIdx a).getD q (0, 0, 0) = if q < a then L.getD q (0, 0, 0) else L.getD (q + 1) (0, 0, 0) := by
  rw [List.getD_eq_getElem?_getD, List.getElem?_eraseIdx]
  split <;> rw [List.getD_eq_getElem?_getD]
theorem dcode_erase {P : Pc} {D : List Dr} (h : dcode P D = 0) {a : Nat} (ha : a < D.length) : dcode P (D.eraseIdx a) = 0 := by
  obtain ⟨hP, hl, hc⟩ := dcode_ok h
  have hlen := List.length_eraseIdx_of_lt ha
  have hpk : pcokB P = true := by
    by_cases hk : pcokB P = true
    · exact hk
    · rw [dcode_1 hk] at h; cases h
  unfold dcode
  rw [if_pos hpk, if_neg (by omega), if_pos]
  intro q hq
  rw [erase_getD]
  split
  · exact hc q (by omega)
  · exact hc (q + 1) (by omega)
theorem drR_erase {D : List Dr} (h : DrR D) {a : Nat} (ha : a < D.length) : DrR (D.eraseIdx a) := by
  have hlen := List.length_eraseIdx_of_lt ha
  intro q hq
  rw [erase_getD]
  split
  · exact h q (by omega)
  · exact h (q + 1) (by omega)
/-- One number appended. -/
theorem appI {h hq : List (Nat × Seg)} {n nq jv cap : Nat} {A : List Int} {a : Int} {sc c1 : Nat → SV} {w : Option (Nat × Nat)} (I1 : n ≤ nq) (I2 : HOk nq hq) (I3 : HExt n h hq) (v1 : n ≤ jv) (c10 : c1 0 = .int .i64 a)
    (v9 : ∀ k, k < A.length → sc k = intsC A k) (m1 : A.length + 1 ≤ cap) (m2 : cap ≤ maxLen) :
    HOk (nq + 2) ((nq + 1, ⟨A.length + 1, both A.length sc (news c1 0), true, some (2, cap)⟩) :: (nq, ⟨1, c1, true, w⟩) :: hdel hq jv) ∧
    HExt n h ((nq + 1, ⟨A.length + 1, both A.length sc (news c1 0), true, some (2, cap)⟩) :: (nq, ⟨1, c1, true, w⟩) :: hdel hq jv) ∧
    InO ((nq + 1, ⟨A.length + 1, both A.length sc (news c1 0), true, some (2, cap)⟩) :: (nq, ⟨1, c1, true, w⟩) :: hdel hq jv) n (nq + 2) (.sl (nq + 1) 0 (A.length + 1) cap) (A ++ [a]) := by
  have hbo : ∀ k, k < A.length + 1 → both A.length sc (news c1 0) k = intsC (A ++ [a]) k := fun k hk => by
    unfold both news
    split
    · rename_i hk2
      rw [v9 k hk2]
      unfold intsC
      rw [List.getD_eq_getElem?_getD, List.getD_eq_getElem?_getD, List.getElem?_append_left hk2]
    · rename_i hk2
      have e : k = A.length := by omega
      subst e
      rw [Nat.sub_self, Nat.zero_add, c10]
      unfold intsC
      simp
  refine ⟨(I2.hdelY.consFY fun k hk => ?_).consFY fun k hk => ?_, fun z hz t ht => ?_, nq + 1, cap, _, by rw [List.length_append]; rfl, by omega, by omega, hget_hit _ _ _, rfl, rfl, by rw [List.length_append]; rfl, by rw [List.length_append]; exact m1, m2, fun k hk => hbo k (by rw [List.length_append] at hk; exact hk)⟩
  · have hk : k < 1 := hk
    have e : k = 0 := by omega
    subst e
    show (c1 0).flat
    rw [c10]; trivial
  · show (both A.length sc (news c1 0) k).flat
    rw [hbo k hk]; unfold intsC; trivial
  · simp only [hget]
    rw [if_neg (by omega), if_neg (by omega), hget_hdel, if_neg (by omega)]
    exact I3 z hz t ht
end Go.Proofs.YtcjgpkhdlobbbaaGreat.V

/- FnPeeled: the plain law. -/
namespace Go.Proofs.YtcjgpkhdlobbbaaGreat.V
theorem pcEq_iff (P Q : Pc) : pcEq P Q = true ↔ P.wide = Q.wide ∧ P.high = Q.high ∧ ∀ y x : Nat, y < 8 → x < 8 → P.ink y x = Q.ink y x := by
  have key : ∀ y x, y < 8 → x < 8 → eqc (pcC P (2 + y * 8 + x)) (pcC Q (2 + y * 8 + x)) = decide (P.ink y x = Q.ink y x) := fun y x hy hx => by
    rw [pcC_ofNat P y x hy hx, pcC_ofNat Q y x hy hx]; rfl
  have e : pcEq P Q = (eqc (pcC P 0) (pcC Q 0) && (eqc (pcC P 1) (pcC Q 1) && ((allN 8 fun i => allN 8 fun j => eqc (pcC P (0 + 2 + i * 8 + j * 1)) (pcC Q (0 + 2 + i * 8 + j * 1))) && true))) := rfl
  rw [e]
  simp only [Nat.zero_add, Nat.mul_one, Bool.and_true, Bool.and_eq_true, allN_iff, pcC_0, pcC_1]
  constructor
  · intro ⟨h1, h2, h3⟩
    refine ⟨of_decide_eq_true h1, of_decide_eq_true h2, fun y x hy hx => ?_⟩
    have := h3 y hy x hx
    rw [key y x hy hx] at this
    exact of_decide_eq_true this
  · intro ⟨h1, h2, h3⟩
    refine ⟨decide_eq_true h1, decide_eq_true h2, fun y hy x hx => ?_⟩
    rw [key y x hy hx]
    exact decide_eq_true (h3 y x hy hx)
section
variable {P : Pc} (hR : PcR P) (hP : PcOk P) {W H : Nat} (hW : P.wide = W) (hH : P.high = H)
include hR hP
theorem madeE_iff (D : List Dr) : madeE P D = true ↔ MkP P off D := by
  unfold madeE
  rw [pcEq_iff, made_iff]
  have hs := hP.1
  constructor
  · intro ⟨_, _, h⟩ a b a0 a1 b0 b1
    have := h b.toNat a.toNat (by omega) (by omega)
    rwa [Int.toNat_of_nonneg a0, Int.toNat_of_nonneg b0] at this
  · intro h
    refine ⟨(allN7_ink P D 0 0 D.length (Nat.le_refl _)).1, (allN7_ink P D 0 0 D.length (Nat.le_refl _)).2.1, fun y x hy hx => ?_⟩
    by_cases hin : (x : Int) < P.wide ∧ (y : Int) < P.high
    · exact h x y (by omega) hin.1 (by omega) hin.2
    · rw [(allN7_ink P D x y D.length (Nat.le_refl _)).2.2, replay_none]
      · have h1 := hP.2 y x (by omega) (by omega) (by omega) (by omega)
        have h2 := (hR.ink y x).1
        by_cases hz : 0 < P.ink y x
        · exact absurd (h1.2 hz) hin
        · omega
      · intro d _
        cases hd : covD P d ((x : Int), (y : Int)) with
        | false => rfl
        | true =>
          obtain ⟨⟨_, g1⟩, _, g2⟩ := covD_in hd
          exact absurd ⟨g1, g2⟩ hin
include hW hH
theorem drop_can {d : Dr} (h : d ∈ dropsL W H) : canD P d = true ∧ (0 ≤ d.1 ∧ d.1 < W) ∧ (0 ≤ d.2.1 ∧ d.2.1 < H) ∧ 0 ≤ d.2.2 ∧ d.2.2 < 3 := by
  have hs := hP.1
  obtain ⟨k, hk, rfl⟩ := List.mem_iff_getElem.1 h
  have := dropsL_in (W := W) (H := H) (j := k) (by rw [← dropsL_len]; exact hk) (by omega) (by omega)
  rw [List.getD_eq_getElem?_getD, List.getElem?_eq_getElem hk] at this
  have this : (0 ≤ (dropsL W H)[k].1 ∧ (dropsL W H)[k].1 < W) ∧ (0 ≤ (dropsL W H)[k].2.1 ∧ (dropsL W H)[k].2.1 < H) ∧ 0 ≤ (dropsL W H)[k].2.2 ∧ (dropsL W H)[k].2.2 < 3 := this
  refine ⟨?_, this⟩
  unfold canD
  rw [psh_has]
  simp only [Bool.and_eq_true, decide_eq_true_eq]
  omega
theorem dcode_in {D : List Dr} (hD : ∀ d ∈ D, d ∈ dropsL W H) (hl : D.length ≤ 100) : dcode P D = 0 :=
  dcode_0 (pcokB_t hP) (by omega) fun q hq => (drop_can hR hP hW hH (hD _ (by rw [List.getD_eq_getElem?_getD, List.getElem?_eq_getElem hq]; exact List.getElem_mem hq))).1
theorem drR_in {D : List Dr} (hD : ∀ d ∈ D, d ∈ dropsL W H) : DrR D := fun j hj => by
  have hs := hP.1
  have := (drop_can hR hP hW hH (hD _ (by rw [List.getD_eq_getElem?_getD, List.getElem?_eq_getElem hj]; exact List.getElem_mem hj : D.getD j (0, 0, 0) ∈ D))).2
  omega
theorem check_in {D : List Dr} (hD : ∀ d ∈ D, d ∈ dropsL W H) (hl : D.length ≤ 100) : checkR P D = (madeE P D, 0) := by
  unfold checkR
  rw [if_pos (dcode_in hR hP hW hH hD hl)]; rfl
theorem check_made {D : List Dr} (hD : ∀ d ∈ D, d ∈ dropsL W H) (hl : D.length ≤ 100) (hM : MkP P off D) : checkR P D = (true, 0) := by
  rw [check_in hR hP hW hH hD hl, (madeE_iff hR hP D).2 hM]
theorem usel_made {D : List Dr} (hD : ∀ d ∈ D, d ∈ dropsL W H) (hl : D.length ≤ 100) (hM : MkP P off D) : uselR P D = (uselN P D D.length, 0) := by
  have e : uselC P D = 0 := by
    unfold uselC
    rw [if_pos (dcode_in hR hP hW hH hD hl), if_pos ((madeE_iff hR hP D).2 hM)]
  unfold uselR
  rw [if_pos e]
theorem peel_mem (j : Nat) : ∀ d ∈ (peelIt P W H j).2, d ∈ dropsL W H := by
  induction j with
  | zero => intro d hd; cases hd
  | succ j ih =>
    intro d hd
    match hf : frontL P W H (peelIt P W H j).1 with
    | [] => rw [peel_stop hf 1] at hd; exact ih d hd
    | e :: R =>
      rw [peel_some hf] at hd
      rcases List.mem_append.1 hd with hd | hd
      · exact ih d hd
      · rw [List.mem_singleton.1 hd]
        exact (List.mem_filter.1 (show e ∈ (dropsL W H).filter (lastP P (peelIt P W H j).1) by rw [show (dropsL W H).filter (lastP P (peelIt P W H j).1) = e :: R from hf]; exact List.mem_cons_self ..)).1
/-- Peeling any valid picture: its drops make it, or it is not made. -/
theorem peelR_any : (∀ d ∈ (peelR P).1, d ∈ dropsL W H) ∧ (peelR P).1.length ≤ 64 ∧ ((peelR P).2 = 0 ∧ MkP P off (peelR P).1 ∨ (peelR P).2 = 6) := by
  have hs := hP.1
  have e1 : P.wide.toNat = W := by omega
  have e2 : P.high.toNat = H := by omega
  refine ⟨?_, peelR_len P, ?_⟩
  · by_cases hl : 0 < leftN P (peelF P P.wide.toNat P.high.toNat).1 P.wide.toNat (P.high.toNat * P.wide.toNat)
    · rw [peelR_6 (pcokB_t hP) hl]; intro d hd; cases hd
    · rw [peelR_0 (pcokB_t hP) hl, e1, e2]
      intro d hd
      exact peel_mem hR hP hW hH 64 d (List.mem_reverse.1 hd)
  · by_cases hl : 0 < leftN P (peelF P P.wide.toNat P.high.toNat).1 P.wide.toNat (P.high.toNat * P.wide.toNat)
    · rw [peelR_6 (pcokB_t hP) hl]; exact .inr rfl
    · rw [peelR_0 (pcokB_t hP) hl, e1, e2]
      rw [e1, e2] at hl
      exact .inl ⟨rfl, peel_made hR hW hH (by omega)⟩
theorem peelR_made {D : List Dr} (hD : ∀ d ∈ D, d ∈ dropsL W H) (hM : MkP P off D) : (peelR P).2 = 0 := by
  have hs := hP.1
  have e1 : P.wide.toNat = W := by omega
  have e2 : P.high.toNat = H := by omega
  have := peel_all hP hW hH hD hM
  rw [peelR_0 (pcokB_t hP) (by rw [e1, e2]; omega)]
/-- The fewest drops of a picture that three drops make: told, or too many tries. -/
theorem fewL_code {most : Nat} {D : List Dr} (hD : ∀ d ∈ D, d ∈ dropsL W H) (hM : MkP P off D) : ∀ (k m t : Nat), m ≤ D.length → D.length < m + k → (fewL P W H most k m t).2.2 = 0 ∨ (fewL P W H most k m t).2.2 = 7 := by
  intro k
  induction k with
  | zero => intro m t h1 h2; omega
  | succ k ih =>
    intro m t h1 h2
    match hr : srch P W H most m off t with
    | (some Y, t', s) => rw [fewL_some hr]; exact .inl rfl
    | (none, t', true) => rw [fewL_stop hr]; exact .inr rfl
    | (none, t', false) =>
      rw [fewL_next hr]
      refine ih (m + 1) t' ?_ (by omega)
      rcases Nat.lt_or_ge m D.length with hh | hh
      · exact hh
      · exact absurd hM (srch_none hW hH m off t t' hr D hD hh)
theorem few_made {D : List Dr} (hD : ∀ d ∈ D, d ∈ dropsL W H) (hl : D.length ≤ 3) (hM : MkP P off D) :
    ((fewR P 400).2.2 = 0 ∧ MkP P off (fewR P 400).1 ∧ (∀ d ∈ (fewR P 400).1, d ∈ dropsL W H) ∧ (∀ L : List Dr, (∀ d ∈ L, d ∈ dropsL W H) → MkP P off L → (fewR P 400).1.length ≤ L.length) ∧ ((fewR P 400).1.length : Int) ≤ (fewR P 400).2.1 ∧ (fewR P 400).2.1 ≤ 400) ∨ (fewR P 400).2.2 = 7 := by
  have hs := hP.1
  have e1 : P.wide.toNat = W := by omega
  have e2 : P.high.toNat = H := by omega
  rw [fewR_0 (pcokB_t hP) (by omega), e1, e2]
  have e3 : (400 : Int).toNat = 400 := rfl
  rw [e3]
  rcases fewL_code hR hP hW hH (most := 400) hD hM 9 0 0 (Nat.zero_le _) (by omega) with hc | hc
  · left
    have := fewL_least hR hW hH 9 0 0 (fewL P W H 400 9 0 0).1 (fewL P W H 400 9 0 0).2.1 (Nat.zero_le _) (fun L _ _ => Nat.zero_le _) (by rw [← hc])
    rw [Nat.zero_add] at this
    exact ⟨hc, this⟩
  · exact .inr hc
/-- A least list has no useless drop. -/
theorem least_usel {X : List Dr} (hX : ∀ d ∈ X, d ∈ dropsL W H) (hm : ∀ L : List Dr, (∀ d ∈ L, d ∈ dropsL W H) → MkP P off L → X.length ≤ L.length) : uselN P X X.length = [] := by
  unfold uselN
  rw [List.map_eq_nil_iff, List.filter_eq_nil_iff]
  intro i hi he
  have hi := List.mem_range.1 hi
  have h1 := hm (X.eraseIdx i) (fun d hd => hX d ((List.eraseIdx_sublist X i).subset hd)) ((madeE_iff hR hP _).1 he)
  rw [List.length_eraseIdx_of_lt hi] at h1
  omega
theorem last_some {D : List Dr} (hD : ∀ d ∈ D, d ∈ dropsL W H) (hM : MkP P off D) (h0 : 0 < D.length) : 0 < (lastL P).length := by
  have hs := hP.1
  obtain ⟨A, d, rfl⟩ : ∃ A d, D = A ++ [d] := ⟨D.dropLast, D.getLast (by intro e; rw [e] at h0; simp at h0), (List.dropLast_concat_getLast _).symm⟩
  have hd := hD d (by simp)
  obtain ⟨_, h1, h2, _⟩ := drop_can hR hP hW hH hd
  have hc : 0 < (covL P.wide P.high d.1 d.2.1).length := by
    refine List.length_pos_of_mem (a := (d.1, d.2.1)) ?_
    unfold covL
    rw [List.mem_filter]
    refine ⟨by simp, ?_⟩
    simp only [Bool.and_eq_true, decide_eq_true_eq]
    omega
  refine List.length_pos_of_mem (a := d) ?_
  unfold lastL
  rw [show P.wide.toNat = W by omega, show P.high.toNat = H by omega]
  exact List.mem_filter.2 ⟨hd, last_can hM hc⟩
theorem last_each {d : Dr} (hd : d ∈ lastL P) : d ∈ dropsL W H ∧ lastR P d = (true, 0) ∧ (dropsR P [d]).2 = 0 ∧ pcEq (dropsR P [d]).1 P = true := by
  have hs := hP.1
  unfold lastL at hd
  rw [show P.wide.toNat = W by omega, show P.high.toNat = H by omega] at hd
  obtain ⟨h1, h2⟩ := List.mem_filter.1 hd
  have hc := (drop_can hR hP hW hH h1).1
  refine ⟨h1, by rw [lastR_0 (pcokB_t hP) hc]; exact congrArg (·, (0 : Int)) h2, by rw [dropsR_0 (pcokB_t hP) hc], ?_⟩
  rw [dropsR_0 (pcokB_t hP) hc, pcEq_iff]
  refine ⟨(dropS_sides ..).1, (dropS_sides ..).2, fun y x hy hx => ?_⟩
  show (dropS P d.1 d.2.1 d.2.2).ink y x = _
  rw [dropS_ink]
  by_cases e : ((x : Int), (y : Int)) ∈ covL P.wide P.high d.1 d.2.1
  · rw [if_pos e]
    unfold lastP peelsB at h2
    rw [Bool.and_eq_true] at h2
    have := List.all_eq_true.1 h2.1 _ e
    unfold okP off at this
    rw [Bool.false_or] at this
    exact (of_decide_eq_true this).symm
  · rw [if_neg e]
end
/-- How many cells of a picture show an ink. -/
def cntK (P : Pc) (W k j : Nat) : Nat := ((List.range j).filter fun q => decide (P.ink ((q / W : Nat) : Int) ((q % W : Nat) : Int) = (k : Int) + 1)).length
/-- How many inks are seen. -/
def seenK (P : Pc) (W n k : Nat) : Nat := ((List.range k).filter fun i => decide (0 < cntK P W i n)).length
def boundR (P : Pc) (W H : Nat) : Nat := max (seenK P W (H * W) 3) ((leftN P off W (H * W) + 4) / 5)
theorem nodup_len {α : Type} [BEq α] [LawfulBEq α] : ∀ (A B : List α), A.Nodup → (∀ a ∈ A, a ∈ B) → A.length ≤ B.length
  | [], _, _, _ => Nat.zero_le _
  | a :: A, B, h, hs => by
    rw [List.nodup_cons] at h
    have h1 : a ∈ B := hs a (List.mem_cons_self ..)
    have := nodup_len A (B.erase a) h.2 fun b hb => (List.mem_erase_of_ne (fun e => h.1 (by rw [← e]; exact hb))).2 (hs b (List.mem_cons_of_mem _ hb))
    rw [List.length_erase_of_mem h1] at this
    have := List.length_pos_of_mem h1
    rw [List.length_cons]
    omega
theorem bound_le {P : Pc} {W H : Nat} (hW : P.wide = W) (hH : P.high = H) {L : List Dr} (hM : MkP P off L) : boundR P W H ≤ L.length := by
  unfold boundR
  refine Nat.max_le.2 ⟨?_, ?_⟩
  · unfold seenK
    have hn : ((List.range 3).filter fun i => decide (0 < cntK P W i (H * W))).Nodup := List.Nodup.sublist List.filter_sublist List.nodup_range
    have hs : ∀ i ∈ (List.range 3).filter (fun i => decide (0 < cntK P W i (H * W))), i ∈ L.map fun d => d.2.2.toNat := by
      intro i hi
      have h0 := of_decide_eq_true (List.mem_filter.1 hi).2
      unfold cntK at h0
      obtain ⟨q, hq⟩ := List.exists_mem_of_length_pos h0
      obtain ⟨h1, h2⟩ := List.mem_filter.1 hq
      have h2 := of_decide_eq_true h2
      have hin := cellW_in hW hH (List.mem_range.1 h1)
      have e : inkP P (cellW W q) = (i : Int) + 1 := by unfold inkP; rw [if_pos hin]; exact h2
      obtain ⟨d, hd, _, h3⟩ := ink_drop (covD P) colD (inkP P) L (fun c => hM.ink c rfl) (cellW W q) (by rw [e]; omega)
      refine List.mem_map.2 ⟨d, hd, ?_⟩
      unfold colD at h3
      show d.2.2.toNat = i
      omega
    have := nodup_len _ _ hn hs
    rwa [List.length_map] at this
  · have := left_le hW hH hM
    omega
end Go.Proofs.YtcjgpkhdlobbbaaGreat.V

/- FnPeeled: lists compared, the least number of drops: both codes. -/
namespace Go.Proofs.YtcjgpkhdlobbbaaGreat.V
theorem cntK_succ (P : Pc) (W k j : Nat) : cntK P W k (j + 1) = cntK P W k j + if P.ink ((j / W : Nat) : Int) ((j % W : Nat) : Int) = (k : Int) + 1 then 1 else 0 := by
  unfold cntK
  rw [List.range_succ, List.filter_append, List.length_append]
  by_cases e : P.ink ((j / W : Nat) : Int) ((j % W : Nat) : Int) = (k : Int) + 1
  · rw [if_pos e, List.filter_cons, if_pos (decide_eq_true e)]; rfl
  · rw [if_neg e, List.filter_cons, if_neg (by rw [decide_eq_true_eq]; exact e)]; rfl
theorem cntK_le (P : Pc) (W k j : Nat) : cntK P W k j ≤ j := by
  unfold cntK
  exact Nat.le_trans (List.length_filter_le _ _) (by simp)
theorem cnt_sum {P : Pc} (hR : PcR P) (hP : PcOk P) {W H : Nat} (hW : P.wide = W) (hH : P.high = H) : ∀ j, j ≤ H * W → cntK P W 0 j + cntK P W 1 j + cntK P W 2 j = leftN P off W j
  | 0, _ => by simp [cntK, leftN]
  | j + 1, hj => by
    have ih := cnt_sum hR hP hW hH j (by omega)
    rw [cntK_succ, cntK_succ, cntK_succ, leftN_succ, ← ih]
    have hin := cellW_in hW hH (show j < H * W by omega)
    have hs := hP.1
    obtain ⟨⟨a0, a1⟩, b0, b1⟩ := hin
    have h1 := hP.2 ((j / W : Nat) : Int) ((j % W : Nat) : Int) b0 (by show ((j / W : Nat) : Int) < 8; have : ((j / W : Nat) : Int) < P.high := b1; omega) a0 (by have : ((j % W : Nat) : Int) < P.wide := a1; omega)
    have h2 := (hR.ink ((j / W : Nat) : Int) ((j % W : Nat) : Int)).1
    have e : leftB P off W j = decide (0 < P.ink ((j / W : Nat) : Int) ((j % W : Nat) : Int)) := by unfold leftB off; simp
    rw [e]
    generalize P.ink ((j / W : Nat) : Int) ((j % W : Nat) : Int) = v at *
    have : v = 0 ∨ v = 1 ∨ v = 2 ∨ v = 3 := by omega
    rcases this with rfl | rfl | rfl | rfl <;> simp <;> omega
section
variable (cx : Cx) (h : List (Nat × Seg)) (n : Nat)
theorem max7_Q (a b : Int) : CallQ Tryz.prog cx 41 [.int .i64 a, .int .i64 b] h n (.int .i64 (max a b)) := by
  refine callQ_of_T (P := Tryz.prog) hti (nt := 10) (rs := [.tmp 4]) rfl rfl Tryz.call41 Tryz.func41 rfl _ (by simp only [go_sem, and_self]) (Nat.le_of_ble_eq_true rfl) _ (by first | exact trivial | (refine lt_flat rfl ?_; simp [SV.flat]; done) | simp only [go_sem]) fun hok => ?_
  by_cases e : b < a
  · simp only [go_sem, Nat.reduceLT, e, show max a b = a by omega]
  · simp only [go_sem, Nat.reduceLT, e, show max a b = b by omega]
theorem sameDrS_Q (i cap i' cap' : Nat) (L : List Dr) (s s' : Seg) (hs : hget h i = some s) (hi : i < n) (hL : DrAt s L) (hs' : hget h i' = some s') (hi' : i' < n) (hL' : DrAt s' L) (hm9 : L.length ≤ 10000000) :
    CallQ Tryz.prog cx 13 [.sl i 0 L.length cap, .sl i' 0 L.length cap'] h n (.bool true) := by
  have hn := hL.1; have hn' := hL'.1
  refine callQ_of_T (P := Tryz.prog) hti (nt := 26) (rs := [.tmp 4]) rfl rfl Tryz.call13 Tryz.func13 rfl _ (by simp only [go_sem, and_self]) (Nat.le_of_ble_eq_true rfl) _ (by first | exact trivial | (refine lt_flat rfl ?_; simp [SV.flat]; done) | simp only [go_sem]) fun hok => ?_
  simp only [go_sem, Nat.reduceLT]
  refine T_lp (ι := { q : Nat // q ≤ L.length }) (fun q => ([(0, .sl i 0 L.length cap), (1, .sl i' 0 L.length cap'), (5, .int .i64 q.1)], h, n)) (fun q => L.length - q.1) ⟨0, by omega⟩ ?_ ?_
  · refine Imp.id (by simp) ?_ (impH.base0 hok (by simp) HExt.rfl)
    simp only [go_sem, Nat.reduceLT]
    exact ⟨hi, hi'⟩
  · rintro ⟨q, hq⟩
    simp only [go_sem, Nat.reduceLT, decide_eq_true_eq, decide_eq_false_iff_not]
    refine ⟨fun h1 => ?_, fun h1 => ?_⟩
    · have r1 : (0 : Int) ≤ q ∧ (q : Int) < L.length := ⟨by omega, by omega⟩
      have b1 : q * 3 ≤ s.n - 3 := by omega
      have b2 : q * 3 ≤ s'.n - 3 := by omega
      have b3 : 3 ≤ s.n := by omega
      have b4 : 3 ≤ s'.n := by omega
      have b5 : q * 3 + 3 ≤ s.n := by omega
      have b6 : q * 3 + 3 ≤ s'.n := by omega
      refine T_draw hti _ _ (by kernel_rfl) (by kernel_rfl) ?_
      simp only [go_sem, Nat.reduceLT, Nat.reduceLeDiff, Nat.reduceMod, hs, hs', hi, hi', r1, b1, b2, b3, b4, b5, b6, hL.c0 (j := q) (by omega), hL.c1 (j := q) (by omega), hL.c2 (j := q) (by omega), hL'.c0 (j := q) (by omega), hL'.c1 (j := q) (by omega), hL'.c2 (j := q) (by omega)]
      refine ⟨⟨q + 1, by omega⟩, by show L.length - (q + 1) < L.length - q; omega, ?_⟩
      refine Imp.id (by simp) ?_ (impH.base0 hok (by simp) HExt.rfl)
      simp only [go_sem, Nat.reduceLT, w64 (n := (q : Int) + 1) (by omega), Int.natCast_add, Int.natCast_one]
      exact ⟨hi, hi'⟩
    · simp only [go_sem]
theorem sameDr_Q (V V' : SV) (L : List Dr) (lo lo' : Nat) (hA : DrOut h lo n V L) (hA' : DrOut h lo' n V' L) (hm9 : L.length ≤ 10000000) :
    CallQ Tryz.prog cx 13 [V, V'] h n (.bool true) := by
  rcases hA with ⟨rfl, rfl⟩ | ⟨i, cap, s, rfl, h0, hi, hs, _, hn, hc⟩ <;> rcases hA' with ⟨rfl, hL⟩ | ⟨i', cap', s', rfl, h0', hi', hs', _, hn', hc'⟩
  · refine callQ_of_T (P := Tryz.prog) hti (nt := 26) (rs := [.tmp 4]) rfl rfl Tryz.call13 Tryz.func13 rfl _ (by simp only [go_sem, and_self]) (Nat.le_of_ble_eq_true rfl) _ (by first | exact trivial | (refine lt_flat rfl ?_; simp [SV.flat]; done) | simp only [go_sem]) fun hok => ?_
    simp only [go_sem, Nat.reduceLT]
    refine T_unroll 0 ?_
    simp only [go_sem, Nat.reduceLT, Int.reduceLT]
  · refine callQ_of_T (P := Tryz.prog) hti (nt := 26) (rs := [.tmp 4]) rfl rfl Tryz.call13 Tryz.func13 rfl _ (by simp only [go_sem, and_self]) (Nat.le_of_ble_eq_true rfl) _ (by first | exact trivial | (refine lt_flat rfl ?_; simp [SV.flat]; done) | simp only [go_sem]) fun hok => ?_
    simp only [go_sem, Nat.reduceLT]
    refine T_unroll 0 ?_
    simp only [go_sem, Nat.reduceLT, Int.reduceLT]
  · subst hL
    refine callQ_of_T (P := Tryz.prog) hti (nt := 26) (rs := [.tmp 4]) rfl rfl Tryz.call13 Tryz.func13 rfl _ (by simp only [go_sem, and_self]) (Nat.le_of_ble_eq_true rfl) _ (by first | exact trivial | (refine lt_flat rfl ?_; simp [SV.flat]; done) | simp only [go_sem]) fun hok => ?_
    simp only [go_sem, Nat.reduceLT]
    refine T_unroll 0 ?_
    simp only [go_sem, Nat.reduceLT, Int.reduceLT]
  · exact sameDrS_Q cx h n i cap i' cap' L s s' hs hi ⟨by omega, hc⟩ hs' hi' ⟨by omega, hc'⟩ hm9
theorem same00_Q (V V' : SV) (L : List Int) (lo lo' : Nat) (hA : IntsOut h lo n V L) (hA' : IntsOut h lo' n V' L) (hm9 : L.length ≤ 1000000000) :
    CallQ Tryz.prog cx 55 [V, V'] h n (.bool true) := by
  rcases hA with ⟨rfl, rfl⟩ | ⟨i, cap, s, rfl, h0, hi, hs, _, hn, hc⟩ <;> rcases hA' with ⟨rfl, hL⟩ | ⟨i', cap', s', rfl, h0', hi', hs', _, hn', hc'⟩
  · refine callQ_of_T (P := Tryz.prog) hti (nt := 26) (rs := [.tmp 4]) rfl rfl Tryz.call55 Tryz.func55 rfl _ (by simp only [go_sem, and_self]) (Nat.le_of_ble_eq_true rfl) _ (by first | exact trivial | (refine lt_flat rfl ?_; simp [SV.flat]; done) | simp only [go_sem]) fun hok => ?_
    simp only [go_sem, Nat.reduceLT]
    refine T_unroll 0 ?_
    simp only [go_sem, Nat.reduceLT, Int.reduceLT]
  · refine callQ_of_T (P := Tryz.prog) hti (nt := 26) (rs := [.tmp 4]) rfl rfl Tryz.call55 Tryz.func55 rfl _ (by simp only [go_sem, and_self]) (Nat.le_of_ble_eq_true rfl) _ (by first | exact trivial | (refine lt_flat rfl ?_; simp [SV.flat]; done) | simp only [go_sem]) fun hok => ?_
    simp only [go_sem, Nat.reduceLT]
    refine T_unroll 0 ?_
    simp only [go_sem, Nat.reduceLT, Int.reduceLT]
  · subst hL
    refine callQ_of_T (P := Tryz.prog) hti (nt := 26) (rs := [.tmp 4]) rfl rfl Tryz.call55 Tryz.func55 rfl _ (by simp only [go_sem, and_self]) (Nat.le_of_ble_eq_true rfl) _ (by first | exact trivial | (refine lt_flat rfl ?_; simp [SV.flat]; done) | simp only [go_sem]) fun hok => ?_
    simp only [go_sem, Nat.reduceLT]
    refine T_unroll 0 ?_
    simp only [go_sem, Nat.reduceLT, Int.reduceLT]
  · refine callQ_of_T (P := Tryz.prog) hti (nt := 26) (rs := [.tmp 4]) rfl rfl Tryz.call55 Tryz.func55 rfl _ (by simp only [go_sem, and_self]) (Nat.le_of_ble_eq_true rfl) _ (by first | exact trivial | (refine lt_flat rfl ?_; simp [SV.flat]; done) | simp only [go_sem]) fun hok => ?_
    simp only [go_sem, Nat.reduceLT]
    refine T_lp (ι := { q : Nat // q ≤ L.length }) (fun q => ([(0, .sl i 0 L.length cap), (1, .sl i' 0 L.length cap'), (5, .int .i64 q.1)], h, n)) (fun q => L.length - q.1) ⟨0, by omega⟩ ?_ ?_
    · refine Imp.id (by simp) ?_ (impH.base0 hok (by simp) HExt.rfl)
      simp only [go_sem, Nat.reduceLT]
      exact ⟨hi, hi'⟩
    · rintro ⟨q, hq⟩
      simp only [go_sem, Nat.reduceLT, decide_eq_true_eq, decide_eq_false_iff_not]
      refine ⟨fun h1 => ?_, fun h1 => ?_⟩
      · have r1 : (0 : Int) ≤ q ∧ (q : Int) < L.length := ⟨by omega, by omega⟩
        have b1 : q < s.n := by omega
        have b8 : q + 1 ≤ s.n := by omega
        have b2 : q < s'.n := by omega
        have b9 : q + 1 ≤ s'.n := by omega
        have b3 : q ≤ s.n - 1 := by omega
        have b4 : q ≤ s'.n - 1 := by omega
        have b5 : 1 ≤ s.n := by omega
        have b6 : 1 ≤ s'.n := by omega
        have e1 : s.c q = .int .i64 (L.getD q 0) := hc q (by omega)
        have e2 : s'.c q = .int .i64 (L.getD q 0) := hc' q (by omega)
        refine T_draw hti _ _ (by kernel_rfl) (by kernel_rfl) ?_
        simp only [go_sem, Nat.reduceLT, hs, hs', hi, hi', r1, b1, b2, b3, b4, b5, b6, b8, b9, e1, e2]
        refine ⟨⟨q + 1, by omega⟩, by show L.length - (q + 1) < L.length - q; omega, ?_⟩
        refine Imp.id (by simp) ?_ (impH.base0 hok (by simp) HExt.rfl)
        simp only [go_sem, Nat.reduceLT, w64 (n := (q : Int) + 1) (by omega), Int.natCast_add, Int.natCast_one]
        exact ⟨hi, hi'⟩
      · simp only [go_sem]
theorem has00_Q (V : SV) (L : List Int) (lo : Nat) (v : Int) (hA : IntsOut h lo n V L) (hm9 : L.length ≤ 1000000000) :
    CallQ Tryz.prog cx 56 [V, .int .i64 v] h n (.bool (decide (v ∈ L))) := by
  rcases hA with ⟨rfl, rfl⟩ | ⟨i, cap, s, rfl, h0, hi, hs, _, hn, hc⟩
  · refine callQ_of_T (P := Tryz.prog) hti (nt := 18) (rs := [.tmp 4]) rfl rfl Tryz.call56 Tryz.func56 rfl _ (by simp only [go_sem, and_self]) (Nat.le_of_ble_eq_true rfl) _ (by first | exact trivial | (refine lt_flat rfl ?_; simp [SV.flat]; done) | simp only [go_sem]) fun hok => ?_
    simp only [go_sem, Nat.reduceLT]
    refine T_unroll 0 ?_
    simp only [go_sem, Nat.reduceLT, Int.reduceLT, List.not_mem_nil, decide_false]
  · refine callQ_of_T (P := Tryz.prog) hti (nt := 18) (rs := [.tmp 4]) rfl rfl Tryz.call56 Tryz.func56 rfl _ (by simp only [go_sem, and_self]) (Nat.le_of_ble_eq_true rfl) _ (by first | exact trivial | (refine lt_flat rfl ?_; simp [SV.flat]; done) | simp only [go_sem]) fun hok => ?_
    simp only [go_sem, Nat.reduceLT]
    refine T_lp (ι := { q : Nat // q ≤ L.length ∧ ∀ j, j < q → L.getD j 0 ≠ v }) (fun q => ([(0, .sl i 0 L.length cap), (1, .int .i64 v), (5, .int .i64 q.1)], h, n)) (fun q => L.length - q.1) ⟨0, by omega, fun j hj => by omega⟩ ?_ ?_
    · refine Imp.id (by simp) ?_ (impH.base0 hok (by simp) HExt.rfl)
      simp only [go_sem, Nat.reduceLT]
      exact hi
    · rintro ⟨q, hq, hne⟩
      simp only [go_sem, Nat.reduceLT, decide_eq_true_eq, decide_eq_false_iff_not]
      refine ⟨fun h1 => ?_, fun h1 => ?_⟩
      · have hql : q < L.length := by omega
        have r1 : (0 : Int) ≤ q ∧ (q : Int) < L.length := ⟨by omega, by omega⟩
        have b1 : q < s.n := by omega
        have b8 : q + 1 ≤ s.n := by omega
        have b3 : q ≤ s.n - 1 := by omega
        have b5 : 1 ≤ s.n := by omega
        have e1 : s.c q = .int .i64 (L.getD q 0) := hc q (by omega)
        by_cases ev : L.getD q 0 = v
        · have hm : v ∈ L := by
            rw [← ev, List.getD_eq_getElem?_getD, List.getElem?_eq_getElem hql]; exact List.getElem_mem hql
          simp only [go_sem, Nat.reduceLT, hs, hi, r1, b1, b3, b5, b8, e1, ev, hm]
        · simp only [go_sem, Nat.reduceLT, hs, hi, r1, b1, b3, b5, b8, e1, ev]
          refine ⟨⟨q + 1, by omega, fun j hj => ?_⟩, by show L.length - (q + 1) < L.length - q; omega, ?_⟩
          · rcases Nat.lt_succ_iff_lt_or_eq.1 hj with hh | rfl
            · exact hne j hh
            · exact ev
          refine Imp.id (by simp) ?_ (impH.base0 hok (by simp) HExt.rfl)
          simp only [go_sem, Nat.reduceLT, w64 (n := (q : Int) + 1) (by omega), Int.natCast_add, Int.natCast_one]
          exact hi
      · have hm : ¬ v ∈ L := fun hm => by
          obtain ⟨j, hj, e⟩ := List.mem_iff_getElem.1 hm
          refine hne j (by omega) ?_
          rw [List.getD_eq_getElem?_getD, List.getElem?_eq_getElem hj]; exact e
        simp only [go_sem, hm]
theorem sameNum_Q (V V' : SV) (L : List Int) (lo lo' : Nat) (hA : IntsOut h lo n V L) (hA' : IntsOut h lo' n V' L) (hm9 : L.length ≤ 1000000000) :
    CallQ Tryz.prog cx 20 [V, V'] h n (.bool true) := by
  have hAo := hA.ok
  have hBo := hA'.ok
  refine callQ_of_T (P := Tryz.prog) hti (nt := 8) (rs := [.tmp 4]) rfl rfl Tryz.call20 Tryz.func20 rfl _ (by first | (simp only [go_sem, hAo]; done) | (simp only [go_sem, hAo, hBo]; done)) (Nat.le_of_ble_eq_true rfl) _ (by trivial) fun hok => ?_
  simp only [go_sem, Nat.reduceLT, hAo, hBo]
  refine (same00_Q _ _ _ V V' L lo lo' hA hA' hm9).A ?_
  simp only [go_sem, Nat.reduceLT]
theorem hasNum_Q (V : SV) (L : List Int) (lo : Nat) (v : Int) (hA : IntsOut h lo n V L) (hm9 : L.length ≤ 1000000000) :
    CallQ Tryz.prog cx 21 [V, .int .i64 v] h n (.bool (decide (v ∈ L))) := by
  have hAo := hA.ok
  refine callQ_of_T (P := Tryz.prog) hti (nt := 8) (rs := [.tmp 4]) rfl rfl Tryz.call21 Tryz.func21 rfl _ (by first | (simp only [go_sem, hAo]; done) | (simp only [go_sem, hAo, hBo]; done)) (Nat.le_of_ble_eq_true rfl) _ (by trivial) fun hok => ?_
  simp only [go_sem, Nat.reduceLT, hAo]
  refine (has00_Q _ _ _ V L lo v hA hm9).A ?_
  simp only [go_sem, Nat.reduceLT]
end
end Go.Proofs.YtcjgpkhdlobbbaaGreat.V

/- FnPeeled: the least number of drops: both codes. -/
namespace Go.Proofs.YtcjgpkhdlobbbaaGreat.V
/-- The inks that are seen. -/
def inksK (P : Pc) (W n k : Nat) : List Int := ((List.range k).filter fun i => decide (0 < cntK P W i n)).map fun i : Nat => (i : Int)
theorem inksK_len (P : Pc) (W n k : Nat) : (inksK P W n k).length = seenK P W n k := by unfold inksK seenK; rw [List.length_map]
theorem inksK_succ (P : Pc) (W n k : Nat) : inksK P W n (k + 1) = inksK P W n k ++ (if 0 < cntK P W k n then [(k : Int)] else []) := by
  unfold inksK
  rw [List.range_succ, List.filter_append, List.map_append]
  congr 1
  by_cases h : 0 < cntK P W k n <;> simp [h]
theorem seenK_3 (P : Pc) (W n : Nat) : seenK P W n 3 = (if 0 < cntK P W 0 n then 1 else 0) + (if 0 < cntK P W 1 n then 1 else 0) + (if 0 < cntK P W 2 n then 1 else 0) := by
  unfold seenK
  rw [show List.range 3 = [0, 1, 2] from rfl]
  by_cases h0 : 0 < cntK P W 0 n <;> by_cases h1 : 0 < cntK P W 1 n <;> by_cases h2 : 0 < cntK P W 2 n <;> simp [h0, h1, h2]
theorem cntL_flat (a b c : Int) (k : Nat) (hk : k < 3) : (cl [.int .i64 a, .int .i64 b, .int .i64 c] k).flat := by
  match k with
  | 0 => trivial
  | 1 => trivial
  | 2 => trivial
  | k + 3 => omega
section
variable (cx : Cx) (h : List (Nat × Seg)) (n : Nat)
theorem count7_Q (i : Nat) (P : Pc) (k W H : Nat) (hs : hget h i = some (pcS P)) (hi : i < n) (hR : PcR P) (hP : PcOk P) (hW : P.wide = W) (hH : P.high = H) :
    CallQ Tryz.prog cx 73 [.ptr i 0, .int .u8 ((k : Int) + 1)] h n (.int .i64 (cntK P W k (H * W))) := by
  have hs8 := hP.1
  have hW8 : W ≤ 8 := by omega
  have hH8 : H ≤ 8 := by omega
  have hm : H * W ≤ 8 * 8 := Nat.mul_le_mul hH8 hW8
  refine callQ_of_T (P := Tryz.prog) hti (nt := 37) (rs := [.tmp 4]) rfl rfl Tryz.call73 Tryz.func73 rfl _ (by simp only [go_sem, and_self]) (Nat.le_of_ble_eq_true rfl) _ (by first | exact trivial | (refine lt_flat rfl ?_; simp [SV.flat]; done) | simp only [go_sem]) fun hok => ?_
  simp only [go_sem, Nat.reduceLT]
  refine callA_false (spots7_E _ _ _ i P W H (by first | (simp only [go_sem, hs, hi]; done) | (simp only [go_sem, Nat.reduceBEq, Nat.reduceLT, Nat.reduceLeDiff, Nat.reduceAdd, Nat.reduceMul, Nat.reduceSub, Nat.reduceMod, Nat.reduceDiv, Nat.reduceEqDiff, Int.reduceToNat, reduceIte, reduceCtorEq, Int.reduceLE, Int.reduceLT, Int.reduceEq, Int.reduceNeg, Int.reduceAdd, Int.reduceSub, Int.reduceMul, hs, hi]; rfl)) (by omega) hW hH hW8 hH8 _ fun capM hc1 hc2 => ?_)
  have hdm : ∀ q, q < H * W → q % W < 8 ∧ q / W < 8 := fun q hq => by
    have hW0 : 0 < W := Nat.pos_of_ne_zero fun e => by rw [e, Nat.mul_zero] at hq; omega
    have h1 := Nat.mod_lt q hW0
    have h2 := (Nat.div_lt_iff_lt_mul hW0).2 hq
    exact ⟨by omega, by omega⟩
  generalize hMM : H * W = m at *
  simp only [go_sem, Nat.reduceLT]
  refine T_lp (ι := { q : Nat // q ≤ m })
    (fun q => ([(0, .ptr i 0), (1, .int .u8 ((k : Int) + 1)), (5, .int .i64 (cntK P W k q.1)), (6, .sl n 0 m capM), (7, .int .i64 q.1)],
      (n, ⟨m * 2, cellC W, true, none⟩) :: h, n + 1)) (fun q => m - q.1) ⟨0, by omega⟩ ?_ ?_
  · refine Imp.id (by simp) ?_ ?_
    · simp only [go_sem, Nat.reduceLT]
      (repeat' apply And.intro) <;> first | omega | rfl | trivial | assumption | skip
    · exact impH.cons0 (hget_hit _ _ _) (by simp) (SegLe.flat (Nat.le_refl _) id (.inl rfl) fun k hk => ⟨rfl, cellC_flat _ _⟩) (impH.base0 hok (by simp) (by simp only [go_sem, HExt_cons]))
  · rintro ⟨q, hq⟩
    have hle := cntK_le P W k q
    simp only [go_sem, Nat.reduceLT, decide_eq_true_eq, decide_eq_false_iff_not]
    refine ⟨fun h1 => ?_, fun h1 => ?_⟩
    · have hqm : q < m := by omega
      have r1 : (0 : Int) ≤ q ∧ (q : Int) < m := ⟨by omega, by omega⟩
      have b1 : q * 2 ≤ m * 2 - 2 := by omega
      have b2 : q * 2 + 2 ≤ m * 2 := by omega
      have b3 : 2 ≤ m * 2 := by omega
      have b4 : q * 2 ≤ m * 2 - 1 := by omega
      have b5 : q * 2 + 1 ≤ m * 2 - 1 := by omega
      have b6 : q * 2 + 1 ≤ m * 2 := by omega
      have b7 : 1 ≤ m * 2 := by omega
      obtain ⟨hx8, hy8⟩ := hdm q hqm
      have e0 := cellC_0 W q
      have e1 := cellC_1 W q
      have hsu := cntK_succ P W k q
      generalize hyy : q / W = y at *
      generalize hxx : q % W = x at *
      have c1 : (0 : Int) ≤ (x : Int) ∧ (x : Int) < 8 := ⟨by omega, by omega⟩
      have c3 : (0 : Int) ≤ (y : Int) ∧ (y : Int) < 8 := ⟨by omega, by omega⟩
      have hin := pcC_ink P (y : Int) (x : Int) c3.1 c3.2 c1.1 c1.2
      simp only [Int.toNat_natCast] at hin
      have d1 : y * 8 + x ≤ 63 := by omega
      have d2 : y * 8 + x + 1 ≤ 64 := by omega
      have d3 : 2 + y * 8 + x ≤ 65 := by omega
      have d4 : 2 + y * 8 + x + 1 ≤ 66 := by omega
      by_cases hp : P.ink (y : Int) (x : Int) = (k : Int) + 1
      · rw [if_pos hp] at hsu
        refine T_draw hti _ _ (by kernel_rfl) (by kernel_rfl) ?_
        simp only [go_sem, Nat.reduceLT, reduceCtorEq, hs, hi, r1, b1, b2, b3, b4, b5, b6, b7, e0, e1, c1, c3, hin, d1, d2, d3, d4, hp]
        refine ⟨⟨q + 1, by omega⟩, by show m - (q + 1) < m - q; omega, ?_⟩
        refine Imp.id (by simp) ?_ (impH.cons0 (hget_hit _ _ _) (by simp) (SegLe.flat (Nat.le_refl _) id (.inr rfl) fun k hk => ⟨rfl, cellC_flat _ _⟩) (impH.base0 hok (by simp) (by simp only [go_sem, HExt_cons])))
        simp only [go_sem, Nat.reduceLT, hsu, w64 (n := (q : Int) + 1) (by omega), w64 (n := (cntK P W k q : Int) + 1) (by omega), Int.natCast_add, Int.natCast_one]
        (repeat' apply And.intro) <;> first | omega | rfl | trivial | assumption | skip
      · rw [if_neg hp, Nat.add_zero] at hsu
        refine T_draw hti _ _ (by kernel_rfl) (by kernel_rfl) ?_
        simp only [go_sem, Nat.reduceLT, reduceCtorEq, hs, hi, r1, b1, b2, b3, b4, b5, b6, b7, e0, e1, c1, c3, hin, d1, d2, d3, d4, hp]
        refine ⟨⟨q + 1, by omega⟩, by show m - (q + 1) < m - q; omega, ?_⟩
        refine Imp.id (by simp) ?_ (impH.cons0 (hget_hit _ _ _) (by simp) (SegLe.flat (Nat.le_refl _) id (.inr rfl) fun k hk => ⟨rfl, cellC_flat _ _⟩) (impH.base0 hok (by simp) (by simp only [go_sem, HExt_cons])))
        simp only [go_sem, Nat.reduceLT, hsu, w64 (n := (q : Int) + 1) (by omega), w64 (n := (cntK P W k q : Int) + 1) (by omega), Int.natCast_add, Int.natCast_one]
        (repeat' apply And.intro) <;> first | omega | rfl | trivial | assumption | skip
    · have hq2 : q = m := by omega
      subst hq2
      simp only [go_sem]
theorem inks7_E (i : Nat) (P : Pc) (W H : Nat) (hs : hget h i = some (pcS P)) (hi : i < n) (hR : PcR P) (hP : PcOk P) (hW : P.wide = W) (hH : P.high = H) (K : HK)
    (hK : ∀ V h' n', n ≤ n' → HExt n h h' → HOk n' h' → InO h' n n' V (inksK P W (H * W) 3) → K V h' n') :
    CallE Tryz.prog cx 42 [.ptr i 0] h n K := by
  refine CallE.hokE ?_
  refine callE_of_T (P := Tryz.prog) hti (nt := 21) (rs := [.tmp 2]) rfl rfl Tryz.call42 Tryz.func42 rfl _ (by simp only [go_sem, and_self]) (Nat.le_of_ble_eq_true rfl) _ fun hok => ?_
  have ok1 : HOk (n + 1) ((n, ⟨0, zrow (ti 2), true, some (2, 0)⟩) :: h) := hok.consFY fun k hk => absurd hk (Nat.not_lt_zero k)
  simp only [go_sem, Nat.reduceLT]
  refine T_lp (ι := { q : Nat × List (Nat × Seg) × Nat × SV // q.1 ≤ 3 ∧ n ≤ q.2.2.1 ∧ HOk q.2.2.1 q.2.1 ∧ HExt n h q.2.1 ∧ InO q.2.1 n q.2.2.1 q.2.2.2 (inksK P W (H * W) q.1) })
    (fun q => ([(0, .ptr i 0), (3, q.1.2.2.2), (4, .int .i64 ((q.1.1 : Nat) : Int))], q.1.2.1, q.1.2.2.1)) (fun q => 3 - q.1.1)
    ⟨(0, _, n + 1, .sl n 0 0 0), Nat.zero_le 3, Nat.le_succ n, ok1, by simp only [go_sem, HExt_cons], n, 0, _, rfl, Nat.le_refl _, Nat.lt_succ_self n, hget_hit _ _ _, rfl, rfl, rfl, Nat.le_refl _, Nat.zero_le _, fun k hk => absurd hk (Nat.not_lt_zero k)⟩ ?_ ?_
  · refine Imp.id (by show n ≤ n + 1; omega) ?_ (impH.base0 ok1 (Nat.le_refl _) HExt.rfl)
    simp only [go_sem, Nat.reduceLT]
    (try (repeat' apply And.intro) <;> first | omega | rfl | trivial | assumption | skip)
  rintro ⟨⟨k, hq, nq, V⟩, hk3, hnq, okq, exq, hIO⟩
  simp only at hk3 hnq okq exq hIO
  obtain ⟨jv, capV, sV, eV, v1, v2, v3, v4, v5, v6, v7, v8, v9⟩ := hIO
  subst eV
  have hul : (inksK P W (H * W) k).length ≤ k := by
    unfold inksK; rw [List.length_map]; exact Nat.le_trans (List.length_filter_le _ _) (by simp)
  simp only [go_sem, Nat.reduceLT, decide_eq_true_eq, decide_eq_false_iff_not]
  refine ⟨fun h1 => ?_, fun h1 => ?_⟩
  rotate_left
  · have hkD : k = 3 := by omega
    subst hkD
    exact fun hok' => hK _ hq nq (by omega) exq hok' ⟨jv, capV, sV, rfl, v1, v2, v3, v4, v5, v6, v7, v8, v9⟩
  have hk2 : k < 3 := by omega
  have hwk : IntKind.i64.wrap ((k : Int) + 1) = ((k + 1 : Nat) : Int) := by rw [show (k : Int) + 1 = ((k + 1 : Nat) : Int) by omega]; exact w64 (by omega)
  have hwu : IntKind.u8.wrap ((k + 1 : Nat) : Int) = (k : Int) + 1 := by rw [show ((k + 1 : Nat) : Int) = (k : Int) + 1 by omega]; exact wu8 (by omega)
  simp only [go_sem, hwk, hwu]
  refine (count7_Q _ _ _ i P k W H (exq i hi _ hs) (by omega) hR hP hW hH).A ?_
  have hsu := inksK_succ P W (H * W) k
  by_cases hmk : 0 < cntK P W k (H * W)
  rotate_left
  · rw [if_neg hmk, List.append_nil] at hsu
    simp only [go_sem, Nat.reduceLT, show ¬ (0 : Int) < ((cntK P W k (H * W) : Nat) : Int) by omega]
    refine ⟨⟨(k + 1, hq, nq, .sl jv 0 (inksK P W (H * W) k).length capV), by show k + 1 ≤ 3; omega, hnq, okq, exq, by rw [hsu]; exact ⟨jv, capV, sV, rfl, v1, v2, v3, v4, v5, v6, v7, v8, v9⟩⟩, by show 3 - (k + 1) < 3 - k; omega, ?_⟩
    refine Imp.id (by show n ≤ nq; omega) ?_ (impH.base0 okq (Nat.le_refl _) HExt.rfl)
    simp only [go_sem, Nat.reduceLT, hwk]
    (try (repeat' apply And.intro) <;> first | omega | rfl | trivial | assumption | skip)
  · rw [if_pos hmk] at hsu
    obtain ⟨un, uc, ur, uo⟩ := sV
    simp only at v4 v5 v6 v9
    subst v4 v5 v6
    generalize hXX : inksK P W (H * W) k = X at *
    have nv3 : nq ≠ jv := by omega
    simp only [go_sem, Nat.reduceLT, Nat.reduceLeDiff, show (0 : Int) < ((cntK P W k (H * W) : Nat) : Int) by omega, v3, v2, nv3]
    refine ⟨⟨v7, v8, by omega⟩, fun cap3 m1 m2 => ?_⟩
    obtain ⟨okN, exN, spN⟩ := appI (a := (k : Int)) (n := n) (h := h) (nq := nq) (jv := jv) (A := X) (sc := uc) (w := some (2, 1)) (c1 := upd (zrow (ti 2)) 0 (SV.int IntKind.i64 k)) (by omega) okq exq (by omega) rfl v9 m1 m2
    refine ⟨⟨(k + 1, _, nq + 2, .sl (nq + 1) 0 (X.length + 1) cap3), by show k + 1 ≤ 3; omega, by show n ≤ nq + 2; omega, okN, exN, by rw [hsu]; exact spN⟩, by show 3 - (k + 1) < 3 - k; omega, ?_⟩
    refine Imp.id (by show n ≤ nq + 2; omega) ?_ (impH.base0 okN (Nat.le_refl _) HExt.rfl)
    simp only [go_sem, Nat.reduceLT, hwk]
    (try (repeat' apply And.intro) <;> first | omega | rfl | trivial | assumption | skip)
theorem bound2_Q (P : Pc) (W H : Nat) (hR : PcR P) (hP : PcOk P) (hW : P.wide = W) (hH : P.high = H) :
    CallQ Tryz.prog cx 10 [.agg 66 (pcC P)] h n (.tup 2 (cl [.int .i64 (boundR P W H), .int .i64 0])) := by
  have hs8 := hP.1
  have hm : H * W ≤ 8 * 8 := Nat.mul_le_mul (by omega) (by omega)
  have hle := leftN_le P off W (H * W)
  have hk := pcokB_t hP
  refine callQ_of_T (P := Tryz.prog) hti (nt := 16) (rs := [.tmp 2, .tmp 3]) rfl rfl Tryz.call10 Tryz.func10 rfl _ (by simp only [go_sem, and_self]) (Nat.le_of_ble_eq_true rfl) _ (by first | exact trivial | (refine lt_flat rfl ?_; simp [SV.flat]; done) | simp only [go_sem]) fun hok => ?_
  simp only [go_sem, Nat.reduceLT]
  refine (ok7_Q _ _ _ n P (by first | (simp only [go_sem]; done) | (simp only [go_sem, Nat.reduceBEq, Nat.reduceLT, Nat.reduceLeDiff, Nat.reduceAdd, Nat.reduceMul, Nat.reduceSub, Nat.reduceMod, Nat.reduceDiv, Nat.reduceEqDiff, Int.reduceToNat, reduceIte, reduceCtorEq, Int.reduceLE, Int.reduceLT, Int.reduceEq, Int.reduceNeg, Int.reduceAdd, Int.reduceSub, Int.reduceMul]; rfl)) (by omega) hR).A ?_
  have o64 : ones (.agg 64 zz_a010c9) = True := eq_true fun j hj => trivial
  simp only [go_sem, Nat.reduceLT, hk, o64]
  refine (left7_Q _ _ _ n (n + 1) P off _ W H (by first | (simp only [go_sem]; done) | (simp only [go_sem, Nat.reduceBEq, Nat.reduceLT, Nat.reduceLeDiff, Nat.reduceAdd, Nat.reduceMul, Nat.reduceSub, Nat.reduceMod, Nat.reduceDiv, Nat.reduceEqDiff, Int.reduceToNat, reduceIte, reduceCtorEq, Int.reduceLE, Int.reduceLT, Int.reduceEq, Int.reduceNeg, Int.reduceAdd, Int.reduceSub, Int.reduceMul]; rfl)) (by omega) (by first | (simp only [go_sem]; done) | (simp only [go_sem]; rfl)) (by omega) ⟨rfl, fun j hj => rfl⟩ hR hP hW hH).A ?_
  simp only [go_sem, Nat.reduceLT]
  refine callA_false (inks7_E _ _ _ n P W H (by first | (simp only [go_sem]; done) | (simp only [go_sem, Nat.reduceBEq, Nat.reduceLT, Nat.reduceLeDiff, Nat.reduceAdd, Nat.reduceMul, Nat.reduceSub, Nat.reduceMod, Nat.reduceDiv, Nat.reduceEqDiff, Int.reduceToNat, reduceIte, reduceCtorEq, Int.reduceLE, Int.reduceLT, Int.reduceEq, Int.reduceNeg, Int.reduceAdd, Int.reduceSub, Int.reduceMul]; rfl)) (by omega) hR hP hW hH _ ?_)
  intro V h1 n1 hn1 hx1 ok1 I1
  obtain ⟨jv, capV, sV, rfl, v1, v2, v3, v4⟩ := I1
  have e : (boundR P W H : Int) = max ((seenK P W (H * W) 3 : Nat) : Int) ((((leftN P off W (H * W) : Nat) : Int) + 4).tdiv 5) := by
    unfold boundR
    rw [Int.tdiv_eq_ediv_of_nonneg (by omega)]
    omega
  have ew : IntKind.i64.wrap ((((leftN P off W (H * W) : Nat) : Int) + 4).tdiv 5) = (((leftN P off W (H * W) : Nat) : Int) + 4).tdiv 5 := by
    rw [Int.tdiv_eq_ediv_of_nonneg (by omega)]
    exact w64 (by omega)
  rw [inksK_len] at *
  simp only [go_sem, Nat.reduceLT, Int.reduceEq, w64 (n := (leftN P off W (H * W) : Int) + 4) (by omega), ew]
  refine (max7_Q _ _ _ _ _).A ?_
  simp only [go_sem, Nat.reduceLT, e]
  exact HExt.tr (m' := n + 2) (by simp only [go_sem, HExt_cons]) hx1 (by omega)
theorem counts_Q (i : Nat) (P : Pc) (W H : Nat) (hs : hget h i = some (pcS P)) (hi : i < n) (hR : PcR P) (hP : PcOk P) (hW : P.wide = W) (hH : P.high = H) :
    CallQ Tryz.prog cx 40 [.ptr i 0] h n (.agg 3 (cl [.int .i64 (cntK P W 0 (H * W)), .int .i64 (cntK P W 1 (H * W)), .int .i64 (cntK P W 2 (H * W))])) := by
  have hs8 := hP.1
  have hW8 : W ≤ 8 := by omega
  have hH8 : H ≤ 8 := by omega
  have hm : H * W ≤ 8 * 8 := Nat.mul_le_mul hH8 hW8
  refine callQ_of_T (P := Tryz.prog) hti (nt := 29) (rs := [.cell 2 83]) rfl rfl Tryz.call40 Tryz.func40 rfl _ (by simp only [go_sem, and_self]) (Nat.le_of_ble_eq_true rfl) _ (by first | exact trivial | (refine lt_flat rfl ?_; simp [SV.flat]; done) | simp only [go_sem]) fun hok => ?_
  simp only [go_sem, Nat.reduceLT, reduceIte]
  refine callA_false (sheet_E _ _ _ i P (by first | (simp only [go_sem, hs, hi]; done) | (simp only [go_sem, Nat.reduceBEq, Nat.reduceLT, Nat.reduceLeDiff, Nat.reduceAdd, Nat.reduceMul, Nat.reduceSub, Nat.reduceMod, Nat.reduceDiv, Nat.reduceEqDiff, Int.reduceToNat, reduceIte, reduceCtorEq, Int.reduceLE, Int.reduceLT, Int.reduceEq, Int.reduceNeg, Int.reduceAdd, Int.reduceSub, Int.reduceMul, hs, hi]; rfl)) (by omega) _ ?_)
  simp only [go_sem, Nat.reduceLT]
  refine callA_false (cells_E _ _ _ (n + 2) 0 (shS (psh P)) (psh P) W H (by first | (simp only [go_sem]; done) | (simp only [go_sem, Nat.reduceBEq, Nat.reduceLT, Nat.reduceLeDiff, Nat.reduceAdd, Nat.reduceMul, Nat.reduceSub, Nat.reduceMod, Nat.reduceDiv, Nat.reduceEqDiff, Int.reduceToNat, reduceIte, reduceCtorEq, Int.reduceLE, Int.reduceLT, Int.reduceEq, Int.reduceNeg, Int.reduceAdd, Int.reduceSub, Int.reduceMul]; rfl)) (by omega) (shAt_shC (psh_R hR)) hW hH hW8 hH8 _ fun capM hc1 hc2 => ?_)
  have hdm : ∀ q, q < H * W → q % W < 8 ∧ q / W < 8 := fun q hq => by
    have hW0 : 0 < W := Nat.pos_of_ne_zero fun e => by rw [e, Nat.mul_zero] at hq; omega
    have h1 := Nat.mod_lt q hW0
    have h2 := (Nat.div_lt_iff_lt_mul hW0).2 hq
    exact ⟨by omega, by omega⟩
  generalize hMM : H * W = m at *
  simp only [go_sem, Nat.reduceLT]
  refine T_lp (ι := { q : Nat // q ≤ m })
    (fun q => ([(0, .ptr i 0), (2, .ptr n 0), (3, .ptr (n + 1) 0), (10, .sl (n + 3) 0 m capM), (11, .int .i64 m), (12, .int .i64 q.1)],
      (n + 3, ⟨m * 2, cellC W, true, none⟩) :: (n + 1, ⟨3, (cl [.int .i64 (cntK P W 0 q.1), .int .i64 (cntK P W 1 q.1), .int .i64 (cntK P W 2 q.1)]), true, none⟩) :: (n, ⟨3, (cl [.int .i64 0, .int .i64 0, .int .i64 0]), true, none⟩) :: h, n + 4)) (fun q => m - q.1) ⟨0, by omega⟩ ?_ ?_
  · refine Imp.id (by simp) ?_ ?_
    · simp only [go_sem, Nat.reduceLT]
      (repeat' apply And.intro) <;> first | omega | rfl | trivial | assumption | skip
    · refine impH.cons0 (hget_hit _ _ _) (by simp) (SegLe.flat (Nat.le_refl _) id (.inl rfl) fun k hk => ⟨rfl, cellC_flat _ _⟩) (impH.cons0 (s := ⟨3, (cl [.int .i64 0, .int .i64 0, .int .i64 0]), true, none⟩) (by first | (simp only [go_sem, Nat.reduceLT]; done) | (simp only [go_sem, Nat.reduceBEq, Nat.reduceLT, Nat.reduceLeDiff, Nat.reduceAdd, Nat.reduceMul, Nat.reduceSub, Nat.reduceMod, Nat.reduceDiv, Nat.reduceEqDiff, Int.reduceToNat, reduceIte, reduceCtorEq, Int.reduceLE, Int.reduceLT, Int.reduceEq, Int.reduceNeg, Int.reduceAdd, Int.reduceSub, Int.reduceMul]; rfl)) (by simp) (SegLe.flat (Nat.le_refl _) id (.inl rfl) fun k hk => ⟨rfl, cntL_flat _ _ _ _ hk⟩) (impH.cons0 (by first | (simp only [go_sem]; done) | (simp only [go_sem, Nat.reduceBEq, Nat.reduceLT, Nat.reduceLeDiff, Nat.reduceAdd, Nat.reduceMul, Nat.reduceSub, Nat.reduceMod, Nat.reduceDiv, Nat.reduceEqDiff, Int.reduceToNat, reduceIte, reduceCtorEq, Int.reduceLE, Int.reduceLT, Int.reduceEq, Int.reduceNeg, Int.reduceAdd, Int.reduceSub, Int.reduceMul]; rfl)) (by simp) (SegLe.flat (Nat.le_refl _) id (.inl rfl) fun k hk => ⟨rfl, cntL_flat _ _ _ _ hk⟩) (impH.base0 hok (by simp) (by simp only [go_sem, HExt_cons]))))
  · rintro ⟨q, hq⟩
    simp only [go_sem, Nat.reduceLT, reduceIte, decide_eq_true_eq, decide_eq_false_iff_not]
    refine ⟨fun h1 => ?_, fun h1 => ?_⟩
    · have hqm : q < m := by omega
      have r1 : (0 : Int) ≤ q ∧ (q : Int) < m := ⟨by omega, by omega⟩
      have b1 : q * 2 ≤ m * 2 - 2 := by omega
      have b2 : q * 2 + 2 ≤ m * 2 := by omega
      have b3 : 2 ≤ m * 2 := by omega
      have b4 : q * 2 ≤ m * 2 - 1 := by omega
      have b5 : q * 2 + 1 ≤ m * 2 - 1 := by omega
      have b6 : q * 2 + 1 ≤ m * 2 := by omega
      have b7 : 1 ≤ m * 2 := by omega
      obtain ⟨hx8, hy8⟩ := hdm q hqm
      have e0 := cellC_0 W q
      have e1 := cellC_1 W q
      have hsu := fun k => cntK_succ P W k q
      have hle := fun k => cntK_le P W k q
      generalize hyy : q / W = y at *
      generalize hxx : q % W = x at *
      have c1 : (0 : Int) ≤ (x : Int) ∧ (x : Int) < 8 := ⟨by omega, by omega⟩
      have c3 : (0 : Int) ≤ (y : Int) ∧ (y : Int) < 8 := ⟨by omega, by omega⟩
      simp only [go_sem, r1, b1, b2, b3, b4, b5, b6, b7, e0, e1]
      refine (shown_Q _ _ _ i P x y (by first | (simp only [go_sem, hs, hi]; done) | (simp only [go_sem, Nat.reduceBEq, Nat.reduceLT, Nat.reduceLeDiff, Nat.reduceAdd, Nat.reduceMul, Nat.reduceSub, Nat.reduceMod, Nat.reduceDiv, Nat.reduceEqDiff, Int.reduceToNat, reduceIte, reduceCtorEq, Int.reduceLE, Int.reduceLT, Int.reduceEq, Int.reduceNeg, Int.reduceAdd, Int.reduceSub, Int.reduceMul, hs, hi]; rfl)) (by omega) c1.1 c1.2 c3.1 c3.2).A ?_
      have hv0 := (hR.ink (y : Int) (x : Int)).1
      have hv3 := (hP.2 (y : Int) (x : Int) c3.1 c3.2 c1.1 c1.2).1
      have hv : P.ink (y : Int) (x : Int) = 0 ∨ P.ink (y : Int) (x : Int) = 1 ∨ P.ink (y : Int) (x : Int) = 2 ∨ P.ink (y : Int) (x : Int) = 3 := by omega
      have fin : ∀ q0 q1 q2 : Int, q0 = cntK P W 0 (q + 1) → q1 = cntK P W 1 (q + 1) → q2 = cntK P W 2 (q + 1) → ∀ k, k < 3 → (cl [.int .i64 q0, .int .i64 q1, .int .i64 q2]) k = (cl [.int .i64 (cntK P W 0 (q + 1)), .int .i64 (cntK P W 1 (q + 1)), .int .i64 (cntK P W 2 (q + 1))]) k := by
        intro q0 q1 q2 h0 h1 h2 k hk
        rw [h0, h1, h2]
      have hs0 := hsu 0; have hs1 := hsu 1; have hs2 := hsu 2
      have hl0 := hle 0; have hl1 := hle 1; have hl2 := hle 2
      have wk : ∀ z : Nat, z ≤ q → IntKind.i64.wrap ((z : Int) + 1) = (z : Int) + 1 := fun z hz => w64 (by omega)
      rcases hv with hv | hv | hv | hv
      · rw [hv] at hs0 hs1 hs2
        simp at hs0 hs1 hs2
        simp only [go_sem, Nat.reduceLT, Int.reduceLT, hv, wk _ hl0, wk _ hl1, wk _ hl2]
        refine ⟨⟨q + 1, by omega⟩, by show m - (q + 1) < m - q; omega, ?_⟩
        refine Imp.id (by simp) ?_ (impH.cons0 (by first | (simp only [go_sem, Nat.reduceLT]; done) | (simp only [go_sem, Nat.reduceBEq, Nat.reduceLT, Nat.reduceLeDiff, Nat.reduceAdd, Nat.reduceMul, Nat.reduceSub, Nat.reduceMod, Nat.reduceDiv, Nat.reduceEqDiff, Int.reduceToNat, reduceIte, reduceCtorEq, Int.reduceLE, Int.reduceLT, Int.reduceEq, Int.reduceNeg, Int.reduceAdd, Int.reduceSub, Int.reduceMul]; rfl)) (by simp) (SegLe.flat (Nat.le_refl _) id (.inr rfl) fun k hk => ⟨rfl, cellC_flat _ _⟩) (impH.cons0 (s := ⟨3, cl [.int .i64 (cntK P W 0 q), .int .i64 (cntK P W 1 q), .int .i64 (cntK P W 2 q)], true, none⟩) (by first | (simp only [go_sem, Nat.reduceLT]; done) | (simp only [go_sem, Nat.reduceBEq, Nat.reduceLT, Nat.reduceLeDiff, Nat.reduceAdd, Nat.reduceMul, Nat.reduceSub, Nat.reduceMod, Nat.reduceDiv, Nat.reduceEqDiff, Int.reduceToNat, reduceIte, reduceCtorEq, Int.reduceLE, Int.reduceLT, Int.reduceEq, Int.reduceNeg, Int.reduceAdd, Int.reduceSub, Int.reduceMul]; rfl)) (by simp) (SegLe.flat (Nat.le_refl _) id (.inr rfl) fun k hk => ⟨fin _ _ _ (by omega) (by omega) (by omega) k hk, cntL_flat _ _ _ _ hk⟩) (impH.cons0 (by first | (simp only [go_sem]; done) | (simp only [go_sem, Nat.reduceBEq, Nat.reduceLT, Nat.reduceLeDiff, Nat.reduceAdd, Nat.reduceMul, Nat.reduceSub, Nat.reduceMod, Nat.reduceDiv, Nat.reduceEqDiff, Int.reduceToNat, reduceIte, reduceCtorEq, Int.reduceLE, Int.reduceLT, Int.reduceEq, Int.reduceNeg, Int.reduceAdd, Int.reduceSub, Int.reduceMul]; rfl)) (by simp) (SegLe.flat (Nat.le_refl _) id (.inr rfl) fun k hk => ⟨rfl, cntL_flat _ _ _ _ hk⟩) (impH.base0 hok (by simp) (by simp only [go_sem, HExt_cons])))))
        simp only [go_sem, Nat.reduceLT, w64 (n := (q : Int) + 1) (by omega), Int.natCast_add, Int.natCast_one]
        (repeat' apply And.intro) <;> first | omega | rfl | trivial | assumption | skip
      · rw [hv] at hs0 hs1 hs2
        simp at hs0 hs1 hs2
        simp only [go_sem, Nat.reduceLT, Nat.reduceLeDiff, Nat.reduceEqDiff, Int.reduceToNat, reduceIte, Int.reduceLE, Int.reduceLT, Int.reduceSub, hv, wk _ hl0, wk _ hl1, wk _ hl2]
        refine ⟨⟨q + 1, by omega⟩, by show m - (q + 1) < m - q; omega, ?_⟩
        refine Imp.id (by simp) ?_ (impH.cons0 (by first | (simp only [go_sem, Nat.reduceLT]; done) | (simp only [go_sem, Nat.reduceBEq, Nat.reduceLT, Nat.reduceLeDiff, Nat.reduceAdd, Nat.reduceMul, Nat.reduceSub, Nat.reduceMod, Nat.reduceDiv, Nat.reduceEqDiff, Int.reduceToNat, reduceIte, reduceCtorEq, Int.reduceLE, Int.reduceLT, Int.reduceEq, Int.reduceNeg, Int.reduceAdd, Int.reduceSub, Int.reduceMul]; rfl)) (by simp) (SegLe.flat (Nat.le_refl _) id (.inr rfl) fun k hk => ⟨rfl, cellC_flat _ _⟩) (impH.cons0 (s := ⟨3, cl [.int .i64 ((cntK P W 0 q : Int) + 1), .int .i64 (cntK P W 1 q), .int .i64 (cntK P W 2 q)], true, none⟩) (by first | (simp only [go_sem, Nat.reduceLT]; done) | (simp only [go_sem, Nat.reduceBEq, Nat.reduceLT, Nat.reduceLeDiff, Nat.reduceAdd, Nat.reduceMul, Nat.reduceSub, Nat.reduceMod, Nat.reduceDiv, Nat.reduceEqDiff, Int.reduceToNat, reduceIte, reduceCtorEq, Int.reduceLE, Int.reduceLT, Int.reduceEq, Int.reduceNeg, Int.reduceAdd, Int.reduceSub, Int.reduceMul]; rfl)) (by simp) (SegLe.flat (Nat.le_refl _) id (.inr rfl) fun k hk => ⟨fin _ _ _ (by omega) (by omega) (by omega) k hk, cntL_flat _ _ _ _ hk⟩) (impH.cons0 (by first | (simp only [go_sem]; done) | (simp only [go_sem, Nat.reduceBEq, Nat.reduceLT, Nat.reduceLeDiff, Nat.reduceAdd, Nat.reduceMul, Nat.reduceSub, Nat.reduceMod, Nat.reduceDiv, Nat.reduceEqDiff, Int.reduceToNat, reduceIte, reduceCtorEq, Int.reduceLE, Int.reduceLT, Int.reduceEq, Int.reduceNeg, Int.reduceAdd, Int.reduceSub, Int.reduceMul]; rfl)) (by simp) (SegLe.flat (Nat.le_refl _) id (.inr rfl) fun k hk => ⟨rfl, cntL_flat _ _ _ _ hk⟩) (impH.base0 hok (by simp) (by simp only [go_sem, HExt_cons])))))
        simp only [go_sem, Nat.reduceLT, w64 (n := (q : Int) + 1) (by omega), Int.natCast_add, Int.natCast_one]
        (repeat' apply And.intro) <;> first | omega | rfl | trivial | assumption | skip
      · rw [hv] at hs0 hs1 hs2
        simp at hs0 hs1 hs2
        simp only [go_sem, Nat.reduceLT, Nat.reduceLeDiff, Nat.reduceEqDiff, Int.reduceToNat, reduceIte, reduceCtorEq, Int.reduceLE, Int.reduceLT, Int.reduceSub, hv, wk _ hl0, wk _ hl1, wk _ hl2]
        refine ⟨⟨q + 1, by omega⟩, by show m - (q + 1) < m - q; omega, ?_⟩
        refine Imp.id (by simp) ?_ (impH.cons0 (by first | (simp only [go_sem, Nat.reduceLT]; done) | (simp only [go_sem, Nat.reduceBEq, Nat.reduceLT, Nat.reduceLeDiff, Nat.reduceAdd, Nat.reduceMul, Nat.reduceSub, Nat.reduceMod, Nat.reduceDiv, Nat.reduceEqDiff, Int.reduceToNat, reduceIte, reduceCtorEq, Int.reduceLE, Int.reduceLT, Int.reduceEq, Int.reduceNeg, Int.reduceAdd, Int.reduceSub, Int.reduceMul]; rfl)) (by simp) (SegLe.flat (Nat.le_refl _) id (.inr rfl) fun k hk => ⟨rfl, cellC_flat _ _⟩) (impH.cons0 (s := ⟨3, cl [.int .i64 (cntK P W 0 q), .int .i64 ((cntK P W 1 q : Int) + 1), .int .i64 (cntK P W 2 q)], true, none⟩) (by first | (simp only [go_sem, Nat.reduceLT]; done) | (simp only [go_sem, Nat.reduceBEq, Nat.reduceLT, Nat.reduceLeDiff, Nat.reduceAdd, Nat.reduceMul, Nat.reduceSub, Nat.reduceMod, Nat.reduceDiv, Nat.reduceEqDiff, Int.reduceToNat, reduceIte, reduceCtorEq, Int.reduceLE, Int.reduceLT, Int.reduceEq, Int.reduceNeg, Int.reduceAdd, Int.reduceSub, Int.reduceMul]; rfl)) (by simp) (SegLe.flat (Nat.le_refl _) id (.inr rfl) fun k hk => ⟨fin _ _ _ (by omega) (by omega) (by omega) k hk, cntL_flat _ _ _ _ hk⟩) (impH.cons0 (by first | (simp only [go_sem]; done) | (simp only [go_sem, Nat.reduceBEq, Nat.reduceLT, Nat.reduceLeDiff, Nat.reduceAdd, Nat.reduceMul, Nat.reduceSub, Nat.reduceMod, Nat.reduceDiv, Nat.reduceEqDiff, Int.reduceToNat, reduceIte, reduceCtorEq, Int.reduceLE, Int.reduceLT, Int.reduceEq, Int.reduceNeg, Int.reduceAdd, Int.reduceSub, Int.reduceMul]; rfl)) (by simp) (SegLe.flat (Nat.le_refl _) id (.inr rfl) fun k hk => ⟨rfl, cntL_flat _ _ _ _ hk⟩) (impH.base0 hok (by simp) (by simp only [go_sem, HExt_cons])))))
        simp only [go_sem, Nat.reduceLT, w64 (n := (q : Int) + 1) (by omega), Int.natCast_add, Int.natCast_one]
        (repeat' apply And.intro) <;> first | omega | rfl | trivial | assumption | skip
      · rw [hv] at hs0 hs1 hs2
        simp at hs0 hs1 hs2
        simp only [go_sem, Nat.reduceLT, Nat.reduceEqDiff, Int.reduceToNat, reduceIte, reduceCtorEq, Int.reduceLE, Int.reduceLT, Int.reduceSub, hv, wk _ hl0, wk _ hl1, wk _ hl2]
        refine ⟨⟨q + 1, by omega⟩, by show m - (q + 1) < m - q; omega, ?_⟩
        refine Imp.id (by simp) ?_ (impH.cons0 (by first | (simp only [go_sem, Nat.reduceLT]; done) | (simp only [go_sem, Nat.reduceBEq, Nat.reduceLT, Nat.reduceLeDiff, Nat.reduceAdd, Nat.reduceMul, Nat.reduceSub, Nat.reduceMod, Nat.reduceDiv, Nat.reduceEqDiff, Int.reduceToNat, reduceIte, reduceCtorEq, Int.reduceLE, Int.reduceLT, Int.reduceEq, Int.reduceNeg, Int.reduceAdd, Int.reduceSub, Int.reduceMul]; rfl)) (by simp) (SegLe.flat (Nat.le_refl _) id (.inr rfl) fun k hk => ⟨rfl, cellC_flat _ _⟩) (impH.cons0 (s := ⟨3, cl [.int .i64 (cntK P W 0 q), .int .i64 (cntK P W 1 q), .int .i64 ((cntK P W 2 q : Int) + 1)], true, none⟩) (by first | (simp only [go_sem, Nat.reduceLT]; done) | (simp only [go_sem, Nat.reduceBEq, Nat.reduceLT, Nat.reduceLeDiff, Nat.reduceAdd, Nat.reduceMul, Nat.reduceSub, Nat.reduceMod, Nat.reduceDiv, Nat.reduceEqDiff, Int.reduceToNat, reduceIte, reduceCtorEq, Int.reduceLE, Int.reduceLT, Int.reduceEq, Int.reduceNeg, Int.reduceAdd, Int.reduceSub, Int.reduceMul]; rfl)) (by simp) (SegLe.flat (Nat.le_refl _) id (.inr rfl) fun k hk => ⟨fin _ _ _ (by omega) (by omega) (by omega) k hk, cntL_flat _ _ _ _ hk⟩) (impH.cons0 (by first | (simp only [go_sem]; done) | (simp only [go_sem, Nat.reduceBEq, Nat.reduceLT, Nat.reduceLeDiff, Nat.reduceAdd, Nat.reduceMul, Nat.reduceSub, Nat.reduceMod, Nat.reduceDiv, Nat.reduceEqDiff, Int.reduceToNat, reduceIte, reduceCtorEq, Int.reduceLE, Int.reduceLT, Int.reduceEq, Int.reduceNeg, Int.reduceAdd, Int.reduceSub, Int.reduceMul]; rfl)) (by simp) (SegLe.flat (Nat.le_refl _) id (.inr rfl) fun k hk => ⟨rfl, cntL_flat _ _ _ _ hk⟩) (impH.base0 hok (by simp) (by simp only [go_sem, HExt_cons])))))
        simp only [go_sem, Nat.reduceLT, w64 (n := (q : Int) + 1) (by omega), Int.natCast_add, Int.natCast_one]
        (repeat' apply And.intro) <;> first | omega | rfl | trivial | assumption | skip
    · have hq2 : q = m := by omega
      subst hq2
      simp only [go_sem]
theorem bound_Q (P : Pc) (W H : Nat) (hR : PcR P) (hP : PcOk P) (hW : P.wide = W) (hH : P.high = H) :
    CallQ Tryz.prog cx 9 [.agg 66 (pcC P)] h n (.tup 2 (cl [.int .i64 (boundR P W H), .int .i64 0])) := by
  have hs8 := hP.1
  have hm : H * W ≤ 8 * 8 := Nat.mul_le_mul (by omega) (by omega)
  have hle := leftN_le P off W (H * W)
  have hk := pcokB_t hP
  have hsum := cnt_sum hR hP hW hH (H * W) (Nat.le_refl _)
  have e : (boundR P W H : Int) = max ((seenK P W (H * W) 3 : Nat) : Int) ((((leftN P off W (H * W) : Nat) : Int) + 4).tdiv 5) := by
    unfold boundR
    rw [Int.tdiv_eq_ediv_of_nonneg (by omega)]
    omega
  have ew : IntKind.i64.wrap ((((leftN P off W (H * W) : Nat) : Int) + 4).tdiv 5) = (((leftN P off W (H * W) : Nat) : Int) + 4).tdiv 5 := by
    rw [Int.tdiv_eq_ediv_of_nonneg (by omega)]
    exact w64 (by omega)
  have ec : codePc P true = 0 := by unfold codePc; rw [hk]; rfl
  rw [seenK_3] at e
  refine callQ_of_T (P := Tryz.prog) hti (nt := 30) (rs := [.tmp 2, .tmp 3]) rfl rfl Tryz.call9 Tryz.func9 rfl _ (by simp only [go_sem, and_self]) (Nat.le_of_ble_eq_true rfl) _ (by first | exact trivial | (refine lt_flat rfl ?_; simp [SV.flat]; done) | simp only [go_sem]) fun hok => ?_
  simp only [go_sem, Nat.reduceLT]
  refine (codePc_Q _ _ _ n P (by first | (simp only [go_sem]; done) | (simp only [go_sem, Nat.reduceBEq, Nat.reduceLT, Nat.reduceLeDiff, Nat.reduceAdd, Nat.reduceMul, Nat.reduceSub, Nat.reduceMod, Nat.reduceDiv, Nat.reduceEqDiff, Int.reduceToNat, reduceIte, reduceCtorEq, Int.reduceLE, Int.reduceLT, Int.reduceEq, Int.reduceNeg, Int.reduceAdd, Int.reduceSub, Int.reduceMul]; rfl)) (by omega) hR true).A ?_
  simp only [go_sem, Nat.reduceLT, ec]
  refine (counts_Q _ _ _ n P W H (by first | (simp only [go_sem]; done) | (simp only [go_sem, Nat.reduceBEq, Nat.reduceLT, Nat.reduceLeDiff, Nat.reduceAdd, Nat.reduceMul, Nat.reduceSub, Nat.reduceMod, Nat.reduceDiv, Nat.reduceEqDiff, Int.reduceToNat, reduceIte, reduceCtorEq, Int.reduceLE, Int.reduceLT, Int.reduceEq, Int.reduceNeg, Int.reduceAdd, Int.reduceSub, Int.reduceMul]; rfl)) (by omega) hR hP hW hH).A ?_
  generalize leftN P off W (H * W) = l at *
  generalize cntK P W 0 (H * W) = a at *
  generalize cntK P W 1 (H * W) = b at *
  generalize cntK P W 2 (H * W) = c at *
  have hwa : IntKind.i64.wrap (0 + (a : Int)) = (a : Int) := by rw [Int.zero_add]; exact w64 (by omega)
  have hwb : IntKind.i64.wrap ((a : Int) + (b : Int)) = ((a + b : Nat) : Int) := by rw [Int.natCast_add]; exact w64 (by omega)
  have hwc : IntKind.i64.wrap (((a + b : Nat) : Int) + (c : Int)) = (l : Int) := by rw [show ((a + b : Nat) : Int) + (c : Int) = (l : Int) by omega]; exact w64 (by omega)
  have hw5 : IntKind.i64.wrap ((l : Int) + 4) = (l : Int) + 4 := w64 (by omega)
  simp only [go_sem, Nat.reduceLT]
  by_cases ha : (0 : Int) < a <;> by_cases hb : (0 : Int) < b <;> by_cases hc : (0 : Int) < c
  · refine T_unroll 3 ?_
    simp only [go_sem, Nat.reduceLT, Int.reduceToNat, Int.reduceLE, Int.reduceLT, Int.reduceNeg, Int.reduceAdd, ha, hwa]
    refine U_step ?_
    simp only [go_sem, Nat.reduceLT, Int.reduceToNat, Int.reduceLE, Int.reduceLT, Int.reduceNeg, Int.reduceAdd, hb, hwb]
    refine U_step ?_
    simp only [go_sem, Nat.reduceLT, Int.reduceToNat, Int.reduceLE, Int.reduceLT, Int.reduceNeg, Int.reduceAdd, hc, hwc]
    refine U_step ?_
    simp only [go_sem, Nat.reduceLT, Int.reduceLT, Int.reduceEq, hw5, ew]
    rw [e, if_pos (by omega : 0 < a), if_pos (by omega : 0 < b), if_pos (by omega : 0 < c)]
    rfl
  · refine T_unroll 3 ?_
    simp only [go_sem, Nat.reduceLT, Int.reduceToNat, Int.reduceLE, Int.reduceLT, Int.reduceNeg, Int.reduceAdd, ha, hwa]
    refine U_step ?_
    simp only [go_sem, Nat.reduceLT, Int.reduceToNat, Int.reduceLE, Int.reduceLT, Int.reduceNeg, Int.reduceAdd, hb, hwb]
    refine U_step ?_
    simp only [go_sem, Nat.reduceLT, Int.reduceToNat, Int.reduceLE, Int.reduceLT, Int.reduceNeg, Int.reduceAdd, hc, hwc]
    refine U_step ?_
    simp only [go_sem, Nat.reduceLT, Int.reduceLT, Int.reduceEq, hw5, ew]
    rw [e, if_pos (by omega : 0 < a), if_pos (by omega : 0 < b), if_neg (by omega : ¬ 0 < c)]
    rfl
  · refine T_unroll 3 ?_
    simp only [go_sem, Nat.reduceLT, Int.reduceToNat, Int.reduceLE, Int.reduceLT, Int.reduceNeg, Int.reduceAdd, ha, hwa]
    refine U_step ?_
    simp only [go_sem, Nat.reduceLT, Int.reduceToNat, Int.reduceLE, Int.reduceLT, Int.reduceNeg, Int.reduceAdd, hb, hwb]
    refine U_step ?_
    simp only [go_sem, Nat.reduceLT, Int.reduceToNat, Int.reduceLE, Int.reduceLT, Int.reduceNeg, Int.reduceAdd, hc, hwc]
    refine U_step ?_
    simp only [go_sem, Nat.reduceLT, Int.reduceLT, Int.reduceEq, hw5, ew]
    rw [e, if_pos (by omega : 0 < a), if_neg (by omega : ¬ 0 < b), if_pos (by omega : 0 < c)]
    rfl
  · refine T_unroll 3 ?_
    simp only [go_sem, Nat.reduceLT, Int.reduceToNat, Int.reduceLE, Int.reduceLT, Int.reduceNeg, Int.reduceAdd, ha, hwa]
    refine U_step ?_
    simp only [go_sem, Nat.reduceLT, Int.reduceToNat, Int.reduceLE, Int.reduceLT, Int.reduceNeg, Int.reduceAdd, hb, hwb]
    refine U_step ?_
    simp only [go_sem, Nat.reduceLT, Int.reduceToNat, Int.reduceLE, Int.reduceLT, Int.reduceNeg, Int.reduceAdd, hc, hwc]
    refine U_step ?_
    simp only [go_sem, Nat.reduceLT, Int.reduceLT, Int.reduceEq, hw5, ew]
    rw [e, if_pos (by omega : 0 < a), if_neg (by omega : ¬ 0 < b), if_neg (by omega : ¬ 0 < c)]
    rfl
  · refine T_unroll 3 ?_
    simp only [go_sem, Nat.reduceLT, Int.reduceToNat, Int.reduceLE, Int.reduceLT, Int.reduceNeg, Int.reduceAdd, ha, hwa]
    refine U_step ?_
    simp only [go_sem, Nat.reduceLT, Int.reduceToNat, Int.reduceLE, Int.reduceLT, Int.reduceNeg, Int.reduceAdd, hb, hwb]
    refine U_step ?_
    simp only [go_sem, Nat.reduceLT, Int.reduceToNat, Int.reduceLE, Int.reduceLT, Int.reduceNeg, Int.reduceAdd, hc, hwc]
    refine U_step ?_
    simp only [go_sem, Nat.reduceLT, Int.reduceLT, Int.reduceEq, hw5, ew]
    rw [e, if_neg (by omega : ¬ 0 < a), if_pos (by omega : 0 < b), if_pos (by omega : 0 < c)]
    rfl
  · refine T_unroll 3 ?_
    simp only [go_sem, Nat.reduceLT, Int.reduceToNat, Int.reduceLE, Int.reduceLT, Int.reduceNeg, Int.reduceAdd, ha, hwa]
    refine U_step ?_
    simp only [go_sem, Nat.reduceLT, Int.reduceToNat, Int.reduceLE, Int.reduceLT, Int.reduceNeg, Int.reduceAdd, hb, hwb]
    refine U_step ?_
    simp only [go_sem, Nat.reduceLT, Int.reduceToNat, Int.reduceLE, Int.reduceLT, Int.reduceNeg, Int.reduceAdd, hc, hwc]
    refine U_step ?_
    simp only [go_sem, Nat.reduceLT, Int.reduceLT, Int.reduceEq, hw5, ew]
    rw [e, if_neg (by omega : ¬ 0 < a), if_pos (by omega : 0 < b), if_neg (by omega : ¬ 0 < c)]
    rfl
  · refine T_unroll 3 ?_
    simp only [go_sem, Nat.reduceLT, Int.reduceToNat, Int.reduceLE, Int.reduceLT, Int.reduceNeg, Int.reduceAdd, ha, hwa]
    refine U_step ?_
    simp only [go_sem, Nat.reduceLT, Int.reduceToNat, Int.reduceLE, Int.reduceLT, Int.reduceNeg, Int.reduceAdd, hb, hwb]
    refine U_step ?_
    simp only [go_sem, Nat.reduceLT, Int.reduceToNat, Int.reduceLE, Int.reduceLT, Int.reduceNeg, Int.reduceAdd, hc, hwc]
    refine U_step ?_
    simp only [go_sem, Nat.reduceLT, Int.reduceLT, Int.reduceEq, hw5, ew]
    rw [e, if_neg (by omega : ¬ 0 < a), if_neg (by omega : ¬ 0 < b), if_pos (by omega : 0 < c)]
    rfl
  · refine T_unroll 3 ?_
    simp only [go_sem, Nat.reduceLT, Int.reduceToNat, Int.reduceLE, Int.reduceLT, Int.reduceNeg, Int.reduceAdd, ha, hwa]
    refine U_step ?_
    simp only [go_sem, Nat.reduceLT, Int.reduceToNat, Int.reduceLE, Int.reduceLT, Int.reduceNeg, Int.reduceAdd, hb, hwb]
    refine U_step ?_
    simp only [go_sem, Nat.reduceLT, Int.reduceToNat, Int.reduceLE, Int.reduceLT, Int.reduceNeg, Int.reduceAdd, hc, hwc]
    refine U_step ?_
    simp only [go_sem, Nat.reduceLT, Int.reduceLT, Int.reduceEq, hw5, ew]
    rw [e, if_neg (by omega : ¬ 0 < a), if_neg (by omega : ¬ 0 < b), if_neg (by omega : ¬ 0 < c)]
    rfl
end
end Go.Proofs.YtcjgpkhdlobbbaaGreat.V

/- The library's partitions of spots. -/
namespace Go.Proofs.YtcjgpkhdlobbbaaGreat.V
open Go.Sort (swp scanUp scanDown partLoop partition partEqLoop partitionEqual round_facts partLoop_eq partEqLoop_eq)
section
variable (cx : Cx) (h : List (Nat × Seg)) (n : Nat)
end
end Go.Proofs.YtcjgpkhdlobbbaaGreat.V

/- The library's partition of spots by equality. -/
namespace Go.Proofs.YtcjgpkhdlobbbaaGreat.V
open Go.Sort (swp scanUp scanDown partEqLoop partitionEqual round_facts partEqLoop_eq)
section
variable (cx : Cx) (h : List (Nat × Seg)) (n : Nat)
end
end Go.Proofs.YtcjgpkhdlobbbaaGreat.V

/- The library's reversal and its partial insertion sort of spots. -/
namespace Go.Proofs.YtcjgpkhdlobbbaaGreat.V
open Go.Sort (swp scanSorted shiftDown shiftUp partialIns partialInsertionSort reverseLoop reverseRange fixDown fixUp partialIns_succ)
section
variable (cx : Cx) (h : List (Nat × Seg)) (n : Nat)
end
end Go.Proofs.YtcjgpkhdlobbbaaGreat.V

/- The library's choice of a pivot among spots. -/
namespace Go.Proofs.YtcjgpkhdlobbbaaGreat.V
open Go.Sort (order2 median medianAdjacent choosePivot rawPivot hintOf hintCode order2_mem median_mem medianAdjacent_mem median_count medianAdjacent_count order2_count choosePivot_eq)
/-- A function that compares spots and looks at no memory. -/
def CmpA (cx : Cx) (n f p q : Nat) (G F : Nat → SV) (cI : Int × Int → Int × Int → Int) : Prop :=
  ∀ (a b : Int × Int) nt n0 h' n', n ≤ n' → CallQ Tryz.prog ⟨cx.w0, cx.W, nt, n0⟩ f (lst p G ++ [spot a.1 a.2, spot b.1 b.2] ++ lst q F) h' n' (.int .i64 (cI a b))
theorem CmpA.nt {cx : Cx} {n f p q : Nat} {G F : Nat → SV} {cI : Int × Int → Int × Int → Int} (hc : CmpA cx n f p q G F cI) (t m : Nat) : CmpA ⟨cx.w0, cx.W, t, m⟩ n f p q G F cI := fun a b nt n0 h' n' hn => hc a b nt n0 h' n' hn
theorem CmpA.up {cx : Cx} {n f p q : Nat} {G F : Nat → SV} {cI : Int × Int → Int × Int → Int} (hc : CmpA cx n f p q G F cI) {m : Nat} (hm : n ≤ m) : CmpA cx m f p q G F cI := fun a b nt n0 h' n' hn => hc a b nt n0 h' n' (by omega)
section
variable (cx : Cx) (h : List (Nat × Seg)) (n : Nat)
end
end Go.Proofs.YtcjgpkhdlobbbaaGreat.V

/- Lengths of numbers in bits, exactly; patterns broken among spots. -/
namespace Go.Proofs.YtcjgpkhdlobbbaaGreat.V
open Go.Sort (bitsLen bitsLen_le_iff xorNext xorNextN xorNext_toNat xorNextN_lt breakPatterns breakStep swp)
section
variable (cx : Cx) (h : List (Nat × Seg)) (n : Nat)
end
end Go.Proofs.YtcjgpkhdlobbbaaGreat.V

/- Patterns broken among spots. -/
namespace Go.Proofs.YtcjgpkhdlobbbaaGreat.V
open Go.Sort (bitsLen bitsLen_le_iff xorNext xorNextN xorNext_toNat xorNextN_lt breakPatterns breakStep swp two_pow_bitsLen_le)
section
variable (cx : Cx) (h : List (Nat × Seg)) (n : Nat)
end
end Go.Proofs.YtcjgpkhdlobbbaaGreat.V

/- The library's sort of spots. -/
namespace Go.Proofs.YtcjgpkhdlobbbaaGreat.V
open Go.Sort (bitsLen swp insertionSort heapSort breakPatterns choosePivot reverseRange partialInsertionSort partition partitionEqual pdq rd Hint hintCode SWO Below rd_facts rd_c rd_true rd_false rd_dec rd_not rd_pi_yes rd_pi_no rd_lim_le round_part round_eq pdq_small pdq_heap pdq_done pdq_eq pdq_left pdq_right insertionSort_holds heapSort_holds partialInsertionSort_holds partition_holds partitionEqual_holds reverseRange_holds pdq_sorts)
section
variable (cx : Cx) (h : List (Nat × Seg)) (n : Nat)
end
end Go.Proofs.YtcjgpkhdlobbbaaGreat.V

/- Sorted lists of spots made compact; sets of spots, of whatever length. -/
namespace Go.Proofs.YtcjgpkhdlobbbaaGreat.V
section
variable (cx : Cx) (h : List (Nat × Seg)) (n : Nat)
end
end Go.Proofs.YtcjgpkhdlobbbaaGreat.V

/- The library's sort of spots, of whatever length; sets of spots. -/
namespace Go.Proofs.YtcjgpkhdlobbbaaGreat.V
open Go.Sort (pdq pdq_sorts PermIn SortedIn SWO bitsLen bitsLen_le_iff)
section
variable (cx : Cx) (h : List (Nat × Seg)) (n : Nat)
end
section
variable (cx : Cx) (h : List (Nat × Seg)) (n : Nat)
end
end Go.Proofs.YtcjgpkhdlobbbaaGreat.V

/- Lists of cells: the program's own walk. -/
namespace Go.Proofs.YtcjgpkhdlobbbaaGreat.V
/-- A list of spots in memory. -/
def Sp (h : List (Nat × Seg)) (lo n : Nat) (V : SV) (L : List (Int × Int)) : Prop :=
  ∃ i cap s, V = .sl i 0 L.length cap ∧ lo ≤ i ∧ i < n ∧ hget h i = some s ∧ s.rw = true ∧ s.n = L.length * 2 ∧ L.length ≤ cap ∧ ∀ k, k < L.length * 2 → s.c k = spotsC L k
theorem Sp.out {h : List (Nat × Seg)} {lo n : Nat} {V : SV} {L : List (Int × Int)} (hA : Sp h lo n V L) : SpsOut h lo n V L := by
  obtain ⟨i, cap, s, h1, h2, h3, h4, h5, h6, h7, h8⟩ := hA
  exact .inr ⟨i, cap, s, h1, h2, h3, h4, h5, h6, h8⟩
theorem Sp.ok {h : List (Nat × Seg)} {lo n : Nat} {V : SV} {L : List (Int × Int)} (hA : Sp h lo n V L) : V.ok = True := hA.out.ok
theorem Sp.ext {h h' : List (Nat × Seg)} {lo n n' : Nat} {V : SV} {L : List (Int × Int)} (hA : Sp h lo n V L) (hn : n ≤ n') (hx : HExt n h h') : Sp h' lo n' V L := by
  obtain ⟨i, cap, s, h1, h2, h3, h4, h5⟩ := hA
  exact ⟨i, cap, s, h1, h2, by omega, hx i h3 s h4, h5⟩
theorem Sp.lo {h : List (Nat × Seg)} {lo lo' n : Nat} {V : SV} {L : List (Int × Int)} (hA : Sp h lo n V L) (hl : lo' ≤ lo) : Sp h lo' n V L := by
  obtain ⟨i, cap, s, h1, h2, h3⟩ := hA
  exact ⟨i, cap, s, h1, by omega, h3⟩
theorem Sp.lt {h : List (Nat × Seg)} {lo n : Nat} {V : SV} {L : List (Int × Int)} (hA : Sp h lo n V L) : V.lt n := by
  obtain ⟨i, cap, s, rfl, h2, h3, _⟩ := hA
  exact h3
theorem HOk.consF {n : Nat} {h : List (Nat × Seg)} {s : Seg} (hok : HOk n h) (hs : ∀ k, k < s.n → (s.c k).flat) : HOk (n + 1) ((n, s) :: h) := fun i t hi => by
  simp only [hget] at hi
  by_cases e : n = i
  · rw [if_pos e] at hi; cases hi
    exact ⟨by omega, fun k hk => (hs k hk).below _⟩
  · rw [if_neg e] at hi
    obtain ⟨g1, g2⟩ := hok i t hi
    exact ⟨by omega, fun k hk => SV.lt_mono (by omega) _ (g2 k hk)⟩
theorem HOk.hdel {n j : Nat} {h : List (Nat × Seg)} (hok : HOk n h) : HOk n (hdel h j) := fun i t hi => by
  rw [hget_hdel] at hi
  split at hi
  · cases hi
  · exact hok i t hi
section
variable (cx : Cx) (h : List (Nat × Seg)) (n : Nat)
end
end Go.Proofs.YtcjgpkhdlobbbaaGreat.V

/- Sets of cells: the reference's walk. -/
namespace Go.Proofs.YtcjgpkhdlobbbaaGreat.V
@[go_sem] theorem zz_mk : zz_a010c9 = mkC [] := by funext j; simp [mkC, zz_a010c9]
@[go_sem] theorem ones_mk (L : List (Int × Int)) : ones (.agg 64 (mkC L)) = True := eq_true fun j hj => trivial
@[go_sem] theorem okc_mk (L : List (Int × Int)) : (SV.agg 64 (mkC L)).okc = True := eq_true trivial
@[go_sem] theorem mkS_eq (L : List (Int × Int)) : mkS L = ⟨64, mkC L, true, none⟩ := rfl
@[go_sem] theorem lt_mk (m : Nat) (L : List (Int × Int)) : (SV.agg 64 (mkC L)).lt m = True := eq_true fun j hj => trivial
section
variable (cx : Cx) (h : List (Nat × Seg)) (n : Nat)
end
end Go.Proofs.YtcjgpkhdlobbbaaGreat.V

/- Lists of cells: the program's own walk, on. -/
namespace Go.Proofs.YtcjgpkhdlobbbaaGreat.V
section
variable (cx : Cx) (h : List (Nat × Seg)) (n : Nat)
end
end Go.Proofs.YtcjgpkhdlobbbaaGreat.V

/- Spreads: the program's own walk. -/
namespace Go.Proofs.YtcjgpkhdlobbbaaGreat.V
/-- A list to which one may append. -/
def SpO (h : List (Nat × Seg)) (lo n : Nat) (V : SV) (L : List (Int × Int)) : Prop :=
  ∃ j cap s, V = .sl j 0 L.length cap ∧ lo ≤ j ∧ j < n ∧ hget h j = some s ∧ s.own = some (46, cap * 2) ∧ s.rw = true ∧ s.n = L.length * 2 ∧ L.length ≤ cap ∧ cap ≤ maxLen ∧ ∀ k, k < L.length * 2 → s.c k = spotsC L k
theorem SpO.sp {h : List (Nat × Seg)} {lo n : Nat} {V : SV} {L : List (Int × Int)} (hA : SpO h lo n V L) : Sp h lo n V L := by
  obtain ⟨i, cap, s, h1, h2, h3, h4, h5, h6, h7, h8, h9, h10⟩ := hA
  exact ⟨i, cap, s, h1, h2, h3, h4, h6, h7, h8, h10⟩
section
variable (cx : Cx) (h : List (Nat × Seg)) (n : Nat)
end
end Go.Proofs.YtcjgpkhdlobbbaaGreat.V

/- Sets of cells: the reference's lists and spreads. -/
namespace Go.Proofs.YtcjgpkhdlobbbaaGreat.V
section
variable (cx : Cx) (h : List (Nat × Seg)) (n : Nat)
end
end Go.Proofs.YtcjgpkhdlobbbaaGreat.V

/- Sets of cells: the program's answers. -/
namespace Go.Proofs.YtcjgpkhdlobbbaaGreat.V
section
variable (cx : Cx) (h : List (Nat × Seg)) (n : Nat)
end
end Go.Proofs.YtcjgpkhdlobbbaaGreat.V

/- Spreads, inner cells: the reference's walk. -/
namespace Go.Proofs.YtcjgpkhdlobbbaaGreat.V
structure SI (h : List (Nat × Seg)) (n : Nat) (hq : List (Nat × Seg)) (nq : Nat) (V : SV) (Lst M : List (Int × Int)) : Prop where
  hn : n + 2 ≤ nq
  ok : HOk nq hq
  ex : HExt n h hq
  g0 : hget hq n = some (mkS [])
  g1 : hget hq (n + 1) = some (mkS M)
  ls : Sp hq (n + 2) nq V Lst
theorem SI.ext {h hq h' : List (Nat × Seg)} {n nq n' : Nat} {V : SV} {Lst M : List (Int × Int)} (I : SI h n hq nq V Lst M) (hx : HExt nq hq h') (hn : nq ≤ n') (ok : HOk n' h') : SI h n h' n' V Lst M :=
  ⟨Nat.le_trans I.hn hn, ok, I.ex.tr hx (by have := I.hn; omega), hx n (by have := I.hn; omega) _ I.g0, hx (n + 1) (by have := I.hn; omega) _ I.g1, I.ls.ext hn hx⟩
theorem Sp.hset {h : List (Nat × Seg)} {lo n g : Nat} {V : SV} {L : List (Int × Int)} {t : Seg} (hA : Sp h lo n V L) (hg : g < lo) : Sp (hset h g t) lo n V L := by
  obtain ⟨i, cap, s, h1, h2, h3, h4, h5⟩ := hA
  exact ⟨i, cap, s, h1, h2, h3, by rw [hget_hset, if_neg (by omega)]; exact h4, h5⟩
theorem SI.set {h hq : List (Nat × Seg)} {n nq : Nat} {V : SV} {Lst M : List (Int × Int)} (I : SI h n hq nq V Lst M) (M' : List (Int × Int)) : SI h n (hset hq (n + 1) (mkS M')) nq V Lst M' :=
  ⟨I.hn, I.ok.hset fun k hk => (mkC_flat M' k).below _, fun z hz t ht => by rw [hget_hset, if_neg (by omega)]; exact I.ex z hz t ht, by rw [hget_hset, if_neg (by omega)]; exact I.g0, hget_hset_self I.g1 _, I.ls.hset (by omega)⟩
section
variable (cx : Cx) (h : List (Nat × Seg)) (n : Nat)
end
end Go.Proofs.YtcjgpkhdlobbbaaGreat.V

/- Forerunners: the program's answers. -/
namespace Go.Proofs.YtcjgpkhdlobbbaaGreat.V
section
variable (cx : Cx) (h : List (Nat × Seg)) (n : Nat)
end
end Go.Proofs.YtcjgpkhdlobbbaaGreat.V

/- Sets of cells: the reference's answers. -/
namespace Go.Proofs.YtcjgpkhdlobbbaaGreat.V
@[go_sem] theorem fitC_mk (A B : List (Int × Int)) (j k : Nat) : fitC .bool (mkC A j) (mkC B k) = True := rfl
section
variable (cx : Cx) (h : List (Nat × Seg)) (n : Nat)
end
end Go.Proofs.YtcjgpkhdlobbbaaGreat.V

/- Sets of cells: what the reference answers. -/
namespace Go.Proofs.YtcjgpkhdlobbbaaGreat.V
section
variable (cx : Cx) (h : List (Nat × Seg)) (n : Nat)
end
end Go.Proofs.YtcjgpkhdlobbbaaGreat.V

/- Drops that make a blot. -/
namespace Go.Proofs.YtcjgpkhdlobbbaaGreat.V
section
variable (cx : Cx) (h : List (Nat × Seg)) (n : Nat)
end
end Go.Proofs.YtcjgpkhdlobbbaaGreat.V

/- Drops that make a blot: the reference's walk; the codes. -/
namespace Go.Proofs.YtcjgpkhdlobbbaaGreat.V
section
variable (cx : Cx) (h : List (Nat × Seg)) (n : Nat)
end
end Go.Proofs.YtcjgpkhdlobbbaaGreat.V

/- LeastWater, LeastDye: both codes. -/
namespace Go.Proofs.YtcjgpkhdlobbbaaGreat.V
section
variable (cx : Cx) (h : List (Nat × Seg)) (n : Nat)
end
end Go.Proofs.YtcjgpkhdlobbbaaGreat.V

/- LeastWater, LeastDye: the answers of both codes. -/
namespace Go.Proofs.YtcjgpkhdlobbbaaGreat.V
section
variable (cx : Cx) (h : List (Nat × Seg)) (n : Nat)
end
end Go.Proofs.YtcjgpkhdlobbbaaGreat.V

/- OriginsOf: both codes. -/
namespace Go.Proofs.YtcjgpkhdlobbbaaGreat.V
section
variable (cx : Cx) (h : List (Nat × Seg)) (n : Nat)
end
end Go.Proofs.YtcjgpkhdlobbbaaGreat.V

/- Plain laws for FnOrigins. -/
namespace Go.Proofs.YtcjgpkhdlobbbaaGreat.V
section
variable {S : Sh} {x y ink amount water : Int} (hV : Valid S) (hB : Blank S S.wide.toNat S.high.toNat) (hd : dropB S x y ink amount water = true) (hwx : waxB S x y = false) (hw : water ≤ 30)
include hV hB hd hwx hw
end
end Go.Proofs.YtcjgpkhdlobbbaaGreat.V

/- The helpers of FnOrigins: clean, bytes, cells. -/
namespace Go.Proofs.YtcjgpkhdlobbbaaGreat.V
section
variable (cx : Cx) (h : List (Nat × Seg)) (n : Nat)
end
end Go.Proofs.YtcjgpkhdlobbbaaGreat.V

/- The helpers of FnOrigins: cells in a list, equal lists, clean sheets. -/
namespace Go.Proofs.YtcjgpkhdlobbbaaGreat.V
section
variable (cx : Cx) (h : List (Nat × Seg)) (n : Nat)
end
end Go.Proofs.YtcjgpkhdlobbbaaGreat.V

/- Equal lists of cells. -/
namespace Go.Proofs.YtcjgpkhdlobbbaaGreat.V
section
variable (cx : Cx) (h : List (Nat × Seg)) (n : Nat)
end
end Go.Proofs.YtcjgpkhdlobbbaaGreat.V

/- A cell of a sheet; all cells. -/
namespace Go.Proofs.YtcjgpkhdlobbbaaGreat.V
theorem BySl.up {h h' : List (Nat × Seg)} {n n' i i' : Nat} {A : SV} (hA : BySl h n i A) (hn : n ≤ n') (hx : HExt n h h') (hi : n ≤ i') : BySl h' n' i' A := by
  rcases hA with rfl | ⟨j, o, len, cap, s, rfl, hj, hji, hg, hl, hl2, hv⟩
  · exact .inl rfl
  · exact .inr ⟨j, o, len, cap, s, rfl, by omega, by omega, hx j hj _ hg, hl, hl2, hv⟩
theorem BySl.hset {h : List (Nat × Seg)} {n i : Nat} {A : SV} (hA : BySl h n i A) (t : Seg) : BySl (hset h i t) n i A := by
  rcases hA with rfl | ⟨j, o, len, cap, s, rfl, hj, hji, hg, hl, hl2, hv⟩
  · exact .inl rfl
  · exact .inr ⟨j, o, len, cap, s, rfl, hj, hji, by rw [hget_hset, if_neg (Ne.symm hji)]; exact hg, hl, hl2, hv⟩
theorem BySl.arg {h : List (Nat × Seg)} {n i : Nat} {A : SV} (hA : BySl h n i A) : ∃ j o len cap, A = .sl j o len cap ∧ j < n ∨ A = .nils := by
  rcases hA with rfl | ⟨j, o, len, cap, s, rfl, hj, hji, hg, hl, hl2, hv⟩
  · exact ⟨0, 0, 0, 0, .inr rfl⟩
  · exact ⟨j, o, len, cap, .inl ⟨rfl, hj⟩⟩
end Go.Proofs.YtcjgpkhdlobbbaaGreat.V

/- A cell of a sheet. -/
namespace Go.Proofs.YtcjgpkhdlobbbaaGreat.V
section
variable (cx : Cx) (h : List (Nat × Seg)) (n : Nat)
end
end Go.Proofs.YtcjgpkhdlobbbaaGreat.V

/- All cells of a sheet; a drawn sheet. -/
namespace Go.Proofs.YtcjgpkhdlobbbaaGreat.V
section
variable (cx : Cx) (h : List (Nat × Seg)) (n : Nat)
end
end Go.Proofs.YtcjgpkhdlobbbaaGreat.V

/- A sheet that is being drawn: plain laws. -/
namespace Go.Proofs.YtcjgpkhdlobbbaaGreat.V
/-- The first q cells of a sheet are drawn. -/
structure DrawnI (W H q : Nat) (S : Sh) : Prop where
  R : ShR S
  wide : S.wide = W
  high : S.high = H
  wax : ∀ y x : Int, 0 ≤ y → y < 8 → 0 ≤ x → x < 8 → waxB S x y = true → hasB S x y = true
  wet : ∀ y x, 0 ≤ S.wet y x ∧ S.wet y x < 30
  dye : ∀ y x i, 0 ≤ S.dye y x i ∧ S.dye y x i < 40
  zero : ∀ y x : Int, 0 ≤ y → y < 8 → 0 ≤ x → x < 8 → hasB S x y = false ∨ waxB S x y = true → S.wet y x = 0 ∧ ∀ i, S.dye y x i = 0
  new : ∀ k, q ≤ k → k < H * W → waxB S ((k % W : Nat) : Int) ((k / W : Nat) : Int) = false ∧ S.wet ((k / W : Nat) : Int) ((k % W : Nat) : Int) = 0 ∧ ∀ i, S.dye ((k / W : Nat) : Int) ((k % W : Nat) : Int) i = 0
theorem hasB_setWet (S : Sh) (y x v a b : Int) : hasB (S.setWet y x v) a b = hasB S a b := rfl
theorem hasB_setDye (S : Sh) (y x i v a b : Int) : hasB (S.setDye y x i v) a b = hasB S a b := rfl
theorem hasB_setWax (S : Sh) (y v a b : Int) : hasB (S.setWax y v) a b = hasB S a b := rfl
theorem waxB_setWet (S : Sh) (y x v a b : Int) : waxB (S.setWet y x v) a b = waxB S a b := rfl
theorem waxB_setDye (S : Sh) (y x i v a b : Int) : waxB (S.setDye y x i v) a b = waxB S a b := rfl
theorem cell_neW {W H k q : Nat} (hk : k < H * W) (hq : q < H * W) (h : k ≠ q) : ¬ (((k / W : Nat) : Int) = ((q / W : Nat) : Int) ∧ ((k % W : Nat) : Int) = ((q % W : Nat) : Int)) := by
  rintro ⟨h1, h2⟩
  have e1 := Nat.div_add_mod k W
  have e2 := Nat.div_add_mod q W
  rw [show k / W = q / W by omega, show k % W = q % W by omega] at e1
  omega
theorem cell_hasW {W H q : Nat} {S : Sh} (hW : S.wide = W) (hH : S.high = H) (hq : q < H * W) : hasB S ((q % W : Nat) : Int) ((q / W : Nat) : Int) = true := by
  have hW0 : 0 < W := by
    rcases Nat.eq_zero_or_pos W with h0 | h0
    · rw [h0] at hq; omega
    · exact h0
  have h3 := Nat.mod_lt q hW0
  have h4 : q / W < H := (Nat.div_lt_iff_lt_mul hW0).2 hq
  generalize q % W = a at *
  generalize q / W = b at *
  simp only [hasB, Bool.and_eq_true, decide_eq_true_eq, hW, hH]
  omega
section
variable {W H q : Nat} {S : Sh}
theorem DrawnI.next (h : DrawnI W H q S) : DrawnI W H (q + 1) S := ⟨h.R, h.wide, h.high, h.wax, h.wet, h.dye, h.zero, fun k hk => h.new k (by omega)⟩
theorem DrawnI.setWet (h : DrawnI W H (q + 1) S) (hq : q < H * W) (hx : waxB S ((q % W : Nat) : Int) ((q / W : Nat) : Int) = false) {v : Int} (hv : 0 ≤ v ∧ v < 30) :
    DrawnI W H (q + 1) (S.setWet ((q / W : Nat) : Int) ((q % W : Nat) : Int) v) := by
  refine ⟨h.R.setWet (by omega), h.wide, h.high, h.wax, fun y x => ?_, h.dye, fun y x a b c d e => ?_, fun k hk hk2 => ?_⟩
  · simp only [Sh.setWet]; split
    · exact hv
    · exact h.wet y x
  · rw [hasB_setWet, waxB_setWet] at e
    refine ⟨?_, (h.zero y x a b c d e).2⟩
    simp only [Sh.setWet]
    rw [if_neg]
    · exact (h.zero y x a b c d e).1
    · rintro ⟨rfl, rfl⟩
      rw [hx, cell_hasW h.wide h.high hq] at e
      rcases e with e | e <;> cases e
  · obtain ⟨n1, n2, n3⟩ := h.new k hk hk2
    refine ⟨n1, ?_, n3⟩
    simp only [Sh.setWet]
    rw [if_neg (cell_neW hk2 hq (by omega))]; exact n2
theorem DrawnI.setDye (h : DrawnI W H (q + 1) S) (hq : q < H * W) (hx : waxB S ((q % W : Nat) : Int) ((q / W : Nat) : Int) = false) {i v : Int} (hv : 0 ≤ v ∧ v < 40) :
    DrawnI W H (q + 1) (S.setDye ((q / W : Nat) : Int) ((q % W : Nat) : Int) i v) := by
  refine ⟨h.R.setDye (by omega), h.wide, h.high, h.wax, h.wet, fun y x j => ?_, fun y x a b c d e => ?_, fun k hk hk2 => ?_⟩
  · simp only [Sh.setDye]; split
    · exact hv
    · exact h.dye y x j
  · rw [hasB_setDye, waxB_setDye] at e
    refine ⟨(h.zero y x a b c d e).1, fun j => ?_⟩
    simp only [Sh.setDye]
    rw [if_neg]
    · exact (h.zero y x a b c d e).2 j
    · rintro ⟨rfl, rfl, _⟩
      rw [hx, cell_hasW h.wide h.high hq] at e
      rcases e with e | e <;> cases e
  · obtain ⟨n1, n2, n3⟩ := h.new k hk hk2
    refine ⟨n1, n2, fun j => ?_⟩
    simp only [Sh.setDye]
    rw [if_neg fun e => cell_neW hk2 hq (by omega) ⟨e.1, e.2.1⟩]; exact n3 j
theorem or8 {v x : Int} (hv : 0 ≤ v ∧ v < 256) (hx : 0 ≤ x ∧ x < 8) : 0 ≤ bitsI .or .u8 v (shlI .u8 1 x) ∧ bitsI .or .u8 v (shlI .u8 1 x) < 256 := by
  obtain ⟨a, rfl⟩ := Int.eq_ofNat_of_zero_le hv.1
  obtain ⟨k, rfl⟩ := Int.eq_ofNat_of_zero_le hx.1
  obtain ⟨e, hl⟩ := wax_or (a := a) (k := k) (by omega) (by omega)
  rw [e]; omega
theorem waxB_or {x y x' y' : Int} (hR : ShR S) (hx : 0 ≤ x ∧ x < 8) (hx' : 0 ≤ x' ∧ x' < 8) : waxB (S.setWax y (bitsI .or .u8 (S.wax y) (shlI .u8 1 x))) x' y' = (decide (y' = y ∧ x' = x) || waxB S x' y') := by
  have key : ∀ w w' : Int, w = w' → decide (bitsI .and .u8 (shrI .u8 w x') 1 = 1) = decide (bitsI .and .u8 (shrI .u8 w' x') 1 = 1) := fun w w' e => by rw [e]
  by_cases hy : y' = y
  · subst hy
    have e : (S.setWax y' (bitsI .or .u8 (S.wax y') (shlI .u8 1 x))).wax y' = bitsI .or .u8 (S.wax y') (shlI .u8 1 x) := if_pos rfl
    unfold waxB
    rw [key _ _ e, wax_set (hR.wax _) hx hx']
    congr 1
    rw [decide_eq_decide]; simp
  · have e : (S.setWax y (bitsI .or .u8 (S.wax y) (shlI .u8 1 x))).wax y' = S.wax y' := if_neg hy
    unfold waxB
    have hd : decide (y' = y ∧ x' = x) = false := decide_eq_false (fun e' => hy e'.1)
    rw [key _ _ e, hd, Bool.false_or]
theorem DrawnI.setWax (h : DrawnI W H q S) (hS : Small S) (hq : q < H * W) :
    DrawnI W H (q + 1) (S.setWax ((q / W : Nat) : Int) (bitsI .or .u8 (S.wax ((q / W : Nat) : Int)) (shlI .u8 1 ((q % W : Nat) : Int)))) := by
  obtain ⟨x0, x8, y0, y8⟩ := cell_in hS h.wide h.high hq
  have hh := cell_hasW h.wide h.high hq
  have hn := h.new q (Nat.le_refl _) hq
  refine ⟨h.R.setWax (or8 (h.R.wax _) ⟨x0, x8⟩), h.wide, h.high, fun y x a b c d e => ?_, h.wet, h.dye, fun y x a b c d e => ?_, fun k hk hk2 => ?_⟩
  · rw [waxB_or h.R ⟨x0, x8⟩ ⟨c, d⟩, Bool.or_eq_true, decide_eq_true_eq] at e
    rw [hasB_setWax]
    rcases e with ⟨rfl, rfl⟩ | e
    · exact hh
    · exact h.wax y x a b c d e
  · rw [waxB_or h.R ⟨x0, x8⟩ ⟨c, d⟩, Bool.or_eq_true, decide_eq_true_eq, hasB_setWax] at e
    rcases e with e | ⟨rfl, rfl⟩ | e
    · exact h.zero y x a b c d (.inl e)
    · exact hn.2
    · exact h.zero y x a b c d (.inr e)
  · obtain ⟨n1, n2, n3⟩ := h.new k (by omega) hk2
    obtain ⟨kx0, kx8, ky0, ky8⟩ := cell_in hS h.wide h.high hk2
    refine ⟨?_, n2, n3⟩
    rw [waxB_or h.R ⟨x0, x8⟩ ⟨kx0, kx8⟩, n1, decide_eq_false (cell_neW hk2 hq (by omega))]; rfl
end
end Go.Proofs.YtcjgpkhdlobbbaaGreat.V

/- A drawn sheet: the walk. -/
namespace Go.Proofs.YtcjgpkhdlobbbaaGreat.V
/-- Memory as it was, but for one segment. -/
def HExtB (n i : Nat) (h h' : List (Nat × Seg)) : Prop := ∀ j, j < n → j ≠ i → ∀ t, hget h j = some t → hget h' j = some t
theorem HExtB.set {n i : Nat} {h h' : List (Nat × Seg)} (hx : HExtB n i h h') (s : Seg) : HExtB n i h (hset h' i s) := fun j hj hji t ht => by rw [hget_hset, if_neg (Ne.symm hji)]; exact hx j hj hji t ht
theorem HExtB.setN {n i k : Nat} {h h' : List (Nat × Seg)} (hx : HExtB n i h h') (hk : n ≤ k) (s : Seg) : HExtB n i h (hset h' k s) := fun j hj hji t ht => by rw [hget_hset, if_neg (by omega)]; exact hx j hj hji t ht
theorem HExtB.cons {n i k : Nat} {h h' : List (Nat × Seg)} (hx : HExtB n i h h') (hk : n ≤ k) (s : Seg) : HExtB n i h ((k, s) :: h') := fun j hj hji t ht => by simp only [hget]; rw [if_neg (by omega)]; exact hx j hj hji t ht
theorem HExtB.rfl {n i : Nat} {h : List (Nat × Seg)} : HExtB n i h h := fun j _ _ t ht => ht
theorem BySl.upB {h h' : List (Nat × Seg)} {n n' i : Nat} {A : SV} (hA : BySl h n i A) (hn : n ≤ n') (hx : HExtB n i h h') : BySl h' n' i A := by
  rcases hA with rfl | ⟨j, o, len, cap, s, rfl, hj, hji, hg, hl, hl2, hv⟩
  · exact .inl rfl
  · exact .inr ⟨j, o, len, cap, s, rfl, by omega, hji, hx j hj hji _ hg, hl, hl2, hv⟩
theorem BySl.lt {h : List (Nat × Seg)} {n i : Nat} {A : SV} (hA : BySl h n i A) : A.lt n := by
  rcases hA with rfl | ⟨j, o, len, cap, s, rfl, hj, _⟩
  · trivial
  · exact hj
theorem BySl.ok {h : List (Nat × Seg)} {n i : Nat} {A : SV} (hA : BySl h n i A) : A.ok = True := by
  rcases hA with rfl | ⟨j, o, len, cap, s, rfl, hj, _⟩ <;> rfl
theorem srcS_lt {A : SV} {a d : Int} {m : Nat} (hA : A.lt m) : ∀ k, k < (srcS A a d).n → ((srcS A a d).c k).lt m := fun k hk => by
  match k with
  | 0 => exact hA
  | 1 => trivial
  | 2 => trivial
  | k + 3 => exact absurd hk (by show ¬ k + 3 < 3; omega)
/-- A memory that a source of choices was used in: as it was, but for the source's segment. -/
structure SrcM (h : List (Nat × Seg)) (n i : Nat) (A : SV) (h1 : List (Nat × Seg)) (n1 : Nat) (a d : Int) : Prop where
  x : HExtB n i h h1
  le : n ≤ n1
  src : hget h1 i = some (srcS A a d)
  ok : HOk n1 h1
section
variable {h h1 : List (Nat × Seg)} {n i n1 k : Nat} {A : SV} {a d : Int} {s : Seg}
theorem SrcM.cons (hm : SrcM h n i A h1 n1 a d) (hi : i < n) (hs : ∀ k, k < s.n → (s.c k).lt n1) : SrcM h n i A ((n1, s) :: h1) (n1 + 1) a d :=
  ⟨hm.x.cons hm.le s, by have := hm.le; omega, by have := hm.le; simp only [hget]; rw [if_neg (by omega)]; exact hm.src, fun j t ht => by
    simp only [hget] at ht
    split at ht
    · rename_i e; cases ht; exact ⟨by omega, fun k hk => SV.lt_mono (by omega) _ (hs k hk)⟩
    · exact ⟨by have := (hm.ok j t ht).1; omega, fun k hk => SV.lt_mono (by omega) _ ((hm.ok j t ht).2 k hk)⟩⟩
theorem SrcM.setN (hm : SrcM h n i A h1 n1 a d) (hi : i < n) (hk : n ≤ k) (hs : ∀ k, k < s.n → (s.c k).lt n1) : SrcM h n i A (hset h1 k s) n1 a d :=
  ⟨hm.x.setN hk s, hm.le, by rw [hget_hset, if_neg (by omega)]; exact hm.src, HOk.hset hm.ok hs⟩
end
section
variable (cx : Cx)
theorem pick_M {h h1 : List (Nat × Seg)} {n i n1 : Nat} {A : SV} {a d : Int} (hm : SrcM h n i A h1 n1 a d) (hi : i < n) (hA : BySl h n i A) (m : Int) (ha : 0 ≤ a ∧ a ≤ 1048576) (hmm : 0 ≤ m ∧ m ≤ 200) (K : HK)
    (hK : ∀ v a' d' h2, 0 ≤ v → (v < m ∨ v = 0) → a ≤ a' → a' ≤ a + 1 → SrcM h n i A h2 n1 a' d' → (∀ j, j ≠ i → hget h2 j = hget h1 j) → K (.int .i64 v) h2 n1) :
    CallE Tryz.prog cx 57 [.ptr i 0, .int .i64 m] h1 n1 K :=
  pick_E cx h1 n1 i A a d m hm.src (by have := hm.le; omega) (hA.upB hm.le hm.x) ha hmm K fun v a' d' h0 h1' h2' h3 => hK v a' d' _ h0 h1' h2' h3
    ⟨hm.x.set _, hm.le, by rw [hget_hset, if_pos rfl, hm.src]; rfl, HOk.hset hm.ok (srcS_lt (SV.lt_mono hm.le _ hA.lt))⟩ (fun j hj => by rw [hget_hset, if_neg (Ne.symm hj)])
end
section
variable (cx : Cx) (h : List (Nat × Seg)) (n : Nat)
end
end Go.Proofs.YtcjgpkhdlobbbaaGreat.V

/- A sheet drawn from bytes, and a clean one. -/
namespace Go.Proofs.YtcjgpkhdlobbbaaGreat.V
theorem ByArg.long {h : List (Nat × Seg)} {n : Nat} {A : SV} {len : Nat} (hA : ByArg h n A len) : A = .nils ∧ len = 0 ∨ ∃ j o cap, A = .sl j o len cap := by
  rcases hA with h1 | ⟨j, cap, s, rfl, _⟩
  · exact .inl h1
  · exact .inr ⟨j, 0, cap, rfl⟩
theorem ByArg.sl {h : List (Nat × Seg)} {n i : Nat} {A : SV} {len : Nat} (hA : ByArg h n A len) (hi : n ≤ i) (hl : len ≤ 1048576) : BySl h n i A := by
  rcases hA with ⟨rfl, _⟩ | ⟨j, cap, s, rfl, hj, hg, hn, hv⟩
  · exact .inl rfl
  · exact .inr ⟨j, 0, len, cap, s, rfl, hj, by omega, hg, by omega, hl, fun k hk => by rw [Nat.zero_add]; exact hv k hk⟩
theorem ByArg.ok {h : List (Nat × Seg)} {n : Nat} {A : SV} {len : Nat} (hA : ByArg h n A len) : A.ok = True := by
  rcases hA with ⟨rfl, _⟩ | ⟨j, cap, s, rfl, _⟩ <;> rfl
theorem DrawnI.small {W H q : Nat} {S : Sh} (h : DrawnI W H q S) (h1 : 1 ≤ W) (h2 : W ≤ 5) (h3 : 1 ≤ H) (h4 : H ≤ 5) : Small S := by
  have := h.wide; have := h.high; unfold Small; omega
section
variable (cx : Cx) (h : List (Nat × Seg)) (n : Nat)
end
end Go.Proofs.YtcjgpkhdlobbbaaGreat.V

/- UselessDrops: the walks. -/
namespace Go.Proofs.YtcjgpkhdlobbbaaGreat.V
structure UsI (P : Pc) (D : List Dr) (h : List (Nat × Seg)) (n k : Nat) (hq : List (Nat × Seg)) (nq : Nat) (V : SV) : Prop where
  le : k ≤ D.length
  hn : n + 1 ≤ nq
  ok : HOk nq hq
  ex : HExt n h hq
  g0 : hget hq n = some (pcS P)
  out : InO hq (n + 1) nq V (uselN P D k)
section
variable (cx : Cx) (h : List (Nat × Seg)) (n : Nat)
set_option maxHeartbeats 1600000 in
theorem useless_E (P : Pc) (D : List Dr) (j cap : Nat) (s : Seg) (hR : PcR P) (hj : j < n) (hd : hget h j = some s) (hD : DrAt s D) (hDR : DrR D) (hm9 : D.length ≤ 10000000) (K : HK)
    (hK : ∀ V h' n', n ≤ n' → HExt n h h' → HOk n' h' → IntsOut h' n n' V (uselR P D).1 → K (.tup 2 (cl [V, .int .i64 (uselR P D).2])) h' n') :
    CallE Tryz.prog cx 14 [.agg 66 (pcC P), .sl j 0 D.length cap] h n K := by
  refine CallE.hokE ?_
  refine callE_of_T (P := Tryz.prog) hti (nt := 40) (rs := [.tmp 4, .tmp 5]) rfl rfl Tryz.call14 Tryz.func14 rfl _ (by simp only [go_sem, and_self]) (Nat.le_of_ble_eq_true rfl) _ fun hok => ?_
  have okS : HOk (n + 1) ((n, pcS P) :: h) := hok.consFY fun k hk => pcC_flat _ _
  have bad : ∀ c, uselR P D = ([], c) → K (.tup 2 (cl [.nils, .int .i64 c])) ((n, pcS P) :: h) (n + 1) := fun c e => by
    have := hK .nils _ (n + 1) (by omega) (by simp only [go_sem, HExt_cons]) okS (by rw [e]; exact .inl ⟨rfl, rfl⟩)
    rw [e] at this; exact this
  have badC : uselC P D ≠ 0 → uselR P D = ([], uselC P D) := fun hc => by unfold uselR; rw [if_neg hc]
  have hnj : n ≠ j := by omega
  simp only [go_sem, Nat.reduceLT]
  refine (dropsCode_Q _ _ _ n j cap P D s (by first | (simp only [go_sem]; done) | (simp only [go_sem, Nat.reduceBEq, Nat.reduceLT, Nat.reduceLeDiff, Nat.reduceAdd, Nat.reduceMul, Nat.reduceSub, Nat.reduceMod, Nat.reduceDiv, Nat.reduceEqDiff, Int.reduceToNat, reduceIte, reduceCtorEq, Int.reduceLE, Int.reduceLT, Int.reduceEq, Int.reduceNeg, Int.reduceAdd, Int.reduceSub, Int.reduceMul]; rfl)) (by omega) hR (by omega) (by first | (simp only [go_sem, hd, hj, hnj]; done) | (simp only [go_sem, Nat.reduceBEq, Nat.reduceLT, Nat.reduceLeDiff, Nat.reduceAdd, Nat.reduceMul, Nat.reduceSub, Nat.reduceMod, Nat.reduceDiv, Nat.reduceEqDiff, Int.reduceToNat, reduceIte, reduceCtorEq, Int.reduceLE, Int.reduceLT, Int.reduceEq, Int.reduceNeg, Int.reduceAdd, Int.reduceSub, Int.reduceMul, hd, hj, hnj]; rfl)) hD hm9).A ?_
  by_cases hc : dcode P D = 0
  rotate_left
  · have e : uselC P D = dcode P D := by unfold uselC; rw [if_neg hc]
    simp only [go_sem, Nat.reduceLT, hc]
    exact fun _ => bad _ (by rw [badC (by rw [e]; exact hc), e])
  simp only [go_sem, Nat.reduceLT, hc]
  refine (madeBy_Q _ _ _ n j cap P D s (by first | (simp only [go_sem]; done) | (simp only [go_sem, Nat.reduceBEq, Nat.reduceLT, Nat.reduceLeDiff, Nat.reduceAdd, Nat.reduceMul, Nat.reduceSub, Nat.reduceMod, Nat.reduceDiv, Nat.reduceEqDiff, Int.reduceToNat, reduceIte, reduceCtorEq, Int.reduceLE, Int.reduceLT, Int.reduceEq, Int.reduceNeg, Int.reduceAdd, Int.reduceSub, Int.reduceMul]; rfl)) (by omega) hR (by omega) (by first | (simp only [go_sem, hd, hj, hnj]; done) | (simp only [go_sem, Nat.reduceBEq, Nat.reduceLT, Nat.reduceLeDiff, Nat.reduceAdd, Nat.reduceMul, Nat.reduceSub, Nat.reduceMod, Nat.reduceDiv, Nat.reduceEqDiff, Int.reduceToNat, reduceIte, reduceCtorEq, Int.reduceLE, Int.reduceLT, Int.reduceEq, Int.reduceNeg, Int.reduceAdd, Int.reduceSub, Int.reduceMul, hd, hj, hnj]; rfl)) hD hDR hm9 hc).A ?_
  have e0 : pcEq (allN7 ⟨P.wide, P.high, fun _ _ => 0⟩ D D.length) P = madeE P D := rfl
  rw [e0]
  cases hm : madeE P D
  · have e : uselC P D = 4 := by unfold uselC; rw [if_pos hc, hm]; rfl
    simp only [go_sem, Nat.reduceLT, Int.reduceEq]
    exact fun _ => bad 4 (by rw [badC (by rw [e]; decide), e])
  have e : uselC P D = 0 := by unfold uselC; rw [if_pos hc, hm]; rfl
  have hgood : uselR P D = (uselN P D D.length, 0) := by unfold uselR; rw [if_pos e]
  rw [hgood] at hK
  obtain ⟨hP, hl100, hcan⟩ := dcode_ok hc
  simp only [go_sem, Nat.reduceLT]
  have ok2 : HOk (n + 2) ((n + 1, ⟨0, zrow (ti 2), true, some (2, 0)⟩) :: (n, pcS P) :: h) := okS.consFY fun k hk => absurd hk (Nat.not_lt_zero k)
  have I0 : UsI P D h n 0 ((n + 1, ⟨0, zrow (ti 2), true, some (2, 0)⟩) :: (n, pcS P) :: h) (n + 2) (.sl (n + 1) 0 0 0) :=
    ⟨Nat.zero_le _, by omega, ok2, by simp only [go_sem, HExt_cons], by simp only [go_sem], n + 1, 0, _, rfl, Nat.le_refl _, by omega, hget_hit _ _ _, rfl, rfl, rfl, Nat.le_refl _, Nat.zero_le _, fun k hk => absurd hk (Nat.not_lt_zero k)⟩
  refine T_lp (ι := { q : Nat × List (Nat × Seg) × Nat × SV // UsI P D h n q.1 q.2.1 q.2.2.1 q.2.2.2 })
    (fun q => ([(1, .sl j 0 D.length cap), (2, .ptr n 0), (7, q.1.2.2.2), (23, .int .i64 D.length), (24, .int .i64 ((q.1.1 : Nat) : Int))], q.1.2.1, q.1.2.2.1)) (fun q => D.length - q.1.1) ⟨(0, _, n + 2, .sl (n + 1) 0 0 0), I0⟩ ?_ ?_
  · refine Imp.id (by show n ≤ n + 2; omega) ?_ (impH.base0 ok2 (Nat.le_refl _) HExt.rfl)
    simp only [go_sem, Nat.reduceLT]
    (try (repeat' apply And.intro) <;> first | omega | rfl | trivial | assumption | skip)
  rintro ⟨⟨k, hq, nq, V⟩, I⟩
  simp only at I
  have hn0 := I.hn
  have hkl := I.le
  have hul := uselN_len P D k
  have hIO := I.out
  have hjq : j < nq := by omega
  have hdq : hget hq j = some s := I.ex j hj _ hd
  obtain ⟨jv, capV, sV, eV, v1, v2, v3, v4, v5, v6, v7, v8, v9⟩ := hIO
  subst eV
  simp only [go_sem, Nat.reduceLT, decide_eq_true_eq, decide_eq_false_iff_not]
  refine ⟨fun h1 => ?_, fun h1 => ?_⟩
  rotate_left
  · have hkD : k = D.length := by omega
    subst hkD
    exact fun hok' => hK _ hq nq (by omega) I.ex hok' (I.out.lo (Nat.le_succ n)).out
  have hk1 : k < D.length := by omega
  have hlen := List.length_eraseIdx_of_lt hk1
  have hwk : IntKind.i64.wrap ((k : Int) + 1) = ((k + 1 : Nat) : Int) := by rw [show (k : Int) + 1 = ((k + 1 : Nat) : Int) by omega]; exact w64 (by omega)
  refine callA_false (cloneDr_E _ _ _ j cap D s hdq hjq hD hm9 _ fun cap' c1 c2 => ?_)
  simp only [go_sem, Nat.reduceLT, hwk]
  refine callA_false (delete_E _ _ _ nq cap' k D (hget_hit _ _ _) (by omega) hk1 c1 c2 hm9 _ fun j2 h2 n2 s2 hn2 hj2 hb2 ok2' hg2 hD2 => ?_)
  have x2 : HExt nq hq h2 := fun z hz t ht => hb2 z (by omega) (by omega) t (by simp only [hget]; rw [if_neg (by omega)]; exact ht)
  simp only [go_sem, Nat.reduceLT]
  rw [← hlen]
  refine (madeBy_Q _ _ _ n j2 cap' P (D.eraseIdx k) s2 (x2 n (by omega) _ I.g0) (by omega) hR (by omega) hg2 hD2 (drR_erase hDR hk1) (by omega) (dcode_erase hc hk1)).A ?_
  have e1 : pcEq (allN7 ⟨P.wide, P.high, fun _ _ => 0⟩ (D.eraseIdx k) (D.eraseIdx k).length) P = madeE P (D.eraseIdx k) := rfl
  rw [e1]
  have hsu := uselN_succ P D k
  have w3 := x2 jv v2 _ v3
  have outk := I.out.ext (n' := n2) (by omega) x2
  have ex2 : HExt n h h2 := I.ex.tr x2 (by omega)
  cases hmk : madeE P (D.eraseIdx k)
  · rw [hmk, if_neg (by decide), List.append_nil] at hsu
    simp only [go_sem, Nat.reduceLT]
    refine ⟨⟨(k + 1, h2, n2, .sl jv 0 (uselN P D k).length capV), ⟨by show k + 1 ≤ D.length; omega, by show n + 1 ≤ n2; omega, ok2', ex2, x2 n (by omega) _ I.g0, by rw [hsu]; exact outk⟩⟩, by show D.length - (k + 1) < D.length - k; omega, ?_⟩
    refine Imp.id (by show n ≤ n2; omega) ?_ (impH.base0 ok2' (Nat.le_refl _) HExt.rfl)
    simp only [go_sem, Nat.reduceLT, hwk]
    (try (repeat' apply And.intro) <;> first | omega | rfl | trivial | assumption | skip)
  · rw [hmk, if_pos rfl] at hsu
    obtain ⟨sn, sc, sr, so⟩ := sV
    simp only at v4 v5 v6 v9
    subst v4 v5 v6
    generalize hXX : uselN P D k = X at *
    have v2' : jv < n2 := by omega
    have nv : n2 ≠ jv := by omega
    simp only [go_sem, Nat.reduceLT, Nat.reduceLeDiff, w3, v2', nv]
    refine ⟨⟨v7, v8, by omega⟩, fun cap3 m1 m2 => ?_⟩
    obtain ⟨okM, exM, -⟩ := appI (a := (k : Int)) (n := n) (h := h) (nq := n2) (jv := jv) (A := X) (sc := sc) (w := some (2, 1)) (c1 := upd (zrow (ti 2)) 0 (SV.int IntKind.i64 k)) (by omega) ok2' ex2 (by omega) rfl v9 m1 m2
    obtain ⟨-, -, spM⟩ := appI (a := (k : Int)) (n := n + 1) (h := []) (nq := n2) (jv := jv) (A := X) (sc := sc) (w := some (2, 1)) (c1 := upd (zrow (ti 2)) 0 (SV.int IntKind.i64 k)) (by omega) ok2' (fun z hz t ht => by simp [hget] at ht) v1 rfl v9 m1 m2
    refine ⟨⟨(k + 1, _, n2 + 2, .sl (n2 + 1) 0 (X.length + 1) cap3), ⟨by show k + 1 ≤ D.length; omega, by show n + 1 ≤ n2 + 2; omega, okM, exM, by
      show hget (_ :: _ :: hdel h2 jv) n = _
      simp only [hget]; rw [if_neg (by omega), if_neg (by omega), hget_hdel, if_neg (by omega)]; exact x2 n (by omega) _ I.g0, by rw [hsu]; exact spM⟩⟩, by show D.length - (k + 1) < D.length - k; omega, ?_⟩
    refine Imp.id (by show n ≤ n2 + 2; omega) ?_ (impH.base0 okM (Nat.le_refl _) HExt.rfl)
    simp only [go_sem, Nat.reduceLT, hwk]
    (try (repeat' apply And.intro) <;> first | omega | rfl | trivial | assumption | skip)
set_option maxHeartbeats 1600000 in
theorem useless2_E (P : Pc) (D : List Dr) (j cap : Nat) (s : Seg) (hR : PcR P) (hj : j < n) (hd : hget h j = some s) (hD : DrAt s D) (hDR : DrR D) (hm9 : D.length ≤ 10000000) (hcap : D.length ≤ cap) (K : HK)
    (hK : ∀ V h' n', n ≤ n' → HExt n h h' → HOk n' h' → IntsOut h' n n' V (uselR P D).1 → K (.tup 2 (cl [V, .int .i64 (uselR P D).2])) h' n') :
    CallE Tryz.prog cx 19 [.agg 66 (pcC P), .sl j 0 D.length cap] h n K := by
  have hD0 := hD
  obtain ⟨hDn, hDc⟩ := hD
  refine CallE.hokE ?_
  refine callE_of_T (P := Tryz.prog) hti (nt := 58) (rs := [.tmp 4, .tmp 5]) rfl rfl Tryz.call19 Tryz.func19 rfl _ (by simp only [go_sem, and_self]) (Nat.le_of_ble_eq_true rfl) _ fun hok => ?_
  have okS : HOk (n + 1) ((n, pcS P) :: h) := hok.consFY fun k hk => pcC_flat _ _
  have ok2 : HOk (n + 2) ((n + 1, ⟨0, zrow (ti 2), true, some (2, 0)⟩) :: (n, pcS P) :: h) := okS.consFY fun k hk => absurd hk (Nat.not_lt_zero k)
  have bad : ∀ c, uselR P D = ([], c) → K (.tup 2 (cl [.sl (n + 1) 0 0 0, .int .i64 c])) ((n + 1, ⟨0, zrow (ti 2), true, some (2, 0)⟩) :: (n, pcS P) :: h) (n + 2) := fun c e => by
    have := hK (.sl (n + 1) 0 0 0) _ (n + 2) (by omega) (by simp only [go_sem, HExt_cons]) ok2 (by rw [e]; exact .inr ⟨n + 1, 0, _, rfl, by omega, by omega, hget_hit _ _ _, rfl, rfl, fun k hk => absurd hk (Nat.not_lt_zero k)⟩)
    rw [e] at this; exact this
  have badC : uselC P D ≠ 0 → uselR P D = ([], uselC P D) := fun hc => by unfold uselR; rw [if_neg hc]
  have hnj : n ≠ j := by omega
  have hnj1 : n + 1 ≠ j := by omega
  simp only [go_sem, Nat.reduceLT]
  refine (checkDrops2_Q _ _ _ P D j cap s hR (by omega) (by first | (simp only [go_sem, hd, hj, hnj, hnj1]; done) | (simp only [go_sem, Nat.reduceBEq, Nat.reduceLT, Nat.reduceLeDiff, Nat.reduceAdd, Nat.reduceMul, Nat.reduceSub, Nat.reduceMod, Nat.reduceDiv, Nat.reduceEqDiff, Int.reduceToNat, reduceIte, reduceCtorEq, Int.reduceLE, Int.reduceLT, Int.reduceEq, Int.reduceNeg, Int.reduceAdd, Int.reduceSub, Int.reduceMul, hd, hj, hnj, hnj1]; rfl)) hD0 hDR hm9).A ?_
  by_cases hc : dcode P D = 0
  rotate_left
  · have e : uselC P D = dcode P D := by unfold uselC; rw [if_neg hc]
    have e2 : checkR P D = (false, dcode P D) := by unfold checkR; rw [if_neg hc]
    rw [e2]
    simp only [go_sem, Nat.reduceLT, hc]
    exact fun _ => bad _ (by rw [badC (by rw [e]; exact hc), e])
  have e2 : checkR P D = (madeE P D, 0) := by unfold checkR; rw [if_pos hc]; rfl
  rw [e2]
  cases hm : madeE P D
  · have e : uselC P D = 4 := by unfold uselC; rw [if_pos hc, hm]; rfl
    simp only [go_sem, Nat.reduceLT, Int.reduceEq]
    exact fun _ => bad 4 (by rw [badC (by rw [e]; decide), e])
  have e : uselC P D = 0 := by unfold uselC; rw [if_pos hc, hm]; rfl
  have hgood : uselR P D = (uselN P D D.length, 0) := by unfold uselR; rw [if_pos e]
  rw [hgood] at hK
  obtain ⟨hP, hl100, hcan⟩ := dcode_ok hc
  simp only [go_sem, Nat.reduceLT]
  have I0 : UsI P D h n 0 ((n + 1, ⟨0, zrow (ti 2), true, some (2, 0)⟩) :: (n, pcS P) :: h) (n + 2) (.sl (n + 1) 0 0 0) :=
    ⟨Nat.zero_le _, by omega, ok2, by simp only [go_sem, HExt_cons], by simp only [go_sem], n + 1, 0, _, rfl, Nat.le_refl _, by omega, hget_hit _ _ _, rfl, rfl, rfl, Nat.le_refl _, Nat.zero_le _, fun k hk => absurd hk (Nat.not_lt_zero k)⟩
  refine T_lp (ι := { q : Nat × List (Nat × Seg) × Nat × SV // UsI P D h n q.1 q.2.1 q.2.2.1 q.2.2.2 })
    (fun q => ([(1, .sl j 0 D.length cap), (2, .ptr n 0), (6, q.1.2.2.2), (9, .int .i64 ((q.1.1 : Nat) : Int))], q.1.2.1, q.1.2.2.1)) (fun q => D.length - q.1.1) ⟨(0, _, n + 2, .sl (n + 1) 0 0 0), I0⟩ ?_ ?_
  · refine Imp.id (by show n ≤ n + 2; omega) ?_ (impH.base0 ok2 (Nat.le_refl _) HExt.rfl)
    simp only [go_sem, Nat.reduceLT]
    (try (repeat' apply And.intro) <;> first | omega | rfl | trivial | assumption | skip)
  rintro ⟨⟨k, hq, nq, V⟩, I⟩
  simp only at I
  have hn0 := I.hn
  have hkl := I.le
  have hul := uselN_len P D k
  have hIO := I.out
  have hjq : j < nq := by omega
  have hdq : hget hq j = some s := I.ex j hj _ hd
  obtain ⟨jv, capV, sV, eV, v1, v2, v3, v4, v5, v6, v7, v8, v9⟩ := hIO
  subst eV
  simp only [go_sem, Nat.reduceLT, decide_eq_true_eq, decide_eq_false_iff_not]
  refine ⟨fun h1 => ?_, fun h1 => ?_⟩
  rotate_left
  · have hkD : k = D.length := by omega
    subst hkD
    exact fun hok' => hK _ hq nq (by omega) I.ex hok' (I.out.lo (Nat.le_succ n)).out
  have hk1 : k < D.length := by omega
  have hlen := List.length_eraseIdx_of_lt hk1
  have hwk : IntKind.i64.wrap ((k : Int) + 1) = ((k + 1 : Nat) : Int) := by rw [show (k : Int) + 1 = ((k + 1 : Nat) : Int) by omega]; exact w64 (by omega)
  have hqj : nq ≠ j := by omega
  refine T_drawG hti 11 [4, 9] (.b 0 1 (.b 0 2 (.b 0 3 (.b 0 5 (.b 0 6 (.b 0 7 (.b 0 8 (.b 2 0 (.b 4 4 (.b 4 9 (.b 0 10 (.f) .o) .o) .o) .o) .o) .o) .o) .o) .o) .o) .o) _ _ (by kernel_rfl) (by kernel_rfl) ?_
  have hqj1 : nq + 1 ≠ j := by omega
  obtain ⟨o, ho⟩ : ∃ o, (if (cap : Int) = ((k + 1 : Nat) : Int) then 0 else (k + 1) * 3) = o := ⟨_, rfl⟩
  have ho2 : k + 1 < D.length → o = (k + 1) * 3 := fun hl => by rw [← ho, if_neg (by omega)]
  have ho3 : o + (D.length - (k + 1)) * 3 ≤ D.length * 3 := by
    by_cases hl : k + 1 < D.length
    · rw [ho2 hl]; omega
    · have : o ≤ (k + 1) * 3 := by rw [← ho]; split <;> omega
      omega
  have g0 := I.g0
  have c0 : n < nq := by omega
  have nq2 : nq + 2 ≠ n := by omega
  have o66 : ones (.agg 66 (pcC P)) = True := eq_true fun j hj => (pcC_flat P j).one
  have src : ∀ x : TI, x.k.kn → x.sz = 3 → ∀ b m, b + m * 3 ≤ D.length * 3 → okSrc x s b m := fun x hk hx b m hb => by
    unfold okSrc
    rw [hx]
    refine ⟨hk, by omega, by omega, allP_iff.2 fun z hz => ?_⟩
    rw [hDc _ (by omega)]; exact (dropsC_flat _ _).one
  simp only [go_sem, Nat.reduceLT, Nat.reduceLeDiff, Nat.reduceMul, Int.reduceToNat, Int.reduceLE, hdq, hjq, hwk, hqj, hqj1, ite_self, ho, Nat.sub_zero, ↓I.ok.del (Nat.le_refl nq), ↓I.ok.del (Nat.le_succ nq), g0, c0, nq2, o66]
  refine ⟨⟨by omega, by omega⟩, ⟨by omega, by omega, by omega⟩, ⟨src _ (by trivial) (by rfl) 0 k (by omega), by omega⟩, fun cp1 a1 a2 => ⟨⟨src _ (by trivial) (by rfl) o _ ho3, a1, a2, by omega⟩, fun cp2 b1 b2 => ?_⟩⟩
  have em : k + (D.length - (k + 1)) = (D.eraseIdx k).length := by omega
  have hcell : ∀ (Z : Nat → SV) q, q < (k + (D.length - (k + 1))) * 3 → both (k * 3) (both 0 Z (news s.c 0)) (news s.c o) q = dropsC (D.eraseIdx k) q := fun Z q hq' => by
    unfold both news
    have ge := erase_getD D k (q / 3)
    split
    · rename_i hq2
      rw [if_neg (Nat.not_lt_zero q), Nat.sub_zero, Nat.zero_add, hDc q (by omega)]
      unfold dropsC
      rw [ge, if_pos (show q / 3 < k by omega)]
    · rename_i hq2
      have hl : k + 1 < D.length := by omega
      rw [ho2 hl, hDc _ (by omega)]
      unfold dropsC
      rw [ge, if_neg (show ¬ q / 3 < k by omega), show ((k + 1) * 3 + (q - k * 3)) % 3 = q % 3 by omega, show ((k + 1) * 3 + (q - k * 3)) / 3 = q / 3 + 1 by omega]
  generalize hZ : zrow _ = Z
  have hcz := hcell Z
  have hDr : DrAt ⟨(k + (D.length - (k + 1))) * 3, both (k * 3) (both 0 Z (news s.c 0)) (news s.c o), true, some (48, cp2 * 3)⟩ (D.eraseIdx k) :=
    ⟨by show _ ≤ (k + (D.length - (k + 1))) * 3; omega, fun q hq' => hcz q (by omega)⟩
  have okM := (hok_up (m' := nq + 2) I.ok (by omega)).consFY (s := ⟨(k + (D.length - (k + 1))) * 3, both (k * 3) (both 0 Z (news s.c 0)) (news s.c o), true, some (48, cp2 * 3)⟩) (fun q hq' => by
    show (both (k * 3) (both 0 Z (news s.c 0)) (news s.c o) q).flat
    rw [hcz q hq']; exact dropsC_flat _ _)
  rw [em] at okM hDr ⊢
  refine (checkDrops2_Q _ _ _ P (D.eraseIdx k) (nq + 2) cp2 _ hR (Nat.lt_succ_self (nq + 2)) (hget_hit _ _ _) hDr (drR_erase hDR hk1) (by omega)).A ?_
  have e3 : checkR P (D.eraseIdx k) = (madeE P (D.eraseIdx k), 0) := by unfold checkR; rw [if_pos (dcode_erase hc hk1)]; rfl
  rw [e3]
  have x2 : HExt nq hq ((nq + 2, ⟨(D.eraseIdx k).length * 3, both (k * 3) (both 0 Z (news s.c 0)) (news s.c o), true, some (48, cp2 * 3)⟩) :: hq) := fun z hz t ht => by simp only [hget]; rw [if_neg (by omega)]; exact ht
  have hsu := uselN_succ P D k
  have outk := I.out.ext (n' := nq + 3) (by omega) x2
  have ex2 : HExt n h _ := I.ex.tr x2 (by omega)
  cases hmk : madeE P (D.eraseIdx k)
  · rw [hmk, if_neg (by decide), List.append_nil] at hsu
    simp only [go_sem, Nat.reduceLT]
    refine ⟨⟨(k + 1, _, nq + 3, .sl jv 0 (uselN P D k).length capV), ⟨by show k + 1 ≤ D.length; omega, by show n + 1 ≤ nq + 3; omega, okM, ex2, x2 n (by omega) _ I.g0, by rw [hsu]; exact outk⟩⟩, by show D.length - (k + 1) < D.length - k; omega, ?_⟩
    refine Imp.id (by show n ≤ nq + 3; omega) ?_ (impH.base0 okM (Nat.le_refl _) HExt.rfl)
    simp only [go_sem, Nat.reduceLT, hwk]
    (try (repeat' apply And.intro) <;> first | omega | rfl | trivial | assumption | skip)
  · rw [hmk, if_pos rfl] at hsu
    obtain ⟨un, uc, ur, uo⟩ := sV
    simp only at v4 v5 v6 v9
    subst v4 v5 v6
    generalize hXX : uselN P D k = X at *
    have v2' : jv < nq + 3 := by omega
    have nv : nq + 2 ≠ jv := by omega
    have nv3 : nq + 3 ≠ jv := by omega
    simp only [go_sem, Nat.reduceLT, Nat.reduceLeDiff, v3, v2, v2', nv, nv3]
    refine ⟨⟨v7, v8, by omega⟩, fun cap3 m1 m2 => ?_⟩
    have hdl : hdel ((nq + 2, (⟨(D.eraseIdx k).length * 3, both (k * 3) (both 0 Z (news s.c 0)) (news s.c o), true, some (48, cp2 * 3)⟩ : Seg)) :: hq) jv = (nq + 2, ⟨(D.eraseIdx k).length * 3, both (k * 3) (both 0 Z (news s.c 0)) (news s.c o), true, some (48, cp2 * 3)⟩) :: hdel hq jv := by rw [hdel, if_neg nv]
    obtain ⟨okN, exN, -⟩ := appI (a := (k : Int)) (n := n) (h := h) (nq := nq + 3) (jv := jv) (A := X) (sc := uc) (w := some (2, 1)) (c1 := upd (zrow (ti 2)) 0 (SV.int IntKind.i64 k)) (by omega) okM ex2 (by omega) rfl v9 m1 m2
    obtain ⟨-, -, spN⟩ := appI (a := (k : Int)) (n := n + 1) (h := []) (nq := nq + 3) (jv := jv) (A := X) (sc := uc) (w := some (2, 1)) (c1 := upd (zrow (ti 2)) 0 (SV.int IntKind.i64 k)) (by omega) okM (fun z hz t ht => by simp [hget] at ht) v1 rfl v9 m1 m2
    rw [hdl] at okN exN spN
    refine ⟨⟨(k + 1, _, nq + 5, .sl (nq + 4) 0 (X.length + 1) cap3), ⟨by show k + 1 ≤ D.length; omega, by show n + 1 ≤ nq + 5; omega, okN, exN, by
      show hget (_ :: _ :: _ :: hdel hq jv) n = _
      simp only [hget]; rw [if_neg (by omega), if_neg (by omega), if_neg (by omega), hget_hdel, if_neg (by omega)]; exact I.g0, by rw [hsu]; exact spN⟩⟩, by show D.length - (k + 1) < D.length - k; omega, ?_⟩
    refine Imp.id (by show n ≤ nq + 5; omega) ?_ (impH.base0 okN (Nat.le_refl _) HExt.rfl)
    simp only [go_sem, Nat.reduceLT, hwk]
    (try (repeat' apply And.intro) <;> first | omega | rfl | trivial | assumption | skip)
end
end Go.Proofs.YtcjgpkhdlobbbaaGreat.V

/- FnPeeled: drawn pictures: the walks. -/
namespace Go.Proofs.YtcjgpkhdlobbbaaGreat.V
theorem SrcM.trans {h h1 h2 : List (Nat × Seg)} {n n1 n2 i : Nat} {A : SV} {a d a' d' : Int} (m1 : SrcM h n i A h1 n1 a d) (m2 : SrcM h1 n1 i A h2 n2 a' d') : SrcM h n i A h2 n2 a' d' :=
  ⟨fun j hj hji t ht => m2.x j (by have := m1.le; omega) hji t (m1.x j hj hji t ht), by have := m1.le; have := m2.le; omega, m2.src, m2.ok⟩
theorem SrcM.del {h h1 : List (Nat × Seg)} {n n1 i k : Nat} {A : SV} {a d : Int} (m1 : SrcM h n i A h1 n1 a d) (hi : i < n) (hk : n ≤ k) : SrcM h n i A (hdel h1 k) n1 a d :=
  ⟨fun j hj hji t ht => by rw [hget_hdel, if_neg (by omega)]; exact m1.x j hj hji t ht, m1.le, by rw [hget_hdel, if_neg (by omega)]; exact m1.src, m1.ok.hdel⟩
/-- A list of drops to which one may append. -/
def DrO (h : List (Nat × Seg)) (lo n : Nat) (V : SV) (L : List Dr) : Prop :=
  ∃ j cap s, V = .sl j 0 L.length cap ∧ lo ≤ j ∧ j < n ∧ hget h j = some s ∧ s.own = some (48, cap * 3) ∧ s.rw = true ∧ s.n = L.length * 3 ∧ L.length ≤ cap ∧ cap ≤ maxLen ∧ ∀ k, k < L.length * 3 → s.c k = dropsC L k
theorem DrO.sl {h : List (Nat × Seg)} {lo n : Nat} {V : SV} {L : List Dr} (hA : DrO h lo n V L) : DrSl h lo n V L := by
  obtain ⟨i, cap, s, h1, h2, h3, h4, h5, h6, h7, h8, h9, h10⟩ := hA
  exact ⟨i, cap, s, h1, h2, h3, h4, h6, h7, h10⟩
/-- A list of drops that is not nil, and has as much room as it says. -/
def DrCp (h : List (Nat × Seg)) (lo n : Nat) (V : SV) (L : List Dr) : Prop :=
  ∃ i cap s, V = .sl i 0 L.length cap ∧ L.length ≤ cap ∧ lo ≤ i ∧ i < n ∧ hget h i = some s ∧ s.rw = true ∧ s.n = L.length * 3 ∧ ∀ k, k < L.length * 3 → s.c k = dropsC L k
theorem getD_mem {α : Type} {L : List α} {z : α} {j : Nat} (h : j < L.length) : L.getD j z ∈ L := by
  rw [List.getD_eq_getElem?_getD, List.getElem?_eq_getElem h]; exact List.getElem_mem h
theorem allN7_snoc (P : Pc) (L : List Dr) (d : Dr) : allN7 P (L ++ [d]) (L ++ [d]).length = dropS (allN7 P L L.length) d.1 d.2.1 d.2.2 := by
  have key : ∀ j, j ≤ L.length → allN7 P (L ++ [d]) j = allN7 P L j := fun j => by
    induction j with
    | zero => intro _; rfl
    | succ j ih =>
      intro hj
      show dropS (allN7 P (L ++ [d]) j) _ _ _ = dropS (allN7 P L j) _ _ _
      rw [ih (by omega)]
      have e : (L ++ [d]).getD j (0, 0, 0) = L.getD j (0, 0, 0) := by
        rw [List.getD_eq_getElem?_getD, List.getD_eq_getElem?_getD, List.getElem?_append_left (by omega)]
      rw [e]
  have e : (L ++ [d]).getD L.length (0, 0, 0) = d := by
    rw [List.getD_eq_getElem?_getD]; simp
  rw [show (L ++ [d]).length = L.length + 1 by simp]
  show dropS (allN7 P (L ++ [d]) L.length) _ _ _ = _
  rw [key L.length (Nat.le_refl _), e]
section
variable (cx : Cx) (h : List (Nat × Seg)) (n : Nat)
theorem plain7_E (i : Nat) (A : SV) (a d : Int) (hs : hget h i = some (srcS A a d)) (hi : i < n) (hA : BySl h n i A) (ha : 0 ≤ a ∧ a ≤ 1000) (K : HK)
    (hK : ∀ (W H : Nat) a' d' h' n', 1 ≤ W → W ≤ 5 → 1 ≤ H → H ≤ 4 → a ≤ a' → a' ≤ a + 2 → SrcM h n i A h' n' a' d' → K (.agg 66 (pcC ⟨W, H, fun _ _ => 0⟩)) h' n') :
    CallE Tryz.prog cx 58 [.ptr i 0] h n K := by
  refine CallE.hokE ?_
  refine callE_of_T (P := Tryz.prog) hti (nt := 14) (rs := [.cell 2 28]) rfl rfl Tryz.call58 Tryz.func58 rfl _ (by simp only [go_sem, and_self]) (Nat.le_of_ble_eq_true rfl) _ fun hok => ?_
  simp only [go_sem, Nat.reduceLT]
  have m1 : SrcM h n i A ((n, ⟨66, pcC pc0, true, none⟩) :: h) (n + 1) a d := (SrcM.mk HExtB.rfl (Nat.le_refl _) hs hok).cons hi fun k hk => (pcC_flat _ _).below _
  have r1 : hget ((n, ⟨66, pcC pc0, true, none⟩) :: h) n = some ⟨66, pcC pc0, true, none⟩ := by simp only [go_sem]
  generalize ((n, (⟨66, pcC pc0, true, none⟩ : Seg)) :: h) = h1 at *
  refine callA_false (pick_M _ m1 hi hA 5 (by omega) (by omega) _ fun wv a2 d2 h2 w0 w1 q1 q2 m2 e2 => ?_)
  have r2 := (e2 n (by omega)).trans r1
  obtain ⟨W, hWv⟩ : ∃ W : Nat, 1 + wv = W := ⟨(1 + wv).toNat, by omega⟩
  have hW64 : IntKind.i64.wrap (1 + wv) = (W : Int) := by rw [w64 (by omega)]; exact hWv
  simp only [go_sem, Nat.reduceLT, w8 (n := (W : Int)) (by omega), hW64]
  refine callA_false (pick_M _ m2 hi hA 4 (by omega) (by omega) _ fun hv a4 d4 h4 v0 v1 q3 q4 m4 e4 => ?_)
  have r4 := (e4 n (by omega)).trans r2
  obtain ⟨H, hHv⟩ : ∃ H : Nat, 1 + hv = H := ⟨(1 + hv).toNat, by omega⟩
  have hH64 : IntKind.i64.wrap (1 + hv) = (H : Int) := by rw [w64 (by omega)]; exact hHv
  have l4 : n < n + 1 := by omega
  simp only [go_sem, Nat.reduceLT, Nat.reduceLeDiff, reduceIte, w8 (n := (H : Int)) (by omega), hH64, r4, l4]
  exact fun hok' => hK W H a4 d4 _ (n + 1) (by omega) (by omega) (by omega) (by omega) (by omega) (by omega) (m4.setN hi (Nat.le_refl _) fun k hk => (pcC_flat _ _).below _)
theorem one7_E (i g : Nat) (A : SV) (a d : Int) (P : Pc) (W H : Nat) (hs : hget h i = some (srcS A a d)) (hi : i < n) (hA : BySl h n i A) (ha : 0 ≤ a ∧ a ≤ 1000) (hg : hget h g = some (pcS P)) (hgn : g < n) (hgi : g ≠ i) (hW : P.wide = W) (hH : P.high = H) (w1 : 1 ≤ W) (w2 : W ≤ 8) (h1 : 1 ≤ H) (h2 : H ≤ 8) (K : HK)
    (hK : ∀ (x y k : Int) a' d' h' n', 0 ≤ x → x < W → 0 ≤ y → y < H → 0 ≤ k → k < 3 → a ≤ a' → a' ≤ a + 3 → SrcM h n i A h' n' a' d' → K (dropV x y k) h' n') :
    CallE Tryz.prog cx 59 [.ptr i 0, .ptr g 0] h n K := by
  refine CallE.hokE ?_
  refine callE_of_T (P := Tryz.prog) hti (nt := 32) (rs := [.cell 4 48]) rfl rfl Tryz.call59 Tryz.func59 rfl _ (by simp only [go_sem, and_self]) (Nat.le_of_ble_eq_true rfl) _ fun hok => ?_
  simp only [go_sem, Nat.reduceLT, reduceCtorEq]
  have m1 : SrcM h n i A ((n, ⟨3, cl [.int .i8 0, .int .i8 0, .int .u8 0], true, none⟩) :: h) (n + 1) a d := (SrcM.mk HExtB.rfl (Nat.le_refl _) hs hok).cons hi fun k hk => by
    have hk : k < 3 := hk
    match k with
    | 0 => trivial
    | 1 => trivial
    | 2 => trivial
    | k + 3 => omega
  have r1 : hget ((n, ⟨3, cl [.int .i8 0, .int .i8 0, .int .u8 0], true, none⟩) :: h) n = some ⟨3, cl [.int .i8 0, .int .i8 0, .int .u8 0], true, none⟩ := by simp only [go_sem]
  have g1 : hget ((n, ⟨3, cl [.int .i8 0, .int .i8 0, .int .u8 0], true, none⟩) :: h) g = some (pcS P) := by simp only [hget]; rw [if_neg (by omega)]; exact hg
  generalize ((n, (⟨3, cl [.int .i8 0, .int .i8 0, .int .u8 0], true, none⟩ : Seg)) :: h) = h1 at *
  have lg : g < n + 1 := by omega
  have eW : max 1 (W : Int) = W := by omega
  have eH : max 1 (H : Int) = H := by omega
  simp only [go_sem, Nat.reduceLT, Nat.reduceLeDiff, g1, lg, hW, w64 (n := (W : Int)) (by omega)]
  refine (max7_Q _ _ _ _ _).A ?_
  simp only [go_sem, Nat.reduceLT, eW]
  refine callA_false (pick_M _ m1 hi hA W (by omega) (by omega) _ fun x a2 d2 h2 w0 w1 q1 q2 m2 e2 => ?_)
  have r2 := (e2 n (by omega)).trans r1
  have g2 := (e2 g hgi).trans g1
  simp only [go_sem, Nat.reduceLT, Nat.reduceLeDiff, reduceCtorEq, g2, lg, hH, w64 (n := (H : Int)) (by omega)]
  refine (max7_Q _ _ _ _ _).A ?_
  simp only [go_sem, Nat.reduceLT, eH]
  refine callA_false (pick_M _ m2 hi hA H (by omega) (by omega) _ fun y a3 d3 h3 y0 y1 q3 q4 m3 e3 => ?_)
  have r3 := (e3 n (by omega)).trans r2
  simp only [go_sem, Nat.reduceLT, Nat.reduceLeDiff, w8 (n := x) (by omega), w8 (n := y) (by omega)]
  refine callA_false (pick_M _ m3 hi hA 3 (by omega) (by omega) _ fun k a4 d4 h4 k0 k1 q5 q6 m4 e4 => ?_)
  have r4 := (e4 n (by omega)).trans r3
  have l4 : n < n + 1 := by omega
  simp only [go_sem, Nat.reduceLT, Nat.reduceLeDiff, Nat.reduceSub, reduceIte, wu8 (n := k) (by omega), r4, l4]
  exact fun hok' => hK x y k a4 d4 _ (n + 1) (by omega) (by omega) (by omega) (by omega) (by omega) (by omega) (by omega) (by omega) (m4.setN hi (Nat.le_refl _) fun z hz => by
    have hz : z < 3 := hz
    match z with
    | 0 => trivial
    | 1 => trivial
    | 2 => trivial
    | z + 3 => omega)
set_option maxHeartbeats 1600000 in
theorem made7_E (i : Nat) (A : SV) (a d : Int) (hs : hget h i = some (srcS A a d)) (hi : i < n) (hA : BySl h n i A) (ha : 0 ≤ a ∧ a ≤ 900) (K : HK)
    (hK : ∀ (W H : Nat) (D : List Dr) V a' d' h' n', 1 ≤ W → W ≤ 5 → 1 ≤ H → H ≤ 4 → D.length ≤ 3 → (∀ e ∈ D, e ∈ dropsL W H) → SrcM h n i A h' n' a' d' → DrCp h' n n' V D →
      K (.tup 2 (cl [.agg 66 (pcC (allN7 ⟨W, H, fun _ _ => 0⟩ D D.length)), V])) h' n') :
    CallE Tryz.prog cx 23 [.ptr i 0, .int .i64 3] h n K := by
  refine CallE.hokE ?_
  refine callE_of_T (P := Tryz.prog) hti (nt := 31) (rs := [.cell 4 28, .tmp 5]) rfl rfl Tryz.call23 Tryz.func23 rfl _ (by simp only [go_sem, and_self]) (Nat.le_of_ble_eq_true rfl) _ fun hok => ?_
  simp only [go_sem, Nat.reduceLT]
  have m0 : SrcM h n i A ((n, ⟨66, pcC pc0, true, none⟩) :: h) (n + 1) a d := (SrcM.mk HExtB.rfl (Nat.le_refl _) hs hok).cons hi fun k hk => (pcC_flat _ _).below _
  have r0 : hget ((n, ⟨66, pcC pc0, true, none⟩) :: h) n = some ⟨66, pcC pc0, true, none⟩ := by simp only [go_sem]
  generalize ((n, (⟨66, pcC pc0, true, none⟩ : Seg)) :: h) = h0 at *
  refine callA_false (plain7_E _ h0 (n + 1) i A a d m0.src (by omega) (hA.upB m0.le m0.x) (by omega) _ fun W H a1 d1 h1 n1 w1 w2 w3 w4 q1 q2 mm1 => ?_)
  have m1 := m0.trans mm1
  have hn1 := mm1.le
  have r1 := mm1.x n (by omega) (by omega) _ r0
  have ln1 : n < n1 := by omega
  simp only [go_sem, Nat.reduceLT, Nat.reduceMul, reduceIte, Int.reduceLE, Int.reduceLT, Int.reduceNeg, Int.reduceAdd]
  generalize hZ : zrow _ = Z
  have m2 : SrcM h n i A ((n1 + 1, ⟨0, Z, true, some (48, 0)⟩) :: (n1, ⟨66, pcC ⟨W, H, fun _ _ => 0⟩, true, none⟩) :: h1) (n1 + 2) a1 d1 := (m1.cons hi fun k hk => (pcC_flat _ _).below _).cons hi fun k hk => absurd hk (Nat.not_lt_zero k)
  have r2 : hget ((n1 + 1, ⟨0, Z, true, some (48, 0)⟩) :: (n1, ⟨66, pcC ⟨W, H, fun _ _ => 0⟩, true, none⟩) :: h1) n = some ⟨66, pcC pc0, true, none⟩ := by simp only [hget]; rw [if_neg (by omega), if_neg (by omega)]; exact r1
  have g2 : hget ((n1 + 1, ⟨0, Z, true, some (48, 0)⟩) :: (n1, ⟨66, pcC ⟨W, H, fun _ _ => 0⟩, true, none⟩) :: h1) n1 = some (pcS ⟨W, H, fun _ _ => 0⟩) := by simp only [go_sem]
  have o2 : DrO ((n1 + 1, ⟨0, Z, true, some (48, 0)⟩) :: (n1, ⟨66, pcC ⟨W, H, fun _ _ => 0⟩, true, none⟩) :: h1) (n1 + 1) (n1 + 2) (.sl (n1 + 1) 0 0 0) [] := ⟨n1 + 1, 0, _, rfl, Nat.le_refl _, by omega, hget_hit _ _ _, rfl, rfl, rfl, Nat.le_refl _, Nat.zero_le _, fun k hk => absurd hk (Nat.not_lt_zero k)⟩
  generalize ((n1 + 1, (⟨0, Z, true, some (48, 0)⟩ : Seg)) :: (n1, ⟨66, pcC ⟨W, H, fun _ _ => 0⟩, true, none⟩) :: h1) = h2 at *
  refine callA_false (pick_M _ m2 hi hA 4 (by omega) (by omega) _ fun kv a3 d3 h3 k0 k1 q3 q4 m3 e3 => ?_)
  have r3 := (e3 n (by omega)).trans r2
  have g3 := (e3 n1 (by omega)).trans g2
  have o3 : DrO h3 (n1 + 1) (n1 + 2) (.sl (n1 + 1) 0 0 0) [] := by
    obtain ⟨j, cap, s, e1, v1, v2, v3, v4⟩ := o2
    exact ⟨j, cap, s, e1, v1, v2, (e3 j (by omega)).trans v3, v4⟩
  obtain ⟨k, hk⟩ : ∃ k : Nat, kv = k := ⟨kv.toNat, by omega⟩
  subst hk
  simp only [go_sem, Nat.reduceLT]
  have hb : PcR ⟨W, H, fun _ _ => 0⟩ ∧ PcOk ⟨W, H, fun _ _ => 0⟩ := ⟨⟨by show -128 ≤ (W : Int) ∧ (W : Int) < 128; omega, by show -128 ≤ (H : Int) ∧ (H : Int) < 128; omega, fun _ _ => by show (0 : Int) ≤ 0 ∧ (0 : Int) < 256; omega⟩, by show 1 ≤ (W : Int) ∧ (W : Int) ≤ 8 ∧ 1 ≤ (H : Int) ∧ (H : Int) ≤ 8; omega, fun y x _ _ _ _ => ⟨by show (0 : Int) ≤ 3; omega, fun hz => absurd hz (by show ¬ (0 : Int) < 0; omega)⟩⟩
  refine T_lp (ι := { w : (Nat × List Dr) × List (Nat × Seg) × Nat × SV × Int × Int // w.1.2.length + w.1.1 ≤ 3 ∧ (∀ e ∈ w.1.2, e ∈ dropsL W H) ∧ SrcM h n i A w.2.1 w.2.2.1 w.2.2.2.2.1 w.2.2.2.2.2 ∧ n1 + 2 ≤ w.2.2.1 ∧ hget w.2.1 n = some ⟨66, pcC pc0, true, none⟩ ∧
      hget w.2.1 n1 = some (pcS (allN7 ⟨W, H, fun _ _ => 0⟩ w.1.2 w.1.2.length)) ∧ DrO w.2.1 (n1 + 1) w.2.2.1 w.2.2.2.1 w.1.2 ∧ 0 ≤ w.2.2.2.2.1 ∧ w.2.2.2.2.1 + 3 * w.1.1 ≤ 950 })
    (fun w => ([(0, .ptr i 0), (4, .ptr n 0), (6, .ptr n1 0), (7, w.1.2.2.2.1), (8, .int .i64 w.1.1.1)], w.1.2.1, w.1.2.2.1)) (fun w => w.1.1.1)
    ⟨((k, []), h3, n1 + 2, .sl (n1 + 1) 0 0 0, a3, d3), by show 0 + k ≤ 3; omega, (fun e he => by cases he), m3, Nat.le_refl _, r3, g3, o3, by show 0 ≤ a3; omega, by show a3 + 3 * (k : Int) ≤ 950; omega⟩ ?_ ?_
  · refine Imp.id (by show n ≤ n1 + 2; omega) ?_ (impH.base0 m3.ok (Nat.le_refl _) HExt.rfl)
    simp only [go_sem, Nat.reduceLT]
    (try (repeat' apply And.intro) <;> first | omega | rfl | trivial | assumption | skip)
  rintro ⟨⟨⟨k, L⟩, hq, nq, V, aq, dq⟩, hlk, hLm, mq, hnq, rq, gq, oq, ha1, ha2⟩
  simp only at hlk hLm mq hnq rq gq oq ha1 ha2
  have lnq : n < nq := by omega
  have lg : n1 < nq := by omega
  obtain ⟨jv, capV, ⟨sn, sc, sr, so⟩, rfl, v1, v2, v3, v4, v5, v6, v7, v8, v9⟩ := oq
  simp only at v4 v5 v6 v9
  subst v4 v5 v6
  simp only [go_sem, Nat.reduceLT, decide_eq_true_eq, decide_eq_false_iff_not]
  refine ⟨fun h1 => ?_, fun h1 => ?_⟩
  rotate_left
  · have hk0 : k = 0 := by omega
    simp only [go_sem, Nat.reduceLT, reduceIte, gq, rq, lnq, lg]
    exact fun hok' => hK W H L (.sl jv 0 L.length capV) aq dq _ nq (by omega) (by omega) (by omega) (by omega) (by omega) hLm (mq.setN hi (Nat.le_refl _) fun k hk => (pcC_flat _ _).below _) ⟨jv, capV, _, rfl, v7, by omega, v2, by rw [hget_hset, if_neg (by omega)]; exact v3, rfl, rfl, v9⟩
  have hall := allN7_ok hb.1 hb.2 (D := L) (drR_in hb.1 hb.2 rfl rfl hLm) L.length (Nat.le_refl _) (fun q hq => (drop_can hb.1 hb.2 rfl rfl (hLm _ (getD_mem hq))).1)
  refine callA_false (one7_E _ hq nq i n1 A aq dq (allN7 ⟨W, H, fun _ _ => 0⟩ L L.length) W H mq.src (by omega) (hA.upB mq.le mq.x) (by omega) gq lg (by omega) hall.2.2.1 hall.2.2.2 (by omega) (by omega) (by omega) (by omega) _ fun x y z a4 d4 h4 n4 x0 x1 y0 y1 z0 z1 q5 q6 mm4 => ?_)
  have hdm : (x, y, z) ∈ dropsL W H := by
    have := dropsL_mem (W := W) (H := H) (x := x.toNat) (y := y.toNat) (k := z.toNat) (by omega) (by omega) (by omega)
    rwa [Int.toNat_of_nonneg x0, Int.toNat_of_nonneg y0, Int.toNat_of_nonneg z0] at this
  have hLm' : ∀ e ∈ L ++ [(x, y, z)], e ∈ dropsL W H := fun e he => by
    rcases List.mem_append.1 he with he | he
    · exact hLm e he
    · rw [List.mem_singleton.1 he]; exact hdm
  have m4 := mq.trans mm4
  have hn4 := mm4.le
  have r4 := mm4.x n (by omega) (by omega) _ rq
  have g4 := mm4.x n1 (by omega) (by omega) _ gq
  have j4 := mm4.x jv v2 (by omega) _ v3
  have ljv : jv < n4 + 1 := by omega
  have njv : n4 ≠ jv := by omega
  have njv1 : n4 + 1 ≠ jv := by omega
  have jm : ∀ t : Seg, hget ((n4, t) :: h4) jv = hget h4 jv := fun t => by simp only [hget]; rw [if_neg njv]
  have jd : ∀ t : Seg, hdel ((n4, t) :: h4) jv = (n4, t) :: hdel h4 jv := fun t => by rw [hdel, if_neg njv]
  simp only [go_sem, Nat.reduceLT, Nat.reduceLeDiff, Nat.reduceMul, Nat.reduceSub, Nat.reduceMod, reduceIte, jm, jd, j4, ljv, njv, njv1]
  refine ⟨⟨v7, v8, by omega⟩, fun cap' c1 c2 => ?_⟩
  have hc := allN7_ok hb.1 hb.2 (D := L ++ [(x, y, z)]) (drR_in hb.1 hb.2 rfl rfl hLm') (L ++ [(x, y, z)]).length (Nat.le_refl _) (fun q hq => (drop_can hb.1 hb.2 rfl rfl (hLm' _ (getD_mem hq))).1)
  have hbo : ∀ (C : Nat → SV), C 0 = .int .i8 x → C 1 = .int .i8 y → C 2 = .int .u8 z → ∀ q, q < (L.length + 1) * 3 → both (L.length * 3) sc (news C 0) q = dropsC (L ++ [(x, y, z)]) q := fun C c0 c1 c2 q hq => by
    rw [← both_drop L (x, y, z) C c0 c1 c2 hq]
    unfold both
    split
    · rename_i hq2; exact v9 q hq2
    · rfl
  have f3 : ∀ (C : Nat → SV), C 0 = .int .i8 x → C 1 = .int .i8 y → C 2 = .int .u8 z → ∀ q, q < 3 → (C q).flat := fun C c0 c1 c2 q hq => by
    rcases (by omega : q = 0 ∨ q = 1 ∨ q = 2) with rfl | rfl | rfl
    · rw [c0]; trivial
    · rw [c1]; trivial
    · rw [c2]; trivial
  generalize hC : (fun j : Nat => if j < 3 then cl [SV.int .i8 x, SV.int .i8 y, SV.int .u8 z] (j - 0) else cl [SV.int .i8 0, SV.int .i8 0, SV.int .u8 0] (j % 3)) = C
  have C0 : C 0 = .int .i8 x := by rw [← hC]; rfl
  have C1 : C 1 = .int .i8 y := by rw [← hC]; rfl
  have C2 : C 2 = .int .u8 z := by rw [← hC]; rfl
  have hcell := hbo C C0 C1 C2
  have hfl := f3 C C0 C1 C2
  have m5 : SrcM h n i A ((n4 + 2, ⟨(L.length + 1) * 3, both (L.length * 3) sc (news C 0), true, some (48, cap' * 3)⟩) :: (n4 + 1, ⟨3, C, true, some (48, 3)⟩) :: (n4, ⟨3, cl [SV.int .i8 x, SV.int .i8 y, SV.int .u8 z], true, none⟩) :: hdel h4 jv) (n4 + 3) a4 d4 :=
    (((m4.del hi (by omega)).cons hi (f3 (cl [SV.int .i8 x, SV.int .i8 y, SV.int .u8 z]) rfl rfl rfl · · |>.below _)).cons hi (fun q hq => (hfl q hq).below _)).cons hi fun q hq => by
      show (both (L.length * 3) sc (news C 0) q).lt _
      rw [hcell q hq]; exact (dropsC_flat _ _).below _
  have jn : jv ≠ n := by omega
  have jn1 : jv ≠ n1 := by omega
  have r5 : hget ((n4 + 2, ⟨(L.length + 1) * 3, both (L.length * 3) sc (news C 0), true, some (48, cap' * 3)⟩) :: (n4 + 1, ⟨3, C, true, some (48, 3)⟩) :: (n4, ⟨3, cl [SV.int .i8 x, SV.int .i8 y, SV.int .u8 z], true, none⟩) :: hdel h4 jv) n = some ⟨66, pcC pc0, true, none⟩ := by
    simp only [hget]; rw [if_neg (by omega), if_neg (by omega), if_neg (by omega), hget_hdel, if_neg jn]; exact r4
  have g5 : hget ((n4 + 2, ⟨(L.length + 1) * 3, both (L.length * 3) sc (news C 0), true, some (48, cap' * 3)⟩) :: (n4 + 1, ⟨3, C, true, some (48, 3)⟩) :: (n4, ⟨3, cl [SV.int .i8 x, SV.int .i8 y, SV.int .u8 z], true, none⟩) :: hdel h4 jv) n1 = some (pcS (allN7 ⟨W, H, fun _ _ => 0⟩ L L.length)) := by
    simp only [hget]; rw [if_neg (by omega), if_neg (by omega), if_neg (by omega), hget_hdel, if_neg jn1]; exact g4
  have o5 : DrO ((n4 + 2, ⟨(L.length + 1) * 3, both (L.length * 3) sc (news C 0), true, some (48, cap' * 3)⟩) :: (n4 + 1, ⟨3, C, true, some (48, 3)⟩) :: (n4, ⟨3, cl [SV.int .i8 x, SV.int .i8 y, SV.int .u8 z], true, none⟩) :: hdel h4 jv) (n1 + 1) (n4 + 3) (.sl (n4 + 2) 0 (L.length + 1) cap') (L ++ [(x, y, z)]) :=
    ⟨n4 + 2, cap', _, by rw [List.length_append]; rfl, by omega, by omega, hget_hit _ _ _, rfl, rfl, by rw [List.length_append]; rfl, by rw [List.length_append]; exact c1, c2, fun q hq => hcell q (by rw [List.length_append] at hq; exact hq)⟩
  generalize ((n4 + 2, (⟨(L.length + 1) * 3, both (L.length * 3) sc (news C 0), true, some (48, cap' * 3)⟩ : Seg)) :: (n4 + 1, ⟨3, C, true, some (48, 3)⟩) :: (n4, ⟨3, cl [SV.int .i8 x, SV.int .i8 y, SV.int .u8 z], true, none⟩) :: hdel h4 jv) = h5 at *
  refine callA_false (drop72_E _ h5 (n4 + 3) n1 (allN7 ⟨W, H, fun _ _ => 0⟩ L L.length) x y z g5 (by omega) hall.1 hall.2.1 x0 (by rw [hall.2.2.1]; exact x1) y0 (by rw [hall.2.2.2]; exact y1) ⟨z0, z1⟩ _ ?_)
  simp only [go_sem, Nat.reduceLT]
  have m6 : SrcM h n i A (hset h5 n1 (pcS (dropS (allN7 ⟨W, H, fun _ _ => 0⟩ L L.length) x y z))) (n4 + 3) a4 d4 := m5.setN hi (by omega) fun k hk => (pcC_flat _ _).below _
  refine ⟨⟨((k - 1, L ++ [(x, y, z)]), hset h5 n1 (pcS (dropS (allN7 ⟨W, H, fun _ _ => 0⟩ L L.length) x y z)), n4 + 3, .sl (n4 + 2) 0 (L.length + 1) cap', a4, d4), ?_, hLm', m6, by show n1 + 2 ≤ n4 + 3; omega, by rw [hget_hset, if_neg (by omega)]; exact r5, ?_, ?_, by show 0 ≤ a4; omega, by show a4 + 3 * ((k - 1 : Nat) : Int) ≤ 950; omega⟩, by show k - 1 < k; omega, ?_⟩
  · show (L ++ [(x, y, z)]).length + (k - 1) ≤ 3
    rw [List.length_append, List.length_singleton]; omega
  · show hget (hset h5 n1 _) n1 = some (pcS (allN7 ⟨W, H, fun _ _ => 0⟩ (L ++ [(x, y, z)]) (L ++ [(x, y, z)]).length))
    rw [allN7_snoc]
    exact hget_hset_self g5 _
  · obtain ⟨j, cap, s, e1, u1, u2, u3, u4⟩ := o5
    exact ⟨j, cap, s, e1, u1, u2, by rw [hget_hset, if_neg (by omega)]; exact u3, u4⟩
  refine Imp.id (by show n ≤ n4 + 3; omega) ?_ (impH.base0 m6.ok (Nat.le_refl _) HExt.rfl)
  simp only [go_sem, Nat.reduceLT, w64 (n := (k : Int) - 1) (by omega), show ((k - 1 : Nat) : Int) = (k : Int) - 1 by omega]
  (repeat' apply And.intro) <;> first | omega | rfl | trivial | assumption | skip
end
end Go.Proofs.YtcjgpkhdlobbbaaGreat.V

/- FnPeeled: pictures from bytes: the walks. -/
namespace Go.Proofs.YtcjgpkhdlobbbaaGreat.V
section
variable (cx : Cx) (h : List (Nat × Seg)) (n : Nat)
theorem p6made_E (A : SV) (hA : BySl h n n A) (K : HK)
    (hK : ∀ (W H : Nat) (D : List Dr) V h' n', 1 ≤ W → W ≤ 5 → 1 ≤ H → H ≤ 4 → D.length ≤ 3 → (∀ e ∈ D, e ∈ dropsL W H) → n ≤ n' → HExt n h h' → HOk n' h' → DrCp h' n n' V D →
      K (.tup 2 (cl [.agg 66 (pcC (allN7 ⟨W, H, fun _ _ => 0⟩ D D.length)), V])) h' n') :
    CallE Tryz.prog cx 5 [A] h n K := by
  have hAo := hA.ok
  refine callE_of_T (P := Tryz.prog) hti (nt := 9) (rs := [.cell 2 28, .tmp 3]) rfl rfl Tryz.call5 Tryz.func5 rfl _ (by first | (simp only [go_sem, hAo]; done) | (simp only [go_sem, hAo, hBo]; done)) (Nat.le_of_ble_eq_true rfl) _ fun hok => ?_
  simp only [go_sem, Nat.reduceLT, hAo]
  have ok1 : HOk (n + 1) ((n, ⟨66, pcC pc0, true, none⟩) :: h) := hok.consF fun k hk => pcC_flat _ _
  have x1 : HExt n h ((n, ⟨66, pcC pc0, true, none⟩) :: h) := by simp only [go_sem, HExt_cons]
  have hA1 := hA.up (n' := n + 1) (i' := n + 1) (by omega) x1 (by omega)
  refine callA_false (srcFrom_E _ _ _ A hA1.arg _ ok1 ?_)
  simp only [go_sem, Nat.reduceLT]
  refine callA_false (made7_E _ _ _ (n + 1) A 0 0 (by simp only [go_sem]) (by omega) (hA.up (by omega) (by simp only [go_sem, HExt_cons]) (by omega)) (by omega) _ fun W H D V a' d' h' n' w1 w2 w3 w4 hD hDm hm hV => ?_)
  have hn' := hm.le
  have g0 : hget h' n = some ⟨66, pcC pc0, true, none⟩ := hm.x n (by omega) (by omega) _ (by simp only [go_sem])
  have l0 : n < n' := by omega
  obtain ⟨iv, cap, s, rfl, u0, u1, u2, u3, u4⟩ := hV
  simp only [go_sem, Nat.reduceLT, reduceIte, g0, l0]
  refine hK W H D _ _ n' w1 w2 w3 w4 hD hDm (by omega) ?_ (HOk.hset hm.ok fun k hk => (pcC_flat _ _).below _) ⟨iv, cap, s, rfl, u0, by omega, u2, by rw [hget_hset, if_neg (by omega)]; exact u3, u4⟩
  intro j hj t ht
  rw [hget_hset, if_neg (by omega)]
  exact hm.x j (by omega) (by omega) t (by simp only [hget]; rw [if_neg (by omega), if_neg (by omega)]; exact ht)
set_option maxHeartbeats 1600000 in
theorem p6any_E (A : SV) (W H : Nat) (hA : BySl h n n A) (w1 : 1 ≤ W) (w2 : W ≤ 8) (h1 : 1 ≤ H) (h2 : H ≤ 8) (K : HK)
    (hK : ∀ (P : Pc) h' n', P.wide = W → P.high = H → PcR P → PcOk P → n ≤ n' → HExt n h h' → HOk n' h' → K (.agg 66 (pcC P)) h' n') :
    CallE Tryz.prog cx 22 [A, .int .i8 W, .int .i8 H] h n K := by
  have hAo := hA.ok
  refine CallE.hokE ?_
  refine callE_of_T (P := Tryz.prog) hti (nt := 35) (rs := [.cell 6 28]) rfl rfl Tryz.call22 Tryz.func22 rfl _ (by first | (simp only [go_sem, hAo]; done) | (simp only [go_sem, hAo, hBo]; done)) (Nat.le_of_ble_eq_true rfl) _ fun hok => ?_
  simp only [go_sem, Nat.reduceLT, hAo]
  have ok1 : HOk (n + 1) ((n, ⟨66, pcC pc0, true, none⟩) :: h) := hok.consF fun k hk => pcC_flat _ _
  have x1 : HExt n h ((n, ⟨66, pcC pc0, true, none⟩) :: h) := by simp only [go_sem, HExt_cons]
  have hA1 := hA.up (n' := n + 1) (i' := n + 1) (by omega) x1 (by omega)
  refine callA_false (srcFrom_E _ _ _ A hA1.arg _ ok1 ?_)
  simp only [go_sem, Nat.reduceLT, Nat.reduceLeDiff, reduceIte]
  have mb : SrcM ((n + 1, srcS A 0 0) :: (n, ⟨66, pcC pc0, true, none⟩) :: h) (n + 2) (n + 1) A ((n + 2, ⟨66, pcC ⟨W, H, pc0.ink⟩, true, none⟩) :: (n + 1, srcS A 0 0) :: (n, ⟨66, pcC pc0, true, none⟩) :: h) (n + 3) 0 0 := by
    refine (SrcM.mk HExtB.rfl (Nat.le_refl _) (hget_hit _ _ _) ?_).cons (by omega) fun k hk => (pcC_flat _ _).below _
    exact fun j t ht => by
      simp only [hget] at ht
      split at ht
      · rename_i e; cases ht; exact ⟨by omega, fun k hk => srcS_lt (SV.lt_mono (by omega) _ hA.lt) k hk⟩
      · have := ok1 j t (by simp only [hget]; exact ht)
        exact ⟨by omega, fun k hk => SV.lt_mono (by omega) _ (this.2 k hk)⟩
  have hAb : BySl ((n + 1, srcS A 0 0) :: (n, ⟨66, pcC pc0, true, none⟩) :: h) (n + 2) (n + 1) A := hA.up (by omega) (by simp only [go_sem, HExt_cons]) (by omega)
  have rb : hget ((n + 2, ⟨66, pcC ⟨W, H, pc0.ink⟩, true, none⟩) :: (n + 1, srcS A 0 0) :: (n, ⟨66, pcC pc0, true, none⟩) :: h) n = some ⟨66, pcC pc0, true, none⟩ := by simp only [go_sem]
  have gb : hget ((n + 2, ⟨66, pcC ⟨W, H, pc0.ink⟩, true, none⟩) :: (n + 1, srcS A 0 0) :: (n, ⟨66, pcC pc0, true, none⟩) :: h) (n + 2) = some (pcS ⟨W, H, pc0.ink⟩) := by simp only [go_sem]
  have hxb : HExt n h ((n + 1, srcS A 0 0) :: (n, ⟨66, pcC pc0, true, none⟩) :: h) := by simp only [go_sem, HExt_cons]
  generalize ((n + 2, (⟨66, pcC ⟨W, H, pc0.ink⟩, true, none⟩ : Seg)) :: (n + 1, srcS A 0 0) :: (n, ⟨66, pcC pc0, true, none⟩) :: h) = h0 at *
  generalize ((n + 1, srcS A 0 0) :: (n, (⟨66, pcC pc0, true, none⟩ : Seg)) :: h) = hb at *
  have hP0 : PcR ⟨W, H, pc0.ink⟩ ∧ PcOk ⟨W, H, pc0.ink⟩ := ⟨⟨by show -128 ≤ (W : Int) ∧ (W : Int) < 128; omega, by show -128 ≤ (H : Int) ∧ (H : Int) < 128; omega, fun _ _ => by show (0 : Int) ≤ 0 ∧ (0 : Int) < 256; omega⟩, by show 1 ≤ (W : Int) ∧ (W : Int) ≤ 8 ∧ 1 ≤ (H : Int) ∧ (H : Int) ≤ 8; omega, fun y x _ _ _ _ => ⟨by show (0 : Int) ≤ 3; omega, fun hz => absurd hz (by show ¬ (0 : Int) < 0; omega)⟩⟩
  have lt0 : n < n + 3 := by omega
  have lt2 : n + 2 < n + 3 := by omega
  refine T_lp (ι := { w : Nat × List (Nat × Seg) × Pc × Int × Int // w.1 ≤ H ∧ SrcM hb (n + 2) (n + 1) A w.2.1 (n + 3) w.2.2.2.1 w.2.2.2.2 ∧ hget w.2.1 n = some ⟨66, pcC pc0, true, none⟩ ∧ hget w.2.1 (n + 2) = some (pcS w.2.2.1) ∧ w.2.2.1.wide = W ∧ w.2.2.1.high = H ∧ PcR w.2.2.1 ∧ PcOk w.2.2.1 ∧ 0 ≤ w.2.2.2.1 ∧ w.2.2.2.1 ≤ 8 * w.1 })
    (fun w => ([(1, .int .i8 W), (2, .int .i8 H), (6, .ptr n 0), (7, .ptr (n + 1) 0), (8, .ptr (n + 2) 0), (9, .int .i8 w.1.1)], w.1.2.1, n + 3)) (fun w => H - w.1.1)
    ⟨(0, h0, ⟨W, H, pc0.ink⟩, 0, 0), Nat.zero_le _, mb, rb, gb, rfl, rfl, hP0.1, hP0.2, Int.le_refl _, Int.le_refl _⟩ ?_ ?_
  · refine Imp.id (by show n ≤ n + 3; omega) ?_ (impH.base0 mb.ok (Nat.le_refl _) HExt.rfl)
    simp only [go_sem, Nat.reduceLT]
    (try (repeat' apply And.intro) <;> first | omega | rfl | trivial | assumption | skip)
  rintro ⟨⟨y, hq, P, aq, dq⟩, hy, mq, rq, gq, hW, hH, hR, hP, a1, a2⟩
  simp only at hy mq rq gq hW hH hR hP a1 a2
  simp only [go_sem, Nat.reduceLT, decide_eq_true_eq, decide_eq_false_iff_not]
  refine ⟨fun hy1 => ?_, fun hy1 => ?_⟩
  rotate_left
  · simp only [go_sem, Nat.reduceLT, reduceIte, gq, rq, lt0, lt2]
    refine fun hok' => hK P _ (n + 3) hW hH hR hP (by omega) ?_ (HOk.hset mq.ok fun k hk => (pcC_flat _ _).below _)
    intro j hj t ht
    rw [hget_hset, if_neg (by omega)]
    exact mq.x j (by omega) (by omega) t (hxb j hj t ht)
  refine T_lp (ι := { w : Nat × List (Nat × Seg) × Pc × Int × Int // w.1 ≤ W ∧ SrcM hb (n + 2) (n + 1) A w.2.1 (n + 3) w.2.2.2.1 w.2.2.2.2 ∧ hget w.2.1 n = some ⟨66, pcC pc0, true, none⟩ ∧ hget w.2.1 (n + 2) = some (pcS w.2.2.1) ∧ w.2.2.1.wide = W ∧ w.2.2.1.high = H ∧ PcR w.2.2.1 ∧ PcOk w.2.2.1 ∧ 0 ≤ w.2.2.2.1 ∧ w.2.2.2.1 ≤ 8 * y + w.1 })
    (fun w => ([(1, .int .i8 W), (2, .int .i8 H), (6, .ptr n 0), (7, .ptr (n + 1) 0), (8, .ptr (n + 2) 0), (9, .int .i8 y), (10, .int .i8 w.1.1)], w.1.2.1, n + 3)) (fun w => W - w.1.1)
    ⟨(0, hq, P, aq, dq), Nat.zero_le _, mq, rq, gq, hW, hH, hR, hP, a1, by show aq ≤ 8 * (y : Int) + ((0 : Nat) : Int); omega⟩ ?_ ?_
  · refine Imp.id (by show n ≤ n + 3; omega) ?_ (impH.base0 mq.ok (Nat.le_refl _) HExt.rfl)
    simp only [go_sem, Nat.reduceLT]
    (try (repeat' apply And.intro) <;> first | omega | rfl | trivial | assumption | skip)
  rintro ⟨⟨x, hx, Q, ax, dx⟩, hxW, mx, rx, gx, hW2, hH2, hR2, hP2, b1, b2⟩
  simp only at hxW mx rx gx hW2 hH2 hR2 hP2 b1 b2
  simp only [go_sem, Nat.reduceLT, decide_eq_true_eq, decide_eq_false_iff_not]
  refine ⟨fun hx1 => ?_, fun hx1 => ?_⟩
  rotate_left
  · refine ⟨⟨(y + 1, hx, Q, ax, dx), by show y + 1 ≤ H; omega, mx, rx, gx, hW2, hH2, hR2, hP2, b1, by show ax ≤ 8 * ((y + 1 : Nat) : Int); omega⟩, by show H - (y + 1) < H - y; omega, ?_⟩
    refine Imp.id (by show n ≤ n + 3; omega) ?_ (impH.base0 mx.ok (Nat.le_refl _) HExt.rfl)
    simp only [go_sem, Nat.reduceLT, w8 (n := (y : Int) + 1) (by omega), Int.natCast_add, Int.natCast_one]
    (try (repeat' apply And.intro) <;> first | omega | rfl | trivial | assumption | skip)
  have c1 : (0 : Int) ≤ (x : Int) ∧ (x : Int) < 8 := ⟨by omega, by omega⟩
  have c3 : (0 : Int) ≤ (y : Int) ∧ (y : Int) < 8 := ⟨by omega, by omega⟩
  refine T_drawG hti 9 [3, 8] (.b 0 0 (.b 0 1 (.b 0 2 (.b 0 5 (.b 0 6 (.b 4 3 (.b 0 4 (.b 0 7 (.b 4 8 (.f) .o) .o) .o) .o) .o) .o) .o) .o) .o) _ _ (by kernel_rfl) (by kernel_rfl) ?_
  simp only [go_sem, Nat.reduceLT, reduceCtorEq, c3]
  refine callA_false (pick_M _ mx (by omega) hAb 4 (by omega) (by omega) _ fun v a2' d2 h2 v0 v1 q1 q2 m2 e2 => ?_)
  have r2 := (e2 n (by omega)).trans rx
  have g2 := (e2 (n + 2) (by omega)).trans gx
  have d3 : 2 + y * 8 + x ≤ 65 := by omega
  have hset2 : upd (pcC Q) (2 + y * 8 + x) (.int .u8 v) = pcC (Q.setInk y x v) := by
    have := pcC_setInk Q (y : Int) (x : Int) v c3.1 c3.2 c1.1 c1.2
    simpa using this
  simp only [go_sem, Nat.reduceLT, Nat.reduceLeDiff, Nat.reduceEqDiff, reduceIte, c1, c3, g2, lt2, d3, hset2, wu8 (n := v) (by omega)]
  have hv3 : v ≤ 3 := by omega
  have m3 : SrcM hb (n + 2) (n + 1) A (hset h2 (n + 2) (pcS (Q.setInk y x v))) (n + 3) a2' d2 := m2.setN (by omega) (by omega) fun k hk => (pcC_flat _ _).below _
  refine ⟨⟨(x + 1, hset h2 (n + 2) (pcS (Q.setInk y x v)), Q.setInk y x v, a2', d2), by show x + 1 ≤ W; omega, m3, by rw [hget_hset, if_neg (by omega)]; exact r2, hget_hset_self g2 _, hW2, hH2, hR2.setInk (by omega), hP2.setInk hv3 (by rw [hW2]; omega) (by rw [hH2]; omega), by show 0 ≤ a2'; omega, by show a2' ≤ 8 * (y : Int) + ((x + 1 : Nat) : Int); omega⟩, by show W - (x + 1) < W - x; omega, ?_⟩
  refine Imp.id (by show n ≤ n + 3; omega) ?_ (impH.base0 m3.ok (Nat.le_refl _) HExt.rfl)
  simp only [go_sem, Nat.reduceLT, w8 (n := (x : Int) + 1) (by omega), Int.natCast_add, Int.natCast_one]
  (try (repeat' apply And.intro) <;> first | omega | rfl | trivial | assumption | skip)
end
end Go.Proofs.YtcjgpkhdlobbbaaGreat.V

/- The fewest drops: the program's walk; the law. -/
namespace Go.Proofs.YtcjgpkhdlobbbaaGreat.V
@[go_sem] theorem mkAgg_69 (F : Nat → SV) : mkAgg 69 F = .agg 69 F := rfl
theorem pl_le {σ : Nat → Nat} {i n' : Nat} {s : Seg} {O : Gr} {t b : Int} {sp : Bool} (hn : s.n = 69) (hrw : s.rw = true) (hc : ∀ k, k < 69 → s.c k = plC (.ptr i 0) O .nils t b sp k) (hσ : σ i = i) (hi : i < n') : SegLe σ n' s (plS i O .nils t b sp) :=
  SegLe.mk' (by rw [hn]; exact Nat.le_refl _) (fun _ => hrw) (.inl rfl) (fun k hk => by
    rw [hc k hk]
    show _ = ren σ (plC (.ptr i 0) O .nils t b sp k)
    unfold plC pelC
    split
    · split
      · rw [ren_ptr, hσ]
      · rfl
    · match k - 65 with
      | 0 => rfl
      | 1 => rfl
      | 2 => rfl
      | 3 => rfl
      | _ + 4 => rfl) fun k hk => plC_lt (V := .nils) _ _ _ _ hi trivial k
section
variable (cx : Cx) (h : List (Nat × Seg)) (n : Nat)
theorem reverseNil_E (K : HK) (hK : K (.tup 0 (cl [])) h n) :
    CallE Tryz.prog cx 32 [.nils] h n K := by
  refine CallE.to _ _ (by simp only [go_sem]) (fun hok => hok) hK ?_
  refine callE_of_T (P := Tryz.prog) hti (nt := 28) (rs := []) rfl rfl Tryz.call32 Tryz.func32 rfl _ (by simp only [go_sem, and_self]) (Nat.le_of_ble_eq_true rfl) _ fun hok => ?_
  simp only [go_sem, Nat.reduceLT, Int.reduceLE, Int.reduceLT, Int.reduceNeg, Int.reduceSub]
  refine T_unroll 0 ?_
  simp only [go_sem, Nat.reduceLT, Int.reduceLT, Int.reduceNeg]
set_option maxHeartbeats 1600000 in
theorem few_E (P : Pc) (b : Int) (hR : PcR P) (K : HK)
    (hK : ∀ V h' n', n ≤ n' → HExt n h h' → HOk n' h' → DrOut h' n n' V (fewR P b).1 → K (.tup 3 (cl [V, .int .i64 (fewR P b).2.1, .int .i64 (fewR P b).2.2])) h' n') :
    CallE Tryz.prog cx 11 [.agg 66 (pcC P), .int .i64 b] h n K := by
  refine CallE.hokE ?_
  refine callE_of_T (P := Tryz.prog) hti (nt := 46) (rs := [.tmp 4, .tmp 5, .tmp 6]) rfl rfl Tryz.call11 Tryz.func11 rfl _ (by simp only [go_sem, and_self]) (Nat.le_of_ble_eq_true rfl) _ fun hok => ?_
  simp only [go_sem, Nat.reduceLT]
  refine (within_Q _ _ _ b 0 20000).A ?_
  simp only [go_sem, Nat.reduceLT]
  refine (codePc_Q _ _ _ n P (by first | (simp only [go_sem]; done) | (simp only [go_sem, Nat.reduceBEq, Nat.reduceLT, Nat.reduceLeDiff, Nat.reduceAdd, Nat.reduceMul, Nat.reduceSub, Nat.reduceMod, Nat.reduceDiv, Nat.reduceEqDiff, Int.reduceToNat, reduceIte, reduceCtorEq, Int.reduceLE, Int.reduceLT, Int.reduceEq, Int.reduceNeg, Int.reduceAdd, Int.reduceSub, Int.reduceMul]; rfl)) (by omega) hR (decide (0 ≤ b ∧ b ≤ 20000))).A ?_
  by_cases hk : pcokB P = true
  rotate_left
  · rw [fewR_1 hk] at hK
    have e : ∀ c, codePc P c = 1 := fun c => by unfold codePc; simp [hk]
    simp only [go_sem, Nat.reduceLT, Int.reduceEq, e]
    exact fun hok' => hK _ _ _ (by omega) (by simp only [go_sem, HExt_cons]) hok' (.inl ⟨rfl, rfl⟩)
  have hP : PcOk P := by simpa [pcokB] using hk
  have hs8 := hP.1
  by_cases hb : 0 ≤ b ∧ b ≤ 20000
  rotate_left
  · rw [fewR_2 hk hb] at hK
    have e : codePc P (decide (0 ≤ b ∧ b ≤ 20000)) = 2 := by unfold codePc; simp [hk]; omega
    simp only [go_sem, Nat.reduceLT, Int.reduceEq, e]
    exact fun hok' => hK _ _ _ (by omega) (by simp only [go_sem, HExt_cons]) hok' (.inl ⟨rfl, rfl⟩)
  have e : codePc P (decide (0 ≤ b ∧ b ≤ 20000)) = 0 := by unfold codePc; simp [hk]; omega
  obtain ⟨W, hW⟩ : ∃ W : Nat, P.wide = W := ⟨P.wide.toNat, by omega⟩
  obtain ⟨H, hH⟩ : ∃ H : Nat, P.high = H := ⟨P.high.toNat, by omega⟩
  obtain ⟨B, hB⟩ : ∃ B : Nat, b = B := ⟨b.toNat, by omega⟩
  have hW8 : W ≤ 8 := by omega
  have hH8 : H ≤ 8 := by omega
  have hB2 : B ≤ 20000 := by omega
  rw [fewR_0 hk hb, show P.wide.toNat = W by omega, show P.high.toNat = H by omega, show b.toNat = B by omega] at hK
  subst hB
  simp only [go_sem, Nat.reduceLT, Nat.reduceLeDiff, Nat.reduceAdd, e]
  generalize hR0 : fewL P W H B 9 0 0 = R0 at hK
  have hsg0 : HOk (n + 2) ((n + 1, plS n off .nils 0 B false) :: (n, pcS P) :: h) := fun i t hi => by
    simp only [hget] at hi
    by_cases e : n + 1 = i
    · rw [if_pos e] at hi; cases hi
      exact ⟨by omega, fun k hk => plC_lt (V := .nils) _ _ _ _ (by omega) trivial k⟩
    · rw [if_neg e] at hi
      obtain ⟨g1, g2⟩ := (hok.consFU (s := pcS P) fun k _ => pcC_flat _ _) i t (by simp only [hget]; exact hi)
      exact ⟨by omega, fun k hk => SV.lt_mono (by omega) _ (g2 k hk)⟩
  refine T_lp (ι := { q : (Nat × Nat) × List (Nat × Seg) × Nat × SV // (q.1.1 ≤ 9 ∧ q.1.2 ≤ B) ∧ n + 2 ≤ q.2.2.1 ∧ HOk q.2.2.1 q.2.1 ∧ hget q.2.1 n = some (pcS P) ∧ hget q.2.1 (n + 1) = some (plS n off q.2.2.2 q.1.2 B false) ∧ DrOwn q.2.1 (n + 1) q.2.2.1 q.2.2.2 [] ∧ q.2.2.2.lt q.2.2.1 ∧ (∀ i, i < n → notSl q.2.2.2 i) ∧ HExt n h q.2.1 ∧ fewL P W H B (9 - q.1.1) q.1.1 q.1.2 = R0 })
    (fun q => ([(8, .ptr (n + 1) 0), (20, .int .i64 q.1.1.1)], q.1.2.1, q.1.2.2.1)) (fun q => 9 - q.1.1.1) ⟨((0, 0), (n + 1, plS n off .nils 0 B false) :: (n, pcS P) :: h, n + 2, .nils), ⟨Nat.zero_le 9, Nat.zero_le B⟩, Nat.le_refl _, hsg0, (by first | (simp only [go_sem]; done) | (simp only [go_sem, Nat.reduceBEq, Nat.reduceLT, Nat.reduceLeDiff, Nat.reduceAdd, Nat.reduceMul, Nat.reduceSub, Nat.reduceMod, Nat.reduceDiv, Nat.reduceEqDiff, Int.reduceToNat, reduceIte, reduceCtorEq, Int.reduceLE, Int.reduceLT, Int.reduceEq, Int.reduceNeg, Int.reduceAdd, Int.reduceSub, Int.reduceMul]; rfl)), hget_hit _ _ _, .inl ⟨rfl, rfl⟩, trivial, (fun _ _ _ _ _ e => SV.noConfusion e), by simp only [go_sem, HExt_cons], hR0⟩ ?_ ?_
  · refine Imp.id (by simp) ?_ ?_
    · simp only [go_sem, Nat.reduceLT]
      (repeat' apply And.intro) <;> first | omega | rfl | trivial | assumption | skip
    · refine impH.cons0 (hget_hit _ _ _) (by simp) (pl_le (n' := n + 2) rfl rfl (fun k hk => ?_) rfl (by omega)) (impH.cons0 (by first | (simp only [go_sem]; done) | (simp only [go_sem, Nat.reduceBEq, Nat.reduceLT, Nat.reduceLeDiff, Nat.reduceAdd, Nat.reduceMul, Nat.reduceSub, Nat.reduceMod, Nat.reduceDiv, Nat.reduceEqDiff, Int.reduceToNat, reduceIte, reduceCtorEq, Int.reduceLE, Int.reduceLT, Int.reduceEq, Int.reduceNeg, Int.reduceAdd, Int.reduceSub, Int.reduceMul]; rfl)) (by simp) (SegLe.flat (Nat.le_refl _) id (.inr rfl) fun k hk => ⟨rfl, pcC_flat _ _⟩) (impH.base0 hok (by simp) (by simp only [go_sem, HExt_cons])))
      have hk : k < 69 := hk
      show upd (fun j => if j < 65 then upd zz_a5868c 0 (SV.ptr n 0) (j - 0) else if j < 1 then SV.raw (Value.pointer none) else if j < 65 then SV.bool false else if j < 66 then SV.nils else if j < 68 then SV.int IntKind.i64 0 else SV.bool false) 67 (SV.int IntKind.i64 B) k = _
      unfold upd plC
      by_cases h67 : k = 67
      · subst h67; rfl
      · rw [if_neg h67]
        by_cases h65 : k < 65
        · refine Eq.trans (if_pos h65) ?_
          rw [if_pos h65]; exact pel_new n k
        · rcases (by omega : k = 65 ∨ k = 66 ∨ k = 68) with rfl | rfl | rfl <;> rfl
  · rintro ⟨⟨⟨k, t⟩, hq, nq, Vq⟩, ⟨hk9, htB⟩, hnq, hokq, hpq, hsq, hVq, hlq, hnmq, hxq, hres⟩
    simp only at hk9 htB hnq hokq hpq hsq hVq hlq hnmq hxq hres
    have hn1 : n < nq := by omega
    have hn2 : n + 1 < nq := by omega
    simp only [go_sem, Nat.reduceLT, decide_eq_true_eq, decide_eq_false_iff_not]
    refine ⟨fun h1 => ?_, fun h1 => ?_⟩
    rotate_left
    · have hk2 : k = 9 := by omega
      subst hk2
      have e0 : fewL P W H B (9 - 9) 9 t = ([], 0, 6) := rfl
      rw [e0] at hres
      subst hres
      exact fun hok' => hK _ _ _ (by omega) hxq hok' (.inl ⟨rfl, rfl⟩)
    obtain ⟨r, hr⟩ : ∃ r, 9 - k = r + 1 := ⟨8 - k, by omega⟩
    rw [hr] at hres
    refine callA_false (try_E P W H B hR hP hW hH hB2 k _ _ _ (n + 1) n off Vq t [] hsq (by omega) hpq (by omega) (by omega) hVq hlq (by simp; omega) htB _ ?_)
    intro h2 n2 O2 V2 hn3 ok2 hb2 hnm2 hl2 hg2 hX2 hN2
    have hnV : ∀ t, hget hq n = some t → t.own = none → notSl Vq n := fun t ht ho => hVq.not ht ho
    have hx2 : HExt n h h2 := fun i hi t ht => hb2 i (by omega) (by omega) (hnmq i hi) _ (hxq i hi t ht)
    have hp2 : hget h2 n = some (pcS P) := hb2 n hn1 (by omega) (hnV _ hpq rfl) _ hpq
    have hn4 : n + 1 < n2 := by omega
    have hnm3 : ∀ i, i < n → notSl V2 i := fun i hi => hnm2 i (by omega) (hnmq i hi)
    have hto := srch_ok P W H B k off t htB
    rcases he : srch P W H B k off t with ⟨_ | X, t', s'⟩
    · rw [he] at hg2 hto hN2
      cases s' with
      | true =>
        rw [fewL_stop he] at hres
        subst hres
        simp only [go_sem, Nat.reduceLT, Nat.reduceAdd, reduceCtorEq, he, Option.isSome_none, hg2, hn4]
        exact fun hok' => hK _ _ _ (by omega) hx2 hok' (.inl ⟨rfl, rfl⟩)
      | false =>
        rw [fewL_next he] at hres
        obtain ⟨rfl, hV2⟩ := hN2 rfl rfl
        simp only [go_sem, Nat.reduceLT, Nat.reduceAdd, reduceCtorEq, he, Option.isSome_none, hg2, hn4]
        refine ⟨⟨((k + 1, t'), h2, n2, V2), ⟨by show k + 1 ≤ 9; omega, hto.1⟩, by show n + 2 ≤ n2; omega, ok2, hp2, hg2, hV2, hl2, hnm3, hx2, by show fewL P W H B (9 - (k + 1)) (k + 1) t' = R0; rw [show 9 - (k + 1) = r by omega]; exact hres⟩, by show 9 - (k + 1) < 9 - k; omega, ?_⟩
        refine Imp.id (by show n ≤ n2; omega) ?_ (impH.base0 ok2 (Nat.le_refl _) HExt.rfl)
        simp only [go_sem, Nat.reduceLT, w64 (n := (k : Int) + 1) (by omega), Int.natCast_add, Int.natCast_one]
        (repeat' apply And.intro) <;> first | omega | rfl | trivial | assumption | skip
    · rw [he] at hg2 hto hX2
      obtain ⟨hXl, rfl⟩ := hto.2 X rfl
      rw [fewL_some he] at hres
      subst hres
      have hV2 := hX2 X rfl
      rw [List.nil_append] at hV2
      rcases hV2 with ⟨rfl, rfl⟩ | ⟨j2, cap2, ⟨sn2, sc2, sr2, so2⟩, rfl, u1, u2, u3, u4, u5, u6, u7, u8, u9⟩
      · simp only [go_sem, Nat.reduceLT, Nat.reduceLeDiff, Nat.reduceAdd, reduceCtorEq, he, Option.isSome_some, hg2, hn4]
        refine callA_false (reverseNil_E _ _ _ _ ?_)
        simp only [go_sem]
        refine T_draw hti _ _ (by kernel_rfl) (by kernel_rfl) ?_
        simp only [go_sem, Nat.reduceLT, Nat.reduceLeDiff, Nat.reduceAdd, reduceCtorEq, hg2, hn4]
        exact fun hok' => hK _ _ _ (by omega) hx2 hok' (.inl ⟨rfl, rfl⟩)
      · simp only at u4 u7 u8 u9
        subst u4 u8
        have hjn : ¬ j2 < n := fun hj => absurd rfl (hnm3 j2 hj _ _ _)
        have hgr : ∀ t, hget (hset h2 j2 t) (n + 1) = hget h2 (n + 1) := fun t => by rw [hget_hset, if_neg u2]
        have hgi : ∀ t, hget (hset h2 j2 t) j2 = some t := hget_hset_self u3
        simp only [go_sem, Nat.reduceLT, Nat.reduceLeDiff, Nat.reduceAdd, reduceCtorEq, he, Option.isSome_some, hg2, hn4]
        refine callA_false (CallE.weak (impH.set0 ok2 (Nat.le_refl _) u3 (HBut.refl _ _ _) u3 (SegLe.flat (t := ⟨X.length * 3, dropsC X, true, some (48, cap2 * 3)⟩) u7 id (.inr rfl) fun k hk => ⟨u9 k hk, dropsC_flat _ _⟩)) (reverseDr_E _ _ _ j2 cap2 X _ (hgi _) u1 (by omega) _ ?_))
        simp only [go_sem, hset_hset]
        refine T_draw hti _ _ (by kernel_rfl) (by kernel_rfl) ?_
        simp only [go_sem, Nat.reduceLT, Nat.reduceLeDiff, Nat.reduceAdd, reduceCtorEq, hgr, hg2, hn4]
        exact fun hok' => hK _ _ _ (by omega) (fun i hi t ht => by rw [hget_hset, if_neg (by omega)]; exact hx2 i hi t ht) hok' (.inr ⟨j2, cap2, _, by rw [List.length_reverse], by omega, u1, hgi _, rfl, by rw [List.length_reverse], fun _ _ => rfl⟩)
end
end Go.Proofs.YtcjgpkhdlobbbaaGreat.V

/- The law of UselessDrops: the walk. -/
namespace Go.Proofs.YtcjgpkhdlobbbaaGreat.V
section
variable (cx : Cx) (h : List (Nat × Seg)) (n : Nat)
end
end Go.Proofs.YtcjgpkhdlobbbaaGreat.V

/- FnPeeled: the law's walk. -/
namespace Go.Proofs.YtcjgpkhdlobbbaaGreat.V
theorem CallE.Q {P : Program} {cx : Cx} {f : Nat} {args : List SV} {h : List (Nat × Seg)} {n : Nat} {r : SV} (hrl : r.lt n) (hc : CallE P cx f args h n fun v h' _ => v = r ∧ HExt n h h') : CallQ P cx f args h n r := by
  obtain ⟨hr, hok, hc⟩ := hc
  refine ⟨hr, hok, hrl, fun ρ w sh hargs => (hc ρ w sh hargs).mono fun e w' he => ?_⟩
  obtain ⟨ρ', v, h', n', h1, h2, rfl, h4, h5, rfl, h7⟩ := he
  refine ⟨by rw [den_congr h1 _ hrl], ?_⟩
  have : SatH cx ρ' h n w' := ⟨h5.keeps, fun i t hi => h5.seg i t (h7 i (sh.lt i t hi).1 t hi), fun i j x y hij hx hy => h5.dis i j x y hij (h7 i (sh.lt i x hx).1 x hx) (h7 j (sh.lt j y hy).1 y hy), sh.lt⟩
  exact this.rho fun i hi => (h1 i hi).symm
@[go_sem high] theorem eqV_picne (P Q : Pc) : eqV ti 28 .neq 66 (pcC P) 66 (pcC Q) = ⟨True, .bool (!pcEq P Q)⟩ := by
  unfold eqV; rw [eq_true (pcEqVc P Q)]; rfl
theorem madeP {W H : Nat} {D : List Dr} (w1 : 1 ≤ W) (w2 : W ≤ 5) (h1 : 1 ≤ H) (h2 : H ≤ 4) (hD : ∀ e ∈ D, e ∈ dropsL W H) :
    (allN7 ⟨W, H, fun _ _ => 0⟩ D D.length).wide = W ∧ (allN7 ⟨W, H, fun _ _ => 0⟩ D D.length).high = H ∧ PcR (allN7 ⟨W, H, fun _ _ => 0⟩ D D.length) ∧ PcOk (allN7 ⟨W, H, fun _ _ => 0⟩ D D.length) ∧ MkP (allN7 ⟨W, H, fun _ _ => 0⟩ D D.length) off D := by
  have hb : PcR ⟨W, H, fun _ _ => 0⟩ ∧ PcOk ⟨W, H, fun _ _ => 0⟩ := ⟨⟨by show -128 ≤ (W : Int) ∧ (W : Int) < 128; omega, by show -128 ≤ (H : Int) ∧ (H : Int) < 128; omega, fun _ _ => by show (0 : Int) ≤ 0 ∧ (0 : Int) < 256; omega⟩, by show 1 ≤ (W : Int) ∧ (W : Int) ≤ 8 ∧ 1 ≤ (H : Int) ∧ (H : Int) ≤ 8; omega, fun y x _ _ _ _ => ⟨by show (0 : Int) ≤ 3; omega, fun hz => absurd hz (by show ¬ (0 : Int) < 0; omega)⟩⟩
  have hall := allN7_ok hb.1 hb.2 (D := D) (drR_in hb.1 hb.2 rfl rfl hD) D.length (Nat.le_refl _) (fun q hq => (drop_can hb.1 hb.2 rfl rfl (hD _ (getD_mem hq))).1)
  refine ⟨hall.2.2.1, hall.2.2.2, hall.1, hall.2.1, ?_⟩
  rw [made_iff, hall.2.2.1, hall.2.2.2]
  intro a b _ _ _ _
  rfl
theorem usel_mem {P : Pc} {D : List Dr} {q : Nat} (hq : q < D.length) : decide ((q : Int) ∈ uselN P D D.length) = madeE P (D.eraseIdx q) := by
  have : (q : Int) ∈ uselN P D D.length ↔ madeE P (D.eraseIdx q) = true := by
    unfold uselN
    rw [List.mem_map]
    constructor
    · rintro ⟨a, ha, e⟩
      have : a = q := by omega
      subst this
      exact (List.mem_filter.1 ha).2
    · intro hm
      exact ⟨q, List.mem_filter.2 ⟨List.mem_range.2 hq, hm⟩, rfl⟩
  cases hm : madeE P (D.eraseIdx q)
  · rw [decide_eq_false_iff_not, this, hm]; simp
  · rw [decide_eq_true_eq, this, hm]
section
variable (cx : Cx) (h : List (Nat × Seg)) (n : Nat)
theorem big6_Q (A : SV) (la : Nat) (hA : A = .nils ∧ la = 0 ∨ ∃ j o cap, A = .sl j o la cap) : CallQ Tryz.prog cx 4 [A] h n (.bool (decide ((4096 : Int) < (la : Int)))) := by
  rcases hA with ⟨rfl, rfl⟩ | ⟨j, o, cap, rfl⟩
  · refine callQ_of_T (P := Tryz.prog) hti (nt := 6) (rs := [.tmp 2]) rfl rfl Tryz.call4 Tryz.func4 rfl _ (by simp only [go_sem, and_self]) (Nat.le_of_ble_eq_true rfl) _ (by first | exact trivial | (refine lt_flat rfl ?_; simp [SV.flat]; done) | simp only [go_sem]) fun hok => ?_
    simp only [go_sem, Nat.reduceLT, Int.reduceLT]
  · refine callQ_of_T (P := Tryz.prog) hti (nt := 6) (rs := [.tmp 2]) rfl rfl Tryz.call4 Tryz.func4 rfl _ (by simp only [go_sem, and_self]) (Nat.le_of_ble_eq_true rfl) _ (by first | exact trivial | (refine lt_flat rfl ?_; simp [SV.flat]; done) | simp only [go_sem]) fun hok => ?_
    simp only [go_sem, Nat.reduceLT]
set_option maxRecDepth 100000 in
set_option maxHeartbeats 3200000 in
theorem lawFP_Q (A B : SV) (la lb : Nat) (hA : ByArg h n A la) (hB : ByArg h n B lb) :
    CallQ Tryz.prog cx 3 [A, B] h n (.bool true) := by
  have hAo := hA.ok
  have hBo := hB.ok
  refine CallE.Q (by trivial) ?_
  refine callE_of_SW (P := Tryz.prog) hti (nt := 406) (rs := [.tmp 4]) rfl rfl Tryz.call3 Tryz.func3 rfl _ (by first | (simp only [go_sem, hAo]; done) | (simp only [go_sem, hAo, hBo]; done)) (Nat.le_of_ble_eq_true rfl) _ fun hok => ?_
  refine SW_seq (SW_run hti trivial ?_)
  simp only [go_sem, Nat.reduceLT, hAo, hBo]
  refine SW_seq (SW_run hti trivial ?_)
  simp only [go_sem, Nat.reduceLT, hAo, hBo]
  refine (big6_Q _ _ _ A la hA.long).A ?_
  by_cases hbig : (4096 : Int) < (la : Int)
  · simp only [go_sem, Nat.reduceLT, hbig]
  simp only [go_sem, Nat.reduceLT, hbig, hBo]
  refine (big6_Q _ _ _ B lb hB.long).A ?_
  by_cases hbigB : (4096 : Int) < (lb : Int)
  · simp only [go_sem, Nat.reduceLT, hbigB]
  have hAs : ∀ i, n ≤ i → BySl h n i A := fun i hi => hA.sl hi (by omega)
  have hBs : ∀ i, n ≤ i → BySl h n i B := fun i hi => hB.sl hi (by omega)
  simp only [go_sem, Nat.reduceLT, hbigB, hAo, hBo]
  refine SW_seq (SW_run hti trivial ?_)
  simp only [go_sem, Nat.reduceLT, hAo, hBo]
  refine callA_false (p6made_E _ _ _ A (hAs n (Nat.le_refl _)) _ fun W H D V h1 n1 w1 w2 w3 w4 hD3 hDm hn1 hx1 ok1 hV => ?_)
  obtain ⟨hW, hH, hR, hP, hM⟩ := madeP w1 w2 w3 w4 hDm
  generalize hPP : allN7 ⟨W, H, fun _ _ => 0⟩ D D.length = P at *
  obtain ⟨iv, capV, sV, rfl, u0, u1, u2, u3, u4, u5, u6⟩ := hV
  simp only [go_sem, Nat.reduceLT, reduceIte, hAo, hBo]
  have ok2 : HOk (n1 + 1) ((n1, ⟨66, pcC P, true, none⟩) :: h1) := ok1.consF fun k hk => pcC_flat _ _
  have X2 : HExt n h ((n1, ⟨66, pcC P, true, none⟩) :: h1) := hx1.cons (by omega)
  have g2 : hget ((n1, ⟨66, pcC P, true, none⟩) :: h1) n1 = some ⟨66, pcC P, true, none⟩ := by simp only [hget, if_true]
  have v2 : hget ((n1, ⟨66, pcC P, true, none⟩) :: h1) iv = some sV := by simp only [hget]; rw [if_neg (by omega)]; exact u3
  generalize ((n1, (⟨66, pcC P, true, none⟩ : Seg)) :: h1) = h2 at *
  obtain ⟨n2, hn2⟩ : ∃ n2, n2 = n1 + 1 := ⟨_, rfl⟩
  rw [← hn2] at ok2 ⊢
  have hDA : DrAt sV D := ⟨by omega, u6⟩
  have hDR : DrR D := drR_in hR hP hW hH hDm
  have ln2 : n1 < n2 := by omega
  -- peeling
  have hp0 := peelR_made hR hP hW hH hDm hM
  obtain ⟨hpm, hpl, hpc⟩ := peelR_any hR hP hW hH
  have hpM : MkP P off (peelR P).1 := by
    rcases hpc with ⟨_, h⟩ | h
    · exact h
    · rw [hp0] at h; cases h
  generalize hE : (peelR P).1 = E at *
  refine SW_seq (SW_run hti trivial ?_)
  simp only [go_sem, Nat.reduceLT, hBo, g2, ln2]
  refine callA_false (peelAll_E _ h2 n2 P hR _ ?_)
  intro V3 h3 n3 hn3 hx3 ok3 I3
  rw [hE] at I3
  rw [hp0]
  have V3o := I3.ok
  have g3 := hx3 n1 (by omega) _ g2
  have ln3 : n1 < n3 := by omega
  simp only [go_sem, Nat.reduceLT, hBo, V3o]
  refine SW_seq (SW_run hti trivial ?_)
  simp only [go_sem, Nat.reduceLT, hBo, V3o, g3, ln3]
  refine callA_false (peelAll2_S _ h3 n3 P hR _ ?_)
  intro V4 h4 n4 hn4 hx4 ok4 I4
  rw [hE] at I4
  rw [hp0]
  have V4o := I4.out.ok
  have g4 := hx4 n1 (by omega) _ g3
  have ln4 : n1 < n4 := by omega
  have I34 := I3.ext (n' := n4) (by omega) hx4
  have I44 := I4.out
  obtain ⟨i4, cap4, s4, rfl, a1, a2, a3, a4, a5, a6⟩ := I4
  have E4 : DrAt s4 E := ⟨by omega, a6⟩
  have hER := drR_in hR hP hW hH hpm
  simp only [go_sem, Nat.reduceLT, hBo, V3o, V4o]
  refine SW_seq (SW_run hti trivial ?_)
  simp only [go_sem, Nat.reduceLT, hBo, V3o, V4o, g4, ln4]
  refine (checkDrops_Q _ _ _ P E i4 cap4 s4 hR (by omega) a3 E4 hER (by omega)).A ?_
  rw [check_made hR hP hW hH hpm (by omega) hpM]
  simp only [go_sem, Nat.reduceLT, hBo, V3o, V4o]
  refine SW_seq (SW_run hti trivial ?_)
  simp only [go_sem, Nat.reduceLT, hBo, V3o, V4o, g4, ln4]
  refine (bound_Q _ _ _ P W H hR hP hW hH).A ?_
  simp only [go_sem, Nat.reduceLT, hBo, V3o, V4o]
  refine SW_seq (SW_run hti trivial ?_)
  simp only [go_sem, Nat.reduceLT, hBo, V3o, V4o, g4, ln4]
  refine (bound2_Q _ _ _ P W H hR hP hW hH).A ?_
  have hbD := bound_le hW hH hM
  have hbE := bound_le hW hH hpM
  have hbX := fun X hX => bound_le hW hH (L := X) hX
  generalize boundR P W H = bd at *
  have hfew := few_made hR hP hW hH hDm hD3 hM
  generalize hX : (fewR P 400).1 = X at *
  generalize hT : (fewR P 400).2.1 = tr at *
  generalize hF : (fewR P 400).2.2 = fc at *
  simp only [go_sem, Nat.reduceLT, hBo, V3o, V4o]
  refine SW_seq (SW_run hti trivial ?_)
  simp only [go_sem, Nat.reduceLT, hBo, V3o, V4o, g4, ln4]
  refine callA_false (few_E _ h4 n4 P 400 hR _ ?_)
  intro V5 h5 n5 hn5 hx5 ok5 I5
  rw [hX] at I5
  rw [hT, hF]
  have V5o := I5.ok
  have g5 := hx5 n1 (by omega) _ g4
  have ln5 : n1 < n5 := by omega
  simp only [go_sem, Nat.reduceLT, hBo, V3o, V4o, V5o]
  refine SW_seq (SW_run hti trivial ?_)
  simp only [go_sem, Nat.reduceLT, hBo, V3o, V4o, V5o, g5, ln5]
  refine callA_false (few2_S _ h5 n5 P 400 hR _ ?_)
  intro V6 h6 n6 hn6 hx6 ok6 I6
  rw [hX] at I6
  rw [hT, hF]
  have V6o := I6.out.ok
  have g6 := hx6 n1 (by omega) _ g5
  have ln6 : n1 < n6 := by omega
  have I56 := I5.ext (n' := n6) (by omega) hx6
  have I66 := I6.out
  obtain ⟨i6, cap6, s6, rfl, b1, b2, b3, b4, b5, b6⟩ := I6
  have X46 : HExt n4 h4 h6 := hx5.tr hx6 (by omega)
  have I36 := I34.ext (n' := n6) (by omega) X46
  have I46 := I44.ext (n' := n6) (by omega) X46
  have hXl : X.length ≤ 9 := by rw [← hX]; exact fewR_len P 400
  simp only [go_sem, Nat.reduceLT, hBo, V3o, V4o, V5o, V6o]
  have hfc : fc = 0 ∨ fc = 7 := by
    rcases hfew with ⟨h, _⟩ | h
    · exact .inl h
    · exact .inr h
  have c1 : ¬ ((D.length : Int) < (bd : Int)) := by omega
  have c2 : ¬ ((E.length : Int) < (bd : Int)) := by omega
  refine SW_seq (SW_cut hti (ι := Unit) (fun _ => ([(1, B), (5, .ptr n1 0), (6, .sl iv 0 D.length capV), (9, .sl i4 0 E.length cap4), (15, .int .i64 bd), (19, .int .i64 fc), (20, .sl i6 0 X.length cap6), (21, .int .i64 tr)], h6, n6)) trivial ?_ ?_)
  · simp only [go_sem, hBo, V3o, V4o, V5o, V6o]
    simp only [List.append_eq, List.cons_append, List.nil_append]
    simp only [go_sem, Nat.reduceLT, hBo, V3o, V4o, V5o, V6o]
    refine (sameDr_Q _ _ _ V3 _ E _ _ I36 I46 (by omega)).A ?_
    rcases hfc with rfl | rfl
    · simp only [go_sem, Nat.reduceLT, hBo, V3o, V4o, V5o, V6o]
      refine (sameDr_Q _ _ _ V5 _ X _ _ I56 I66 (by omega)).A ?_
      simp only [go_sem, Nat.reduceLT, hBo, V3o, V4o, V5o, V6o, c1, c2]
      refine ⟨(), ?_⟩
      refine Imp.id (by show n ≤ n6; omega) ?_ (impH.base0 ok6 (Nat.le_refl _) HExt.rfl)
      simp only [go_sem, Nat.reduceLT, hBo]
      exact ⟨SV.lt_mono (by omega) _ hB.lt, by omega, by omega, by omega, by omega⟩
    · simp only [go_sem, Nat.reduceLT, hBo, V3o, V4o, V5o, V6o]
      refine (sameDr_Q _ _ _ V5 _ X _ _ I56 I66 (by omega)).A ?_
      simp only [go_sem, Nat.reduceLT, Int.reduceEq, hBo, V3o, V4o, V5o, V6o, c1, c2]
      refine ⟨(), ?_⟩
      refine Imp.id (by show n ≤ n6; omega) ?_ (impH.base0 ok6 (Nat.le_refl _) HExt.rfl)
      simp only [go_sem, Nat.reduceLT, hBo]
      exact ⟨SV.lt_mono (by omega) _ hB.lt, by omega, by omega, by omega, by omega⟩
  rintro ⟨⟩
  refine SW_seq (SW_cut hti (ι := { w : List (Nat × Seg) × Nat // n6 ≤ w.2 ∧ HOk w.2 w.1 ∧ HExt n6 h6 w.1 }) (fun w => ([(1, B), (5, .ptr n1 0), (6, .sl iv 0 D.length capV)], w.1.1, w.1.2)) trivial ?_ ?_)
  · rcases hfew with ⟨rfl, hXM, hXm, hXleast, hXt, ht400⟩ | rfl
    rotate_left
    · simp only [go_sem, Nat.reduceLT, Int.reduceEq, hBo]
      refine ⟨⟨(h6, n6), Nat.le_refl _, ok6, HExt.rfl⟩, ?_⟩
      refine Imp.id (by show n ≤ n6; omega) ?_ (impH.base0 ok6 (Nat.le_refl _) HExt.rfl)
      simp only [go_sem, Nat.reduceLT, hBo]
      exact ⟨SV.lt_mono (by omega) _ hB.lt, by omega, by omega⟩
    · have X6A : DrAt s6 X := ⟨by omega, b6⟩
      have hXR := drR_in hR hP hW hH hXm
      have hXD := hXleast D hDm hM
      have hXE := hXleast E hpm hpM
      have hbX0 := hbX X hXM
      simp only [go_sem, Nat.reduceLT, hBo, g6, ln6]
      refine (checkDrops_Q _ _ _ P X i6 cap6 s6 hR (by omega) b3 X6A hXR (by omega)).A ?_
      rw [check_made hR hP hW hH hXm (by omega) hXM]
      simp only [go_sem, Nat.reduceLT, hBo, g6, ln6]
      refine callA_false (useless_E _ _ _ P X i6 cap6 s6 hR (by omega) b3 X6A hXR (by omega) _ ?_)
      intro V7 h7 n7 hn7 hx7 ok7 I7
      rw [usel_made hR hP hW hH hXm (by omega) hXM, least_usel hR hP hW hH hXm hXleast] at I7
      rw [usel_made hR hP hW hH hXm (by omega) hXM]
      have V7o := I7.ok
      have V7e : V7 = .nils ∨ ∃ j cap, V7 = .sl j 0 0 cap := by
        rcases I7 with ⟨rfl, _⟩ | ⟨j, cap, s, rfl, _⟩
        · exact .inl rfl
        · exact .inr ⟨j, cap, rfl⟩
      have k1 : ¬ ((D.length : Int) < (X.length : Int)) := by omega
      have k2 : ¬ ((E.length : Int) < (X.length : Int)) := by omega
      have k3 : ¬ ((X.length : Int) < (bd : Int)) := by omega
      have k4 : ¬ (tr < (X.length : Int)) := by omega
      have k5 : ¬ ((400 : Int) < tr) := by omega
      rcases V7e with rfl | ⟨j7, c7, rfl⟩
      · simp only [go_sem, Nat.reduceLT, hBo, k1, k2, k3, k4, k5]
        refine ⟨⟨(h7, n7), by show n6 ≤ n7; omega, ok7, hx7⟩, ?_⟩
        refine Imp.id (by show n ≤ n7; omega) ?_ (impH.base0 ok7 (Nat.le_refl _) HExt.rfl)
        simp only [go_sem, Nat.reduceLT, hBo]
        exact ⟨SV.lt_mono (by omega) _ hB.lt, by omega, by omega⟩
      · simp only [go_sem, Nat.reduceLT, hBo, k1, k2, k3, k4, k5]
        refine ⟨⟨(h7, n7), by show n6 ≤ n7; omega, ok7, hx7⟩, ?_⟩
        refine Imp.id (by show n ≤ n7; omega) ?_ (impH.base0 ok7 (Nat.le_refl _) HExt.rfl)
        simp only [go_sem, Nat.reduceLT, hBo]
        exact ⟨SV.lt_mono (by omega) _ hB.lt, by omega, by omega⟩
  rintro ⟨⟨h8, n8⟩, hn8, ok8, hx8⟩
  simp only at hn8 ok8 hx8
  have X26 : HExt n2 h2 h6 := hx3.tr (hx4.tr (hx5.tr hx6 (by omega)) (by omega)) (by omega)
  have X28 : HExt n2 h2 h8 := X26.tr hx8 (by omega)
  have X8 : HExt n h h8 := X2.tr X28 (by omega)
  have g8 := X28 n1 (by omega) _ g2
  have v8 := X28 iv (by omega) _ v2
  have ln8 : n1 < n8 := by omega
  -- the last drops
  have hl0 := lastDR_0 (P := P) (pcokB_t hP)
  have hLs := last_some hR hP hW hH hDm hM
  have hLe := fun d => last_each hR hP hW hH (d := d)
  have hLl : (lastL P).length ≤ 192 := Nat.le_trans (List.length_filter_le _ _) (dropsL_le hP)
  generalize lastL P = L at *
  refine SW_seq (SW_run hti trivial ?_)
  simp only [go_sem, Nat.reduceLT, hBo, g8, ln8]
  refine callA_false (lastDrops_E _ h8 n8 P hR _ ?_)
  rw [hl0]
  intro V9 h9 n9 hn9 hx9 ok9 I9
  replace I9 : DrOut h9 n8 n9 V9 L := I9
  have V9o := I9.ok
  have g9 := hx9 n1 (by omega) _ g8
  have ln9 : n1 < n9 := by omega
  simp only [go_sem, Nat.reduceLT, hBo, V9o]
  refine SW_seq (SW_run hti trivial ?_)
  simp only [go_sem, Nat.reduceLT, hBo, V9o, g9, ln9]
  refine callA_false (lastDrops2_S _ h9 n9 P hR _ ?_)
  rw [hl0]
  intro V10 h10 n10 hn10 hx10 ok10 I10
  replace I10 : DrSl h10 n9 n10 V10 L := I10
  have I910 := I9.ext (n' := n10) (by omega) hx10
  have I10o := I10.out
  obtain ⟨i10, cap10, s10, rfl, e1, e2, e3, e4, e5, e6⟩ := I10
  have g10 := hx10 n1 (by omega) _ g9
  have X810 : HExt n8 h8 h10 := hx9.tr hx10 (by omega)
  have v10 := X810 iv (by omega) _ v8
  have X10 : HExt n h h10 := X8.tr X810 (by omega)
  simp only [go_sem, Nat.reduceLT, hBo, V9o]
  refine SW_seq (SW_cut hti (ι := Unit) (fun _ => ([(1, B), (5, .ptr n1 0), (6, .sl iv 0 D.length capV), (29, .sl i10 0 L.length cap10)], h10, n10)) trivial ?_ ?_)
  · simp only [go_sem, Nat.reduceLT, hBo, V9o]
    refine (sameDr_Q _ _ _ V9 _ L _ _ I910 I10o (by omega)).A ?_
    by_cases hD0 : (0 : Int) < (D.length : Int)
    · have hL0 : ¬ ((L.length : Int) = 0) := by
        have := hLs (by omega)
        omega
      simp only [go_sem, Nat.reduceLT, hBo, V9o, hD0, hL0]
      refine ⟨(), ?_⟩
      refine Imp.id (by show n ≤ n10; omega) ?_ (impH.base0 ok10 (Nat.le_refl _) HExt.rfl)
      simp only [go_sem, Nat.reduceLT, hBo]
      exact ⟨SV.lt_mono (by omega) _ hB.lt, by omega, by omega, by omega⟩
    · simp only [go_sem, Nat.reduceLT, hBo, V9o, hD0]
      refine ⟨(), ?_⟩
      refine Imp.id (by show n ≤ n10; omega) ?_ (impH.base0 ok10 (Nat.le_refl _) HExt.rfl)
      simp only [go_sem, Nat.reduceLT, hBo]
      exact ⟨SV.lt_mono (by omega) _ hB.lt, by omega, by omega, by omega⟩
  rintro ⟨⟩
  refine SW_seq (SW_cutS (ι := { w : List (Nat × Seg) × Nat // n10 ≤ w.2 ∧ HOk w.2 w.1 ∧ HExt n10 h10 w.1 }) (fun w => ([(1, B), (5, .ptr n1 0), (6, .sl iv 0 D.length capV)], w.1.1, w.1.2)) ?_ ?_)
  · refine SW_seq (SW_run hti trivial ?_)
    simp only [go_sem, Nat.reduceLT, hBo]
    refine SW_block (SW_lp (ι := { w : Nat × List (Nat × Seg) × Nat // w.1 ≤ L.length ∧ n10 ≤ w.2.2 ∧ HOk w.2.2 w.2.1 ∧ HExt n10 h10 w.2.1 })
      (fun w => ([(1, B), (5, .ptr n1 0), (6, .sl iv 0 D.length capV), (29, .sl i10 0 L.length cap10), (31, .int .i64 w.1.1)], w.1.2.1, w.1.2.2)) (fun w => L.length - w.1.1)
      ⟨(0, h10, n10), Nat.zero_le _, Nat.le_refl _, ok10, HExt.rfl⟩ ?_ ?_)
    · refine Imp.id (by show n ≤ n10; omega) ?_ (impH.base0 ok10 (Nat.le_refl _) HExt.rfl)
      simp only [go_sem, Nat.reduceLT, hBo]
      exact ⟨SV.lt_mono (by omega) _ hB.lt, by omega, by omega, by omega⟩
    rintro ⟨⟨q, hq, nq⟩, hqL, hnq, okq, hxq⟩
    simp only at hqL hnq okq hxq
    have gq := hxq n1 (by omega) _ g10
    have vq := hxq iv (by omega) _ v10
    have lq := hxq i10 (by omega) _ e3
    have lnq : n1 < nq := by omega
    have liq : i10 < nq := by omega
    refine SW_seq (SW_run hti trivial ?_)
    simp only [go_sem, Nat.reduceLT, hBo, decide_eq_true_eq, decide_eq_false_iff_not]
    refine ⟨fun h1 => ?_, fun h1 => ?_⟩
    rotate_left
    · refine ⟨⟨(hq, nq), hnq, okq, hxq⟩, ?_⟩
      refine Imp.id (by show n ≤ nq; omega) ?_ (impH.base0 okq (Nat.le_refl _) HExt.rfl)
      simp only [go_sem, Nat.reduceLT, hBo]
      exact ⟨SV.lt_mono (by omega) _ hB.lt, by omega, by omega⟩
    have hqlt : q < L.length := by omega
    obtain ⟨hd1, hd2, hd3, hd4⟩ := hLe _ (getD_mem (z := (0, 0, 0)) hqlt)
    have hdc := (drop_can hR hP hW hH hd1).2
    have r1 : (0 : Int) ≤ q ∧ (q : Int) < L.length := ⟨by omega, by omega⟩
    have b1 : q * 3 ≤ s10.n - 3 := by omega
    have b3 : 3 ≤ s10.n := by omega
    have LA : DrAt s10 L := ⟨by omega, e6⟩
    have c0 := LA.c0 hqlt
    have c1' := LA.c1 hqlt
    have c2' := LA.c2 hqlt
    generalize L.getD q (0, 0, 0) = dd at *
    refine SW_seq (SW_block ?_)
    refine SW_seq (SW_run hti trivial ?_)
    refine T_drawG hti 11 [] (.b 0 0 (.b 0 1 (.b 0 2 (.b 0 3 (.b 0 4 (.b 1 5 (.b 0 6 (.b 0 7 (.b 0 8 (.b 0 9 (.b 0 10 (.f) .o) .o) .o) .o) .o) .o) .o) .o) .o) .o) .o) _ _ (by kernel_rfl) (by kernel_rfl) ?_
    have b4 : q * 3 + 3 ≤ s10.n := by omega
    simp only [go_sem, Nat.reduceLT, hBo, gq, lnq, lq, liq, r1, b1, b3, b4, c0, c1', c2']
    refine CallQ.F _ (fun h' n' hn' hx' => canBeLast1_Q _ h' n' P dd hR (by omega) (by omega) (by omega)) ?_
    rw [hd2]
    simp only [go_sem, Nat.reduceLT, hBo]
    refine SW_seq (SW_run hti trivial ?_)
    refine T_drawG hti 12 [10] (.b 0 0 (.b 0 1 (.b 0 2 (.b 0 3 (.b 0 4 (.b 1 5 (.b 0 6 (.b 0 7 (.b 0 8 (.b 2 9 (.b 4 10 (.b 0 11 (.f) .o) .o) .o) .o) .o) .o) .o) .o) .o) .o) .o) .o) _ _ (by kernel_rfl) (by kernel_rfl) ?_
    simp only [go_sem, Nat.reduceLT, hBo, gq, lnq, lq, liq, r1, b1, b3, b4, c0, c1', c2']
    refine CallQ.F _ (fun h' n' hn' hx' => dropOn_Q _ h' n' P dd hR (by omega) (by omega) (by omega)) ?_
    rw [hd3]
    generalize (dropsR P [dd]).1 = Q at *
    simp only [go_sem, Nat.reduceLT, reduceIte, hBo]
    have okr : HOk (nq + 1) ((nq, ⟨66, pcC Q, true, none⟩) :: hq) := okq.consF fun k hk => pcC_flat _ _
    have xr : HExt n10 h10 ((nq, ⟨66, pcC Q, true, none⟩) :: hq) := hxq.cons (by omega)
    have gr : hget ((nq, ⟨66, pcC Q, true, none⟩) :: hq) n1 = some ⟨66, pcC P, true, none⟩ := by simp only [hget]; rw [if_neg (by omega)]; exact gq
    have qr : hget ((nq, ⟨66, pcC Q, true, none⟩) :: hq) nq = some ⟨66, pcC Q, true, none⟩ := by simp only [hget, if_true]
    have lnr : n1 < nq + 1 := by omega
    have lnr2 : nq < nq + 1 := by omega
    generalize ((nq, (⟨66, pcC Q, true, none⟩ : Seg)) :: hq) = hr at *
    refine SW_run hti trivial ?_
    simp only [go_sem, Nat.reduceLT, hBo, gr, qr, lnr, lnr2, hd4]
    refine SW_inBlock (SW_run hti trivial ?_)
    simp only [go_sem, Nat.reduceLT, hBo]
    refine SW_inv ⟨⟨(q + 1, hr, nq + 1), by show q + 1 ≤ L.length; omega, by show n10 ≤ nq + 1; omega, okr, xr⟩, by show L.length - (q + 1) < L.length - q; omega, ?_⟩
    refine Imp.id (by show n ≤ nq + 1; omega) ?_ (impH.base0 okr (Nat.le_refl _) HExt.rfl)
    simp only [go_sem, Nat.reduceLT, hBo, w64 (n := (q : Int) + 1) (by omega), Int.natCast_add, Int.natCast_one]
    exact ⟨SV.lt_mono (by omega) _ hB.lt, by omega, by omega, by omega⟩
  rintro ⟨⟨h11, n11⟩, hn11, ok11, hx11⟩
  simp only at hn11 ok11 hx11
  have g11 := hx11 n1 (by omega) _ g10
  have v11 := hx11 iv (by omega) _ v10
  have X11 := X10.tr hx11 (by omega)
  have ln11 : n1 < n11 := by omega
  have hus := usel_made hR hP hW hH hDm (by omega) hM
  have hul := uselN_len P D D.length
  refine SW_seq (SW_run hti trivial ?_)
  simp only [go_sem, Nat.reduceLT, hBo, g11, ln11]
  refine callA_false (useless_E _ h11 n11 P D iv capV sV hR (by omega) v11 hDA hDR (by omega) _ ?_)
  rw [hus]
  intro V12 h12 n12 hn12 hx12 ok12 I12
  replace I12 : IntsOut h12 n11 n12 V12 (uselN P D D.length) := I12
  have V12o := I12.ok
  have g12 := hx12 n1 (by omega) _ g11
  have v12 := hx12 iv (by omega) _ v11
  have ln12 : n1 < n12 := by omega
  simp only [go_sem, Nat.reduceLT, hBo, V12o]
  refine SW_seq (SW_run hti trivial ?_)
  simp only [go_sem, Nat.reduceLT, hBo, g12, ln12, V12o]
  refine callA_false (useless2_E _ h12 n12 P D iv capV sV hR (by omega) v12 hDA hDR (by omega) u0 _ ?_)
  rw [hus]
  intro V13 h13 n13 hn13 hx13 ok13 I13
  replace I13 : IntsOut h13 n12 n13 V13 (uselN P D D.length) := I13
  have V13o := I13.ok
  have V13l : V13.lt n13 := by
    rcases I13 with ⟨rfl, _⟩ | ⟨i, c, s, rfl, _, hi, _⟩
    · trivial
    · exact hi
  have g13 := hx13 n1 (by omega) _ g12
  have v13 := hx13 iv (by omega) _ v12
  have ln13 : n1 < n13 := by omega
  have I1213 := I12.ext (n' := n13) (by omega) hx13
  have X13 : HExt n h h13 := X11.tr (hx12.tr hx13 (by omega)) (by omega)
  simp only [go_sem, Nat.reduceLT, hBo, V12o, V13o]
  refine SW_seq (SW_run hti trivial ?_)
  simp only [go_sem, Nat.reduceLT, hBo, V12o, V13o]
  refine (sameNum_Q _ _ _ V12 V13 (uselN P D D.length) _ _ I1213 I13 (by omega)).A ?_
  simp only [go_sem, Nat.reduceLT, hBo, V12o, V13o]
  refine SW_seq (SW_cutS (ι := { w : List (Nat × Seg) × Nat // n13 ≤ w.2 ∧ HOk w.2 w.1 ∧ HExt n13 h13 w.1 }) (fun w => ([(1, B), (5, .ptr n1 0)], w.1.1, w.1.2)) ?_ ?_)
  · refine SW_seq (SW_run hti trivial ?_)
    simp only [go_sem, Nat.reduceLT, hBo, V13o]
    refine SW_block (SW_lp (ι := { w : Nat × List (Nat × Seg) × Nat // w.1 ≤ D.length ∧ n13 ≤ w.2.2 ∧ HOk w.2.2 w.2.1 ∧ HExt n13 h13 w.2.1 })
      (fun w => ([(1, B), (5, .ptr n1 0), (6, .sl iv 0 D.length capV), (38, V13), (40, .int .i64 w.1.1)], w.1.2.1, w.1.2.2)) (fun w => D.length - w.1.1)
      ⟨(0, h13, n13), Nat.zero_le _, Nat.le_refl _, ok13, HExt.rfl⟩ ?_ ?_)
    · refine Imp.id (by show n ≤ n13; omega) ?_ (impH.base0 ok13 (Nat.le_refl _) HExt.rfl)
      simp only [go_sem, Nat.reduceLT, hBo, V13o]
      exact ⟨SV.lt_mono (by omega) _ hB.lt, by omega, by omega, V13l⟩
    rintro ⟨⟨q, hq, nq⟩, hqL, hnq, okq, hxq⟩
    simp only at hqL hnq okq hxq
    have gq := hxq n1 (by omega) _ g13
    have vq := hxq iv (by omega) _ v13
    have I13q := I13.ext (n' := nq) (by omega) hxq
    have lnq : n1 < nq := by omega
    have liq : iv < nq := by omega
    refine SW_seq (SW_run hti trivial ?_)
    simp only [go_sem, Nat.reduceLT, hBo, V13o, decide_eq_true_eq, decide_eq_false_iff_not]
    refine ⟨fun h1 => ?_, fun h1 => ?_⟩
    rotate_left
    · refine ⟨⟨(hq, nq), hnq, okq, hxq⟩, ?_⟩
      refine Imp.id (by show n ≤ nq; omega) ?_ (impH.base0 okq (Nat.le_refl _) HExt.rfl)
      simp only [go_sem, Nat.reduceLT, hBo]
      exact ⟨SV.lt_mono (by omega) _ hB.lt, by omega⟩
    have hqlt : q < D.length := by omega
    refine SW_seq (SW_block ?_)
    refine SW_seq (SW_run hti trivial ?_)
    refine T_drawG hti 11 [4, 9] (.b 0 1 (.b 0 2 (.b 0 3 (.b 0 5 (.b 0 6 (.b 0 7 (.b 0 8 (.b 2 0 (.b 4 4 (.b 4 9 (.b 0 10 (.f) .o) .o) .o) .o) .o) .o) .o) .o) .o) .o) .o) _ _ (by kernel_rfl) (by kernel_rfl) ?_
    have hlen := List.length_eraseIdx_of_lt hqlt
    have hwk : IntKind.i64.wrap ((q : Int) + 1) = ((q + 1 : Nat) : Int) := by rw [show (q : Int) + 1 = ((q + 1 : Nat) : Int) by omega]; exact w64 (by omega)
    have hqj : nq ≠ iv := by omega
    have hqj1 : nq + 1 ≠ iv := by omega
    obtain ⟨o, ho⟩ : ∃ o, (if (capV : Int) = ((q + 1 : Nat) : Int) then 0 else (q + 1) * 3) = o := ⟨_, rfl⟩
    have ho2 : q + 1 < D.length → o = (q + 1) * 3 := fun hl => by rw [← ho, if_neg (by omega)]
    have ho3 : o + (D.length - (q + 1)) * 3 ≤ D.length * 3 := by
      by_cases hl : q + 1 < D.length
      · rw [ho2 hl]; omega
      · have : o ≤ (q + 1) * 3 := by rw [← ho]; split <;> omega
        omega
    have src : ∀ x : TI, x.k.kn → x.sz = 3 → ∀ b m, b + m * 3 ≤ D.length * 3 → okSrc x sV b m := fun x hk hx b m hb => by
      unfold okSrc
      rw [hx]
      refine ⟨hk, by omega, by omega, allP_iff.2 fun z hz => ?_⟩
      rw [u6 _ (by omega)]; exact (dropsC_flat _ _).one
    simp only [go_sem, Nat.reduceLT, Nat.reduceLeDiff, Nat.reduceMul, Int.reduceToNat, Int.reduceLE, hBo, V13o, vq, liq, hwk, hqj, hqj1, ite_self, ho, Nat.sub_zero, ↓okq.del (Nat.le_refl nq), ↓okq.del (Nat.le_succ nq)]
    refine ⟨⟨by omega, by omega⟩, ⟨by omega, by omega, by omega⟩, ⟨src _ (by trivial) (by rfl) 0 q (by omega), by omega⟩, fun cp1 f1 f2 => ⟨⟨src _ (by trivial) (by rfl) o _ ho3, f1, f2, by omega⟩, fun cp2 f3 f4 => ?_⟩⟩
    have em : q + (D.length - (q + 1)) = (D.eraseIdx q).length := by omega
    have hcell : ∀ (Z : Nat → SV) z, z < (q + (D.length - (q + 1))) * 3 → both (q * 3) (both 0 Z (news sV.c 0)) (news sV.c o) z = dropsC (D.eraseIdx q) z := fun Z z hz' => by
      unfold both news
      have ge := erase_getD D q (z / 3)
      split
      · rename_i hz2
        rw [if_neg (Nat.not_lt_zero z), Nat.sub_zero, Nat.zero_add, u6 z (by omega)]
        unfold dropsC
        rw [ge, if_pos (show z / 3 < q by omega)]
      · rename_i hz2
        have hl : q + 1 < D.length := by omega
        rw [ho2 hl, u6 _ (by omega)]
        unfold dropsC
        rw [ge, if_neg (show ¬ z / 3 < q by omega), show ((q + 1) * 3 + (z - q * 3)) % 3 = z % 3 by omega, show ((q + 1) * 3 + (z - q * 3)) / 3 = z / 3 + 1 by omega]
    generalize hZ : zrow _ = Z
    have hcz := hcell Z
    have hDr : DrAt ⟨(q + (D.length - (q + 1))) * 3, both (q * 3) (both 0 Z (news sV.c 0)) (news sV.c o), true, some (48, cp2 * 3)⟩ (D.eraseIdx q) :=
      ⟨by show _ ≤ (q + (D.length - (q + 1))) * 3; omega, fun z hz' => hcz z (by omega)⟩
    have okM := (hok_up (m' := nq + 2) okq (by omega)).consF (s := ⟨(q + (D.length - (q + 1))) * 3, both (q * 3) (both 0 Z (news sV.c 0)) (news sV.c o), true, some (48, cp2 * 3)⟩) (fun z hz' => by
      show (both (q * 3) (both 0 Z (news sV.c 0)) (news sV.c o) z).flat
      rw [hcz z hz']; exact dropsC_flat _ _)
    have xM : HExt n13 h13 ((nq + 2, ⟨(q + (D.length - (q + 1))) * 3, both (q * 3) (both 0 Z (news sV.c 0)) (news sV.c o), true, some (48, cp2 * 3)⟩) :: hq) := fun z hz t ht => by simp only [hget]; rw [if_neg (by omega)]; exact hxq z hz t ht
    have gM : hget ((nq + 2, ⟨(q + (D.length - (q + 1))) * 3, both (q * 3) (both 0 Z (news sV.c 0)) (news sV.c o), true, some (48, cp2 * 3)⟩) :: hq) n1 = some ⟨66, pcC P, true, none⟩ := by simp only [hget]; rw [if_neg (by omega)]; exact gq
    have lM := hget_hit hq (nq + 2) ⟨(q + (D.length - (q + 1))) * 3, both (q * 3) (both 0 Z (news sV.c 0)) (news sV.c o), true, some (48, cp2 * 3)⟩
    have IM : IntsOut ((nq + 2, ⟨(q + (D.length - (q + 1))) * 3, both (q * 3) (both 0 Z (news sV.c 0)) (news sV.c o), true, some (48, cp2 * 3)⟩) :: hq) n12 (nq + 3) V13 (uselN P D D.length) := I13q.ext (by omega) (fun z hz t ht => by simp only [hget]; rw [if_neg (by omega)]; exact ht)
    have lnM : n1 < nq + 3 := by omega
    rw [em] at okM hDr xM gM lM IM ⊢
    generalize ((nq + 2, (⟨(D.eraseIdx q).length * 3, both (q * 3) (both 0 Z (news sV.c 0)) (news sV.c o), true, some (48, cp2 * 3)⟩ : Seg)) :: hq) = hm at *
    have hEm : ∀ e ∈ D.eraseIdx q, e ∈ dropsL W H := fun e he => hDm e ((List.eraseIdx_sublist D q).subset he)
    have hmem := usel_mem (P := P) hqlt
    refine SW_seq (SW_run hti trivial ?_)
    simp only [go_sem, Nat.reduceLT, hBo, V13o, gM, lnM]
    refine (checkDrops_Q _ _ _ P (D.eraseIdx q) (nq + 2) cp2 _ hR (by omega) lM hDr (drR_in hR hP hW hH hEm) (by omega)).A ?_
    rw [check_in hR hP hW hH hEm (by omega)]
    simp only [go_sem, Nat.reduceLT, hBo, V13o]
    refine SW_run hti trivial ?_
    simp only [go_sem, Nat.reduceLT, hBo, V13o]
    refine (hasNum_Q _ _ _ V13 (uselN P D D.length) _ (q : Int) IM (by omega)).A ?_
    rw [hmem]
    generalize madeE P (D.eraseIdx q) = bb at *
    cases bb
    · have bf : (!(false == false)) = false := rfl
      simp only [go_sem, Nat.reduceLT, hBo, V13o, bf]
      refine SW_inBlock (SW_run hti trivial ?_)
      simp only [go_sem, Nat.reduceLT, hBo]
      refine SW_inv ⟨⟨(q + 1, hm, nq + 3), by show q + 1 ≤ D.length; omega, by show n13 ≤ nq + 3; omega, okM, xM⟩, by show D.length - (q + 1) < D.length - q; omega, ?_⟩
      refine Imp.id (by show n ≤ nq + 3; omega) ?_ (impH.base0 okM (Nat.le_refl _) HExt.rfl)
      simp only [go_sem, Nat.reduceLT, hBo, V13o, w64 (n := (q : Int) + 1) (by omega), Int.natCast_add, Int.natCast_one]
      exact ⟨SV.lt_mono (by omega) _ hB.lt, by omega, by omega, SV.lt_mono (by omega) _ V13l⟩
    · have bt : (!(true == true)) = false := rfl
      simp only [go_sem, Nat.reduceLT, hBo, V13o, bt]
      refine SW_inBlock (SW_run hti trivial ?_)
      simp only [go_sem, Nat.reduceLT, hBo]
      refine SW_inv ⟨⟨(q + 1, hm, nq + 3), by show q + 1 ≤ D.length; omega, by show n13 ≤ nq + 3; omega, okM, xM⟩, by show D.length - (q + 1) < D.length - q; omega, ?_⟩
      refine Imp.id (by show n ≤ nq + 3; omega) ?_ (impH.base0 okM (Nat.le_refl _) HExt.rfl)
      simp only [go_sem, Nat.reduceLT, hBo, V13o, w64 (n := (q : Int) + 1) (by omega), Int.natCast_add, Int.natCast_one]
      exact ⟨SV.lt_mono (by omega) _ hB.lt, by omega, by omega, SV.lt_mono (by omega) _ V13l⟩
  rintro ⟨⟨h14, n14⟩, hn14, ok14, hx14⟩
  simp only at hn14 ok14 hx14
  have g14 := hx14 n1 (by omega) _ g13
  have X14 := X13.tr hx14 (by omega)
  have ln14 : n1 < n14 := by omega
  refine SW_seq (SW_run hti trivial ?_)
  simp only [go_sem, Nat.reduceLT, Nat.reduceLeDiff, reduceCtorEq, hBo, g14, ln14, hW, hH]
  refine callA_false (p6any_E _ h14 n14 B W H ((hBs n (Nat.le_refl _)).up (by omega) X14 (by omega)) (by omega) (by omega) (by omega) (by omega) _ fun Q h15 n15 qW qH qR qP hn15 hx15 ok15 => ?_)
  have X15 := X14.tr hx15 (by omega)
  simp only [go_sem, Nat.reduceLT, reduceIte, hBo]
  have ok16 : HOk (n15 + 1) ((n15, ⟨66, pcC Q, true, none⟩) :: h15) := ok15.consF fun k hk => pcC_flat _ _
  have X16 : HExt n h ((n15, ⟨66, pcC Q, true, none⟩) :: h15) := X15.cons (by omega)
  have g16 : hget ((n15, ⟨66, pcC Q, true, none⟩) :: h15) n15 = some ⟨66, pcC Q, true, none⟩ := by simp only [hget, if_true]
  generalize ((n15, (⟨66, pcC Q, true, none⟩ : Seg)) :: h15) = h16 at *
  obtain ⟨n16, hn16⟩ : ∃ n16, n16 = n15 + 1 := ⟨_, rfl⟩
  rw [← hn16] at ok16 ⊢
  have ln16 : n15 < n16 := by omega
  obtain ⟨hqm, hql, hqc⟩ := peelR_any qR qP qW qH
  generalize hE2 : (peelR Q).1 = E2 at *
  generalize hC2 : (peelR Q).2 = C2 at *
  refine SW_seq (SW_run hti trivial ?_)
  simp only [go_sem, Nat.reduceLT, hBo, g16, ln16]
  refine callA_false (peelAll_E _ h16 n16 Q qR _ ?_)
  rw [hE2, hC2]
  intro V17 h17 n17 hn17 hx17 ok17 I17
  have V17o := I17.ok
  have g17 := hx17 n15 (by omega) _ g16
  have ln17 : n15 < n17 := by omega
  simp only [go_sem, Nat.reduceLT, hBo, V17o]
  refine SW_seq (SW_run hti trivial ?_)
  simp only [go_sem, Nat.reduceLT, hBo, V17o, g17, ln17]
  refine callA_false (peelAll2_S _ h17 n17 Q qR _ ?_)
  rw [hE2, hC2]
  intro V18 h18 n18 hn18 hx18 ok18 I18
  have I178 := I17.ext (n' := n18) (by omega) hx18
  have I18o := I18.out
  obtain ⟨i18, cap18, s18, rfl, f1, f2, f3, f4, f5, f6⟩ := I18
  have g18 := hx18 n15 (by omega) _ g17
  have ln18 : n15 < n18 := by omega
  have X18 := X16.tr (hx17.tr hx18 (by omega)) (by omega)
  have E2A : DrAt s18 E2 := ⟨by omega, f6⟩
  have E2R := drR_in qR qP qW qH hqm
  simp only [go_sem, Nat.reduceLT, hBo, V17o]
  rcases hqc with ⟨rfl, hMQ⟩ | rfl
  · refine SW_seq (SW_run hti trivial ?_)
    simp only [go_sem, Nat.reduceLT, hBo, V17o]
    refine (sameDr_Q _ _ _ V17 _ E2 _ _ I178 I18o (by omega)).A ?_
    simp only [go_sem, Nat.reduceLT, hBo, V17o]
    refine SW_seq (SW_run hti trivial ?_)
    simp only [go_sem, Nat.reduceLT, hBo, V17o, g18, ln18]
    refine (checkDrops_Q _ _ _ Q E2 i18 cap18 s18 qR (by omega) f3 E2A E2R (by omega)).A ?_
    rw [check_made qR qP qW qH hqm (by omega) hMQ]
    simp only [go_sem, Nat.reduceLT, hBo, V17o]
    refine SW_of_T hti trivial ?_
    simp only [go_sem, Nat.reduceLT, hBo, V17o]
    exact X18
  · refine SW_seq (SW_run hti trivial ?_)
    simp only [go_sem, Nat.reduceLT, hBo, V17o]
    refine (sameDr_Q _ _ _ V17 _ E2 _ _ I178 I18o (by omega)).A ?_
    simp only [go_sem, Nat.reduceLT, Int.reduceEq, hBo, V17o]
    refine SW_seq (SW_run hti trivial ?_)
    simp only [go_sem, Nat.reduceLT, hBo, V17o, g18, ln18]
    refine (checkDrops_Q _ _ _ Q E2 i18 cap18 s18 qR (by omega) f3 E2A E2R (by omega)).A ?_
    rw [check_in qR qP qW qH hqm (by omega)]
    simp only [go_sem, Nat.reduceLT, hBo, V17o]
    refine SW_of_T hti trivial ?_
    simp only [go_sem, Nat.reduceLT, Int.reduceEq, hBo, V17o]
    exact X18
end
end Go.Proofs.YtcjgpkhdlobbbaaGreat.V
