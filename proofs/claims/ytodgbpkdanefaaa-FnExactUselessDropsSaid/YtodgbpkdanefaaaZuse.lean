/- Part 5 of the texts that this proof stands on: a symbolic walk over the program, what its functions and the reference's do, plain laws. -/
import Derived.Test.YtodgbpkdanefaaaZusd
import Derived.Test.YtodgbpkdanefaaaV19
import Derived.Test.YtodgbpkdanefaaaZusc
set_option linter.all false

/- A slice with three bounds; drops, cloned and deleted. -/
namespace Go.Proofs.Ytodgbpkdanefaaa.V
theorem slice3_sound {P : Program} {ti : Nat → TI} {cx : Cx} {ρ : Rho} (hti : ∀ t, TyOK P t (ti t)) {t e i off len cap a b c : Nat} (hk : (ti t).k = .sl e) (hkn : (ti e).k.kn) (h1 : a ≤ b) (h2 : b ≤ c) (h3 : c ≤ cap) (hac : a < c) (w : World) :
    (Instr.sliceAt t (den ρ (.sl i off len cap)) (some (.int .i64 a)) (some (.int .i64 b)) (some (.int .i64 c))).run P w = .ok (den ρ (.sl i (off + a * (ti e).sz) (b - a) (c - a))) w := by
  have hx := (hti t).und
  rw [hk] at hx
  have e0 : (Instr.sliceBounds true len cap (some (.int .i64 a)) (some (.int .i64 b)) (some (.int .i64 c))).run P w = .ok (a, b, c) w := by
    simp [Instr.sliceBounds, Instr.sliceBound, asIntOf, h1, h2, h3, Sem.run_bind]
  simp only [Instr.sliceAt, Sem.run_bind, run_underlying hx, Result.andThen_ok, Instr.slice, den, e0, (hti e).runSize (TK.kn_iff.1 hkn), Sem.run_pure]
  congr 2
  simp [show ¬ c = a by omega, addr_add, Nat.add_assoc]
theorem T_slice3 {P : Program} {ti : Nat → TI} {cx : Cx} {Q : List (Nat × SV) → List (Nat × Seg) → Nat → Prop} {k : List It} {l : List (Nat × SV)} {h : List (Nat × Seg)} {n : Nat} {all rest : List Oper} {d : Option Nat} {t ty : Nat} {pos : String} {af : Array Edge} {x lo hi mx : Operand} {e i off len cap a b c : Nat}
    (hti : ∀ t, TyOK P t (ti t)) (hd : dok cx.nt d) (hX : ev l x = .sl i off len cap) (hA : ev l lo = .int .i64 a) (hB : ev l hi = .int .i64 b) (hC : ev l mx = .int .i64 c) (hk : (ti t).k = .sl e) (hkn : (ti e).k.kn) (h1 : a ≤ b) (h2 : b ≤ c) (h3 : c ≤ cap) (hac : a < c)
    (hT : T P ti cx Q (.ops false all rest :: k) (put l d (.sl i (off + a * (ti e).sz) (b - a) (c - a))) h n) :
    T P ti cx Q (.ops false all (⟨d, .slice t x (some lo) (some hi) (some mx), ty, pos, af, none⟩ :: rest) :: k) l h n := by
  rw [T]
  refine ⟨hd, ?_⟩
  show if isPv _ = true then _ else _
  rw [if_neg (by simp [isPv])]
  refine ⟨rfl, ?_⟩
  show OpSem P cx _ l h n _
  intro ρ ac w st sh hn
  obtain ⟨e1, f1⟩ := ev_sound st x (by rw [hX]; simp)
  obtain ⟨e2, _⟩ := ev_sound st lo (by rw [hA]; simp)
  obtain ⟨e3, _⟩ := ev_sound st hi (by rw [hB]; simp)
  obtain ⟨e4, _⟩ := ev_sound st mx (by rw [hC]; simp)
  rw [hX] at e1 f1
  rw [hA] at e2
  rw [hB] at e3
  rw [hC] at e4
  refine upon_value_eq (v := den ρ (.sl i (off + a * (ti e).sz) (b - a) (c - a))) ?_ _ _ ⟨ρ, _, _, n, fun _ _ => rfl, st.put _ (.sl i (off + a * (ti e).sz) (b - a) (c - a)) f1 (dok_lt hd), sh, hn, hT⟩
  have hs := slice3_sound (P := P) (cx := cx) (ρ := ρ) hti (i := i) (off := off) (len := len) hk hkn h1 h2 h3 hac w
  have e2' : ac.eval lo = .int .i64 a := e2
  have e3' : ac.eval hi = .int .i64 b := e3
  have e4' : ac.eval mx = .int .i64 c := e4
  simp only [execOp, e1, e2', e3', e4', Option.map_some, Sem.run_bind, hs, Result.andThen_ok, Sem.run_pure]
section
variable (cx : Cx) (h : List (Nat × Seg)) (n : Nat)
theorem cloneDr_E (i cap : Nat) (L : List Dr) (s : Seg) (hs : hget h i = some s) (hi : i < n) (hL : DrAt s L) (hm9 : L.length ≤ 10000000) (K : HK)
    (hK : ∀ cap', L.length ≤ cap' → cap' ≤ maxLen → K (.sl n 0 L.length cap') ((n, ⟨L.length * 3, dropsC L, true, some (44, cap' * 3)⟩) :: h) (n + 1)) :
    CallE Try.prog cx 70 [.sl i 0 L.length cap] h n K := by
  obtain ⟨hn, hc⟩ := hL
  refine CallE.imp1 (K := fun r h1 n1 => ∃ cap', L.length ≤ cap' ∧ cap' ≤ maxLen ∧ r = .sl (n + 1) 0 L.length cap' ∧ n1 = n + 2 ∧ HExt n h h1 ∧ ∃ t, hget h1 (n + 1) = some t ∧ t.n = L.length * 3 ∧ t.rw = true ∧ t.own = some (44, cap' * 3) ∧ ∀ k, k < L.length * 3 → t.c k = dropsC L k) ?_ ?_
  · refine callE_of_T (P := Try.prog) hti (nt := 8) (rs := [.tmp 2]) rfl rfl Try.call70 Try.func70 rfl _ (by simp only [go_sem, and_self]) (Nat.le_of_ble_eq_true rfl) _ fun hok => ?_
    simp only [go_sem, Nat.reduceBEq, Nat.reduceLT, Nat.reduceLeDiff, Nat.reduceAdd, Nat.reduceMul, Nat.reduceSub, Nat.reduceMod, Nat.reduceDiv, Nat.reduceEqDiff, Int.reduceToNat, reduceIte, reduceCtorEq, Int.reduceLE, Int.reduceLT, Int.reduceEq, Int.reduceNeg, Int.reduceAdd, Int.reduceSub, Int.reduceMul, hs, hi, ↓hok.del (Nat.le_refl n)]
    refine ⟨⟨⟨trivial, Nat.succ_pos 2, ?_, ?_⟩, by omega⟩, fun cap' c1 c2 => ?_⟩
    · show 0 + L.length * 3 ≤ s.n
      omega
    · refine allP_iff.2 fun j hj => ?_
      have hj : j < L.length * 3 := hj
      show (s.c (0 + j)).one
      rw [Nat.zero_add, hc j hj]
      exact (dropsC_flat L j).one
    · refine ⟨cap', c1, c2, rfl, _, rfl, rfl, rfl, rfl, fun k hk => ?_⟩
      refine Eq.trans ?_ (hc k hk)
      simp only [both, news, Nat.not_lt_zero, if_false, Nat.sub_zero, Nat.zero_add]
  · rintro hok r h1 n1 ⟨cap', c1, c2, rfl, rfl, hx, t, ht, t1, t2, t4, t3⟩
    exact ⟨n + 1, .sl n 0 L.length cap', (n, ⟨L.length * 3, dropsC L, true, some (44, cap' * 3)⟩) :: h, n + 1, by omega, by omega, by simp only [ren_sl, sig_hit], Nat.lt_succ_self n,
      impH.cons1 ht (Nat.lt_succ_self n) (SegLe.flat (by rw [t1]; exact Nat.le_refl _) (fun _ => t2) (.inr t4.symm) fun k hk => ⟨t3 k hk, dropsC_flat _ _⟩) (impH.base1 hok (by simp) (Nat.le_refl n) hx), hK cap' c1 c2⟩
theorem delete_E (i cap a : Nat) (L : List Dr) (hs : hget h i = some ⟨L.length * 3, dropsC L, true, some (44, cap * 3)⟩) (hi : i < n) (ha : a < L.length) (hcap : L.length ≤ cap) (hcm : cap ≤ maxLen) (hm9 : L.length ≤ 10000000) (K : HK)
    (hK : ∀ j h' n' s', n ≤ n' → j < n' → HBut i n h h' → HOk n' h' → hget h' j = some s' → DrAt s' (L.eraseIdx a) → K (.sl j 0 (L.length - 1) cap) h' n') :
    CallE Try.prog cx 69 [.sl i 0 L.length cap, .int .i64 a, .int .i64 ((a + 1 : Nat) : Int)] h n K := by
  refine CallE.hokE ?_
  refine callE_of_T (P := Try.prog) hti (nt := 33) (rs := [.tmp 6]) rfl rfl Try.call69 Try.func69 rfl _ (by simp only [go_sem, and_self]) (Nat.le_of_ble_eq_true rfl) _ fun hok => ?_
  simp only [go_sem, Nat.reduceBEq, Nat.reduceLT, Nat.reduceLeDiff, Nat.reduceAdd, Nat.reduceMul, Nat.reduceSub, Nat.reduceMod, Nat.reduceDiv, Nat.reduceEqDiff, Int.reduceToNat, reduceIte, reduceCtorEq, Int.reduceLE, Int.reduceLT, Int.reduceEq, Int.reduceNeg, Int.reduceAdd, Int.reduceSub, Int.reduceMul]
  refine T_slice3 (a := a) (b := a + 1) (c := L.length) hti (by first | (simp only [go_sem, Nat.reduceBEq, Nat.reduceLT, Nat.reduceLeDiff, Nat.reduceAdd, Nat.reduceMul, Nat.reduceSub, Nat.reduceMod, Nat.reduceDiv, Nat.reduceEqDiff, Int.reduceToNat, reduceIte, reduceCtorEq, Int.reduceLE, Int.reduceLT, Int.reduceEq, Int.reduceNeg, Int.reduceAdd, Int.reduceSub, Int.reduceMul]; done) | (simp only [go_sem, Nat.reduceBEq, Nat.reduceLT, Nat.reduceLeDiff, Nat.reduceAdd, Nat.reduceMul, Nat.reduceSub, Nat.reduceMod, Nat.reduceDiv, Nat.reduceEqDiff, Int.reduceToNat, reduceIte, reduceCtorEq, Int.reduceLE, Int.reduceLT, Int.reduceEq, Int.reduceNeg, Int.reduceAdd, Int.reduceSub, Int.reduceMul]; trivial)) (by first | (simp only [go_sem, Nat.reduceBEq, Nat.reduceLT, Nat.reduceLeDiff, Nat.reduceAdd, Nat.reduceMul, Nat.reduceSub, Nat.reduceMod, Nat.reduceDiv, Nat.reduceEqDiff, Int.reduceToNat, reduceIte, reduceCtorEq, Int.reduceLE, Int.reduceLT, Int.reduceEq, Int.reduceNeg, Int.reduceAdd, Int.reduceSub, Int.reduceMul]; done) | (simp only [go_sem, Nat.reduceBEq, Nat.reduceLT, Nat.reduceLeDiff, Nat.reduceAdd, Nat.reduceMul, Nat.reduceSub, Nat.reduceMod, Nat.reduceDiv, Nat.reduceEqDiff, Int.reduceToNat, reduceIte, reduceCtorEq, Int.reduceLE, Int.reduceLT, Int.reduceEq, Int.reduceNeg, Int.reduceAdd, Int.reduceSub, Int.reduceMul]; rfl)) (by first | (simp only [go_sem, Nat.reduceBEq, Nat.reduceLT, Nat.reduceLeDiff, Nat.reduceAdd, Nat.reduceMul, Nat.reduceSub, Nat.reduceMod, Nat.reduceDiv, Nat.reduceEqDiff, Int.reduceToNat, reduceIte, reduceCtorEq, Int.reduceLE, Int.reduceLT, Int.reduceEq, Int.reduceNeg, Int.reduceAdd, Int.reduceSub, Int.reduceMul]; done) | (simp only [go_sem, Nat.reduceBEq, Nat.reduceLT, Nat.reduceLeDiff, Nat.reduceAdd, Nat.reduceMul, Nat.reduceSub, Nat.reduceMod, Nat.reduceDiv, Nat.reduceEqDiff, Int.reduceToNat, reduceIte, reduceCtorEq, Int.reduceLE, Int.reduceLT, Int.reduceEq, Int.reduceNeg, Int.reduceAdd, Int.reduceSub, Int.reduceMul]; rfl)) (by first | (simp only [go_sem, Nat.reduceBEq, Nat.reduceLT, Nat.reduceLeDiff, Nat.reduceAdd, Nat.reduceMul, Nat.reduceSub, Nat.reduceMod, Nat.reduceDiv, Nat.reduceEqDiff, Int.reduceToNat, reduceIte, reduceCtorEq, Int.reduceLE, Int.reduceLT, Int.reduceEq, Int.reduceNeg, Int.reduceAdd, Int.reduceSub, Int.reduceMul]; done) | (simp only [go_sem, Nat.reduceBEq, Nat.reduceLT, Nat.reduceLeDiff, Nat.reduceAdd, Nat.reduceMul, Nat.reduceSub, Nat.reduceMod, Nat.reduceDiv, Nat.reduceEqDiff, Int.reduceToNat, reduceIte, reduceCtorEq, Int.reduceLE, Int.reduceLT, Int.reduceEq, Int.reduceNeg, Int.reduceAdd, Int.reduceSub, Int.reduceMul]; rfl)) (by first | (simp only [go_sem, Nat.reduceBEq, Nat.reduceLT, Nat.reduceLeDiff, Nat.reduceAdd, Nat.reduceMul, Nat.reduceSub, Nat.reduceMod, Nat.reduceDiv, Nat.reduceEqDiff, Int.reduceToNat, reduceIte, reduceCtorEq, Int.reduceLE, Int.reduceLT, Int.reduceEq, Int.reduceNeg, Int.reduceAdd, Int.reduceSub, Int.reduceMul]; done) | (simp only [go_sem, Nat.reduceBEq, Nat.reduceLT, Nat.reduceLeDiff, Nat.reduceAdd, Nat.reduceMul, Nat.reduceSub, Nat.reduceMod, Nat.reduceDiv, Nat.reduceEqDiff, Int.reduceToNat, reduceIte, reduceCtorEq, Int.reduceLE, Int.reduceLT, Int.reduceEq, Int.reduceNeg, Int.reduceAdd, Int.reduceSub, Int.reduceMul]; rfl)) (by first | (simp only [go_sem, Nat.reduceBEq, Nat.reduceLT, Nat.reduceLeDiff, Nat.reduceAdd, Nat.reduceMul, Nat.reduceSub, Nat.reduceMod, Nat.reduceDiv, Nat.reduceEqDiff, Int.reduceToNat, reduceIte, reduceCtorEq, Int.reduceLE, Int.reduceLT, Int.reduceEq, Int.reduceNeg, Int.reduceAdd, Int.reduceSub, Int.reduceMul]; done) | (simp only [go_sem, Nat.reduceBEq, Nat.reduceLT, Nat.reduceLeDiff, Nat.reduceAdd, Nat.reduceMul, Nat.reduceSub, Nat.reduceMod, Nat.reduceDiv, Nat.reduceEqDiff, Int.reduceToNat, reduceIte, reduceCtorEq, Int.reduceLE, Int.reduceLT, Int.reduceEq, Int.reduceNeg, Int.reduceAdd, Int.reduceSub, Int.reduceMul]; rfl)) (by first | (simp only [go_sem, Nat.reduceBEq, Nat.reduceLT, Nat.reduceLeDiff, Nat.reduceAdd, Nat.reduceMul, Nat.reduceSub, Nat.reduceMod, Nat.reduceDiv, Nat.reduceEqDiff, Int.reduceToNat, reduceIte, reduceCtorEq, Int.reduceLE, Int.reduceLT, Int.reduceEq, Int.reduceNeg, Int.reduceAdd, Int.reduceSub, Int.reduceMul]; done) | (simp only [go_sem, Nat.reduceBEq, Nat.reduceLT, Nat.reduceLeDiff, Nat.reduceAdd, Nat.reduceMul, Nat.reduceSub, Nat.reduceMod, Nat.reduceDiv, Nat.reduceEqDiff, Int.reduceToNat, reduceIte, reduceCtorEq, Int.reduceLE, Int.reduceLT, Int.reduceEq, Int.reduceNeg, Int.reduceAdd, Int.reduceSub, Int.reduceMul]; trivial)) (by omega) (by omega) hcap ha ?_
  simp only [go_sem, Nat.reduceBEq, Nat.reduceLT, Nat.reduceLeDiff, Nat.reduceAdd, Nat.reduceMul, Nat.reduceSub, Nat.reduceMod, Nat.reduceDiv, Nat.reduceEqDiff, Int.reduceToNat, reduceIte, reduceCtorEq, Int.reduceLE, Int.reduceLT, Int.reduceEq, Int.reduceNeg, Int.reduceAdd, Int.reduceSub, Int.reduceMul, show ((a : Int) = ((a + 1 : Nat) : Int)) = False from eq_false (by omega)]
  refine T_drawG hti 8 [6] (.b 0 0 (.b 0 1 (.b 0 2 (.b 0 3 (.b 0 4 (.b 0 5 (.b 4 6 (.b 0 7 (.f) .o) .o) .o) .o) .o) .o) .o) .o) _ _ (by kernel_rfl) (by kernel_rfl) ?_
  simp only [go_sem, Nat.reduceBEq, Nat.reduceLT, Nat.reduceLeDiff, Nat.reduceAdd, Nat.reduceMul, Nat.reduceSub, Nat.reduceMod, Nat.reduceDiv, Nat.reduceEqDiff, Int.reduceToNat, reduceIte, reduceCtorEq, Int.reduceLE, Int.reduceLT, Int.reduceEq, Int.reduceNeg, Int.reduceAdd, Int.reduceSub, Int.reduceMul, hs, hi]
  simp only [Nat.sub_zero]
  have em : a + (L.length - (a + 1)) = L.length - 1 := by omega
  have e1 : ((cap : Int) = ((L.length - 1 : Nat) : Int)) = False := eq_false (by omega)
  obtain ⟨o, ho⟩ : ∃ o, (if (cap : Int) = ((a + 1 : Nat) : Int) then 0 else (a + 1) * 3) = o := ⟨_, rfl⟩
  have ho2 : a + 1 < L.length → o = (a + 1) * 3 := fun hl => by rw [← ho, if_neg (by omega)]
  have ho3 : o + (L.length - (a + 1)) * 3 ≤ L.length * 3 := by
    by_cases hl : a + 1 < L.length
    · rw [ho2 hl]; omega
    · have : o ≤ (a + 1) * 3 := by rw [← ho]; split <;> omega
      omega
  simp only [em, e1, ho, if_false]
  refine ⟨⟨by omega, by omega⟩, ⟨by omega, by omega, by omega⟩, by split <;> rfl, ⟨⟨ho3, allP_iff.2 fun k hk => (dropsC_flat _ _).one⟩, trivial, by omega, hcm, by omega, by omega⟩, fun t => ⟨⟨by omega, by omega, by omega⟩, by omega, fun hok' => ?_⟩⟩
  refine hK n _ (n + 1) _ (by omega) (by omega) (fun z hz hzi u hu => by simp only [hget]; rw [if_neg (by omega), hget_hdel, if_neg (Ne.symm hzi)]; exact hu) hok' (hget_hit _ _ _) ⟨?_, fun k hk => ?_⟩
  · rw [List.length_eraseIdx_of_lt ha]; show (L.length - 1) * 3 ≤ cap * 3; omega
  · rw [List.length_eraseIdx_of_lt ha] at hk
    dsimp only
    unfold clrC
    rw [if_neg (by omega)]
    dsimp only
    rw [if_pos hk]
    unfold both news
    have hj : k / 3 < L.length - 1 := by omega
    have ge : (L.eraseIdx a).getD (k / 3) (0, 0, 0) = if k / 3 < a then L.getD (k / 3) (0, 0, 0) else L.getD (k / 3 + 1) (0, 0, 0) := by
      rw [List.getD_eq_getElem?_getD, List.getElem?_eraseIdx]
      split <;> rw [List.getD_eq_getElem?_getD]
    split
    · rename_i hk2
      unfold dropsC
      rw [ge, if_pos (show k / 3 < a by omega)]
    · rename_i hk2
      have hl : a + 1 < L.length := by omega
      rw [ho2 hl]
      unfold dropsC
      rw [ge, if_neg (show ¬ k / 3 < a by omega), show ((a + 1) * 3 + (k - a * 3)) % 3 = k % 3 by omega, show ((a + 1) * 3 + (k - a * 3)) / 3 = k / 3 + 1 by omega]
end
end Go.Proofs.Ytodgbpkdanefaaa.V

/- UselessDrops: both codes. -/
namespace Go.Proofs.Ytodgbpkdanefaaa.V
theorem HOk.consF {n : Nat} {h : List (Nat × Seg)} {s : Seg} (hok : HOk n h) (hs : ∀ k, k < s.n → (s.c k).flat) : HOk (n + 1) ((n, s) :: h) := fun i t hi => by
  simp only [hget] at hi
  by_cases e : n = i
  · rw [if_pos e] at hi; cases hi
    exact ⟨by omega, fun k hk => (hs k hk).below _⟩
  · rw [if_neg e] at hi
    obtain ⟨g1, g2⟩ := hok i t hi
    exact ⟨by omega, fun k hk => SV.lt_mono (by omega) _ (g2 k hk)⟩
theorem HOk.hdel {n j : Nat} {h : List (Nat × Seg)} (hok : HOk n h) : HOk n (hdel h j) := fun i t hi => by
  rw [hget_hdel] at hi
  split at hi
  · cases hi
  · exact hok i t hi
/-- A list of numbers to which one may append. -/
def InO (h : List (Nat × Seg)) (lo n : Nat) (V : SV) (L : List Int) : Prop :=
  ∃ j cap s, V = .sl j 0 L.length cap ∧ lo ≤ j ∧ j < n ∧ hget h j = some s ∧ s.own = some (2, cap) ∧ s.rw = true ∧ s.n = L.length ∧ L.length ≤ cap ∧ cap ≤ maxLen ∧ ∀ k, k < L.length → s.c k = intsC L k
theorem InO.out {h : List (Nat × Seg)} {lo n : Nat} {V : SV} {L : List Int} (hA : InO h lo n V L) : IntsOut h lo n V L := by
  obtain ⟨i, cap, s, h1, h2, h3, h4, h5, h6, h7, h8, h9, h10⟩ := hA
  exact .inr ⟨i, cap, s, h1, h2, h3, h4, h6, h7, h10⟩
theorem InO.lo {h : List (Nat × Seg)} {lo lo' n : Nat} {V : SV} {L : List Int} (hA : InO h lo n V L) (hl : lo' ≤ lo) : InO h lo' n V L := by
  obtain ⟨i, cap, s, h1, h2, h3⟩ := hA
  exact ⟨i, cap, s, h1, by omega, h3⟩
theorem InO.ext {h h' : List (Nat × Seg)} {lo n n' : Nat} {V : SV} {L : List Int} (hA : InO h lo n V L) (hn : n ≤ n') (hx : HExt n h h') : InO h' lo n' V L := by
  obtain ⟨i, cap, s, h1, h2, h3, h4, h5⟩ := hA
  exact ⟨i, cap, s, h1, h2, by omega, hx i h3 s h4, h5⟩
noncomputable def madeE (P : Pc) (D : List Dr) : Bool := pcEq (allN7 ⟨P.wide, P.high, fun _ _ => 0⟩ D D.length) P
noncomputable def uselN (P : Pc) (D : List Dr) (k : Nat) : List Int := ((List.range k).filter fun i => madeE P (D.eraseIdx i)).map fun i : Nat => (i : Int)
theorem uselN_succ (P : Pc) (D : List Dr) (k : Nat) : uselN P D (k + 1) = uselN P D k ++ (if madeE P (D.eraseIdx k) then [(k : Int)] else []) := by
  unfold uselN
  rw [List.range_succ, List.filter_append, List.map_append]
  congr 1
  cases h : madeE P (D.eraseIdx k) <;> simp [h]
theorem uselN_len (P : Pc) (D : List Dr) (k : Nat) : (uselN P D k).length ≤ k := by
  unfold uselN; rw [List.length_map]; exact Nat.le_trans (List.length_filter_le _ _) (by simp)
noncomputable def uselC (P : Pc) (D : List Dr) : Int := if dcode P D = 0 then (if madeE P D then 0 else 4) else dcode P D
noncomputable def uselR (P : Pc) (D : List Dr) : List Int × Int := if uselC P D = 0 then (uselN P D D.length, 0) else ([], uselC P D)
theorem uselC_0 {P : Pc} {D : List Dr} (h : uselC P D = 0) : dcode P D = 0 ∧ madeE P D = true := by
  unfold uselC at h
  split at h
  · rename_i h1
    split at h
    · rename_i h2; exact ⟨h1, h2⟩
    · cases h
  · rename_i h1; exact absurd h h1
theorem erase_getD (L : List Dr) (a q : Nat) : (L.eraseIdx a).getD q (0, 0, 0) = if q < a then L.getD q (0, 0, 0) else L.getD (q + 1) (0, 0, 0) := by
  rw [List.getD_eq_getElem?_getD, List.getElem?_eraseIdx]
  split <;> rw [List.getD_eq_getElem?_getD]
theorem dcode_erase {P : Pc} {D : List Dr} (h : dcode P D = 0) {a : Nat} (ha : a < D.length) : dcode P (D.eraseIdx a) = 0 := by
  obtain ⟨hP, hl, hc⟩ := dcode_ok h
  have hlen := List.length_eraseIdx_of_lt ha
  have hpk : pcokB P = true := by
    by_cases hk : pcokB P = true
    · exact hk
    · rw [dcode_1 hk] at h; cases h
  unfold dcode
  rw [if_pos hpk, if_neg (by omega), if_pos]
  intro q hq
  rw [erase_getD]
  split
  · exact hc q (by omega)
  · exact hc (q + 1) (by omega)
theorem drR_erase {D : List Dr} (h : DrR D) {a : Nat} (ha : a < D.length) : DrR (D.eraseIdx a) := by
  have hlen := List.length_eraseIdx_of_lt ha
  intro q hq
  rw [erase_getD]
  split
  · exact h q (by omega)
  · exact h (q + 1) (by omega)
/-- One number appended. -/
theorem appI {h hq : List (Nat × Seg)} {n nq jv cap : Nat} {A : List Int} {a : Int} {sc c1 : Nat → SV} {w : Option (Nat × Nat)} (I1 : n ≤ nq) (I2 : HOk nq hq) (I3 : HExt n h hq) (v1 : n ≤ jv) (c10 : c1 0 = .int .i64 a)
    (v9 : ∀ k, k < A.length → sc k = intsC A k) (m1 : A.length + 1 ≤ cap) (m2 : cap ≤ maxLen) :
    HOk (nq + 2) ((nq + 1, ⟨A.length + 1, both A.length sc (news c1 0), true, some (2, cap)⟩) :: (nq, ⟨1, c1, true, w⟩) :: hdel hq jv) ∧
    HExt n h ((nq + 1, ⟨A.length + 1, both A.length sc (news c1 0), true, some (2, cap)⟩) :: (nq, ⟨1, c1, true, w⟩) :: hdel hq jv) ∧
    InO ((nq + 1, ⟨A.length + 1, both A.length sc (news c1 0), true, some (2, cap)⟩) :: (nq, ⟨1, c1, true, w⟩) :: hdel hq jv) n (nq + 2) (.sl (nq + 1) 0 (A.length + 1) cap) (A ++ [a]) := by
  have hbo : ∀ k, k < A.length + 1 → both A.length sc (news c1 0) k = intsC (A ++ [a]) k := fun k hk => by
    unfold both news
    split
    · rename_i hk2
      rw [v9 k hk2]
      unfold intsC
      rw [List.getD_eq_getElem?_getD, List.getD_eq_getElem?_getD, List.getElem?_append_left hk2]
    · rename_i hk2
      have e : k = A.length := by omega
      subst e
      rw [Nat.sub_self, Nat.zero_add, c10]
      unfold intsC
      simp
  refine ⟨(I2.hdel.consF fun k hk => ?_).consF fun k hk => ?_, fun z hz t ht => ?_, nq + 1, cap, _, by rw [List.length_append]; rfl, by omega, by omega, hget_hit _ _ _, rfl, rfl, by rw [List.length_append]; rfl, by rw [List.length_append]; exact m1, m2, fun k hk => hbo k (by rw [List.length_append] at hk; exact hk)⟩
  · have hk : k < 1 := hk
    have e : k = 0 := by omega
    subst e
    show (c1 0).flat
    rw [c10]; trivial
  · show (both A.length sc (news c1 0) k).flat
    rw [hbo k hk]; unfold intsC; trivial
  · simp only [hget]
    rw [if_neg (by omega), if_neg (by omega), hget_hdel, if_neg (by omega)]
    exact I3 z hz t ht
end Go.Proofs.Ytodgbpkdanefaaa.V

/- UselessDrops: the walks. -/
namespace Go.Proofs.Ytodgbpkdanefaaa.V
structure UsI (P : Pc) (D : List Dr) (h : List (Nat × Seg)) (n k : Nat) (hq : List (Nat × Seg)) (nq : Nat) (V : SV) : Prop where
  le : k ≤ D.length
  hn : n + 1 ≤ nq
  ok : HOk nq hq
  ex : HExt n h hq
  g0 : hget hq n = some (pcS P)
  out : InO hq (n + 1) nq V (uselN P D k)
section
variable (cx : Cx) (h : List (Nat × Seg)) (n : Nat)
set_option maxHeartbeats 1600000 in
theorem useless_E (P : Pc) (D : List Dr) (j cap : Nat) (s : Seg) (hR : PcR P) (hj : j < n) (hd : hget h j = some s) (hD : DrAt s D) (hDR : DrR D) (hm9 : D.length ≤ 10000000) (K : HK)
    (hK : ∀ V h' n', n ≤ n' → HExt n h h' → HOk n' h' → IntsOut h' n n' V (uselR P D).1 → K (.tup 2 (cl [V, .int .i64 (uselR P D).2])) h' n') :
    CallE Try.prog cx 37 [.agg 66 (pcC P), .sl j 0 D.length cap] h n K := by
  refine CallE.hokE ?_
  refine callE_of_T (P := Try.prog) hti (nt := 40) (rs := [.tmp 4, .tmp 5]) rfl rfl Try.call37 Try.func37 rfl _ (by simp only [go_sem, and_self]) (Nat.le_of_ble_eq_true rfl) _ fun hok => ?_
  have okS : HOk (n + 1) ((n, pcS P) :: h) := hok.consF fun k hk => pcC_flat _ _
  have bad : ∀ c, uselR P D = ([], c) → K (.tup 2 (cl [.nils, .int .i64 c])) ((n, pcS P) :: h) (n + 1) := fun c e => by
    have := hK .nils _ (n + 1) (by omega) (by simp only [go_sem, Nat.reduceBEq, Nat.reduceLT, Nat.reduceLeDiff, Nat.reduceAdd, Nat.reduceMul, Nat.reduceSub, Nat.reduceMod, Nat.reduceDiv, Nat.reduceEqDiff, Int.reduceToNat, reduceIte, reduceCtorEq, Int.reduceLE, Int.reduceLT, Int.reduceEq, Int.reduceNeg, Int.reduceAdd, Int.reduceSub, Int.reduceMul, HExt_cons]) okS (by rw [e]; exact .inl ⟨rfl, rfl⟩)
    rw [e] at this; exact this
  have badC : uselC P D ≠ 0 → uselR P D = ([], uselC P D) := fun hc => by unfold uselR; rw [if_neg hc]
  have hnj : n ≠ j := by omega
  simp only [go_sem, Nat.reduceBEq, Nat.reduceLT, Nat.reduceLeDiff, Nat.reduceAdd, Nat.reduceMul, Nat.reduceSub, Nat.reduceMod, Nat.reduceDiv, Nat.reduceEqDiff, Int.reduceToNat, reduceIte, reduceCtorEq, Int.reduceLE, Int.reduceLT, Int.reduceEq, Int.reduceNeg, Int.reduceAdd, Int.reduceSub, Int.reduceMul]
  refine (dropsCode_Q _ _ _ n j cap P D s (by first | (simp only [go_sem, Nat.reduceBEq, Nat.reduceLT, Nat.reduceLeDiff, Nat.reduceAdd, Nat.reduceMul, Nat.reduceSub, Nat.reduceMod, Nat.reduceDiv, Nat.reduceEqDiff, Int.reduceToNat, reduceIte, reduceCtorEq, Int.reduceLE, Int.reduceLT, Int.reduceEq, Int.reduceNeg, Int.reduceAdd, Int.reduceSub, Int.reduceMul]; done) | (simp only [go_sem, Nat.reduceBEq, Nat.reduceLT, Nat.reduceLeDiff, Nat.reduceAdd, Nat.reduceMul, Nat.reduceSub, Nat.reduceMod, Nat.reduceDiv, Nat.reduceEqDiff, Int.reduceToNat, reduceIte, reduceCtorEq, Int.reduceLE, Int.reduceLT, Int.reduceEq, Int.reduceNeg, Int.reduceAdd, Int.reduceSub, Int.reduceMul]; rfl)) (by omega) hR (by omega) (by first | (simp only [go_sem, Nat.reduceBEq, Nat.reduceLT, Nat.reduceLeDiff, Nat.reduceAdd, Nat.reduceMul, Nat.reduceSub, Nat.reduceMod, Nat.reduceDiv, Nat.reduceEqDiff, Int.reduceToNat, reduceIte, reduceCtorEq, Int.reduceLE, Int.reduceLT, Int.reduceEq, Int.reduceNeg, Int.reduceAdd, Int.reduceSub, Int.reduceMul, hd, hj, hnj]; done) | (simp only [go_sem, Nat.reduceBEq, Nat.reduceLT, Nat.reduceLeDiff, Nat.reduceAdd, Nat.reduceMul, Nat.reduceSub, Nat.reduceMod, Nat.reduceDiv, Nat.reduceEqDiff, Int.reduceToNat, reduceIte, reduceCtorEq, Int.reduceLE, Int.reduceLT, Int.reduceEq, Int.reduceNeg, Int.reduceAdd, Int.reduceSub, Int.reduceMul, hd, hj, hnj]; rfl)) hD hm9).A ?_
  by_cases hc : dcode P D = 0
  rotate_left
  · have e : uselC P D = dcode P D := by unfold uselC; rw [if_neg hc]
    simp only [go_sem, Nat.reduceBEq, Nat.reduceLT, Nat.reduceLeDiff, Nat.reduceAdd, Nat.reduceMul, Nat.reduceSub, Nat.reduceMod, Nat.reduceDiv, Nat.reduceEqDiff, Int.reduceToNat, reduceIte, reduceCtorEq, Int.reduceLE, Int.reduceLT, Int.reduceEq, Int.reduceNeg, Int.reduceAdd, Int.reduceSub, Int.reduceMul, hc]
    exact fun _ => bad _ (by rw [badC (by rw [e]; exact hc), e])
  simp only [go_sem, Nat.reduceBEq, Nat.reduceLT, Nat.reduceLeDiff, Nat.reduceAdd, Nat.reduceMul, Nat.reduceSub, Nat.reduceMod, Nat.reduceDiv, Nat.reduceEqDiff, Int.reduceToNat, reduceIte, reduceCtorEq, Int.reduceLE, Int.reduceLT, Int.reduceEq, Int.reduceNeg, Int.reduceAdd, Int.reduceSub, Int.reduceMul, hc]
  refine (madeBy_Q _ _ _ n j cap P D s (by first | (simp only [go_sem, Nat.reduceBEq, Nat.reduceLT, Nat.reduceLeDiff, Nat.reduceAdd, Nat.reduceMul, Nat.reduceSub, Nat.reduceMod, Nat.reduceDiv, Nat.reduceEqDiff, Int.reduceToNat, reduceIte, reduceCtorEq, Int.reduceLE, Int.reduceLT, Int.reduceEq, Int.reduceNeg, Int.reduceAdd, Int.reduceSub, Int.reduceMul]; done) | (simp only [go_sem, Nat.reduceBEq, Nat.reduceLT, Nat.reduceLeDiff, Nat.reduceAdd, Nat.reduceMul, Nat.reduceSub, Nat.reduceMod, Nat.reduceDiv, Nat.reduceEqDiff, Int.reduceToNat, reduceIte, reduceCtorEq, Int.reduceLE, Int.reduceLT, Int.reduceEq, Int.reduceNeg, Int.reduceAdd, Int.reduceSub, Int.reduceMul]; rfl)) (by omega) hR (by omega) (by first | (simp only [go_sem, Nat.reduceBEq, Nat.reduceLT, Nat.reduceLeDiff, Nat.reduceAdd, Nat.reduceMul, Nat.reduceSub, Nat.reduceMod, Nat.reduceDiv, Nat.reduceEqDiff, Int.reduceToNat, reduceIte, reduceCtorEq, Int.reduceLE, Int.reduceLT, Int.reduceEq, Int.reduceNeg, Int.reduceAdd, Int.reduceSub, Int.reduceMul, hd, hj, hnj]; done) | (simp only [go_sem, Nat.reduceBEq, Nat.reduceLT, Nat.reduceLeDiff, Nat.reduceAdd, Nat.reduceMul, Nat.reduceSub, Nat.reduceMod, Nat.reduceDiv, Nat.reduceEqDiff, Int.reduceToNat, reduceIte, reduceCtorEq, Int.reduceLE, Int.reduceLT, Int.reduceEq, Int.reduceNeg, Int.reduceAdd, Int.reduceSub, Int.reduceMul, hd, hj, hnj]; rfl)) hD hDR hm9 hc).A ?_
  have e0 : pcEq (allN7 ⟨P.wide, P.high, fun _ _ => 0⟩ D D.length) P = madeE P D := rfl
  rw [e0]
  cases hm : madeE P D
  · have e : uselC P D = 4 := by unfold uselC; rw [if_pos hc, hm]; rfl
    simp only [go_sem, Nat.reduceBEq, Nat.reduceLT, Nat.reduceLeDiff, Nat.reduceAdd, Nat.reduceMul, Nat.reduceSub, Nat.reduceMod, Nat.reduceDiv, Nat.reduceEqDiff, Int.reduceToNat, reduceIte, reduceCtorEq, Int.reduceLE, Int.reduceLT, Int.reduceEq, Int.reduceNeg, Int.reduceAdd, Int.reduceSub, Int.reduceMul]
    exact fun _ => bad 4 (by rw [badC (by rw [e]; decide), e])
  have e : uselC P D = 0 := by unfold uselC; rw [if_pos hc, hm]; rfl
  have hgood : uselR P D = (uselN P D D.length, 0) := by unfold uselR; rw [if_pos e]
  rw [hgood] at hK
  obtain ⟨hP, hl100, hcan⟩ := dcode_ok hc
  simp only [go_sem, Nat.reduceBEq, Nat.reduceLT, Nat.reduceLeDiff, Nat.reduceAdd, Nat.reduceMul, Nat.reduceSub, Nat.reduceMod, Nat.reduceDiv, Nat.reduceEqDiff, Int.reduceToNat, reduceIte, reduceCtorEq, Int.reduceLE, Int.reduceLT, Int.reduceEq, Int.reduceNeg, Int.reduceAdd, Int.reduceSub, Int.reduceMul]
  have ok2 : HOk (n + 2) ((n + 1, ⟨0, zrow (ti 2), true, some (2, 0)⟩) :: (n, pcS P) :: h) := okS.consF fun k hk => absurd hk (Nat.not_lt_zero k)
  have I0 : UsI P D h n 0 ((n + 1, ⟨0, zrow (ti 2), true, some (2, 0)⟩) :: (n, pcS P) :: h) (n + 2) (.sl (n + 1) 0 0 0) :=
    ⟨Nat.zero_le _, by omega, ok2, by simp only [go_sem, Nat.reduceBEq, Nat.reduceLT, Nat.reduceLeDiff, Nat.reduceAdd, Nat.reduceMul, Nat.reduceSub, Nat.reduceMod, Nat.reduceDiv, Nat.reduceEqDiff, Int.reduceToNat, reduceIte, reduceCtorEq, Int.reduceLE, Int.reduceLT, Int.reduceEq, Int.reduceNeg, Int.reduceAdd, Int.reduceSub, Int.reduceMul, HExt_cons], by simp only [go_sem, Nat.reduceBEq, Nat.reduceLT, Nat.reduceLeDiff, Nat.reduceAdd, Nat.reduceMul, Nat.reduceSub, Nat.reduceMod, Nat.reduceDiv, Nat.reduceEqDiff, Int.reduceToNat, reduceIte, reduceCtorEq, Int.reduceLE, Int.reduceLT, Int.reduceEq, Int.reduceNeg, Int.reduceAdd, Int.reduceSub, Int.reduceMul], n + 1, 0, _, rfl, Nat.le_refl _, by omega, hget_hit _ _ _, rfl, rfl, rfl, Nat.le_refl _, Nat.zero_le _, fun k hk => absurd hk (Nat.not_lt_zero k)⟩
  refine T_lp (ι := { q : Nat × List (Nat × Seg) × Nat × SV // UsI P D h n q.1 q.2.1 q.2.2.1 q.2.2.2 })
    (fun q => ([(1, .sl j 0 D.length cap), (2, .ptr n 0), (7, q.1.2.2.2), (23, .int .i64 D.length), (24, .int .i64 ((q.1.1 : Nat) : Int))], q.1.2.1, q.1.2.2.1)) (fun q => D.length - q.1.1) ⟨(0, _, n + 2, .sl (n + 1) 0 0 0), I0⟩ ?_ ?_
  · refine Imp.id (by show n ≤ n + 2; omega) ?_ (impH.base0 ok2 (Nat.le_refl _) HExt.rfl)
    simp only [go_sem, Nat.reduceBEq, Nat.reduceLT, Nat.reduceLeDiff, Nat.reduceAdd, Nat.reduceMul, Nat.reduceSub, Nat.reduceMod, Nat.reduceDiv, Nat.reduceEqDiff, Int.reduceToNat, reduceIte, reduceCtorEq, Int.reduceLE, Int.reduceLT, Int.reduceEq, Int.reduceNeg, Int.reduceAdd, Int.reduceSub, Int.reduceMul]
    (try (repeat' apply And.intro) <;> first | omega | rfl | trivial | assumption | skip)
  rintro ⟨⟨k, hq, nq, V⟩, I⟩
  simp only at I
  have hn0 := I.hn
  have hkl := I.le
  have hul := uselN_len P D k
  have hIO := I.out
  have hjq : j < nq := by omega
  have hdq : hget hq j = some s := I.ex j hj _ hd
  obtain ⟨jv, capV, sV, eV, v1, v2, v3, v4, v5, v6, v7, v8, v9⟩ := hIO
  subst eV
  simp only [go_sem, Nat.reduceBEq, Nat.reduceLT, Nat.reduceLeDiff, Nat.reduceAdd, Nat.reduceMul, Nat.reduceSub, Nat.reduceMod, Nat.reduceDiv, Nat.reduceEqDiff, Int.reduceToNat, reduceIte, reduceCtorEq, Int.reduceLE, Int.reduceLT, Int.reduceEq, Int.reduceNeg, Int.reduceAdd, Int.reduceSub, Int.reduceMul, decide_eq_true_eq, decide_eq_false_iff_not]
  refine ⟨fun h1 => ?_, fun h1 => ?_⟩
  rotate_left
  · have hkD : k = D.length := by omega
    subst hkD
    exact fun hok' => hK _ hq nq (by omega) I.ex hok' (I.out.lo (Nat.le_succ n)).out
  have hk1 : k < D.length := by omega
  have hlen := List.length_eraseIdx_of_lt hk1
  have hwk : IntKind.i64.wrap ((k : Int) + 1) = ((k + 1 : Nat) : Int) := by rw [show (k : Int) + 1 = ((k + 1 : Nat) : Int) by omega]; exact w64 (by omega)
  refine callA_false (cloneDr_E _ _ _ j cap D s hdq hjq hD hm9 _ fun cap' c1 c2 => ?_)
  simp only [go_sem, Nat.reduceBEq, Nat.reduceLT, Nat.reduceLeDiff, Nat.reduceAdd, Nat.reduceMul, Nat.reduceSub, Nat.reduceMod, Nat.reduceDiv, Nat.reduceEqDiff, Int.reduceToNat, reduceIte, reduceCtorEq, Int.reduceLE, Int.reduceLT, Int.reduceEq, Int.reduceNeg, Int.reduceAdd, Int.reduceSub, Int.reduceMul, hwk]
  refine callA_false (delete_E _ _ _ nq cap' k D (hget_hit _ _ _) (by omega) hk1 c1 c2 hm9 _ fun j2 h2 n2 s2 hn2 hj2 hb2 ok2' hg2 hD2 => ?_)
  have x2 : HExt nq hq h2 := fun z hz t ht => hb2 z (by omega) (by omega) t (by simp only [hget]; rw [if_neg (by omega)]; exact ht)
  simp only [go_sem, Nat.reduceBEq, Nat.reduceLT, Nat.reduceLeDiff, Nat.reduceAdd, Nat.reduceMul, Nat.reduceSub, Nat.reduceMod, Nat.reduceDiv, Nat.reduceEqDiff, Int.reduceToNat, reduceIte, reduceCtorEq, Int.reduceLE, Int.reduceLT, Int.reduceEq, Int.reduceNeg, Int.reduceAdd, Int.reduceSub, Int.reduceMul]
  rw [← hlen]
  refine (madeBy_Q _ _ _ n j2 cap' P (D.eraseIdx k) s2 (x2 n (by omega) _ I.g0) (by omega) hR (by omega) hg2 hD2 (drR_erase hDR hk1) (by omega) (dcode_erase hc hk1)).A ?_
  have e1 : pcEq (allN7 ⟨P.wide, P.high, fun _ _ => 0⟩ (D.eraseIdx k) (D.eraseIdx k).length) P = madeE P (D.eraseIdx k) := rfl
  rw [e1]
  have hsu := uselN_succ P D k
  have w3 := x2 jv v2 _ v3
  have outk := I.out.ext (n' := n2) (by omega) x2
  have ex2 : HExt n h h2 := I.ex.tr x2 (by omega)
  cases hmk : madeE P (D.eraseIdx k)
  · rw [hmk, if_neg (by decide), List.append_nil] at hsu
    simp only [go_sem, Nat.reduceBEq, Nat.reduceLT, Nat.reduceLeDiff, Nat.reduceAdd, Nat.reduceMul, Nat.reduceSub, Nat.reduceMod, Nat.reduceDiv, Nat.reduceEqDiff, Int.reduceToNat, reduceIte, reduceCtorEq, Int.reduceLE, Int.reduceLT, Int.reduceEq, Int.reduceNeg, Int.reduceAdd, Int.reduceSub, Int.reduceMul]
    refine ⟨⟨(k + 1, h2, n2, .sl jv 0 (uselN P D k).length capV), ⟨by show k + 1 ≤ D.length; omega, by show n + 1 ≤ n2; omega, ok2', ex2, x2 n (by omega) _ I.g0, by rw [hsu]; exact outk⟩⟩, by show D.length - (k + 1) < D.length - k; omega, ?_⟩
    refine Imp.id (by show n ≤ n2; omega) ?_ (impH.base0 ok2' (Nat.le_refl _) HExt.rfl)
    simp only [go_sem, Nat.reduceBEq, Nat.reduceLT, Nat.reduceLeDiff, Nat.reduceAdd, Nat.reduceMul, Nat.reduceSub, Nat.reduceMod, Nat.reduceDiv, Nat.reduceEqDiff, Int.reduceToNat, reduceIte, reduceCtorEq, Int.reduceLE, Int.reduceLT, Int.reduceEq, Int.reduceNeg, Int.reduceAdd, Int.reduceSub, Int.reduceMul, hwk]
    (try (repeat' apply And.intro) <;> first | omega | rfl | trivial | assumption | skip)
  · rw [hmk, if_pos rfl] at hsu
    obtain ⟨sn, sc, sr, so⟩ := sV
    simp only at v4 v5 v6 v9
    subst v4 v5 v6
    generalize hXX : uselN P D k = X at *
    have v2' : jv < n2 := by omega
    have nv : n2 ≠ jv := by omega
    simp only [go_sem, Nat.reduceBEq, Nat.reduceLT, Nat.reduceLeDiff, Nat.reduceAdd, Nat.reduceMul, Nat.reduceSub, Nat.reduceMod, Nat.reduceDiv, Nat.reduceEqDiff, Int.reduceToNat, reduceIte, reduceCtorEq, Int.reduceLE, Int.reduceLT, Int.reduceEq, Int.reduceNeg, Int.reduceAdd, Int.reduceSub, Int.reduceMul, w3, v2', nv]
    refine ⟨⟨v7, v8, by omega⟩, fun cap3 m1 m2 => ?_⟩
    obtain ⟨okM, exM, -⟩ := appI (a := (k : Int)) (n := n) (h := h) (nq := n2) (jv := jv) (A := X) (sc := sc) (w := some (2, 1)) (c1 := upd (zrow (ti 2)) 0 (SV.int IntKind.i64 k)) (by omega) ok2' ex2 (by omega) rfl v9 m1 m2
    obtain ⟨-, -, spM⟩ := appI (a := (k : Int)) (n := n + 1) (h := []) (nq := n2) (jv := jv) (A := X) (sc := sc) (w := some (2, 1)) (c1 := upd (zrow (ti 2)) 0 (SV.int IntKind.i64 k)) (by omega) ok2' (fun z hz t ht => by simp [hget] at ht) v1 rfl v9 m1 m2
    refine ⟨⟨(k + 1, _, n2 + 2, .sl (n2 + 1) 0 (X.length + 1) cap3), ⟨by show k + 1 ≤ D.length; omega, by show n + 1 ≤ n2 + 2; omega, okM, exM, by
      show hget (_ :: _ :: hdel h2 jv) n = _
      simp only [hget]; rw [if_neg (by omega), if_neg (by omega), hget_hdel, if_neg (by omega)]; exact x2 n (by omega) _ I.g0, by rw [hsu]; exact spM⟩⟩, by show D.length - (k + 1) < D.length - k; omega, ?_⟩
    refine Imp.id (by show n ≤ n2 + 2; omega) ?_ (impH.base0 okM (Nat.le_refl _) HExt.rfl)
    simp only [go_sem, Nat.reduceBEq, Nat.reduceLT, Nat.reduceLeDiff, Nat.reduceAdd, Nat.reduceMul, Nat.reduceSub, Nat.reduceMod, Nat.reduceDiv, Nat.reduceEqDiff, Int.reduceToNat, reduceIte, reduceCtorEq, Int.reduceLE, Int.reduceLT, Int.reduceEq, Int.reduceNeg, Int.reduceAdd, Int.reduceSub, Int.reduceMul, hwk]
    (try (repeat' apply And.intro) <;> first | omega | rfl | trivial | assumption | skip)
set_option maxHeartbeats 1600000 in
theorem useless2_E (P : Pc) (D : List Dr) (j cap : Nat) (s : Seg) (hR : PcR P) (hj : j < n) (hd : hget h j = some s) (hD : DrAt s D) (hDR : DrR D) (hm9 : D.length ≤ 10000000) (hcap : D.length ≤ cap) (K : HK)
    (hK : ∀ V h' n', n ≤ n' → HExt n h h' → HOk n' h' → IntsOut h' n n' V (uselR P D).1 → K (.tup 2 (cl [V, .int .i64 (uselR P D).2])) h' n') :
    CallE Try.prog cx 36 [.agg 66 (pcC P), .sl j 0 D.length cap] h n K := by
  have hD0 := hD
  obtain ⟨hDn, hDc⟩ := hD
  refine CallE.hokE ?_
  refine callE_of_T (P := Try.prog) hti (nt := 58) (rs := [.tmp 4, .tmp 5]) rfl rfl Try.call36 Try.func36 rfl _ (by simp only [go_sem, and_self]) (Nat.le_of_ble_eq_true rfl) _ fun hok => ?_
  have okS : HOk (n + 1) ((n, pcS P) :: h) := hok.consF fun k hk => pcC_flat _ _
  have ok2 : HOk (n + 2) ((n + 1, ⟨0, zrow (ti 2), true, some (2, 0)⟩) :: (n, pcS P) :: h) := okS.consF fun k hk => absurd hk (Nat.not_lt_zero k)
  have bad : ∀ c, uselR P D = ([], c) → K (.tup 2 (cl [.sl (n + 1) 0 0 0, .int .i64 c])) ((n + 1, ⟨0, zrow (ti 2), true, some (2, 0)⟩) :: (n, pcS P) :: h) (n + 2) := fun c e => by
    have := hK (.sl (n + 1) 0 0 0) _ (n + 2) (by omega) (by simp only [go_sem, Nat.reduceBEq, Nat.reduceLT, Nat.reduceLeDiff, Nat.reduceAdd, Nat.reduceMul, Nat.reduceSub, Nat.reduceMod, Nat.reduceDiv, Nat.reduceEqDiff, Int.reduceToNat, reduceIte, reduceCtorEq, Int.reduceLE, Int.reduceLT, Int.reduceEq, Int.reduceNeg, Int.reduceAdd, Int.reduceSub, Int.reduceMul, HExt_cons]) ok2 (by rw [e]; exact .inr ⟨n + 1, 0, _, rfl, by omega, by omega, hget_hit _ _ _, rfl, rfl, fun k hk => absurd hk (Nat.not_lt_zero k)⟩)
    rw [e] at this; exact this
  have badC : uselC P D ≠ 0 → uselR P D = ([], uselC P D) := fun hc => by unfold uselR; rw [if_neg hc]
  have hnj : n ≠ j := by omega
  have hnj1 : n + 1 ≠ j := by omega
  simp only [go_sem, Nat.reduceBEq, Nat.reduceLT, Nat.reduceLeDiff, Nat.reduceAdd, Nat.reduceMul, Nat.reduceSub, Nat.reduceMod, Nat.reduceDiv, Nat.reduceEqDiff, Int.reduceToNat, reduceIte, reduceCtorEq, Int.reduceLE, Int.reduceLT, Int.reduceEq, Int.reduceNeg, Int.reduceAdd, Int.reduceSub, Int.reduceMul]
  refine (checkDrops2_Q _ _ _ P D j cap s hR (by omega) (by first | (simp only [go_sem, Nat.reduceBEq, Nat.reduceLT, Nat.reduceLeDiff, Nat.reduceAdd, Nat.reduceMul, Nat.reduceSub, Nat.reduceMod, Nat.reduceDiv, Nat.reduceEqDiff, Int.reduceToNat, reduceIte, reduceCtorEq, Int.reduceLE, Int.reduceLT, Int.reduceEq, Int.reduceNeg, Int.reduceAdd, Int.reduceSub, Int.reduceMul, hd, hj, hnj, hnj1]; done) | (simp only [go_sem, Nat.reduceBEq, Nat.reduceLT, Nat.reduceLeDiff, Nat.reduceAdd, Nat.reduceMul, Nat.reduceSub, Nat.reduceMod, Nat.reduceDiv, Nat.reduceEqDiff, Int.reduceToNat, reduceIte, reduceCtorEq, Int.reduceLE, Int.reduceLT, Int.reduceEq, Int.reduceNeg, Int.reduceAdd, Int.reduceSub, Int.reduceMul, hd, hj, hnj, hnj1]; rfl)) hD0 hDR hm9).A ?_
  by_cases hc : dcode P D = 0
  rotate_left
  · have e : uselC P D = dcode P D := by unfold uselC; rw [if_neg hc]
    have e2 : checkR P D = (false, dcode P D) := by unfold checkR; rw [if_neg hc]
    rw [e2]
    simp only [go_sem, Nat.reduceBEq, Nat.reduceLT, Nat.reduceLeDiff, Nat.reduceAdd, Nat.reduceMul, Nat.reduceSub, Nat.reduceMod, Nat.reduceDiv, Nat.reduceEqDiff, Int.reduceToNat, reduceIte, reduceCtorEq, Int.reduceLE, Int.reduceLT, Int.reduceEq, Int.reduceNeg, Int.reduceAdd, Int.reduceSub, Int.reduceMul, hc]
    exact fun _ => bad _ (by rw [badC (by rw [e]; exact hc), e])
  have e2 : checkR P D = (madeE P D, 0) := by unfold checkR; rw [if_pos hc]; rfl
  rw [e2]
  cases hm : madeE P D
  · have e : uselC P D = 4 := by unfold uselC; rw [if_pos hc, hm]; rfl
    simp only [go_sem, Nat.reduceBEq, Nat.reduceLT, Nat.reduceLeDiff, Nat.reduceAdd, Nat.reduceMul, Nat.reduceSub, Nat.reduceMod, Nat.reduceDiv, Nat.reduceEqDiff, Int.reduceToNat, reduceIte, reduceCtorEq, Int.reduceLE, Int.reduceLT, Int.reduceEq, Int.reduceNeg, Int.reduceAdd, Int.reduceSub, Int.reduceMul]
    exact fun _ => bad 4 (by rw [badC (by rw [e]; decide), e])
  have e : uselC P D = 0 := by unfold uselC; rw [if_pos hc, hm]; rfl
  have hgood : uselR P D = (uselN P D D.length, 0) := by unfold uselR; rw [if_pos e]
  rw [hgood] at hK
  obtain ⟨hP, hl100, hcan⟩ := dcode_ok hc
  simp only [go_sem, Nat.reduceBEq, Nat.reduceLT, Nat.reduceLeDiff, Nat.reduceAdd, Nat.reduceMul, Nat.reduceSub, Nat.reduceMod, Nat.reduceDiv, Nat.reduceEqDiff, Int.reduceToNat, reduceIte, reduceCtorEq, Int.reduceLE, Int.reduceLT, Int.reduceEq, Int.reduceNeg, Int.reduceAdd, Int.reduceSub, Int.reduceMul]
  have I0 : UsI P D h n 0 ((n + 1, ⟨0, zrow (ti 2), true, some (2, 0)⟩) :: (n, pcS P) :: h) (n + 2) (.sl (n + 1) 0 0 0) :=
    ⟨Nat.zero_le _, by omega, ok2, by simp only [go_sem, Nat.reduceBEq, Nat.reduceLT, Nat.reduceLeDiff, Nat.reduceAdd, Nat.reduceMul, Nat.reduceSub, Nat.reduceMod, Nat.reduceDiv, Nat.reduceEqDiff, Int.reduceToNat, reduceIte, reduceCtorEq, Int.reduceLE, Int.reduceLT, Int.reduceEq, Int.reduceNeg, Int.reduceAdd, Int.reduceSub, Int.reduceMul, HExt_cons], by simp only [go_sem, Nat.reduceBEq, Nat.reduceLT, Nat.reduceLeDiff, Nat.reduceAdd, Nat.reduceMul, Nat.reduceSub, Nat.reduceMod, Nat.reduceDiv, Nat.reduceEqDiff, Int.reduceToNat, reduceIte, reduceCtorEq, Int.reduceLE, Int.reduceLT, Int.reduceEq, Int.reduceNeg, Int.reduceAdd, Int.reduceSub, Int.reduceMul], n + 1, 0, _, rfl, Nat.le_refl _, by omega, hget_hit _ _ _, rfl, rfl, rfl, Nat.le_refl _, Nat.zero_le _, fun k hk => absurd hk (Nat.not_lt_zero k)⟩
  refine T_lp (ι := { q : Nat × List (Nat × Seg) × Nat × SV // UsI P D h n q.1 q.2.1 q.2.2.1 q.2.2.2 })
    (fun q => ([(1, .sl j 0 D.length cap), (2, .ptr n 0), (6, q.1.2.2.2), (9, .int .i64 ((q.1.1 : Nat) : Int))], q.1.2.1, q.1.2.2.1)) (fun q => D.length - q.1.1) ⟨(0, _, n + 2, .sl (n + 1) 0 0 0), I0⟩ ?_ ?_
  · refine Imp.id (by show n ≤ n + 2; omega) ?_ (impH.base0 ok2 (Nat.le_refl _) HExt.rfl)
    simp only [go_sem, Nat.reduceBEq, Nat.reduceLT, Nat.reduceLeDiff, Nat.reduceAdd, Nat.reduceMul, Nat.reduceSub, Nat.reduceMod, Nat.reduceDiv, Nat.reduceEqDiff, Int.reduceToNat, reduceIte, reduceCtorEq, Int.reduceLE, Int.reduceLT, Int.reduceEq, Int.reduceNeg, Int.reduceAdd, Int.reduceSub, Int.reduceMul]
    (try (repeat' apply And.intro) <;> first | omega | rfl | trivial | assumption | skip)
  rintro ⟨⟨k, hq, nq, V⟩, I⟩
  simp only at I
  have hn0 := I.hn
  have hkl := I.le
  have hul := uselN_len P D k
  have hIO := I.out
  have hjq : j < nq := by omega
  have hdq : hget hq j = some s := I.ex j hj _ hd
  obtain ⟨jv, capV, sV, eV, v1, v2, v3, v4, v5, v6, v7, v8, v9⟩ := hIO
  subst eV
  simp only [go_sem, Nat.reduceBEq, Nat.reduceLT, Nat.reduceLeDiff, Nat.reduceAdd, Nat.reduceMul, Nat.reduceSub, Nat.reduceMod, Nat.reduceDiv, Nat.reduceEqDiff, Int.reduceToNat, reduceIte, reduceCtorEq, Int.reduceLE, Int.reduceLT, Int.reduceEq, Int.reduceNeg, Int.reduceAdd, Int.reduceSub, Int.reduceMul, decide_eq_true_eq, decide_eq_false_iff_not]
  refine ⟨fun h1 => ?_, fun h1 => ?_⟩
  rotate_left
  · have hkD : k = D.length := by omega
    subst hkD
    exact fun hok' => hK _ hq nq (by omega) I.ex hok' (I.out.lo (Nat.le_succ n)).out
  have hk1 : k < D.length := by omega
  have hlen := List.length_eraseIdx_of_lt hk1
  have hwk : IntKind.i64.wrap ((k : Int) + 1) = ((k + 1 : Nat) : Int) := by rw [show (k : Int) + 1 = ((k + 1 : Nat) : Int) by omega]; exact w64 (by omega)
  have hqj : nq ≠ j := by omega
  refine T_drawG hti 11 [4, 9] (.b 0 1 (.b 0 2 (.b 0 3 (.b 0 5 (.b 0 6 (.b 0 7 (.b 0 8 (.b 2 0 (.b 4 4 (.b 4 9 (.b 0 10 (.f) .o) .o) .o) .o) .o) .o) .o) .o) .o) .o) .o) _ _ (by kernel_rfl) (by kernel_rfl) ?_
  have hqj1 : nq + 1 ≠ j := by omega
  obtain ⟨o, ho⟩ : ∃ o, (if (cap : Int) = ((k + 1 : Nat) : Int) then 0 else (k + 1) * 3) = o := ⟨_, rfl⟩
  have ho2 : k + 1 < D.length → o = (k + 1) * 3 := fun hl => by rw [← ho, if_neg (by omega)]
  have ho3 : o + (D.length - (k + 1)) * 3 ≤ D.length * 3 := by
    by_cases hl : k + 1 < D.length
    · rw [ho2 hl]; omega
    · have : o ≤ (k + 1) * 3 := by rw [← ho]; split <;> omega
      omega
  have g0 := I.g0
  have c0 : n < nq := by omega
  have nq2 : nq + 2 ≠ n := by omega
  have o66 : ones (.agg 66 (pcC P)) = True := eq_true fun j hj => (pcC_flat P j).one
  have src : ∀ x : TI, x.k.kn → x.sz = 3 → ∀ b m, b + m * 3 ≤ D.length * 3 → okSrc x s b m := fun x hk hx b m hb => by
    unfold okSrc
    rw [hx]
    refine ⟨hk, by omega, by omega, allP_iff.2 fun z hz => ?_⟩
    rw [hDc _ (by omega)]; exact (dropsC_flat _ _).one
  simp only [go_sem, Nat.reduceBEq, Nat.reduceLT, Nat.reduceLeDiff, Nat.reduceAdd, Nat.reduceMul, Nat.reduceSub, Nat.reduceMod, Nat.reduceDiv, Nat.reduceEqDiff, Int.reduceToNat, reduceIte, reduceCtorEq, Int.reduceLE, Int.reduceLT, Int.reduceEq, Int.reduceNeg, Int.reduceAdd, Int.reduceSub, Int.reduceMul, hdq, hjq, hwk, hqj, hqj1, ite_self, ho, Nat.sub_zero, ↓I.ok.del (Nat.le_refl nq), ↓I.ok.del (Nat.le_succ nq), g0, c0, nq2, o66]
  refine ⟨⟨by omega, by omega⟩, ⟨by omega, by omega, by omega⟩, ⟨src _ (by trivial) (by rfl) 0 k (by omega), by omega⟩, fun cp1 a1 a2 => ⟨⟨src _ (by trivial) (by rfl) o _ ho3, a1, a2, by omega⟩, fun cp2 b1 b2 => ?_⟩⟩
  have em : k + (D.length - (k + 1)) = (D.eraseIdx k).length := by omega
  have hcell : ∀ (Z : Nat → SV) q, q < (k + (D.length - (k + 1))) * 3 → both (k * 3) (both 0 Z (news s.c 0)) (news s.c o) q = dropsC (D.eraseIdx k) q := fun Z q hq' => by
    unfold both news
    have ge := erase_getD D k (q / 3)
    split
    · rename_i hq2
      rw [if_neg (Nat.not_lt_zero q), Nat.sub_zero, Nat.zero_add, hDc q (by omega)]
      unfold dropsC
      rw [ge, if_pos (show q / 3 < k by omega)]
    · rename_i hq2
      have hl : k + 1 < D.length := by omega
      rw [ho2 hl, hDc _ (by omega)]
      unfold dropsC
      rw [ge, if_neg (show ¬ q / 3 < k by omega), show ((k + 1) * 3 + (q - k * 3)) % 3 = q % 3 by omega, show ((k + 1) * 3 + (q - k * 3)) / 3 = q / 3 + 1 by omega]
  generalize hZ : zrow _ = Z
  have hcz := hcell Z
  have hDr : DrAt ⟨(k + (D.length - (k + 1))) * 3, both (k * 3) (both 0 Z (news s.c 0)) (news s.c o), true, some (44, cp2 * 3)⟩ (D.eraseIdx k) :=
    ⟨by show _ ≤ (k + (D.length - (k + 1))) * 3; omega, fun q hq' => hcz q (by omega)⟩
  have okM := (hok_up (m' := nq + 2) I.ok (by omega)).consF (s := ⟨(k + (D.length - (k + 1))) * 3, both (k * 3) (both 0 Z (news s.c 0)) (news s.c o), true, some (44, cp2 * 3)⟩) (fun q hq' => by
    show (both (k * 3) (both 0 Z (news s.c 0)) (news s.c o) q).flat
    rw [hcz q hq']; exact dropsC_flat _ _)
  rw [em] at okM hDr ⊢
  refine (checkDrops2_Q _ _ _ P (D.eraseIdx k) (nq + 2) cp2 _ hR (Nat.lt_succ_self (nq + 2)) (hget_hit _ _ _) hDr (drR_erase hDR hk1) (by omega)).A ?_
  have e3 : checkR P (D.eraseIdx k) = (madeE P (D.eraseIdx k), 0) := by unfold checkR; rw [if_pos (dcode_erase hc hk1)]; rfl
  rw [e3]
  have x2 : HExt nq hq ((nq + 2, ⟨(D.eraseIdx k).length * 3, both (k * 3) (both 0 Z (news s.c 0)) (news s.c o), true, some (44, cp2 * 3)⟩) :: hq) := fun z hz t ht => by simp only [hget]; rw [if_neg (by omega)]; exact ht
  have hsu := uselN_succ P D k
  have outk := I.out.ext (n' := nq + 3) (by omega) x2
  have ex2 : HExt n h _ := I.ex.tr x2 (by omega)
  cases hmk : madeE P (D.eraseIdx k)
  · rw [hmk, if_neg (by decide), List.append_nil] at hsu
    simp only [go_sem, Nat.reduceBEq, Nat.reduceLT, Nat.reduceLeDiff, Nat.reduceAdd, Nat.reduceMul, Nat.reduceSub, Nat.reduceMod, Nat.reduceDiv, Nat.reduceEqDiff, Int.reduceToNat, reduceIte, reduceCtorEq, Int.reduceLE, Int.reduceLT, Int.reduceEq, Int.reduceNeg, Int.reduceAdd, Int.reduceSub, Int.reduceMul]
    refine ⟨⟨(k + 1, _, nq + 3, .sl jv 0 (uselN P D k).length capV), ⟨by show k + 1 ≤ D.length; omega, by show n + 1 ≤ nq + 3; omega, okM, ex2, x2 n (by omega) _ I.g0, by rw [hsu]; exact outk⟩⟩, by show D.length - (k + 1) < D.length - k; omega, ?_⟩
    refine Imp.id (by show n ≤ nq + 3; omega) ?_ (impH.base0 okM (Nat.le_refl _) HExt.rfl)
    simp only [go_sem, Nat.reduceBEq, Nat.reduceLT, Nat.reduceLeDiff, Nat.reduceAdd, Nat.reduceMul, Nat.reduceSub, Nat.reduceMod, Nat.reduceDiv, Nat.reduceEqDiff, Int.reduceToNat, reduceIte, reduceCtorEq, Int.reduceLE, Int.reduceLT, Int.reduceEq, Int.reduceNeg, Int.reduceAdd, Int.reduceSub, Int.reduceMul, hwk]
    (try (repeat' apply And.intro) <;> first | omega | rfl | trivial | assumption | skip)
  · rw [hmk, if_pos rfl] at hsu
    obtain ⟨un, uc, ur, uo⟩ := sV
    simp only at v4 v5 v6 v9
    subst v4 v5 v6
    generalize hXX : uselN P D k = X at *
    have v2' : jv < nq + 3 := by omega
    have nv : nq + 2 ≠ jv := by omega
    have nv3 : nq + 3 ≠ jv := by omega
    simp only [go_sem, Nat.reduceBEq, Nat.reduceLT, Nat.reduceLeDiff, Nat.reduceAdd, Nat.reduceMul, Nat.reduceSub, Nat.reduceMod, Nat.reduceDiv, Nat.reduceEqDiff, Int.reduceToNat, reduceIte, reduceCtorEq, Int.reduceLE, Int.reduceLT, Int.reduceEq, Int.reduceNeg, Int.reduceAdd, Int.reduceSub, Int.reduceMul, v3, v2, v2', nv, nv3]
    refine ⟨⟨v7, v8, by omega⟩, fun cap3 m1 m2 => ?_⟩
    have hdl : hdel ((nq + 2, (⟨(D.eraseIdx k).length * 3, both (k * 3) (both 0 Z (news s.c 0)) (news s.c o), true, some (44, cp2 * 3)⟩ : Seg)) :: hq) jv = (nq + 2, ⟨(D.eraseIdx k).length * 3, both (k * 3) (both 0 Z (news s.c 0)) (news s.c o), true, some (44, cp2 * 3)⟩) :: hdel hq jv := by rw [hdel, if_neg nv]
    obtain ⟨okN, exN, -⟩ := appI (a := (k : Int)) (n := n) (h := h) (nq := nq + 3) (jv := jv) (A := X) (sc := uc) (w := some (2, 1)) (c1 := upd (zrow (ti 2)) 0 (SV.int IntKind.i64 k)) (by omega) okM ex2 (by omega) rfl v9 m1 m2
    obtain ⟨-, -, spN⟩ := appI (a := (k : Int)) (n := n + 1) (h := []) (nq := nq + 3) (jv := jv) (A := X) (sc := uc) (w := some (2, 1)) (c1 := upd (zrow (ti 2)) 0 (SV.int IntKind.i64 k)) (by omega) okM (fun z hz t ht => by simp [hget] at ht) v1 rfl v9 m1 m2
    rw [hdl] at okN exN spN
    refine ⟨⟨(k + 1, _, nq + 5, .sl (nq + 4) 0 (X.length + 1) cap3), ⟨by show k + 1 ≤ D.length; omega, by show n + 1 ≤ nq + 5; omega, okN, exN, by
      show hget (_ :: _ :: _ :: hdel hq jv) n = _
      simp only [hget]; rw [if_neg (by omega), if_neg (by omega), if_neg (by omega), hget_hdel, if_neg (by omega)]; exact I.g0, by rw [hsu]; exact spN⟩⟩, by show D.length - (k + 1) < D.length - k; omega, ?_⟩
    refine Imp.id (by show n ≤ nq + 5; omega) ?_ (impH.base0 okN (Nat.le_refl _) HExt.rfl)
    simp only [go_sem, Nat.reduceBEq, Nat.reduceLT, Nat.reduceLeDiff, Nat.reduceAdd, Nat.reduceMul, Nat.reduceSub, Nat.reduceMod, Nat.reduceDiv, Nat.reduceEqDiff, Int.reduceToNat, reduceIte, reduceCtorEq, Int.reduceLE, Int.reduceLT, Int.reduceEq, Int.reduceNeg, Int.reduceAdd, Int.reduceSub, Int.reduceMul, hwk]
    (try (repeat' apply And.intro) <;> first | omega | rfl | trivial | assumption | skip)
end
end Go.Proofs.Ytodgbpkdanefaaa.V

/- The law of UselessDrops: the walk. -/
namespace Go.Proofs.Ytodgbpkdanefaaa.V
theorem uselR_len (P : Pc) (D : List Dr) : (uselR P D).1.length ≤ 100 := by
  unfold uselR
  split
  · rename_i hc
    obtain ⟨_, hl, _⟩ := dcode_ok (uselC_0 hc).1
    exact Nat.le_trans (uselN_len P D D.length) hl
  · exact Nat.zero_le _
section
variable (cx : Cx) (h : List (Nat × Seg)) (n : Nat)
theorem lawUseless_Q (P : Pc) (hR : PcR P) (A : SV) (D : List Dr) (hA : DrArg h n A D) (hDR : DrR D) (hm : D.length ≤ 9223372036854775807) :
    CallQ Try.prog cx 9 [.agg 66 (pcC P), A] h n (.bool true) := by
  have hAo := hA.ok
  have hRl := uselR_len P D
  refine callQ_of_T (P := Try.prog) hti (nt := 104) (rs := [.tmp 4]) rfl rfl Try.call9 Try.func9 rfl _ (by simp only [go_sem, hAo]) (Nat.le_of_ble_eq_true rfl) _ (by trivial) fun hok => ?_
  simp only [go_sem, Nat.reduceBEq, Nat.reduceLT, Nat.reduceLeDiff, Nat.reduceAdd, Nat.reduceMul, Nat.reduceSub, Nat.reduceMod, Nat.reduceDiv, Nat.reduceEqDiff, Int.reduceToNat, reduceIte, reduceCtorEq, Int.reduceLE, Int.reduceLT, Int.reduceEq, Int.reduceNeg, Int.reduceAdd, Int.reduceSub, Int.reduceMul, hAo]
  refine (szDropS_Q _ _ _ A D (hA.ext (by omega) (by simp only [go_sem, Nat.reduceBEq, Nat.reduceLT, Nat.reduceLeDiff, Nat.reduceAdd, Nat.reduceMul, Nat.reduceSub, Nat.reduceMod, Nat.reduceDiv, Nat.reduceEqDiff, Int.reduceToNat, reduceIte, reduceCtorEq, Int.reduceLE, Int.reduceLT, Int.reduceEq, Int.reduceNeg, Int.reduceAdd, Int.reduceSub, Int.reduceMul, HExt_cons])) 1048576 (by omega) (by omega)).A ?_
  by_cases hs : 1048576 - (D.length : Int) < 0
  · simp only [go_sem, Nat.reduceBEq, Nat.reduceLT, Nat.reduceLeDiff, Nat.reduceAdd, Nat.reduceMul, Nat.reduceSub, Nat.reduceMod, Nat.reduceDiv, Nat.reduceEqDiff, Int.reduceToNat, reduceIte, reduceCtorEq, Int.reduceLE, Int.reduceLT, Int.reduceEq, Int.reduceNeg, Int.reduceAdd, Int.reduceSub, Int.reduceMul, hAo, hs, HExt_cons]
  have hm9 : D.length ≤ 10000000 := by omega
  generalize hRR : (uselR P D).1 = R at hRl
  generalize hcc : (uselR P D).2 = c
  simp only [go_sem, Nat.reduceBEq, Nat.reduceLT, Nat.reduceLeDiff, Nat.reduceAdd, Nat.reduceMul, Nat.reduceSub, Nat.reduceMod, Nat.reduceDiv, Nat.reduceEqDiff, Int.reduceToNat, reduceIte, reduceCtorEq, Int.reduceLE, Int.reduceLT, Int.reduceEq, Int.reduceNeg, Int.reduceAdd, Int.reduceSub, Int.reduceMul, hAo, hs]
  refine (toPicture_Q _ _ _ P).A ?_
  simp only [go_sem, Nat.reduceBEq, Nat.reduceLT, Nat.reduceLeDiff, Nat.reduceAdd, Nat.reduceMul, Nat.reduceSub, Nat.reduceMod, Nat.reduceDiv, Nat.reduceEqDiff, Int.reduceToNat, reduceIte, reduceCtorEq, Int.reduceLE, Int.reduceLT, Int.reduceEq, Int.reduceNeg, Int.reduceAdd, Int.reduceSub, Int.reduceMul, hAo]
  refine callA_false (toDropS_E _ _ _ A D (hA.ext (by omega) (by simp only [go_sem, Nat.reduceBEq, Nat.reduceLT, Nat.reduceLeDiff, Nat.reduceAdd, Nat.reduceMul, Nat.reduceSub, Nat.reduceMod, Nat.reduceDiv, Nat.reduceEqDiff, Int.reduceToNat, reduceIte, reduceCtorEq, Int.reduceLE, Int.reduceLT, Int.reduceEq, Int.reduceNeg, Int.reduceAdd, Int.reduceSub, Int.reduceMul, HExt_cons])) hm9 _ ?_)
  simp only [go_sem, Nat.reduceBEq, Nat.reduceLT, Nat.reduceLeDiff, Nat.reduceAdd, Nat.reduceMul, Nat.reduceSub, Nat.reduceMod, Nat.reduceDiv, Nat.reduceEqDiff, Int.reduceToNat, reduceIte, reduceCtorEq, Int.reduceLE, Int.reduceLT, Int.reduceEq, Int.reduceNeg, Int.reduceAdd, Int.reduceSub, Int.reduceMul, hAo]
  refine callA_false (useless2_E _ _ _ P D (n + 1) D.length (drS D) hR (by omega) (hget_hit _ _ _) (drAt_drS D) hDR hm9 (Nat.le_refl _) _ ?_)
  intro V1 h1 n1 hn1 hx1 ok1 I1
  rw [hRR] at I1
  rw [hcc]
  have V1o := I1.ok
  have g10 : hget h1 n = some (pcS P) := hx1 n (by omega) _ (by simp only [go_sem, Nat.reduceBEq, Nat.reduceLT, Nat.reduceLeDiff, Nat.reduceAdd, Nat.reduceMul, Nat.reduceSub, Nat.reduceMod, Nat.reduceDiv, Nat.reduceEqDiff, Int.reduceToNat, reduceIte, reduceCtorEq, Int.reduceLE, Int.reduceLT, Int.reduceEq, Int.reduceNeg, Int.reduceAdd, Int.reduceSub, Int.reduceMul])
  have X1 : HExt n h h1 := HExt.tr (m' := n + 2) (by simp only [go_sem, Nat.reduceBEq, Nat.reduceLT, Nat.reduceLeDiff, Nat.reduceAdd, Nat.reduceMul, Nat.reduceSub, Nat.reduceMod, Nat.reduceDiv, Nat.reduceEqDiff, Int.reduceToNat, reduceIte, reduceCtorEq, Int.reduceLE, Int.reduceLT, Int.reduceEq, Int.reduceNeg, Int.reduceAdd, Int.reduceSub, Int.reduceMul, HExt_cons]) hx1 (by omega)
  have c10 : n < n1 := by omega
  simp only [go_sem, Nat.reduceBEq, Nat.reduceLT, Nat.reduceLeDiff, Nat.reduceAdd, Nat.reduceMul, Nat.reduceSub, Nat.reduceMod, Nat.reduceDiv, Nat.reduceEqDiff, Int.reduceToNat, reduceIte, reduceCtorEq, Int.reduceLE, Int.reduceLT, Int.reduceEq, Int.reduceNeg, Int.reduceAdd, Int.reduceSub, Int.reduceMul, V1o, hAo]
  refine callA_false (toDropS_E _ _ _ A D (hA.ext (by omega) X1) hm9 _ ?_)
  have ne0 : n1 ≠ n := by omega
  simp only [go_sem, Nat.reduceBEq, Nat.reduceLT, Nat.reduceLeDiff, Nat.reduceAdd, Nat.reduceMul, Nat.reduceSub, Nat.reduceMod, Nat.reduceDiv, Nat.reduceEqDiff, Int.reduceToNat, reduceIte, reduceCtorEq, Int.reduceLE, Int.reduceLT, Int.reduceEq, Int.reduceNeg, Int.reduceAdd, Int.reduceSub, Int.reduceMul, V1o, hAo, g10, c10, ne0]
  refine (toPicture_Q _ _ _ P).A ?_
  simp only [go_sem, Nat.reduceBEq, Nat.reduceLT, Nat.reduceLeDiff, Nat.reduceAdd, Nat.reduceMul, Nat.reduceSub, Nat.reduceMod, Nat.reduceDiv, Nat.reduceEqDiff, Int.reduceToNat, reduceIte, reduceCtorEq, Int.reduceLE, Int.reduceLT, Int.reduceEq, Int.reduceNeg, Int.reduceAdd, Int.reduceSub, Int.reduceMul, hAo]
  refine callA_false (useless_E _ _ _ P D n1 D.length (drS D) hR (by omega) (hget_hit _ _ _) (drAt_drS D) hDR hm9 _ ?_)
  intro V2 h2 n2 hn2 hx2 ok2 I2
  rw [hRR] at I2
  rw [hcc]
  have V2o := I2.ok
  have x2 : HExt n1 h1 h2 := HExt.tr (m' := n1 + 1) (by simp only [go_sem, Nat.reduceBEq, Nat.reduceLT, Nat.reduceLeDiff, Nat.reduceAdd, Nat.reduceMul, Nat.reduceSub, Nat.reduceMod, Nat.reduceDiv, Nat.reduceEqDiff, Int.reduceToNat, reduceIte, reduceCtorEq, Int.reduceLE, Int.reduceLT, Int.reduceEq, Int.reduceNeg, Int.reduceAdd, Int.reduceSub, Int.reduceMul, HExt_cons]) hx2 (by omega)
  have X2 := X1.tr x2 (by omega)
  have g21 : hget h2 n1 = some (drS D) := hx2 n1 (by omega) _ (by simp only [go_sem, Nat.reduceBEq, Nat.reduceLT, Nat.reduceLeDiff, Nat.reduceAdd, Nat.reduceMul, Nat.reduceSub, Nat.reduceMod, Nat.reduceDiv, Nat.reduceEqDiff, Int.reduceToNat, reduceIte, reduceCtorEq, Int.reduceLE, Int.reduceLT, Int.reduceEq, Int.reduceNeg, Int.reduceAdd, Int.reduceSub, Int.reduceMul])
  have c21 : n1 < n2 := by omega
  simp only [go_sem, Nat.reduceBEq, Nat.reduceLT, Nat.reduceLeDiff, Nat.reduceAdd, Nat.reduceMul, Nat.reduceSub, Nat.reduceMod, Nat.reduceDiv, Nat.reduceEqDiff, Int.reduceToNat, reduceIte, reduceCtorEq, Int.reduceLE, Int.reduceLT, Int.reduceEq, Int.reduceNeg, Int.reduceAdd, Int.reduceSub, Int.reduceMul, V1o, V2o, hAo]
  refine (eqInt64S_Q _ _ _ V2 V1 R _ _ I2 (I1.ext (by omega) x2) (by omega)).A ?_
  simp only [go_sem, Nat.reduceBEq, Nat.reduceLT, Nat.reduceLeDiff, Nat.reduceAdd, Nat.reduceMul, Nat.reduceSub, Nat.reduceMod, Nat.reduceDiv, Nat.reduceEqDiff, Int.reduceToNat, reduceIte, reduceCtorEq, Int.reduceLE, Int.reduceLT, Int.reduceEq, Int.reduceNeg, Int.reduceAdd, Int.reduceSub, Int.reduceMul, V1o, V2o, hAo]
  refine callA_false (toDropS_E _ _ _ A D (hA.ext (by omega) X2) hm9 _ ?_)
  have ne2 : n2 ≠ n1 := by omega
  simp only [go_sem, Nat.reduceBEq, Nat.reduceLT, Nat.reduceLeDiff, Nat.reduceAdd, Nat.reduceMul, Nat.reduceSub, Nat.reduceMod, Nat.reduceDiv, Nat.reduceEqDiff, Int.reduceToNat, reduceIte, reduceCtorEq, Int.reduceLE, Int.reduceLT, Int.reduceEq, Int.reduceNeg, Int.reduceAdd, Int.reduceSub, Int.reduceMul, V1o, V2o, hAo]
  refine (eqDropS_Q _ _ _ n1 _ n2 _ D _ _ (by first | (simp only [go_sem, Nat.reduceBEq, Nat.reduceLT, Nat.reduceLeDiff, Nat.reduceAdd, Nat.reduceMul, Nat.reduceSub, Nat.reduceMod, Nat.reduceDiv, Nat.reduceEqDiff, Int.reduceToNat, reduceIte, reduceCtorEq, Int.reduceLE, Int.reduceLT, Int.reduceEq, Int.reduceNeg, Int.reduceAdd, Int.reduceSub, Int.reduceMul, g21, ne2, c21]; done) | (simp only [go_sem, Nat.reduceBEq, Nat.reduceLT, Nat.reduceLeDiff, Nat.reduceAdd, Nat.reduceMul, Nat.reduceSub, Nat.reduceMod, Nat.reduceDiv, Nat.reduceEqDiff, Int.reduceToNat, reduceIte, reduceCtorEq, Int.reduceLE, Int.reduceLT, Int.reduceEq, Int.reduceNeg, Int.reduceAdd, Int.reduceSub, Int.reduceMul, g21, ne2, c21]; rfl)) (by omega) (drAt_drS D) (by first | (simp only [go_sem, Nat.reduceBEq, Nat.reduceLT, Nat.reduceLeDiff, Nat.reduceAdd, Nat.reduceMul, Nat.reduceSub, Nat.reduceMod, Nat.reduceDiv, Nat.reduceEqDiff, Int.reduceToNat, reduceIte, reduceCtorEq, Int.reduceLE, Int.reduceLT, Int.reduceEq, Int.reduceNeg, Int.reduceAdd, Int.reduceSub, Int.reduceMul]; done) | (simp only [go_sem, Nat.reduceBEq, Nat.reduceLT, Nat.reduceLeDiff, Nat.reduceAdd, Nat.reduceMul, Nat.reduceSub, Nat.reduceMod, Nat.reduceDiv, Nat.reduceEqDiff, Int.reduceToNat, reduceIte, reduceCtorEq, Int.reduceLE, Int.reduceLT, Int.reduceEq, Int.reduceNeg, Int.reduceAdd, Int.reduceSub, Int.reduceMul]; rfl)) (by omega) (drAt_drS D) hm9).A ?_
  simp only [go_sem, Nat.reduceBEq, Nat.reduceLT, Nat.reduceLeDiff, Nat.reduceAdd, Nat.reduceMul, Nat.reduceSub, Nat.reduceMod, Nat.reduceDiv, Nat.reduceEqDiff, Int.reduceToNat, reduceIte, reduceCtorEq, Int.reduceLE, Int.reduceLT, Int.reduceEq, Int.reduceNeg, Int.reduceAdd, Int.reduceSub, Int.reduceMul, V1o, V2o, hAo]
  refine callA_false (markDr_E _ _ _ (.sl n1 0 D.length D.length) D n1 (.inr ⟨n1, D.length, drS D, rfl, Nat.le_refl _, by omega, (by first | (simp only [go_sem, Nat.reduceBEq, Nat.reduceLT, Nat.reduceLeDiff, Nat.reduceAdd, Nat.reduceMul, Nat.reduceSub, Nat.reduceMod, Nat.reduceDiv, Nat.reduceEqDiff, Int.reduceToNat, reduceIte, reduceCtorEq, Int.reduceLE, Int.reduceLT, Int.reduceEq, Int.reduceNeg, Int.reduceAdd, Int.reduceSub, Int.reduceMul, g21, ne2, c21]; done) | (simp only [go_sem, Nat.reduceBEq, Nat.reduceLT, Nat.reduceLeDiff, Nat.reduceAdd, Nat.reduceMul, Nat.reduceSub, Nat.reduceMod, Nat.reduceDiv, Nat.reduceEqDiff, Int.reduceToNat, reduceIte, reduceCtorEq, Int.reduceLE, Int.reduceLT, Int.reduceEq, Int.reduceNeg, Int.reduceAdd, Int.reduceSub, Int.reduceMul, g21, ne2, c21]; rfl)), rfl, rfl, fun _ _ => rfl⟩) hm9 _ ?_)
  intro h3 ok3 _ same3 _
  have s3 : ∀ i t, i ≠ n1 → i ≠ n2 → hget h2 i = some t → hget h3 i = some t := fun i t hi hi2 ht => same3 i t (by simp only [hget]; rw [if_neg (fun e => hi2 e.symm)]; exact ht) (fun i' o a b e => by cases e; exact hi)
  have x3 : HExt n1 h1 h3 := fun i hi t ht => s3 i t (by omega) (by omega) (x2 i hi t ht)
  have I13 : IntsOut h3 (n + 2) (n2 + 1) V1 R := I1.ext (by omega) x3
  have I23 : IntsOut h3 (n1 + 1) (n2 + 1) V2 R := I2.mono (by omega) fun i h1 h2 t ht => s3 i t (by omega) (by omega) ht
  have pos : ¬ (3 * (D.length : Int) + 1 < 0) := by omega
  simp only [go_sem, Nat.reduceBEq, Nat.reduceLT, Nat.reduceLeDiff, Nat.reduceAdd, Nat.reduceMul, Nat.reduceSub, Nat.reduceMod, Nat.reduceDiv, Nat.reduceEqDiff, Int.reduceToNat, reduceIte, reduceCtorEq, Int.reduceLE, Int.reduceLT, Int.reduceEq, Int.reduceNeg, Int.reduceAdd, Int.reduceSub, Int.reduceMul, V1o, V2o, hAo, pos]
  refine (eqInt64S_Q _ _ _ V2 V1 R _ _ I23 I13 (by omega)).A ?_
  simp only [go_sem, Nat.reduceBEq, Nat.reduceLT, Nat.reduceLeDiff, Nat.reduceAdd, Nat.reduceMul, Nat.reduceSub, Nat.reduceMod, Nat.reduceDiv, Nat.reduceEqDiff, Int.reduceToNat, reduceIte, reduceCtorEq, Int.reduceLE, Int.reduceLT, Int.reduceEq, Int.reduceNeg, Int.reduceAdd, Int.reduceSub, Int.reduceMul, V1o, V2o, hAo, pos]
  refine callA_false (markInt64S_E _ _ _ V2 R (n1 + 1) I23 (by omega) _ ?_)
  intro h4 ok4 keep4 I24
  have x4 : HExt n1 h1 h4 := keep4 _ _ (by omega) x3
  have X4 : HExt n h h4 := X1.tr x4 (by omega)
  have I14 : IntsOut h4 (n + 2) (n2 + 1) V1 R := I1.ext (by omega) x4
  have g40 : hget h4 n = some (pcS P) := x4 n (by omega) _ g10
  have c40 : n < n2 + 1 := by omega
  have posr : ¬ ((R.length : Int) + 1 < 0) := by omega
  simp only [go_sem, Nat.reduceBEq, Nat.reduceLT, Nat.reduceLeDiff, Nat.reduceAdd, Nat.reduceMul, Nat.reduceSub, Nat.reduceMod, Nat.reduceDiv, Nat.reduceEqDiff, Int.reduceToNat, reduceIte, reduceCtorEq, Int.reduceLE, Int.reduceLT, Int.reduceEq, Int.reduceNeg, Int.reduceAdd, Int.reduceSub, Int.reduceMul, V1o, V2o, hAo]
  refine (held_Q _ _ _ V2 R.length _ I24 (by omega)).A ?_
  simp only [go_sem, Nat.reduceBEq, Nat.reduceLT, Nat.reduceLeDiff, Nat.reduceAdd, Nat.reduceMul, Nat.reduceSub, Nat.reduceMod, Nat.reduceDiv, Nat.reduceEqDiff, Int.reduceToNat, reduceIte, reduceCtorEq, Int.reduceLE, Int.reduceLT, Int.reduceEq, Int.reduceNeg, Int.reduceAdd, Int.reduceSub, Int.reduceMul, V1o, V2o, hAo, posr, g40, c40]
  refine (toPicture_Q _ _ _ P).A ?_
  simp only [go_sem, Nat.reduceBEq, Nat.reduceLT, Nat.reduceLeDiff, Nat.reduceAdd, Nat.reduceMul, Nat.reduceSub, Nat.reduceMod, Nat.reduceDiv, Nat.reduceEqDiff, Int.reduceToNat, reduceIte, reduceCtorEq, Int.reduceLE, Int.reduceLT, Int.reduceEq, Int.reduceNeg, Int.reduceAdd, Int.reduceSub, Int.reduceMul, hAo]
  refine callA_false (toDropS_E _ _ _ A D (hA.ext (by omega) X4) hm9 _ ?_)
  simp only [go_sem, Nat.reduceBEq, Nat.reduceLT, Nat.reduceLeDiff, Nat.reduceAdd, Nat.reduceMul, Nat.reduceSub, Nat.reduceMod, Nat.reduceDiv, Nat.reduceEqDiff, Int.reduceToNat, reduceIte, reduceCtorEq, Int.reduceLE, Int.reduceLT, Int.reduceEq, Int.reduceNeg, Int.reduceAdd, Int.reduceSub, Int.reduceMul, hAo]
  refine callA_false (useless_E _ _ _ P D (n2 + 1) D.length (drS D) hR (by omega) (hget_hit _ _ _) (drAt_drS D) hDR hm9 _ ?_)
  intro V3 h5 n5 hn5 hx5 ok5 I35
  rw [hRR] at I35
  rw [hcc]
  have V3o := I35.ok
  have x5 : HExt (n2 + 1) h4 h5 := HExt.tr (m' := n2 + 2) (by simp only [go_sem, Nat.reduceBEq, Nat.reduceLT, Nat.reduceLeDiff, Nat.reduceAdd, Nat.reduceMul, Nat.reduceSub, Nat.reduceMod, Nat.reduceDiv, Nat.reduceEqDiff, Int.reduceToNat, reduceIte, reduceCtorEq, Int.reduceLE, Int.reduceLT, Int.reduceEq, Int.reduceNeg, Int.reduceAdd, Int.reduceSub, Int.reduceMul, HExt_cons]) hx5 (by omega)
  have X5 := X4.tr x5 (by omega)
  simp only [go_sem, Nat.reduceBEq, Nat.reduceLT, Nat.reduceLeDiff, Nat.reduceAdd, Nat.reduceMul, Nat.reduceSub, Nat.reduceMod, Nat.reduceDiv, Nat.reduceEqDiff, Int.reduceToNat, reduceIte, reduceCtorEq, Int.reduceLE, Int.reduceLT, Int.reduceEq, Int.reduceNeg, Int.reduceAdd, Int.reduceSub, Int.reduceMul, V1o, V2o, V3o, hAo]
  refine (eqInt64S_Q _ _ _ V3 V1 R _ _ I35 (I14.ext (by omega) x5) (by omega)).A ?_
  simp only [go_sem, Nat.reduceBEq, Nat.reduceLT, Nat.reduceLeDiff, Nat.reduceAdd, Nat.reduceMul, Nat.reduceSub, Nat.reduceMod, Nat.reduceDiv, Nat.reduceEqDiff, Int.reduceToNat, reduceIte, reduceCtorEq, Int.reduceLE, Int.reduceLT, Int.reduceEq, Int.reduceNeg, Int.reduceAdd, Int.reduceSub, Int.reduceMul, V1o, V2o, V3o, hAo]
  refine (held_Q _ _ _ V2 R.length _ (I24.ext (by omega) x5) (by omega)).A ?_
  simp only [go_sem, Nat.reduceBEq, Nat.reduceLT, Nat.reduceLeDiff, Nat.reduceAdd, Nat.reduceMul, Nat.reduceSub, Nat.reduceMod, Nat.reduceDiv, Nat.reduceEqDiff, Int.reduceToNat, reduceIte, reduceCtorEq, Int.reduceLE, Int.reduceLT, Int.reduceEq, Int.reduceNeg, Int.reduceAdd, Int.reduceSub, Int.reduceMul, V1o, V2o, V3o, hAo, posr]
  (try exact X5)
end
end Go.Proofs.Ytodgbpkdanefaaa.V
