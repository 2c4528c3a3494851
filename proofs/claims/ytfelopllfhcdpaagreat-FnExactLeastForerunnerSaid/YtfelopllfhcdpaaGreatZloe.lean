/- Part 5 of the texts that this proof stands on: a symbolic walk over the program, what its functions and the reference's do, plain laws. -/
import Derived.Test.YtfelopllfhcdpaaGreatZlod
import Derived.Test.YtfelopllfhcdpaaGreatZloc
import Derived.Test.YtfelopllfhcdpaaGreatV19
import Derived.Sort.LotD4
import Derived.Sort.LotD5
import Derived.Test.YtfelopllfhcdpaaGreatZloa
set_option linter.all false

/- The library's partitions of spots. -/
namespace Go.Proofs.YtfelopllfhcdpaaGreat.V
open Go.Sort (swp scanUp scanDown partLoop partition partEqLoop partitionEqual round_facts partLoop_eq partEqLoop_eq)
abbrev SpP := Int × Int → Bool
theorem scanUp_go {p : SpP} {d : Array (Int × Int)} {j i : Nat} (h : i ≤ j) (hp : p d[i]! = true) : scanUp p d j i = scanUp p d j (i + 1) := by
  rw [scanUp, if_pos (by rw [hp, decide_eq_true h]; rfl)]
theorem scanUp_far {p : SpP} {d : Array (Int × Int)} {j i : Nat} (h : ¬ i ≤ j) : scanUp p d j i = i := by
  rw [scanUp, if_neg (by rw [decide_eq_false h]; simp)]
theorem scanUp_stop {p : SpP} {d : Array (Int × Int)} {j i : Nat} (hp : p d[i]! = false) : scanUp p d j i = i := by
  rw [scanUp, if_neg (by rw [hp]; simp)]
theorem scanDown_go {p : SpP} {d : Array (Int × Int)} {j i : Nat} (h : i ≤ j + 1) (hp : p d[j + 1]! = true) : scanDown p d i (j + 1) = scanDown p d i j := by
  rw [scanDown, if_pos (by rw [hp, decide_eq_true h]; rfl)]
theorem scanDown_far {p : SpP} {d : Array (Int × Int)} {j i : Nat} (h : ¬ i ≤ j) : scanDown p d i j = j := by
  cases j with
  | zero => rfl
  | succ j => rw [scanDown, if_neg (by rw [decide_eq_false h]; simp)]
theorem scanDown_stop {p : SpP} {d : Array (Int × Int)} {j i : Nat} (hp : p d[j]! = false) : scanDown p d i j = j := by
  cases j with
  | zero => rfl
  | succ j => rw [scanDown, if_neg (by rw [hp]; simp)]
theorem nat_succ {k : Nat} (h : 0 < k) : ∃ j, k = j + 1 := ⟨k - 1, by omega⟩
section
variable (cx : Cx) (h : List (Nat × Seg)) (n : Nat)
set_option maxRecDepth 100000 in
set_option maxHeartbeats 3200000 in
theorem partition_E (i cap : Nat) (d : Array (Int × Int)) (own : Option (Nat × Nat)) (a b pivot : Nat) (f p q : Nat) (G F : Nat → SV) (cI : Int × Int → Int × Int → Int) (lt : Int × Int → Int × Int → Bool) (hlt : ∀ x y, decide (cI x y < 0) = lt x y)
    (hs : hget h i = some ⟨d.size * 2, spotsC d.toList, true, own⟩) (hi0 : i < n) (hap : a ≤ pivot) (hpb : pivot < b) (hb : b ≤ d.size) (h2 : a + 2 ≤ b) (hm9 : d.size ≤ 1000000000) (hF : (SV.fn f p G q F).lt n) (hcmp : Cmps cx h n i f p q G F cI) (K : HK)
    (hK : K (.tup 2 (cl [.int .i64 ((partition lt d a b pivot).1 : Nat), .bool (partition lt d a b pivot).2.1])) (hset h i ⟨d.size * 2, spotsC (partition lt d a b pivot).2.2.toList, true, own⟩) n) :
    CallE Tryz.prog cx 127 [.sl i 0 d.size cap, .int .i64 a, .int .i64 b, .int .i64 pivot, .fn f p G q F] h n K := by
  refine CallE.to _ _ (by simp only [go_sem]) (fun hok => hok_set hok fun k hk => spotsC_flat _ _) hK ?_
  have hgi : ∀ t, hget (hset h i t) i = some t := hget_hset_self hs
  have hFl : (SV.fn f p G q F).lt n = True := eq_true hF
  have b6 : (2 = d.size * 2) = False := eq_false (by omega)
  have ca0 : a < d.size := by omega
  have cp0 : pivot < d.size := by omega
  obtain ⟨D, hDe⟩ : ∃ D, D = swp d a pivot := ⟨_, rfl⟩
  have hDs : D.size = d.size := by rw [hDe]; exact swp_size _ _ _
  obtain ⟨pU, hpUe⟩ : ∃ p : SpP, p = fun x => lt x D[a]! := ⟨_, rfl⟩
  obtain ⟨pD, hpDe⟩ : ∃ p : SpP, p = fun x => !lt x D[a]! := ⟨_, rfl⟩
  have hpU : ∀ x, pU x = lt x D[a]! := fun x => by rw [hpUe]
  have hpD : ∀ x, pD x = !lt x D[a]! := fun x => by rw [hpDe]
  have hpart : partition lt d a b pivot = if scanUp pU D (b - 1) (a + 1) > scanDown pD D (scanUp pU D (b - 1) (a + 1)) (b - 1) then (scanDown pD D (scanUp pU D (b - 1) (a + 1)) (b - 1), true, swp D (scanDown pD D (scanUp pU D (b - 1) (a + 1)) (b - 1)) a) else
      ((partLoop lt a (scanUp pU D (b - 1) (a + 1) + 1) (scanDown pD D (scanUp pU D (b - 1) (a + 1)) (b - 1) - 1) (swp D (scanUp pU D (b - 1) (a + 1)) (scanDown pD D (scanUp pU D (b - 1) (a + 1)) (b - 1)))).1, false,
        swp (partLoop lt a (scanUp pU D (b - 1) (a + 1) + 1) (scanDown pD D (scanUp pU D (b - 1) (a + 1)) (b - 1) - 1) (swp D (scanUp pU D (b - 1) (a + 1)) (scanDown pD D (scanUp pU D (b - 1) (a + 1)) (b - 1)))).2
          (partLoop lt a (scanUp pU D (b - 1) (a + 1) + 1) (scanDown pD D (scanUp pU D (b - 1) (a + 1)) (b - 1) - 1) (swp D (scanUp pU D (b - 1) (a + 1)) (scanDown pD D (scanUp pU D (b - 1) (a + 1)) (b - 1)))).1 a) := by
    subst hpUe hpDe hDe; rfl
  obtain ⟨f1, f2, f3, f4, _, _, f5⟩ := round_facts pU pD (fun x => by rw [hpU, hpD]) D (a + 1 - 1) (b - 1 + 1) (a + 1) (b - 1) (by omega) (by omega) (fun t h1 h2 => by omega) (fun t h1 h2 => by omega)
  refine callE_of_SW (P := Tryz.prog) hti (nt := 178) (rs := [.tmp 10, .tmp 11]) rfl rfl Tryz.call127 Tryz.func127 rfl _ (by simp only [go_sem, and_self]) (Nat.le_of_ble_eq_true rfl) _ fun hok => ?_
  refine SW_seq (SW_run hti trivial ?_)
  simp only [go_sem, Nat.reduceLT]
  refine SW_seq (SW_run hti trivial ?_)
  refine T_drawG hti 16 [13, 15] (.b 0 0 (.b 0 1 (.b 0 2 (.b 0 3 (.b 0 4 (.b 0 5 (.b 0 6 (.b 0 7 (.b 0 8 (.b 0 9 (.b 0 10 (.b 0 11 (.b 0 12 (.b 4 13 (.b 0 14 (.b 4 15 (.f) .o) .o) .o) .o) .o) .o) .o) .o) .o) .o) .o) .o) .o) .o) .o) .o) _ _ (by kernel_rfl) (by kernel_rfl) ?_
  simp only [go_sem, Nat.reduceLT, hgi, hi0, hs, ix_r ca0, ix_r cp0, ix_b ca0, ix_b cp0, ix_c ca0, ix_c cp0, spotsC_x, spotsC_y, b6, and_false, if_false, hset_hset]
  rw [swap_fn d (a := a) (b := pivot) (by omega) (by omega)]
  rw [← hDe]
  refine SW_seq (SW_run hti trivial ?_)
  simp only [go_sem, Nat.reduceLT, w64N (a := (a : Int) + 1) (k := a + 1) (by omega) (by omega), w64N (a := (b : Int) - 1) (k := b - 1) (by omega) (by omega)]
  obtain ⟨I, hI⟩ : ∃ I, scanUp pU D (b - 1) (a + 1) = I := ⟨_, rfl⟩
  rw [hI] at hpart f1 f2 f3 f4 f5
  obtain ⟨J, hJ⟩ : ∃ J, scanDown pD D I (b - 1) = J := ⟨_, rfl⟩
  rw [hJ] at hpart f3 f4 f5
  refine SW_seq (SW_cut hti (ι := Unit) (fun _ => ([(0, .sl i 0 d.size cap), (1, .int .i64 a), (4, .fn f p G q F), (12, .int .i64 ((I : Nat) : Int)), (13, .int .i64 ((b - 1 : Nat) : Int))], hset h i ⟨d.size * 2, spotsC D.toList, true, own⟩, n)) trivial ?_ ?_)
  · simp only [go_sem]
    subst hI
    refine T_lp (ι := { k : Nat // a + 1 ≤ k ∧ k ≤ (b - 1) + 1 ∧ scanUp pU D (b - 1) k = scanUp pU D (b - 1) (a + 1) }) (fun k => ([(0, .sl i 0 d.size cap), (1, .int .i64 a), (4, .fn f p G q F), (12, .int .i64 ((k.1 : Nat) : Int)), (13, .int .i64 ((b - 1 : Nat) : Int))], hset h i ⟨d.size * 2, spotsC D.toList, true, own⟩, n)) (fun k => (b - 1) + 1 - k.1) ⟨(a + 1), by omega, by omega, rfl⟩ ?_ ?_
    · refine Imp.id (by simp) ?_ (impH.base0 (hok_set hok fun k hk => spotsC_flat _ _) (by simp) HExt.rfl)
      simp only [go_sem, Nat.reduceLT, hFl, hi0]
      (try (repeat' apply And.intro) <;> first | omega | rfl | trivial | assumption | skip)
    · rintro ⟨k, hk1, hk2, hK⟩
      simp only [go_sem]
      by_cases h1 : k ≤ (b - 1)
      rotate_left
      · have e1 : ((k : Int) ≤ ((b - 1) : Nat)) = False := eq_false (by omega)
        rw [scanUp_far h1] at hK
        refine T_draw hti _ _ (by kernel_rfl) (by kernel_rfl) ?_
        simp only [go_sem, Nat.reduceLT, e1]
        refine ⟨(), Imp.id (by simp) ?_ (impH.base0 (hok_set hok fun k hk => spotsC_flat _ _) (by simp) HExt.rfl)⟩
        simp only [go_sem, Nat.reduceLT, hFl, hi0, hK]
        (try (repeat' apply And.intro) <;> first | omega | rfl | trivial | assumption | skip)
      have e1 : ((k : Int) ≤ ((b - 1) : Nat)) = True := eq_true (by omega)
      have ck : k < d.size := by omega
      have ca : a < d.size := by omega
      refine T_draw hti _ _ (by kernel_rfl) (by kernel_rfl) ?_
      simp only [go_sem, Nat.reduceLT, hgi, hi0, e1, ix_r ck, ix_b ck, ix_c ck, ix_r ca, ix_b ca, ix_c ca, spotsC_x, spotsC_y]
      refine (hcmp (D.toList.getD k (0, 0)) (D.toList.getD a (0, 0)) _ _ _ _ (Nat.le_refl n) (HBut.set i n h _)).A ?_
      have hl := hlt (D.toList.getD k (0, 0)) (D.toList.getD a (0, 0))
      by_cases hc : cI (D.toList.getD k (0, 0)) (D.toList.getD a (0, 0)) < 0
      · rw [scanUp_go (by omega) (show pU D[k]! = _ from by rw [hpU, bangL, bangL, ← hl, decide_eq_true hc])] at hK
        simp only [go_sem, Nat.reduceLT, hc]
        refine ⟨⟨k + 1, by omega, by omega, hK⟩, by show (b - 1) + 1 - (k + 1) < (b - 1) + 1 - k; omega, ?_⟩
        refine Imp.id (by simp) ?_ (impH.base0 (hok_set hok fun k hk => spotsC_flat _ _) (by simp) HExt.rfl)
        simp only [go_sem, Nat.reduceLT, hFl, hi0, w64N (a := (k : Int) + 1) (k := k + 1) (by omega) (by omega)]
        (try (repeat' apply And.intro) <;> first | omega | rfl | trivial | assumption | skip)
      · rw [scanUp_stop (show pU D[k]! = _ from by rw [hpU, bangL, bangL, ← hl, decide_eq_false hc])] at hK
        simp only [go_sem, Nat.reduceLT, hc]
        refine ⟨(), Imp.id (by simp) ?_ (impH.base0 (hok_set hok fun k hk => spotsC_flat _ _) (by simp) HExt.rfl)⟩
        simp only [go_sem, Nat.reduceLT, hFl, hi0, hK]
        (try (repeat' apply And.intro) <;> first | omega | rfl | trivial | assumption | skip)
  intro _
  refine SW_seq (SW_cut hti (ι := Unit) (fun _ => ([(0, .sl i 0 d.size cap), (1, .int .i64 a), (4, .fn f p G q F), (12, .int .i64 ((I : Nat) : Int)), (13, .int .i64 ((J : Nat) : Int))], hset h i ⟨d.size * 2, spotsC D.toList, true, own⟩, n)) trivial ?_ ?_)
  · simp only [go_sem]
    subst hJ
    refine T_lp (ι := { k : Nat // I ≤ k + 1 ∧ k ≤ (b - 1) ∧ scanDown pD D I k = scanDown pD D I (b - 1) }) (fun k => ([(0, .sl i 0 d.size cap), (1, .int .i64 a), (4, .fn f p G q F), (12, .int .i64 ((I : Nat) : Int)), (13, .int .i64 ((k.1 : Nat) : Int))], hset h i ⟨d.size * 2, spotsC D.toList, true, own⟩, n)) (fun k => k.1) ⟨(b - 1), by omega, Nat.le_refl _, rfl⟩ ?_ ?_
    · refine Imp.id (by simp) ?_ (impH.base0 (hok_set hok fun k hk => spotsC_flat _ _) (by simp) HExt.rfl)
      simp only [go_sem, Nat.reduceLT, hFl, hi0]
      (try (repeat' apply And.intro) <;> first | omega | rfl | trivial | assumption | skip)
    · rintro ⟨k, hk1, hk2, hK⟩
      simp only [go_sem]
      by_cases h1 : I ≤ k
      rotate_left
      · have e1 : (((I : Nat) : Int) ≤ (k : Nat)) = False := eq_false (by omega)
        rw [scanDown_far h1] at hK
        refine T_draw hti _ _ (by kernel_rfl) (by kernel_rfl) ?_
        simp only [go_sem, Nat.reduceLT, e1]
        refine ⟨(), Imp.id (by simp) ?_ (impH.base0 (hok_set hok fun k hk => spotsC_flat _ _) (by simp) HExt.rfl)⟩
        simp only [go_sem, Nat.reduceLT, hFl, hi0, hK]
        (try (repeat' apply And.intro) <;> first | omega | rfl | trivial | assumption | skip)
      obtain ⟨k, rfl⟩ := nat_succ (show 0 < k by omega)
      have e1 : (((I : Nat) : Int) ≤ ((k + 1 : Nat) : Int)) = True := eq_true (by omega)
      have ck : k + 1 < d.size := by omega
      have ca : a < d.size := by omega
      refine T_draw hti _ _ (by kernel_rfl) (by kernel_rfl) ?_
      simp only [go_sem, Nat.reduceLT, hgi, hi0, e1, ix_r ck, ix_b ck, ix_c ck, ix_r ca, ix_b ca, ix_c ca, spotsC_x, spotsC_y]
      refine (hcmp (D.toList.getD (k + 1) (0, 0)) (D.toList.getD a (0, 0)) _ _ _ _ (Nat.le_refl n) (HBut.set i n h _)).A ?_
      have hl := hlt (D.toList.getD (k + 1) (0, 0)) (D.toList.getD a (0, 0))
      by_cases hc : cI (D.toList.getD (k + 1) (0, 0)) (D.toList.getD a (0, 0)) < 0
      · rw [scanDown_stop (show pD D[k + 1]! = _ from by rw [hpD, bangL, bangL, ← hl, decide_eq_true hc]; rfl)] at hK
        simp only [go_sem, Nat.reduceLT, hc]
        refine ⟨(), Imp.id (by simp) ?_ (impH.base0 (hok_set hok fun k hk => spotsC_flat _ _) (by simp) HExt.rfl)⟩
        simp only [go_sem, Nat.reduceLT, hFl, hi0, hK]
        (try (repeat' apply And.intro) <;> first | omega | rfl | trivial | assumption | skip)
      · rw [scanDown_go (by omega) (show pD D[k + 1]! = _ from by rw [hpD, bangL, bangL, ← hl, decide_eq_false hc]; rfl)] at hK
        simp only [go_sem, Nat.reduceLT, hc]
        refine ⟨⟨k, by omega, by omega, hK⟩, by show k < k + 1; omega, ?_⟩
        refine Imp.id (by simp) ?_ (impH.base0 (hok_set hok fun k hk => spotsC_flat _ _) (by simp) HExt.rfl)
        simp only [go_sem, Nat.reduceLT, hFl, hi0, w64N (a := ((k + 1 : Nat) : Int) - 1) (k := k) (by omega) (by omega)]
        (try (repeat' apply And.intro) <;> first | omega | rfl | trivial | assumption | skip)
  intro _
  by_cases hIJ : I > J
  · rw [if_pos hIJ] at hpart
    have e1 : ((J : Int) < (I : Int)) = True := eq_true (by omega)
    have cXJ : J < d.size := by omega
    refine SW_of_T hti trivial ?_
    simp only [go_sem, Nat.reduceLT, e1]
    refine T_drawG hti 16 [13, 15] (.b 0 0 (.b 0 1 (.b 0 2 (.b 0 3 (.b 0 4 (.b 0 5 (.b 0 6 (.b 0 7 (.b 0 8 (.b 0 9 (.b 0 10 (.b 0 11 (.b 0 12 (.b 4 13 (.b 0 14 (.b 4 15 (.f) .o) .o) .o) .o) .o) .o) .o) .o) .o) .o) .o) .o) .o) .o) .o) .o) _ _ (by kernel_rfl) (by kernel_rfl) ?_
    simp only [go_sem, Nat.reduceLT, hgi, hi0, ix_r cXJ, ix_r ca0, ix_b cXJ, ix_b ca0, ix_c cXJ, ix_c ca0, spotsC_x, spotsC_y, b6, and_false, if_false, hset_hset]
    rw [swap_fn D (a := J) (b := a) (by omega) (by omega)]
    rw [hpart]
    exact ⟨rfl, HExt.rfl⟩
  rw [if_neg hIJ] at hpart
  obtain ⟨_, _, hlt2⟩ := f5 hIJ
  have e1 : ((J : Int) < (I : Int)) = False := eq_false (by omega)
  have cXI : I < d.size := by omega
  have cXJ : J < d.size := by omega
  refine SW_seq (SW_run hti trivial ?_)
  simp only [go_sem, Nat.reduceLT, e1]
  refine SW_seq (SW_run hti trivial ?_)
  refine T_drawG hti 16 [13, 15] (.b 0 0 (.b 0 1 (.b 0 2 (.b 0 3 (.b 0 4 (.b 0 5 (.b 0 6 (.b 0 7 (.b 0 8 (.b 0 9 (.b 0 10 (.b 0 11 (.b 0 12 (.b 4 13 (.b 0 14 (.b 4 15 (.f) .o) .o) .o) .o) .o) .o) .o) .o) .o) .o) .o) .o) .o) .o) .o) .o) _ _ (by kernel_rfl) (by kernel_rfl) ?_
  simp only [go_sem, Nat.reduceLT, hgi, hi0, ix_r cXI, ix_r cXJ, ix_b cXI, ix_b cXJ, ix_c cXI, ix_c cXJ, spotsC_x, spotsC_y, b6, and_false, if_false, hset_hset]
  rw [swap_fn D (a := I) (b := J) (by omega) (by omega)]
  refine SW_seq (SW_run hti trivial ?_)
  simp only [go_sem, Nat.reduceLT, w64N (a := (I : Int) + 1) (k := I + 1) (by omega) (by omega)]
  refine SW_seq (SW_run hti trivial ?_)
  simp only [go_sem, Nat.reduceLT, w64N (a := (J : Int) - 1) (k := J - 1) (by omega) (by omega)]
  have hEs : (swp D I J).size = d.size := (swp_size _ _ _).trans hDs
  generalize hE0 : swp D I J = E0 at *
  generalize hR : partLoop lt a (I + 1) (J - 1) E0 = R at *
  clear hI hJ hpU hpD hpUe hpDe hDe f5
  refine SW_seq (SW_cutS (ι := { u : Nat × Array (Int × Int) // u = R ∧ u.1 + 1 ≤ b ∧ u.2.size = d.size }) (fun u => ([(0, .sl i 0 d.size cap), (1, .int .i64 a), (13, .int .i64 ((u.1.1 : Nat) : Int))], hset h i ⟨d.size * 2, spotsC u.1.2.toList, true, own⟩, n)) ?_ ?_)
  · refine SW_block (SW_lp (ι := { w : Nat × Nat × Array (Int × Int) // (a + 1 ≤ w.1 ∧ w.1 ≤ w.2.1 + 1 ∧ w.2.1 + 1 ≤ b) ∧ w.2.2.size = d.size ∧ partLoop lt a w.1 w.2.1 w.2.2 = R })
      (fun w => ([(0, .sl i 0 d.size cap), (1, .int .i64 a), (4, .fn f p G q F), (12, .int .i64 ((w.1.1 : Nat) : Int)), (13, .int .i64 ((w.1.2.1 : Nat) : Int))], hset h i ⟨d.size * 2, spotsC w.1.2.2.toList, true, own⟩, n)) (fun w => w.1.2.1 + 1 - w.1.1) ⟨(I + 1, J - 1, E0), ⟨by show a + 1 ≤ I + 1; omega, by show I + 1 ≤ J - 1 + 1; omega, by show J - 1 + 1 ≤ b; omega⟩, hEs, hR⟩ ?_ ?_)
    · refine Imp.id (by simp) ?_ (impH.base0 (hok_set hok fun k hk => spotsC_flat _ _) (by simp) HExt.rfl)
      simp only [go_sem, Nat.reduceLT, hFl, hi0]
      (try (repeat' apply And.intro) <;> first | omega | rfl | trivial | assumption | skip)
    rintro ⟨⟨i0, j0, E⟩, ⟨g1, g2, g3⟩, hEz, hPL⟩
    simp only at g1 g2 g3 hEz hPL
    obtain ⟨pU, hpUe⟩ : ∃ p : SpP, p = fun x => lt x E[a]! := ⟨_, rfl⟩
    obtain ⟨pD, hpDe⟩ : ∃ p : SpP, p = fun x => !lt x E[a]! := ⟨_, rfl⟩
    have hpU : ∀ x, pU x = lt x E[a]! := fun x => by rw [hpUe]
    have hpD : ∀ x, pD x = !lt x E[a]! := fun x => by rw [hpDe]
    rw [partLoop_eq, ← hpUe, ← hpDe] at hPL
    obtain ⟨f1, f2, f3, f4, _, _, f5⟩ := round_facts pU pD (fun x => by rw [hpU, hpD]) E (i0 - 1) (j0 + 1) (i0) (j0) (by omega) (by omega) (fun t h1 h2 => by omega) (fun t h1 h2 => by omega)
    obtain ⟨I2, hI2⟩ : ∃ I, scanUp pU E j0 i0 = I := ⟨_, rfl⟩
    rw [hI2] at hPL f1 f2 f3 f4 f5
    obtain ⟨J2, hJ2⟩ : ∃ J, scanDown pD E I2 j0 = J := ⟨_, rfl⟩
    rw [hJ2] at hPL f3 f4 f5
    refine SW_block (SW_seq (SW_cut hti (ι := Unit) (fun _ => ([(0, .sl i 0 d.size cap), (1, .int .i64 a), (4, .fn f p G q F), (12, .int .i64 ((I2 : Nat) : Int)), (13, .int .i64 ((j0 : Nat) : Int))], hset h i ⟨d.size * 2, spotsC E.toList, true, own⟩, n)) trivial ?_ ?_))
    · simp only [go_sem]
      subst hI2
      refine T_lp (ι := { k : Nat // a + 1 ≤ k ∧ k ≤ j0 + 1 ∧ scanUp pU E j0 k = scanUp pU E j0 i0 }) (fun k => ([(0, .sl i 0 d.size cap), (1, .int .i64 a), (4, .fn f p G q F), (12, .int .i64 ((k.1 : Nat) : Int)), (13, .int .i64 ((j0 : Nat) : Int))], hset h i ⟨d.size * 2, spotsC E.toList, true, own⟩, n)) (fun k => j0 + 1 - k.1) ⟨i0, by omega, by omega, rfl⟩ ?_ ?_
      · refine Imp.id (by simp) ?_ (impH.base0 (hok_set hok fun k hk => spotsC_flat _ _) (by simp) HExt.rfl)
        simp only [go_sem, Nat.reduceLT, hFl, hi0]
        (try (repeat' apply And.intro) <;> first | omega | rfl | trivial | assumption | skip)
      · rintro ⟨k, hk1, hk2, hK⟩
        simp only [go_sem]
        by_cases h1 : k ≤ j0
        rotate_left
        · have e1 : ((k : Int) ≤ (j0 : Nat)) = False := eq_false (by omega)
          rw [scanUp_far h1] at hK
          refine T_draw hti _ _ (by kernel_rfl) (by kernel_rfl) ?_
          simp only [go_sem, Nat.reduceLT, e1]
          refine ⟨(), Imp.id (by simp) ?_ (impH.base0 (hok_set hok fun k hk => spotsC_flat _ _) (by simp) HExt.rfl)⟩
          simp only [go_sem, Nat.reduceLT, hFl, hi0, hK]
          (try (repeat' apply And.intro) <;> first | omega | rfl | trivial | assumption | skip)
        have e1 : ((k : Int) ≤ (j0 : Nat)) = True := eq_true (by omega)
        have ck : k < d.size := by omega
        have ca : a < d.size := by omega
        refine T_draw hti _ _ (by kernel_rfl) (by kernel_rfl) ?_
        simp only [go_sem, Nat.reduceLT, hgi, hi0, e1, ix_r ck, ix_b ck, ix_c ck, ix_r ca, ix_b ca, ix_c ca, spotsC_x, spotsC_y]
        refine (hcmp (E.toList.getD k (0, 0)) (E.toList.getD a (0, 0)) _ _ _ _ (Nat.le_refl n) (HBut.set i n h _)).A ?_
        have hl := hlt (E.toList.getD k (0, 0)) (E.toList.getD a (0, 0))
        by_cases hc : cI (E.toList.getD k (0, 0)) (E.toList.getD a (0, 0)) < 0
        · rw [scanUp_go (by omega) (show pU E[k]! = _ from by rw [hpU, bangL, bangL, ← hl, decide_eq_true hc])] at hK
          simp only [go_sem, Nat.reduceLT, hc]
          refine ⟨⟨k + 1, by omega, by omega, hK⟩, by show j0 + 1 - (k + 1) < j0 + 1 - k; omega, ?_⟩
          refine Imp.id (by simp) ?_ (impH.base0 (hok_set hok fun k hk => spotsC_flat _ _) (by simp) HExt.rfl)
          simp only [go_sem, Nat.reduceLT, hFl, hi0, w64N (a := (k : Int) + 1) (k := k + 1) (by omega) (by omega)]
          (try (repeat' apply And.intro) <;> first | omega | rfl | trivial | assumption | skip)
        · rw [scanUp_stop (show pU E[k]! = _ from by rw [hpU, bangL, bangL, ← hl, decide_eq_false hc])] at hK
          simp only [go_sem, Nat.reduceLT, hc]
          refine ⟨(), Imp.id (by simp) ?_ (impH.base0 (hok_set hok fun k hk => spotsC_flat _ _) (by simp) HExt.rfl)⟩
          simp only [go_sem, Nat.reduceLT, hFl, hi0, hK]
          (try (repeat' apply And.intro) <;> first | omega | rfl | trivial | assumption | skip)
    intro _
    refine SW_seq (SW_cut hti (ι := Unit) (fun _ => ([(0, .sl i 0 d.size cap), (1, .int .i64 a), (4, .fn f p G q F), (12, .int .i64 ((I2 : Nat) : Int)), (13, .int .i64 ((J2 : Nat) : Int))], hset h i ⟨d.size * 2, spotsC E.toList, true, own⟩, n)) trivial ?_ ?_)
    · simp only [go_sem]
      subst hJ2
      refine T_lp (ι := { k : Nat // I2 ≤ k + 1 ∧ k ≤ j0 ∧ scanDown pD E I2 k = scanDown pD E I2 j0 }) (fun k => ([(0, .sl i 0 d.size cap), (1, .int .i64 a), (4, .fn f p G q F), (12, .int .i64 ((I2 : Nat) : Int)), (13, .int .i64 ((k.1 : Nat) : Int))], hset h i ⟨d.size * 2, spotsC E.toList, true, own⟩, n)) (fun k => k.1) ⟨j0, by omega, Nat.le_refl _, rfl⟩ ?_ ?_
      · refine Imp.id (by simp) ?_ (impH.base0 (hok_set hok fun k hk => spotsC_flat _ _) (by simp) HExt.rfl)
        simp only [go_sem, Nat.reduceLT, hFl, hi0]
        (try (repeat' apply And.intro) <;> first | omega | rfl | trivial | assumption | skip)
      · rintro ⟨k, hk1, hk2, hK⟩
        simp only [go_sem]
        by_cases h1 : I2 ≤ k
        rotate_left
        · have e1 : (((I2 : Nat) : Int) ≤ (k : Nat)) = False := eq_false (by omega)
          rw [scanDown_far h1] at hK
          refine T_draw hti _ _ (by kernel_rfl) (by kernel_rfl) ?_
          simp only [go_sem, Nat.reduceLT, e1]
          refine ⟨(), Imp.id (by simp) ?_ (impH.base0 (hok_set hok fun k hk => spotsC_flat _ _) (by simp) HExt.rfl)⟩
          simp only [go_sem, Nat.reduceLT, hFl, hi0, hK]
          (try (repeat' apply And.intro) <;> first | omega | rfl | trivial | assumption | skip)
        obtain ⟨k, rfl⟩ := nat_succ (show 0 < k by omega)
        have e1 : (((I2 : Nat) : Int) ≤ ((k + 1 : Nat) : Int)) = True := eq_true (by omega)
        have ck : k + 1 < d.size := by omega
        have ca : a < d.size := by omega
        refine T_draw hti _ _ (by kernel_rfl) (by kernel_rfl) ?_
        simp only [go_sem, Nat.reduceLT, hgi, hi0, e1, ix_r ck, ix_b ck, ix_c ck, ix_r ca, ix_b ca, ix_c ca, spotsC_x, spotsC_y]
        refine (hcmp (E.toList.getD (k + 1) (0, 0)) (E.toList.getD a (0, 0)) _ _ _ _ (Nat.le_refl n) (HBut.set i n h _)).A ?_
        have hl := hlt (E.toList.getD (k + 1) (0, 0)) (E.toList.getD a (0, 0))
        by_cases hc : cI (E.toList.getD (k + 1) (0, 0)) (E.toList.getD a (0, 0)) < 0
        · rw [scanDown_stop (show pD E[k + 1]! = _ from by rw [hpD, bangL, bangL, ← hl, decide_eq_true hc]; rfl)] at hK
          simp only [go_sem, Nat.reduceLT, hc]
          refine ⟨(), Imp.id (by simp) ?_ (impH.base0 (hok_set hok fun k hk => spotsC_flat _ _) (by simp) HExt.rfl)⟩
          simp only [go_sem, Nat.reduceLT, hFl, hi0, hK]
          (try (repeat' apply And.intro) <;> first | omega | rfl | trivial | assumption | skip)
        · rw [scanDown_go (by omega) (show pD E[k + 1]! = _ from by rw [hpD, bangL, bangL, ← hl, decide_eq_false hc]; rfl)] at hK
          simp only [go_sem, Nat.reduceLT, hc]
          refine ⟨⟨k, by omega, by omega, hK⟩, by show k < k + 1; omega, ?_⟩
          refine Imp.id (by simp) ?_ (impH.base0 (hok_set hok fun k hk => spotsC_flat _ _) (by simp) HExt.rfl)
          simp only [go_sem, Nat.reduceLT, hFl, hi0, w64N (a := ((k + 1 : Nat) : Int) - 1) (k := k) (by omega) (by omega)]
          (try (repeat' apply And.intro) <;> first | omega | rfl | trivial | assumption | skip)
    intro _
    refine SW_of_T hti trivial ?_
    by_cases hx : I2 > J2
    · rw [if_pos hx] at hPL
      have e2 : ((J2 : Int) < (I2 : Int)) = True := eq_true (by omega)
      simp only [go_sem, Nat.reduceLT, e2]
      refine ⟨⟨(J2, E), hPL, by show J2 + 1 ≤ b; omega, hEz⟩, Imp.id (by simp) ?_ (impH.base0 (hok_set hok fun k hk => spotsC_flat _ _) (by simp) HExt.rfl)⟩
      simp only [go_sem, Nat.reduceLT, hi0]
      (try (repeat' apply And.intro) <;> first | omega | rfl | trivial | assumption | skip)
    · rw [if_neg hx] at hPL
      obtain ⟨_, _, hlt3⟩ := f5 hx
      have e2 : ((J2 : Int) < (I2 : Int)) = False := eq_false (by omega)
      have cI2 : I2 < d.size := by omega
      have cJ2 : J2 < d.size := by omega
      simp only [go_sem, Nat.reduceLT, e2]
      refine T_drawG hti 16 [13, 15] (.b 0 0 (.b 0 1 (.b 0 2 (.b 0 3 (.b 0 4 (.b 0 5 (.b 0 6 (.b 0 7 (.b 0 8 (.b 0 9 (.b 0 10 (.b 0 11 (.b 0 12 (.b 4 13 (.b 0 14 (.b 4 15 (.f) .o) .o) .o) .o) .o) .o) .o) .o) .o) .o) .o) .o) .o) .o) .o) .o) _ _ (by kernel_rfl) (by kernel_rfl) ?_
      simp only [go_sem, Nat.reduceLT, hgi, hi0, w64N (a := (I2 : Int) + 1) (k := I2 + 1) (by omega) (by omega), w64N (a := (J2 : Int) - 1) (k := J2 - 1) (by omega) (by omega), ix_r cI2, ix_r cJ2, ix_b cI2, ix_b cJ2, ix_c cI2, ix_c cJ2, spotsC_x, spotsC_y, b6, and_false, if_false, hset_hset]
      rw [swap_fn E (a := I2) (b := J2) (by omega) (by omega)]
      refine ⟨⟨(I2 + 1, J2 - 1, swp E I2 J2), ⟨by show a + 1 ≤ I2 + 1; omega, by show I2 + 1 ≤ J2 - 1 + 1; omega, by show J2 - 1 + 1 ≤ b; omega⟩, (swp_size _ _ _).trans hEz, hPL⟩, by show J2 - 1 + 1 - (I2 + 1) < j0 + 1 - i0; omega, ?_⟩
      refine Imp.id (by simp) ?_ (impH.base0 (hok_set hok fun k hk => spotsC_flat _ _) (by simp) HExt.rfl)
      simp only [go_sem, Nat.reduceLT, hFl, hi0]
      (try (repeat' apply And.intro) <;> first | omega | rfl | trivial | assumption | skip)
  rintro ⟨⟨m, E⟩, rfl, hm, hEz⟩
  simp only at hm hEz hpart
  have cm : m < d.size := by omega
  refine SW_of_T hti trivial ?_
  simp only [go_sem]
  refine T_drawG hti 16 [13, 15] (.b 0 0 (.b 0 1 (.b 0 2 (.b 0 3 (.b 0 4 (.b 0 5 (.b 0 6 (.b 0 7 (.b 0 8 (.b 0 9 (.b 0 10 (.b 0 11 (.b 0 12 (.b 4 13 (.b 0 14 (.b 4 15 (.f) .o) .o) .o) .o) .o) .o) .o) .o) .o) .o) .o) .o) .o) .o) .o) .o) _ _ (by kernel_rfl) (by kernel_rfl) ?_
  simp only [go_sem, Nat.reduceLT, hgi, hi0, ix_r cm, ix_r ca0, ix_b cm, ix_b ca0, ix_c cm, ix_c ca0, spotsC_x, spotsC_y, b6, and_false, if_false, hset_hset]
  rw [swap_fn E (a := m) (b := a) (by omega) (by omega)]
  rw [hpart]
  exact ⟨rfl, HExt.rfl⟩
end
end Go.Proofs.YtfelopllfhcdpaaGreat.V

/- The library's partition of spots by equality. -/
namespace Go.Proofs.YtfelopllfhcdpaaGreat.V
open Go.Sort (swp scanUp scanDown partEqLoop partitionEqual round_facts partEqLoop_eq)
section
variable (cx : Cx) (h : List (Nat × Seg)) (n : Nat)
set_option maxRecDepth 100000 in
set_option maxHeartbeats 3200000 in
theorem partitionEqual_E (i cap : Nat) (d : Array (Int × Int)) (own : Option (Nat × Nat)) (a b pivot : Nat) (f p q : Nat) (G F : Nat → SV) (cI : Int × Int → Int × Int → Int) (lt : Int × Int → Int × Int → Bool) (hlt : ∀ x y, decide (cI x y < 0) = lt x y)
    (hs : hget h i = some ⟨d.size * 2, spotsC d.toList, true, own⟩) (hi0 : i < n) (hap : a ≤ pivot) (hpb : pivot < b) (hb : b ≤ d.size) (h2 : a + 2 ≤ b) (hm9 : d.size ≤ 1000000000) (hF : (SV.fn f p G q F).lt n) (hcmp : Cmps cx h n i f p q G F cI) (K : HK)
    (hK : K (.int .i64 ((partitionEqual lt d a b pivot).1 : Nat)) (hset h i ⟨d.size * 2, spotsC (partitionEqual lt d a b pivot).2.toList, true, own⟩) n) :
    CallE Tryz.prog cx 126 [.sl i 0 d.size cap, .int .i64 a, .int .i64 b, .int .i64 pivot, .fn f p G q F] h n K := by
  refine CallE.to _ _ (by simp only [go_sem]) (fun hok => hok_set hok fun k hk => spotsC_flat _ _) hK ?_
  have hgi : ∀ t, hget (hset h i t) i = some t := hget_hset_self hs
  have hFl : (SV.fn f p G q F).lt n = True := eq_true hF
  have b6 : (2 = d.size * 2) = False := eq_false (by omega)
  have ca0 : a < d.size := by omega
  have cp0 : pivot < d.size := by omega
  have hpart : partitionEqual lt d a b pivot = partEqLoop lt a (a + 1) (b - 1) (swp d a pivot) := rfl
  have hDs : (swp d a pivot).size = d.size := swp_size _ _ _
  refine callE_of_SW (P := Tryz.prog) hti (nt := 90) (rs := [.tmp 10]) rfl rfl Tryz.call126 Tryz.func126 rfl _ (by simp only [go_sem, and_self]) (Nat.le_of_ble_eq_true rfl) _ fun hok => ?_
  refine SW_seq (SW_run hti trivial ?_)
  simp only [go_sem, Nat.reduceLT]
  refine SW_seq (SW_run hti trivial ?_)
  refine T_drawG hti 16 [13, 15] (.b 0 0 (.b 0 1 (.b 0 2 (.b 0 3 (.b 0 4 (.b 0 5 (.b 0 6 (.b 0 7 (.b 0 8 (.b 0 9 (.b 0 10 (.b 0 11 (.b 0 12 (.b 4 13 (.b 0 14 (.b 4 15 (.f) .o) .o) .o) .o) .o) .o) .o) .o) .o) .o) .o) .o) .o) .o) .o) .o) _ _ (by kernel_rfl) (by kernel_rfl) ?_
  simp only [go_sem, Nat.reduceLT, hgi, hi0, hs, ix_r ca0, ix_r cp0, ix_b ca0, ix_b cp0, ix_c ca0, ix_c cp0, spotsC_x, spotsC_y, b6, and_false, if_false, hset_hset]
  rw [swap_fn d (a := a) (b := pivot) (by omega) (by omega)]
  refine SW_seq (SW_run hti trivial ?_)
  simp only [go_sem, Nat.reduceLT, w64N (a := (a : Int) + 1) (k := a + 1) (by omega) (by omega), w64N (a := (b : Int) - 1) (k := b - 1) (by omega) (by omega)]
  generalize hE0 : swp d a pivot = E0 at *
  generalize hR : partEqLoop lt a (a + 1) (b - 1) E0 = R at *
  refine SW_seq (SW_cutS (ι := { u : Nat × Array (Int × Int) // u = R ∧ u.2.size = d.size }) (fun u => ([(11, .int .i64 ((u.1.1 : Nat) : Int))], hset h i ⟨d.size * 2, spotsC u.1.2.toList, true, own⟩, n)) ?_ ?_)
  · refine SW_block (SW_lp (ι := { w : Nat × Nat × Array (Int × Int) // (a + 1 ≤ w.1 ∧ w.1 ≤ w.2.1 + 1 ∧ w.2.1 + 1 ≤ b) ∧ w.2.2.size = d.size ∧ partEqLoop lt a w.1 w.2.1 w.2.2 = R })
      (fun w => ([(0, .sl i 0 d.size cap), (1, .int .i64 a), (4, .fn f p G q F), (11, .int .i64 ((w.1.1 : Nat) : Int)), (12, .int .i64 ((w.1.2.1 : Nat) : Int))], hset h i ⟨d.size * 2, spotsC w.1.2.2.toList, true, own⟩, n)) (fun w => w.1.2.1 + 1 - w.1.1) ⟨(a + 1, b - 1, E0), ⟨Nat.le_refl _, by show a + 1 ≤ b - 1 + 1; omega, by show b - 1 + 1 ≤ b; omega⟩, hDs, hR⟩ ?_ ?_)
    · refine Imp.id (by simp) ?_ (impH.base0 (hok_set hok fun k hk => spotsC_flat _ _) (by simp) HExt.rfl)
      simp only [go_sem, Nat.reduceLT, hFl, hi0]
      (try (repeat' apply And.intro) <;> first | omega | rfl | trivial | assumption | skip)
    rintro ⟨⟨i0, j0, E⟩, ⟨g1, g2, g3⟩, hEz, hPL⟩
    simp only at g1 g2 g3 hEz hPL
    obtain ⟨pU, hpUe⟩ : ∃ p : SpP, p = fun x => !lt E[a]! x := ⟨_, rfl⟩
    obtain ⟨pD, hpDe⟩ : ∃ p : SpP, p = fun x => lt E[a]! x := ⟨_, rfl⟩
    have hpU : ∀ x, pU x = !lt E[a]! x := fun x => by rw [hpUe]
    have hpD : ∀ x, pD x = lt E[a]! x := fun x => by rw [hpDe]
    rw [partEqLoop_eq, ← hpUe, ← hpDe] at hPL
    obtain ⟨f1, f2, f3, f4, _, _, f5⟩ := round_facts pU pD (fun x => by rw [hpU, hpD]; simp) E (i0 - 1) (j0 + 1) (i0) (j0) (by omega) (by omega) (fun t h1 h2 => by omega) (fun t h1 h2 => by omega)
    obtain ⟨I2, hI2⟩ : ∃ I, scanUp pU E j0 i0 = I := ⟨_, rfl⟩
    rw [hI2] at hPL f1 f2 f3 f4 f5
    obtain ⟨J2, hJ2⟩ : ∃ J, scanDown pD E I2 j0 = J := ⟨_, rfl⟩
    rw [hJ2] at hPL f3 f4 f5
    refine SW_block (SW_seq (SW_cut hti (ι := Unit) (fun _ => ([(0, .sl i 0 d.size cap), (1, .int .i64 a), (4, .fn f p G q F), (11, .int .i64 ((I2 : Nat) : Int)), (12, .int .i64 ((j0 : Nat) : Int))], hset h i ⟨d.size * 2, spotsC E.toList, true, own⟩, n)) trivial ?_ ?_))
    · simp only [go_sem]
      subst hI2
      refine T_lp (ι := { k : Nat // a + 1 ≤ k ∧ k ≤ j0 + 1 ∧ scanUp pU E j0 k = scanUp pU E j0 i0 }) (fun k => ([(0, .sl i 0 d.size cap), (1, .int .i64 a), (4, .fn f p G q F), (11, .int .i64 ((k.1 : Nat) : Int)), (12, .int .i64 ((j0 : Nat) : Int))], hset h i ⟨d.size * 2, spotsC E.toList, true, own⟩, n)) (fun k => j0 + 1 - k.1) ⟨i0, by omega, by omega, rfl⟩ ?_ ?_
      · refine Imp.id (by simp) ?_ (impH.base0 (hok_set hok fun k hk => spotsC_flat _ _) (by simp) HExt.rfl)
        simp only [go_sem, Nat.reduceLT, hFl, hi0]
        (try (repeat' apply And.intro) <;> first | omega | rfl | trivial | assumption | skip)
      · rintro ⟨k, hk1, hk2, hK⟩
        simp only [go_sem]
        by_cases h1 : k ≤ j0
        rotate_left
        · have e1 : ((k : Int) ≤ (j0 : Nat)) = False := eq_false (by omega)
          rw [scanUp_far h1] at hK
          refine T_draw hti _ _ (by kernel_rfl) (by kernel_rfl) ?_
          simp only [go_sem, Nat.reduceLT, e1]
          refine ⟨(), Imp.id (by simp) ?_ (impH.base0 (hok_set hok fun k hk => spotsC_flat _ _) (by simp) HExt.rfl)⟩
          simp only [go_sem, Nat.reduceLT, hFl, hi0, hK]
          (try (repeat' apply And.intro) <;> first | omega | rfl | trivial | assumption | skip)
        have e1 : ((k : Int) ≤ (j0 : Nat)) = True := eq_true (by omega)
        have ck : k < d.size := by omega
        have ca : a < d.size := by omega
        refine T_draw hti _ _ (by kernel_rfl) (by kernel_rfl) ?_
        simp only [go_sem, Nat.reduceLT, hgi, hi0, e1, ix_r ck, ix_b ck, ix_c ck, ix_r ca, ix_b ca, ix_c ca, spotsC_x, spotsC_y]
        refine (hcmp (E.toList.getD a (0, 0)) (E.toList.getD k (0, 0)) _ _ _ _ (Nat.le_refl n) (HBut.set i n h _)).A ?_
        have hl := hlt (E.toList.getD a (0, 0)) (E.toList.getD k (0, 0))
        by_cases hc : cI (E.toList.getD a (0, 0)) (E.toList.getD k (0, 0)) < 0
        · rw [scanUp_stop (show pU E[k]! = _ from by rw [hpU, bangL, bangL, ← hl, decide_eq_true hc]; rfl)] at hK
          simp only [go_sem, Nat.reduceLT, hc]
          refine ⟨(), Imp.id (by simp) ?_ (impH.base0 (hok_set hok fun k hk => spotsC_flat _ _) (by simp) HExt.rfl)⟩
          simp only [go_sem, Nat.reduceLT, hFl, hi0, hK]
          (try (repeat' apply And.intro) <;> first | omega | rfl | trivial | assumption | skip)
        · rw [scanUp_go (by omega) (show pU E[k]! = _ from by rw [hpU, bangL, bangL, ← hl, decide_eq_false hc]; rfl)] at hK
          simp only [go_sem, Nat.reduceLT, hc]
          refine ⟨⟨k + 1, by omega, by omega, hK⟩, by show j0 + 1 - (k + 1) < j0 + 1 - k; omega, ?_⟩
          refine Imp.id (by simp) ?_ (impH.base0 (hok_set hok fun k hk => spotsC_flat _ _) (by simp) HExt.rfl)
          simp only [go_sem, Nat.reduceLT, hFl, hi0, w64N (a := (k : Int) + 1) (k := k + 1) (by omega) (by omega)]
          (try (repeat' apply And.intro) <;> first | omega | rfl | trivial | assumption | skip)
    intro _
    refine SW_seq (SW_cut hti (ι := Unit) (fun _ => ([(0, .sl i 0 d.size cap), (1, .int .i64 a), (4, .fn f p G q F), (11, .int .i64 ((I2 : Nat) : Int)), (12, .int .i64 ((J2 : Nat) : Int))], hset h i ⟨d.size * 2, spotsC E.toList, true, own⟩, n)) trivial ?_ ?_)
    · simp only [go_sem]
      subst hJ2
      refine T_lp (ι := { k : Nat // I2 ≤ k + 1 ∧ k ≤ j0 ∧ scanDown pD E I2 k = scanDown pD E I2 j0 }) (fun k => ([(0, .sl i 0 d.size cap), (1, .int .i64 a), (4, .fn f p G q F), (11, .int .i64 ((I2 : Nat) : Int)), (12, .int .i64 ((k.1 : Nat) : Int))], hset h i ⟨d.size * 2, spotsC E.toList, true, own⟩, n)) (fun k => k.1) ⟨j0, by omega, Nat.le_refl _, rfl⟩ ?_ ?_
      · refine Imp.id (by simp) ?_ (impH.base0 (hok_set hok fun k hk => spotsC_flat _ _) (by simp) HExt.rfl)
        simp only [go_sem, Nat.reduceLT, hFl, hi0]
        (try (repeat' apply And.intro) <;> first | omega | rfl | trivial | assumption | skip)
      · rintro ⟨k, hk1, hk2, hK⟩
        simp only [go_sem]
        by_cases h1 : I2 ≤ k
        rotate_left
        · have e1 : (((I2 : Nat) : Int) ≤ (k : Nat)) = False := eq_false (by omega)
          rw [scanDown_far h1] at hK
          refine T_draw hti _ _ (by kernel_rfl) (by kernel_rfl) ?_
          simp only [go_sem, Nat.reduceLT, e1]
          refine ⟨(), Imp.id (by simp) ?_ (impH.base0 (hok_set hok fun k hk => spotsC_flat _ _) (by simp) HExt.rfl)⟩
          simp only [go_sem, Nat.reduceLT, hFl, hi0, hK]
          (try (repeat' apply And.intro) <;> first | omega | rfl | trivial | assumption | skip)
        obtain ⟨k, rfl⟩ := nat_succ (show 0 < k by omega)
        have e1 : (((I2 : Nat) : Int) ≤ ((k + 1 : Nat) : Int)) = True := eq_true (by omega)
        have ck : k + 1 < d.size := by omega
        have ca : a < d.size := by omega
        refine T_draw hti _ _ (by kernel_rfl) (by kernel_rfl) ?_
        simp only [go_sem, Nat.reduceLT, hgi, hi0, e1, ix_r ck, ix_b ck, ix_c ck, ix_r ca, ix_b ca, ix_c ca, spotsC_x, spotsC_y]
        refine (hcmp (E.toList.getD a (0, 0)) (E.toList.getD (k + 1) (0, 0)) _ _ _ _ (Nat.le_refl n) (HBut.set i n h _)).A ?_
        have hl := hlt (E.toList.getD a (0, 0)) (E.toList.getD (k + 1) (0, 0))
        by_cases hc : cI (E.toList.getD a (0, 0)) (E.toList.getD (k + 1) (0, 0)) < 0
        · rw [scanDown_go (by omega) (show pD E[k + 1]! = _ from by rw [hpD, bangL, bangL, ← hl, decide_eq_true hc])] at hK
          simp only [go_sem, Nat.reduceLT, hc]
          refine ⟨⟨k, by omega, by omega, hK⟩, by show k < k + 1; omega, ?_⟩
          refine Imp.id (by simp) ?_ (impH.base0 (hok_set hok fun k hk => spotsC_flat _ _) (by simp) HExt.rfl)
          simp only [go_sem, Nat.reduceLT, hFl, hi0, w64N (a := ((k + 1 : Nat) : Int) - 1) (k := k) (by omega) (by omega)]
          (try (repeat' apply And.intro) <;> first | omega | rfl | trivial | assumption | skip)
        · rw [scanDown_stop (show pD E[k + 1]! = _ from by rw [hpD, bangL, bangL, ← hl, decide_eq_false hc])] at hK
          simp only [go_sem, Nat.reduceLT, hc]
          refine ⟨(), Imp.id (by simp) ?_ (impH.base0 (hok_set hok fun k hk => spotsC_flat _ _) (by simp) HExt.rfl)⟩
          simp only [go_sem, Nat.reduceLT, hFl, hi0, hK]
          (try (repeat' apply And.intro) <;> first | omega | rfl | trivial | assumption | skip)
    intro _
    refine SW_of_T hti trivial ?_
    by_cases hx : I2 > J2
    · rw [if_pos hx] at hPL
      have e2 : ((J2 : Int) < (I2 : Int)) = True := eq_true (by omega)
      simp only [go_sem, Nat.reduceLT, e2]
      refine ⟨⟨(I2, E), hPL, hEz⟩, Imp.id (by simp) ?_ (impH.base0 (hok_set hok fun k hk => spotsC_flat _ _) (by simp) HExt.rfl)⟩
      simp only [go_sem, Nat.reduceLT, hi0]
      (try (repeat' apply And.intro) <;> first | omega | rfl | trivial | assumption | skip)
    · rw [if_neg hx] at hPL
      obtain ⟨_, _, hlt3⟩ := f5 hx
      have e2 : ((J2 : Int) < (I2 : Int)) = False := eq_false (by omega)
      have cI2 : I2 < d.size := by omega
      have cJ2 : J2 < d.size := by omega
      simp only [go_sem, Nat.reduceLT, e2]
      refine T_drawG hti 16 [13, 15] (.b 0 0 (.b 0 1 (.b 0 2 (.b 0 3 (.b 0 4 (.b 0 5 (.b 0 6 (.b 0 7 (.b 0 8 (.b 0 9 (.b 0 10 (.b 0 11 (.b 0 12 (.b 4 13 (.b 0 14 (.b 4 15 (.f) .o) .o) .o) .o) .o) .o) .o) .o) .o) .o) .o) .o) .o) .o) .o) .o) _ _ (by kernel_rfl) (by kernel_rfl) ?_
      simp only [go_sem, Nat.reduceLT, hgi, hi0, w64N (a := (I2 : Int) + 1) (k := I2 + 1) (by omega) (by omega), w64N (a := (J2 : Int) - 1) (k := J2 - 1) (by omega) (by omega), ix_r cI2, ix_r cJ2, ix_b cI2, ix_b cJ2, ix_c cI2, ix_c cJ2, spotsC_x, spotsC_y, b6, and_false, if_false, hset_hset]
      rw [swap_fn E (a := I2) (b := J2) (by omega) (by omega)]
      refine ⟨⟨(I2 + 1, J2 - 1, swp E I2 J2), ⟨by show a + 1 ≤ I2 + 1; omega, by show I2 + 1 ≤ J2 - 1 + 1; omega, by show J2 - 1 + 1 ≤ b; omega⟩, (swp_size _ _ _).trans hEz, hPL⟩, by show J2 - 1 + 1 - (I2 + 1) < j0 + 1 - i0; omega, ?_⟩
      refine Imp.id (by simp) ?_ (impH.base0 (hok_set hok fun k hk => spotsC_flat _ _) (by simp) HExt.rfl)
      simp only [go_sem, Nat.reduceLT, hFl, hi0]
      (try (repeat' apply And.intro) <;> first | omega | rfl | trivial | assumption | skip)
  rintro ⟨⟨m, E⟩, hmE, hEz⟩
  refine SW_of_T hti trivial ?_
  simp only [go_sem, Nat.reduceLT]
  rw [hpart, ← hmE]
  exact ⟨rfl, HExt.rfl⟩
end
end Go.Proofs.YtfelopllfhcdpaaGreat.V

/- The library's reversal and its partial insertion sort of spots. -/
namespace Go.Proofs.YtfelopllfhcdpaaGreat.V
open Go.Sort (swp scanSorted shiftDown shiftUp partialIns partialInsertionSort reverseLoop reverseRange fixDown fixUp partialIns_succ)
abbrev SpL := Int × Int → Int × Int → Bool
theorem scanSorted_go {lt : SpL} {d : Array (Int × Int)} {b i : Nat} (h : i < b) (hp : lt d[i]! d[i - 1]! = false) : scanSorted lt d b i = scanSorted lt d b (i + 1) := by
  rw [scanSorted, if_pos (by rw [hp, decide_eq_true h]; rfl)]
theorem scanSorted_far {lt : SpL} {d : Array (Int × Int)} {b i : Nat} (h : ¬ i < b) : scanSorted lt d b i = i := by
  rw [scanSorted, if_neg (by rw [decide_eq_false h]; simp)]
theorem scanSorted_stop {lt : SpL} {d : Array (Int × Int)} {b i : Nat} (hp : lt d[i]! d[i - 1]! = true) : scanSorted lt d b i = i := by
  rw [scanSorted, if_neg (by rw [hp]; simp)]
theorem scanSorted_in (lt : SpL) (d : Array (Int × Int)) (b : Nat) : ∀ (n i : Nat), b - i = n → i ≤ b → i ≤ scanSorted lt d b i ∧ scanSorted lt d b i ≤ b := by
  intro n
  induction n with
  | zero => intro i hn hi; rw [scanSorted_far (by omega)]; omega
  | succ n ih =>
    intro i hn hi
    cases hp : lt d[i]! d[i - 1]!
    · rw [scanSorted_go (by omega) hp]
      have := ih (i + 1) (by omega) (by omega)
      omega
    · rw [scanSorted_stop hp]; omega
theorem shiftDown_go {lt : SpL} {d : Array (Int × Int)} {j : Nat} (hp : lt d[j + 1]! d[j]! = true) : shiftDown lt (j + 1) d = shiftDown lt j (swp d (j + 1) j) := by
  rw [shiftDown, hp]; rfl
theorem shiftDown_stop {lt : SpL} {d : Array (Int × Int)} {j : Nat} (hp : lt d[j + 1]! d[j]! = false) : shiftDown lt (j + 1) d = d := by
  rw [shiftDown, hp]; rfl
theorem shiftUp_go {lt : SpL} {d : Array (Int × Int)} {b j : Nat} (h : j < b) (hp : lt d[j]! d[j - 1]! = true) : shiftUp lt b j d = shiftUp lt b (j + 1) (swp d j (j - 1)) := by
  rw [shiftUp, if_pos h, hp]; rfl
theorem shiftUp_stop {lt : SpL} {d : Array (Int × Int)} {b j : Nat} (h : j < b) (hp : lt d[j]! d[j - 1]! = false) : shiftUp lt b j d = d := by
  rw [shiftUp, if_pos h, hp]; rfl
theorem shiftUp_far {lt : SpL} {d : Array (Int × Int)} {b j : Nat} (h : ¬ j < b) : shiftUp lt b j d = d := by
  rw [shiftUp, if_neg h]
section
variable (cx : Cx) (h : List (Nat × Seg)) (n : Nat)
set_option maxRecDepth 100000 in
theorem reverseRange_E (i cap : Nat) (d : Array (Int × Int)) (own : Option (Nat × Nat)) (a b : Nat) (f p q : Nat) (G F : Nat → SV) (cI : Int × Int → Int × Int → Int) (lt : Int × Int → Int × Int → Bool) (hlt : ∀ x y, decide (cI x y < 0) = lt x y)
    (hs : hget h i = some ⟨d.size * 2, spotsC d.toList, true, own⟩) (hi0 : i < n) (hb : b ≤ d.size) (h2 : a + 2 ≤ b) (hm9 : d.size ≤ 1000000000) (hF : (SV.fn f p G q F).lt n) (hcmp : Cmps cx h n i f p q G F cI) (K : HK)
    (hK : K (.tup 0 (cl [])) (hset h i ⟨d.size * 2, spotsC (reverseRange d a b).toList, true, own⟩) n) :
    CallE Tryz.prog cx 124 [.sl i 0 d.size cap, .int .i64 a, .int .i64 b, .fn f p G q F] h n K := by
  refine CallE.to _ _ (by simp only [go_sem]) (fun hok => hok_set hok fun k hk => spotsC_flat _ _) hK ?_
  have hgi : ∀ t, hget (hset h i t) i = some t := hget_hset_self hs
  have hFl : (SV.fn f p G q F).lt n = True := eq_true hF
  have b6 : (2 = d.size * 2) = False := eq_false (by omega)
  have ca0 : a < d.size := by omega
  refine callE_of_T (P := Tryz.prog) hti (nt := 34) (rs := []) rfl rfl Tryz.call124 Tryz.func124 rfl _ (by simp only [go_sem, and_self]) (Nat.le_of_ble_eq_true rfl) _ fun hok => ?_
  simp only [go_sem, Nat.reduceLT, w64N (a := (b : Int) - 1) (k := b - 1) (by omega) (by omega)]
  refine T_lp (ι := { w : (Nat × Nat) × Array (Int × Int) // w.1.2 + 1 ≤ b ∧ w.2.size = d.size ∧ reverseLoop w.1.1 w.1.2 w.2 = reverseRange d a b })
    (fun w => ([(0, .sl i 0 d.size cap), (8, .int .i64 ((w.1.1.1 : Nat) : Int)), (9, .int .i64 ((w.1.1.2 : Nat) : Int))], hset h i ⟨d.size * 2, spotsC w.1.2.toList, true, own⟩, n)) (fun w => w.1.1.2 - w.1.1.1) ⟨((a, b - 1), d), by show b - 1 + 1 ≤ b; omega, rfl, rfl⟩ ?_ ?_
  · refine Imp.id (by simp) ?_ ?_
    · simp only [go_sem, Nat.reduceLT, hi0]
      (try (repeat' apply And.intro) <;> first | omega | rfl | trivial | assumption | skip)
    · rw [hset_self hs]; exact impH.base0 hok (by simp) HExt.rfl
  · rintro ⟨⟨⟨x, y⟩, D⟩, hy, hD, hR⟩
    simp only at hy hD hR
    rw [reverseLoop] at hR
    simp only [go_sem, Nat.reduceLT]
    by_cases hxy : x < y
    · rw [if_pos hxy] at hR
      have e1 : ((x : Int) < (y : Int)) = True := eq_true (by omega)
      have cX : x < d.size := by omega
      have cY : y < d.size := by omega
      simp only [go_sem, reduceCtorEq, e1]
      refine T_drawG hti 16 [13, 15] (.b 0 0 (.b 0 1 (.b 0 2 (.b 0 3 (.b 0 4 (.b 0 5 (.b 0 6 (.b 0 7 (.b 0 8 (.b 0 9 (.b 0 10 (.b 0 11 (.b 0 12 (.b 4 13 (.b 0 14 (.b 4 15 (.f) .o) .o) .o) .o) .o) .o) .o) .o) .o) .o) .o) .o) .o) .o) .o) .o) _ _ (by kernel_rfl) (by kernel_rfl) ?_
      simp only [go_sem, Nat.reduceLT, hgi, hi0, w64N (a := (x : Int) + 1) (k := x + 1) (by omega) (by omega), w64N (a := (y : Int) - 1) (k := y - 1) (by omega) (by omega), ix_r cX, ix_r cY, ix_b cX, ix_b cY, ix_c cX, ix_c cY, spotsC_x, spotsC_y, b6, and_false, if_false, hset_hset]
      rw [swap_fn D (a := x) (b := y) (by omega) (by omega)]
      refine ⟨⟨((x + 1, y - 1), swp D x y), by show y - 1 + 1 ≤ b; omega, (swp_size _ _ _).trans hD, hR⟩, by show y - 1 - (x + 1) < y - x; omega, ?_⟩
      refine Imp.id (by simp) ?_ (impH.base0 (hok_set hok fun k hk => spotsC_flat _ _) (by simp) HExt.rfl)
      simp only [go_sem, Nat.reduceLT, hi0]
      (try (repeat' apply And.intro) <;> first | omega | rfl | trivial | assumption | skip)
    · rw [if_neg hxy] at hR
      have e1 : ((x : Int) < (y : Int)) = False := eq_false (by omega)
      simp only [go_sem, e1]
      rw [hR]
      exact HExt.rfl
set_option maxRecDepth 100000 in
set_option maxHeartbeats 3200000 in
theorem partialIns_E (i cap : Nat) (d : Array (Int × Int)) (own : Option (Nat × Nat)) (a b : Nat) (f p q : Nat) (G F : Nat → SV) (cI : Int × Int → Int × Int → Int) (lt : Int × Int → Int × Int → Bool) (hlt : ∀ x y, decide (cI x y < 0) = lt x y)
    (hs : hget h i = some ⟨d.size * 2, spotsC d.toList, true, own⟩) (hi0 : i < n) (hb : b ≤ d.size) (h2 : a + 2 ≤ b) (hm9 : d.size ≤ 1000000000) (hF : (SV.fn f p G q F).lt n) (hcmp : Cmps cx h n i f p q G F cI) (K : HK)
    (hK : K (.bool (partialInsertionSort lt d a b).2) (hset h i ⟨d.size * 2, spotsC (partialInsertionSort lt d a b).1.toList, true, own⟩) n) :
    CallE Tryz.prog cx 125 [.sl i 0 d.size cap, .int .i64 a, .int .i64 b, .fn f p G q F] h n K := by
  refine CallE.to _ _ (by simp only [go_sem]) (fun hok => hok_set hok fun k hk => spotsC_flat _ _) hK ?_
  have hgi : ∀ t, hget (hset h i t) i = some t := hget_hset_self hs
  have hFl : (SV.fn f p G q F).lt n = True := eq_true hF
  have b6 : (2 = d.size * 2) = False := eq_false (by omega)
  have ca0 : a < d.size := by omega
  refine callE_of_SW (P := Tryz.prog) hti (nt := 141) (rs := [.tmp 8]) rfl rfl Tryz.call125 Tryz.func125 rfl _ (by simp only [go_sem, and_self]) (Nat.le_of_ble_eq_true rfl) _ fun hok => ?_
  refine SW_seq (SW_run hti trivial ?_)
  simp only [go_sem, Nat.reduceLT]
  refine SW_seq (SW_run hti trivial ?_)
  simp only [go_sem, Nat.reduceLT, w64N (a := (a : Int) + 1) (k := a + 1) (by omega) (by omega)]
  refine SW_seq (SW_seq (SW_run hti trivial ?_))
  simp only [go_sem, Nat.reduceLT]
  refine SW_block (SW_lp (ι := { w : (Nat × Nat) × Array (Int × Int) // (w.1.1 ≤ 5 ∧ a + 1 ≤ w.1.2 ∧ w.1.2 ≤ b) ∧ w.2.size = d.size ∧ partialIns lt a b w.1.1 w.1.2 w.2 = partialInsertionSort lt d a b })
    (fun w => ([(0, .sl i 0 d.size cap), (1, .int .i64 a), (2, .int .i64 b), (3, .fn f p G q F), (9, .int .i64 ((w.1.1.2 : Nat) : Int)), (10, .int .i64 (5 - ((w.1.1.1 : Nat) : Int)))], hset h i ⟨d.size * 2, spotsC w.1.2.toList, true, own⟩, n)) (fun w => w.1.1.1) ⟨((5, a + 1), d), ⟨Nat.le_refl _, Nat.le_refl _, by show a + 1 ≤ b; omega⟩, rfl, rfl⟩ ?_ ?_)
  · refine Imp.id (by simp) ?_ ?_
    · simp only [go_sem, Nat.reduceLT, Int.reduceSub, hFl, hi0]
      (try (repeat' apply And.intro) <;> first | omega | rfl | trivial | assumption | skip)
    · rw [hset_self hs]; exact impH.base0 hok (by simp) HExt.rfl
  rintro ⟨⟨⟨s, i0⟩, D⟩, ⟨hs5, ha1, hib⟩, hD, hR⟩
  simp only at hs5 ha1 hib hD hR
  cases s with
  | zero =>
    rw [partialIns] at hR
    refine SW_of_T hti trivial ?_
    simp only [go_sem, Nat.reduceLT, Int.reduceLT, Int.reduceSub, show ((5 : Int) - ((0 : Nat) : Int) < 5) = False from eq_false (by omega)]
    rw [← hR]
    exact ⟨rfl, HExt.rfl⟩
  | succ s =>
    rw [partialIns_succ] at hR
    obtain ⟨gI1, gI2⟩ := scanSorted_in lt D b _ i0 rfl hib
    obtain ⟨I, hI⟩ : ∃ I, scanSorted lt D b i0 = I := ⟨_, rfl⟩
    rw [hI] at hR gI1 gI2
    refine SW_seq (SW_run hti trivial ?_)
    simp only [go_sem, Nat.reduceLT, show ((5 : Int) - ((s + 1 : Nat) : Int) < 5) = True from eq_true (by omega)]
    refine SW_seq (SW_block (SW_seq (SW_cut hti (ι := Unit) (fun _ => ([(0, .sl i 0 d.size cap), (1, .int .i64 a), (2, .int .i64 b), (3, .fn f p G q F), (9, .int .i64 ((I : Nat) : Int)), (10, .int .i64 (5 - ((s + 1 : Nat) : Int)))], hset h i ⟨d.size * 2, spotsC D.toList, true, own⟩, n)) trivial ?_ ?_)))
    · simp only [go_sem]
      subst hI
      refine T_lp (ι := { k : Nat // i0 ≤ k ∧ k ≤ b ∧ scanSorted lt D b k = scanSorted lt D b i0 }) (fun k => ([(0, .sl i 0 d.size cap), (1, .int .i64 a), (2, .int .i64 b), (3, .fn f p G q F), (9, .int .i64 ((k.1 : Nat) : Int)), (10, .int .i64 (5 - ((s + 1 : Nat) : Int)))], hset h i ⟨d.size * 2, spotsC D.toList, true, own⟩, n)) (fun k => b - k.1) ⟨i0, Nat.le_refl _, hib, rfl⟩ ?_ ?_
      · refine Imp.id (by simp) ?_ (impH.base0 (hok_set hok fun k hk => spotsC_flat _ _) (by simp) HExt.rfl)
        simp only [go_sem, Nat.reduceLT, hFl, hi0]
        (try (repeat' apply And.intro) <;> first | omega | rfl | trivial | assumption | skip)
      · rintro ⟨k, hk1, hk2, hK⟩
        simp only [go_sem]
        by_cases h1 : k < b
        rotate_left
        · have e1 : ((k : Int) < (b : Int)) = False := eq_false (by omega)
          rw [scanSorted_far h1] at hK
          refine T_draw hti _ _ (by kernel_rfl) (by kernel_rfl) ?_
          simp only [go_sem, Nat.reduceLT, e1]
          refine ⟨(), Imp.id (by simp) ?_ (impH.base0 (hok_set hok fun k hk => spotsC_flat _ _) (by simp) HExt.rfl)⟩
          simp only [go_sem, Nat.reduceLT, hFl, hi0, hK]
          (try (repeat' apply And.intro) <;> first | omega | rfl | trivial | assumption | skip)
        obtain ⟨k, rfl⟩ := nat_succ (show 0 < k by omega)
        have e1 : (((k + 1 : Nat) : Int) < (b : Int)) = True := eq_true (by omega)
        have c1 : k + 1 < d.size := by omega
        have c2 : k < d.size := by omega
        refine T_draw hti _ _ (by kernel_rfl) (by kernel_rfl) ?_
        simp only [go_sem, Nat.reduceLT, hgi, hi0, e1, w64N (a := ((k + 1 : Nat) : Int) - 1) (k := k) (by omega) (by omega), ix_r c1, ix_r c2, ix_b c1, ix_b c2, ix_c c1, ix_c c2, spotsC_x, spotsC_y]
        refine (hcmp (D.toList.getD (k + 1) (0, 0)) (D.toList.getD k (0, 0)) _ _ _ _ (Nat.le_refl n) (HBut.set i n h _)).A ?_
        have hl := hlt (D.toList.getD (k + 1) (0, 0)) (D.toList.getD k (0, 0))
        by_cases hc : cI (D.toList.getD (k + 1) (0, 0)) (D.toList.getD k (0, 0)) < 0
        · rw [scanSorted_stop (show lt D[k + 1]! D[k + 1 - 1]! = true from by rw [Nat.add_sub_cancel, bangL, bangL, ← hl, decide_eq_true hc])] at hK
          simp only [go_sem, Nat.reduceLT, hc]
          refine ⟨(), Imp.id (by simp) ?_ (impH.base0 (hok_set hok fun k hk => spotsC_flat _ _) (by simp) HExt.rfl)⟩
          simp only [go_sem, Nat.reduceLT, hFl, hi0, hK]
          (try (repeat' apply And.intro) <;> first | omega | rfl | trivial | assumption | skip)
        · rw [scanSorted_go h1 (show lt D[k + 1]! D[k + 1 - 1]! = false from by rw [Nat.add_sub_cancel, bangL, bangL, ← hl, decide_eq_false hc])] at hK
          simp only [go_sem, Nat.reduceLT, hc]
          refine ⟨⟨k + 1 + 1, by omega, by omega, hK⟩, by show b - (k + 1 + 1) < b - (k + 1); omega, ?_⟩
          refine Imp.id (by simp) ?_ (impH.base0 (hok_set hok fun k hk => spotsC_flat _ _) (by simp) HExt.rfl)
          simp only [go_sem, Nat.reduceLT, hFl, hi0, w64N (a := ((k + 1 : Nat) : Int) + 1) (k := k + 1 + 1) (by omega) (by omega)]
          (try (repeat' apply And.intro) <;> first | omega | rfl | trivial | assumption | skip)
    intro _
    refine SW_seq (SW_run hti trivial ?_)
    by_cases hIb : I = b
    · rw [if_pos hIb] at hR
      subst hIb
      simp only [go_sem, Nat.reduceLT]
      rw [← hR]
      exact ⟨rfl, HExt.rfl⟩
    rw [if_neg hIb] at hR
    simp only [go_sem, Nat.reduceLT, show ((I : Int) = (b : Int)) = False from eq_false (by omega)]
    refine SW_seq (SW_run hti trivial ?_)
    by_cases h50 : b - a < 50
    · rw [if_pos h50] at hR
      simp only [go_sem, Nat.reduceLT, w64N (a := (b : Int) - (a : Int)) (k := b - a) (by omega) (by omega), show (((b - a : Nat) : Int) < 50) = True from eq_true (by omega)]
      rw [← hR]
      exact ⟨rfl, HExt.rfl⟩
    rw [if_neg h50] at hR
    simp only [go_sem, Nat.reduceLT, w64N (a := (b : Int) - (a : Int)) (k := b - a) (by omega) (by omega), show (((b - a : Nat) : Int) < 50) = False from eq_false (by omega)]
    refine SW_seq (SW_run hti trivial ?_)
    have cXI : I < d.size := by omega
    have cXJ : I - 1 < d.size := by omega
    refine T_drawG hti 18 [15, 17] (.b 0 0 (.b 0 1 (.b 0 2 (.b 0 3 (.b 0 4 (.b 0 5 (.b 0 6 (.b 0 7 (.b 0 8 (.b 0 9 (.b 0 10 (.b 0 11 (.b 0 12 (.b 0 13 (.b 0 14 (.b 4 15 (.b 0 16 (.b 4 17 (.f) .o) .o) .o) .o) .o) .o) .o) .o) .o) .o) .o) .o) .o) .o) .o) .o) .o) .o) _ _ (by kernel_rfl) (by kernel_rfl) ?_
    simp only [go_sem, Nat.reduceLT, hgi, hi0, w64N (a := (I : Int) - 1) (k := I - 1) (by omega) (by omega), ix_r cXI, ix_r cXJ, ix_b cXI, ix_b cXJ, ix_c cXI, ix_c cXJ, spotsC_x, spotsC_y, b6, and_false, if_false, hset_hset]
    rw [swap_fn D (a := I) (b := (I - 1)) (by omega) (by omega)]
    have hE1 : (swp D I (I - 1)).size = d.size := (swp_size _ _ _).trans hD
    generalize swp D I (I - 1) = E1 at *
    have sDn : ∀ (j : Nat) (E : Array (Int × Int)), (shiftDown lt j E).size = E.size := fun j => by
      induction j with
      | zero => intro E; rfl
      | succ j ih =>
        intro E
        cases hp : lt E[j + 1]! E[j]!
        · rw [shiftDown_stop hp]
        · rw [shiftDown_go hp, ih, swp_size]
    have sUp : ∀ (m j : Nat) (E : Array (Int × Int)), b - j = m → (shiftUp lt b j E).size = E.size := fun m => by
      induction m with
      | zero => intro j E hj; rw [shiftUp_far (by omega)]
      | succ m ih =>
        intro j E hj
        cases hp : lt E[j]! E[j - 1]!
        · rw [shiftUp_stop (by omega) hp]
        · rw [shiftUp_go (by omega) hp, ih _ _ (by omega), swp_size]
    have hE2 : (fixDown lt a I E1).size = d.size := by unfold fixDown; split; rw [sDn, hE1]; exact hE1
    have hE3 : ∀ E : Array (Int × Int), (fixUp lt b I E).size = E.size := fun E => by unfold fixUp; split; exact sUp _ _ _ rfl; rfl
    refine SW_seq (SW_cut hti (ι := Unit) (fun _ => ([(0, .sl i 0 d.size cap), (1, .int .i64 a), (2, .int .i64 b), (3, .fn f p G q F), (9, .int .i64 ((I : Nat) : Int)), (10, .int .i64 (5 - ((s + 1 : Nat) : Int)))], hset h i ⟨d.size * 2, spotsC (fixDown lt a I E1).toList, true, own⟩, n)) trivial ?_ ?_)
    · by_cases h2 : I - a ≥ 2
      rotate_left
      · simp only [go_sem, Nat.reduceLT, w64N (a := (I : Int) - (a : Int)) (k := I - a) (by omega) (by omega), show ((2 : Int) ≤ ((I - a : Nat) : Int)) = False from eq_false (by omega)]
        refine ⟨(), Imp.id (by simp) ?_ (by unfold fixDown; rw [if_neg h2]; exact (impH.base0 (hok_set hok fun k hk => spotsC_flat _ _) (by simp) HExt.rfl))⟩
        simp only [go_sem, Nat.reduceLT, hFl, hi0]
        (try (repeat' apply And.intro) <;> first | omega | rfl | trivial | assumption | skip)
      have hfd : fixDown lt a I E1 = shiftDown lt (I - 1) E1 := by unfold fixDown; rw [if_pos h2]
      rw [hfd]
      simp only [go_sem, Nat.reduceLT, w64N (a := (I : Int) - (a : Int)) (k := I - a) (by omega) (by omega), show ((2 : Int) ≤ ((I - a : Nat) : Int)) = True from eq_true (by omega), w64N (a := (I : Int) - 1) (k := I - 1) (by omega) (by omega)]
      refine T_lp (ι := { w : Nat × Array (Int × Int) // w.1 < d.size ∧ w.2.size = d.size ∧ shiftDown lt w.1 w.2 = shiftDown lt (I - 1) E1 }) (fun w => ([(0, .sl i 0 d.size cap), (1, .int .i64 a), (2, .int .i64 b), (3, .fn f p G q F), (9, .int .i64 ((I : Nat) : Int)), (10, .int .i64 (5 - ((s + 1 : Nat) : Int)))] ++ [(11, .int .i64 ((w.1.1 : Nat) : Int))], hset h i ⟨d.size * 2, spotsC w.1.2.toList, true, own⟩, n)) (fun w => w.1.1) ⟨(I - 1, E1), cXJ, hE1, rfl⟩ ?_ ?_
      · refine Imp.id (by simp) ?_ (impH.base0 (hok_set hok fun k hk => spotsC_flat _ _) (by simp) HExt.rfl)
        simp only [go_sem, Nat.reduceLT, hFl, hi0, List.cons_append, List.nil_append]
        (try (repeat' apply And.intro) <;> first | omega | rfl | trivial | assumption | skip)
      · rintro ⟨⟨k, E⟩, hk, hE, hK⟩
        simp only at hk hE hK
        cases k with
        | zero =>
          rw [shiftDown] at hK
          simp only [go_sem, Nat.reduceLT, Int.reduceLE, List.cons_append, List.nil_append, show ((1 : Int) ≤ ((0 : Nat) : Int)) = False from eq_false (by omega)]
          refine ⟨(), Imp.id (by simp) ?_ (by rw [← hK]; exact (impH.base0 (hok_set hok fun k hk => spotsC_flat _ _) (by simp) HExt.rfl))⟩
          simp only [go_sem, Nat.reduceLT, hFl, hi0]
          (try (repeat' apply And.intro) <;> first | omega | rfl | trivial | assumption | skip)
        | succ k =>
          have c2 : k < d.size := by omega
          simp only [go_sem, Nat.reduceLT, List.cons_append, List.nil_append, show ((1 : Int) ≤ ((k + 1 : Nat) : Int)) = True from eq_true (by omega)]
          refine T_draw hti _ _ (by kernel_rfl) (by kernel_rfl) ?_
          simp only [go_sem, Nat.reduceLT, hgi, hi0, w64N (a := ((k + 1 : Nat) : Int) - 1) (k := k) (by omega) (by omega), ix_r hk, ix_r c2, ix_b hk, ix_b c2, ix_c hk, ix_c c2, spotsC_x, spotsC_y]
          refine (hcmp (E.toList.getD (k + 1) (0, 0)) (E.toList.getD k (0, 0)) _ _ _ _ (Nat.le_refl n) (HBut.set i n h _)).A ?_
          have hl := hlt (E.toList.getD (k + 1) (0, 0)) (E.toList.getD k (0, 0))
          by_cases hc : cI (E.toList.getD (k + 1) (0, 0)) (E.toList.getD k (0, 0)) < 0
          · rw [shiftDown_go (show lt E[k + 1]! E[k]! = true from by rw [bangL, bangL, ← hl, decide_eq_true hc])] at hK
            simp only [go_sem, Nat.reduceLT, hc]
            refine T_drawG hti 18 [15, 17] (.b 0 0 (.b 0 1 (.b 0 2 (.b 0 3 (.b 0 4 (.b 0 5 (.b 0 6 (.b 0 7 (.b 0 8 (.b 0 9 (.b 0 10 (.b 0 11 (.b 0 12 (.b 0 13 (.b 0 14 (.b 4 15 (.b 0 16 (.b 4 17 (.f) .o) .o) .o) .o) .o) .o) .o) .o) .o) .o) .o) .o) .o) .o) .o) .o) .o) .o) _ _ (by kernel_rfl) (by kernel_rfl) ?_
            simp only [go_sem, Nat.reduceLT, reduceCtorEq, hgi, hi0, w64N (a := ((k + 1 : Nat) : Int) - 1) (k := k) (by omega) (by omega), ix_r hk, ix_r c2, ix_b hk, ix_b c2, ix_c hk, ix_c c2, spotsC_x, spotsC_y, b6, and_false, if_false, hset_hset]
            rw [swap_fn E (a := (k + 1)) (b := k) (by omega) (by omega)]
            refine ⟨⟨(k, swp E (k + 1) k), c2, (swp_size _ _ _).trans hE, hK⟩, by show k < k + 1; omega, ?_⟩
            refine Imp.id (by simp) ?_ (impH.base0 (hok_set hok fun k hk => spotsC_flat _ _) (by simp) HExt.rfl)
            simp only [go_sem, Nat.reduceLT, hFl, hi0, List.cons_append, List.nil_append, w64N (a := ((k + 1 : Nat) : Int) - 1) (k := k) (by omega) (by omega)]
            (try (repeat' apply And.intro) <;> first | omega | rfl | trivial | assumption | skip)
          · rw [shiftDown_stop (show lt E[k + 1]! E[k]! = false from by rw [bangL, bangL, ← hl, decide_eq_false hc])] at hK
            simp only [go_sem, Nat.reduceLT, hc]
            refine ⟨(), Imp.id (by simp) ?_ (by rw [← hK]; exact (impH.base0 (hok_set hok fun k hk => spotsC_flat _ _) (by simp) HExt.rfl))⟩
            simp only [go_sem, Nat.reduceLT, hFl, hi0]
            (try (repeat' apply And.intro) <;> first | omega | rfl | trivial | assumption | skip)
    intro _
    generalize fixDown lt a I E1 = E2 at *
    refine SW_cut hti (ι := Unit) (fun _ => ([(0, .sl i 0 d.size cap), (1, .int .i64 a), (2, .int .i64 b), (3, .fn f p G q F), (9, .int .i64 ((I : Nat) : Int)), (10, .int .i64 (5 - ((s + 1 : Nat) : Int)))], hset h i ⟨d.size * 2, spotsC (fixUp lt b I E2).toList, true, own⟩, n)) trivial ?_ ?_
    · by_cases h2 : b - I ≥ 2
      rotate_left
      · simp only [go_sem, Nat.reduceLT, w64N (a := (b : Int) - (I : Int)) (k := b - I) (by omega) (by omega), show ((2 : Int) ≤ ((b - I : Nat) : Int)) = False from eq_false (by omega)]
        refine ⟨(), Imp.id (by simp) ?_ (by unfold fixUp; rw [if_neg h2]; exact (impH.base0 (hok_set hok fun k hk => spotsC_flat _ _) (by simp) HExt.rfl))⟩
        simp only [go_sem, Nat.reduceLT, hFl, hi0]
        (try (repeat' apply And.intro) <;> first | omega | rfl | trivial | assumption | skip)
      have hfd : fixUp lt b I E2 = shiftUp lt b (I + 1) E2 := by unfold fixUp; rw [if_pos h2]
      rw [hfd]
      simp only [go_sem, Nat.reduceLT, w64N (a := (b : Int) - (I : Int)) (k := b - I) (by omega) (by omega), show ((2 : Int) ≤ ((b - I : Nat) : Int)) = True from eq_true (by omega), w64N (a := (I : Int) + 1) (k := I + 1) (by omega) (by omega)]
      refine T_lp (ι := { w : Nat × Array (Int × Int) // (I + 1 ≤ w.1 ∧ w.1 ≤ b) ∧ w.2.size = d.size ∧ shiftUp lt b w.1 w.2 = shiftUp lt b (I + 1) E2 }) (fun w => ([(0, .sl i 0 d.size cap), (1, .int .i64 a), (2, .int .i64 b), (3, .fn f p G q F), (9, .int .i64 ((I : Nat) : Int)), (10, .int .i64 (5 - ((s + 1 : Nat) : Int)))] ++ [(12, .int .i64 ((w.1.1 : Nat) : Int))], hset h i ⟨d.size * 2, spotsC w.1.2.toList, true, own⟩, n)) (fun w => b - w.1.1) ⟨(I + 1, E2), ⟨Nat.le_refl _, by show I + 1 ≤ b; omega⟩, hE2, rfl⟩ ?_ ?_
      · refine Imp.id (by simp) ?_ (impH.base0 (hok_set hok fun k hk => spotsC_flat _ _) (by simp) HExt.rfl)
        simp only [go_sem, Nat.reduceLT, hFl, hi0, List.cons_append, List.nil_append]
        (try (repeat' apply And.intro) <;> first | omega | rfl | trivial | assumption | skip)
      · rintro ⟨⟨k, E⟩, ⟨hk0, hk⟩, hE, hK⟩
        simp only at hk0 hk hE hK
        by_cases hkb : k < b
        rotate_left
        · rw [shiftUp_far hkb] at hK
          simp only [go_sem, Nat.reduceLT, List.cons_append, List.nil_append, show ((k : Int) < (b : Int)) = False from eq_false (by omega)]
          refine ⟨(), Imp.id (by simp) ?_ (by rw [← hK]; exact (impH.base0 (hok_set hok fun k hk => spotsC_flat _ _) (by simp) HExt.rfl))⟩
          simp only [go_sem, Nat.reduceLT, hFl, hi0]
          (try (repeat' apply And.intro) <;> first | omega | rfl | trivial | assumption | skip)
        · obtain ⟨k, rfl⟩ := nat_succ (show 0 < k by omega)
          have c1 : k + 1 < d.size := by omega
          have c2 : k < d.size := by omega
          simp only [go_sem, Nat.reduceLT, List.cons_append, List.nil_append, show (((k + 1 : Nat) : Int) < (b : Int)) = True from eq_true (by omega)]
          refine T_draw hti _ _ (by kernel_rfl) (by kernel_rfl) ?_
          simp only [go_sem, Nat.reduceLT, hgi, hi0, w64N (a := ((k + 1 : Nat) : Int) - 1) (k := k) (by omega) (by omega), ix_r c1, ix_r c2, ix_b c1, ix_b c2, ix_c c1, ix_c c2, spotsC_x, spotsC_y]
          refine (hcmp (E.toList.getD (k + 1) (0, 0)) (E.toList.getD k (0, 0)) _ _ _ _ (Nat.le_refl n) (HBut.set i n h _)).A ?_
          have hl := hlt (E.toList.getD (k + 1) (0, 0)) (E.toList.getD k (0, 0))
          by_cases hc : cI (E.toList.getD (k + 1) (0, 0)) (E.toList.getD k (0, 0)) < 0
          · rw [shiftUp_go hkb (show lt E[k + 1]! E[k + 1 - 1]! = true from by rw [Nat.add_sub_cancel, bangL, bangL, ← hl, decide_eq_true hc]), Nat.add_sub_cancel] at hK
            simp only [go_sem, Nat.reduceLT, hc]
            refine T_drawG hti 18 [15, 17] (.b 0 0 (.b 0 1 (.b 0 2 (.b 0 3 (.b 0 4 (.b 0 5 (.b 0 6 (.b 0 7 (.b 0 8 (.b 0 9 (.b 0 10 (.b 0 11 (.b 0 12 (.b 0 13 (.b 0 14 (.b 4 15 (.b 0 16 (.b 4 17 (.f) .o) .o) .o) .o) .o) .o) .o) .o) .o) .o) .o) .o) .o) .o) .o) .o) .o) .o) _ _ (by kernel_rfl) (by kernel_rfl) ?_
            simp only [go_sem, Nat.reduceLT, reduceCtorEq, hgi, hi0, w64N (a := ((k + 1 : Nat) : Int) - 1) (k := k) (by omega) (by omega), ix_r c1, ix_r c2, ix_b c1, ix_b c2, ix_c c1, ix_c c2, spotsC_x, spotsC_y, b6, and_false, if_false, hset_hset]
            rw [swap_fn E (a := (k + 1)) (b := k) (by omega) (by omega)]
            refine ⟨⟨(k + 1 + 1, swp E (k + 1) k), ⟨by show I + 1 ≤ k + 1 + 1; omega, by show k + 1 + 1 ≤ b; omega⟩, (swp_size _ _ _).trans hE, hK⟩, by show b - (k + 1 + 1) < b - (k + 1); omega, ?_⟩
            refine Imp.id (by simp) ?_ (impH.base0 (hok_set hok fun k hk => spotsC_flat _ _) (by simp) HExt.rfl)
            simp only [go_sem, Nat.reduceLT, hFl, hi0, List.cons_append, List.nil_append, w64N (a := ((k + 1 : Nat) : Int) + 1) (k := k + 1 + 1) (by omega) (by omega)]
            (try (repeat' apply And.intro) <;> first | omega | rfl | trivial | assumption | skip)
          · rw [shiftUp_stop hkb (show lt E[k + 1]! E[k + 1 - 1]! = false from by rw [Nat.add_sub_cancel, bangL, bangL, ← hl, decide_eq_false hc])] at hK
            simp only [go_sem, Nat.reduceLT, hc]
            refine ⟨(), Imp.id (by simp) ?_ (by rw [← hK]; exact (impH.base0 (hok_set hok fun k hk => spotsC_flat _ _) (by simp) HExt.rfl))⟩
            simp only [go_sem, Nat.reduceLT, hFl, hi0]
            (try (repeat' apply And.intro) <;> first | omega | rfl | trivial | assumption | skip)
    intro _
    refine SW_of_T hti trivial ?_
    simp only [go_sem, Nat.reduceLT, w64 (n := (5 : Int) - ((s + 1 : Nat) : Int) + 1) (by omega)]
    refine ⟨⟨((s, I), fixUp lt b I E2), ⟨by show s ≤ 5; omega, by show a + 1 ≤ I; omega, gI2⟩, (hE3 _).trans hE2, hR⟩, by show s < s + 1; omega, ?_⟩
    refine Imp.id (by simp) ?_ (impH.base0 (hok_set hok fun k hk => spotsC_flat _ _) (by simp) HExt.rfl)
    simp only [go_sem, Nat.reduceLT, hFl, hi0, show (5 : Int) - ((s + 1 : Nat) : Int) + 1 = 5 - (s : Int) by omega]
    (try (repeat' apply And.intro) <;> first | omega | rfl | trivial | assumption | skip)
end
end Go.Proofs.YtfelopllfhcdpaaGreat.V

/- The library's choice of a pivot among spots. -/
namespace Go.Proofs.YtfelopllfhcdpaaGreat.V
open Go.Sort (order2 median medianAdjacent choosePivot rawPivot hintOf hintCode order2_mem median_mem medianAdjacent_mem median_count medianAdjacent_count order2_count choosePivot_eq)
/-- A function that compares spots and looks at no memory. -/
def CmpA (cx : Cx) (n f p q : Nat) (G F : Nat → SV) (cI : Int × Int → Int × Int → Int) : Prop :=
  ∀ (a b : Int × Int) nt n0 h' n', n ≤ n' → CallQ Tryz.prog ⟨cx.w0, cx.W, nt, n0⟩ f (lst p G ++ [spot a.1 a.2, spot b.1 b.2] ++ lst q F) h' n' (.int .i64 (cI a b))
theorem CmpA.cmps {cx : Cx} {n f p q : Nat} {G F : Nat → SV} {cI : Int × Int → Int × Int → Int} (hc : CmpA cx n f p q G F cI) (h : List (Nat × Seg)) (i : Nat) : Cmps cx h n i f p q G F cI := fun a b nt n0 h' n' hn _ => hc a b nt n0 h' n' hn
theorem CmpA.nt {cx : Cx} {n f p q : Nat} {G F : Nat → SV} {cI : Int × Int → Int × Int → Int} (hc : CmpA cx n f p q G F cI) (t m : Nat) : CmpA ⟨cx.w0, cx.W, t, m⟩ n f p q G F cI := fun a b nt n0 h' n' hn => hc a b nt n0 h' n' hn
theorem CmpA.up {cx : Cx} {n f p q : Nat} {G F : Nat → SV} {cI : Int × Int → Int × Int → Int} (hc : CmpA cx n f p q G F cI) {m : Nat} (hm : n ≤ m) : CmpA cx m f p q G F cI := fun a b nt n0 h' n' hn => hc a b nt n0 h' n' (by omega)
section
variable (cx : Cx) (h : List (Nat × Seg)) (n : Nat)
set_option maxRecDepth 100000 in
theorem order2_E (i cap : Nat) (d : Array (Int × Int)) (own : Option (Nat × Nat)) (f p q : Nat) (G F : Nat → SV) (cI : Int × Int → Int × Int → Int) (lt : Int × Int → Int × Int → Bool) (hlt : ∀ x y, decide (cI x y < 0) = lt x y)
    (hs : hget h i = some ⟨d.size * 2, spotsC d.toList, true, own⟩) (hi0 : i < n) (hm9 : d.size ≤ 1000000000) (hF : (SV.fn f p G q F).lt n) (hcmp : CmpA cx n f p q G F cI) (sp a b s : Nat) (hsp : hget h sp = some ⟨1, cl [.int .i64 (s : Int)], true, none⟩) (hspn : sp < n) (hne : i ≠ sp) (ha : a < d.size) (hb : b < d.size) (hs9 : s ≤ 1000) (K : HK)
    (hK : K (.tup 2 (cl [.int .i64 ((order2 lt d a b s).1 : Nat), .int .i64 ((order2 lt d a b s).2.1 : Nat)])) (hset h sp ⟨1, cl [.int .i64 (((order2 lt d a b s).2.2 : Nat) : Int)], true, none⟩) n) :
    CallE Tryz.prog cx 137 [.sl i 0 d.size cap, .int .i64 a, .int .i64 b, .ptr sp 0, .fn f p G q F] h n K := by
  refine CallE.to _ _ (by simp only [go_sem]) (fun hok => hok_set hok fun k hk => cl_flat (l := [_]) (by simp [SV.flat]) hk) hK ?_
  refine callE_of_T (P := Tryz.prog) hti (nt := 32) (rs := [.tmp 10, .tmp 11]) rfl rfl Tryz.call137 Tryz.func137 rfl _ (by simp only [go_sem, and_self]) (Nat.le_of_ble_eq_true rfl) _ fun hok => ?_
  simp only [go_sem, Nat.reduceLT]
  refine T_draw hti _ _ (by kernel_rfl) (by kernel_rfl) ?_
  simp only [go_sem, Nat.reduceLT, hs, hi0, ix_r ha, ix_r hb, ix_b ha, ix_b hb, ix_c ha, ix_c hb, spotsC_x, spotsC_y]
  refine (hcmp (d.toList.getD b (0, 0)) (d.toList.getD a (0, 0)) _ _ _ _ (Nat.le_refl n)).A ?_
  have hl := hlt (d.toList.getD b (0, 0)) (d.toList.getD a (0, 0))
  by_cases hc : cI (d.toList.getD b (0, 0)) (d.toList.getD a (0, 0)) < 0
  · have e : order2 lt d a b s = (b, a, s + 1) := by unfold order2; rw [bangL, bangL, ← hl, decide_eq_true hc]; rfl
    rw [e]
    simp only [go_sem, Nat.reduceLT, reduceIte, hc, hsp, hspn, w64N (a := (s : Int) + 1) (k := s + 1) (by omega) (by omega)]
  · have e : order2 lt d a b s = (a, b, s) := by unfold order2; rw [bangL, bangL, ← hl, decide_eq_false hc]; rfl
    rw [e]
    simp only [go_sem, Nat.reduceLT, hc, hset_self hsp]
set_option maxRecDepth 100000 in
theorem median_E (i cap : Nat) (d : Array (Int × Int)) (own : Option (Nat × Nat)) (f p q : Nat) (G F : Nat → SV) (cI : Int × Int → Int × Int → Int) (lt : Int × Int → Int × Int → Bool) (hlt : ∀ x y, decide (cI x y < 0) = lt x y)
    (hs : hget h i = some ⟨d.size * 2, spotsC d.toList, true, own⟩) (hi0 : i < n) (hm9 : d.size ≤ 1000000000) (hF : (SV.fn f p G q F).lt n) (hcmp : CmpA cx n f p q G F cI) (sp a b c s : Nat) (hsp : hget h sp = some ⟨1, cl [.int .i64 (s : Int)], true, none⟩) (hspn : sp < n) (hne : i ≠ sp) (ha : a < d.size) (hb : b < d.size) (hc : c < d.size) (hs9 : s ≤ 900) (K : HK)
    (hK : K (.int .i64 ((median lt d a b c s).1 : Nat)) (hset h sp ⟨1, cl [.int .i64 (((median lt d a b c s).2 : Nat) : Int)], true, none⟩) n) :
    CallE Tryz.prog cx 135 [.sl i 0 d.size cap, .int .i64 a, .int .i64 b, .int .i64 c, .ptr sp 0, .fn f p G q F] h n K := by
  refine CallE.to _ _ (by simp only [go_sem]) (fun hok => hok_set hok fun k hk => cl_flat (l := [_]) (by simp [SV.flat]) hk) hK ?_
  have hgi : ∀ t, hget (hset h sp t) sp = some t := hget_hset_self hsp
  have hgd : ∀ t, hget (hset h sp t) i = some ⟨d.size * 2, spotsC d.toList, true, own⟩ := fun t => by rw [hget_hset, if_neg (Ne.symm hne)]; exact hs
  have m1 := order2_mem lt d a b s
  have c1 := order2_count (lt := lt) d a b s
  obtain ⟨⟨x1, y1, s1⟩, e1⟩ : ∃ r, order2 lt d a b s = r := ⟨_, rfl⟩
  have m2 := order2_mem lt d y1 c s1
  have c2 := order2_count (lt := lt) d y1 c s1
  obtain ⟨⟨x2, y2, s2⟩, e2⟩ : ∃ r, order2 lt d y1 c s1 = r := ⟨_, rfl⟩
  have m3 := order2_mem lt d x1 x2 s2
  obtain ⟨⟨x3, y3, s3⟩, e3⟩ : ∃ r, order2 lt d x1 x2 s2 = r := ⟨_, rfl⟩
  rw [e1] at m1 c1
  rw [e2] at m2 c2
  rw [e3] at m3
  simp only at m1 c1 m2 c2 m3
  have em : median lt d a b c s = (y3, s3) := by unfold median; simp only [e1, e2, e3]
  rw [em]
  refine callE_of_T (P := Tryz.prog) hti (nt := 41) (rs := [.tmp 12]) rfl rfl Tryz.call135 Tryz.func135 rfl _ (by simp only [go_sem, and_self]) (Nat.le_of_ble_eq_true rfl) _ fun hok => ?_
  simp only [go_sem, Nat.reduceLT]
  refine callA_false (order2_E _ _ _ i cap d own f p q G F cI lt hlt hs hi0 hm9 hF (hcmp.nt _ _) sp a b s hsp hspn hne ha hb (by omega) _ ?_)
  rw [e1]
  simp only [go_sem, Nat.reduceLT]
  refine callA_false (order2_E _ _ _ i cap d own f p q G F cI lt hlt (hgd _) hi0 hm9 hF (hcmp.nt _ _) sp y1 c s1 (hgi _) hspn hne (by omega) hc (by omega) _ ?_)
  rw [e2]
  simp only [go_sem, Nat.reduceLT, hset_hset]
  refine callA_false (order2_E _ _ _ i cap d own f p q G F cI lt hlt (hgd _) hi0 hm9 hF (hcmp.nt _ _) sp x1 x2 s2 (hgi _) hspn hne (by omega) (by omega) (by omega) _ ?_)
  rw [e3]
  simp only [go_sem, Nat.reduceLT, hset_hset]
theorem medAdj_E (i cap : Nat) (d : Array (Int × Int)) (own : Option (Nat × Nat)) (f p q : Nat) (G F : Nat → SV) (cI : Int × Int → Int × Int → Int) (lt : Int × Int → Int × Int → Bool) (hlt : ∀ x y, decide (cI x y < 0) = lt x y)
    (hs : hget h i = some ⟨d.size * 2, spotsC d.toList, true, own⟩) (hi0 : i < n) (hm9 : d.size ≤ 1000000000) (hF : (SV.fn f p G q F).lt n) (hcmp : CmpA cx n f p q G F cI) (sp a s : Nat) (hsp : hget h sp = some ⟨1, cl [.int .i64 (s : Int)], true, none⟩) (hspn : sp < n) (hne : i ≠ sp) (ha : 1 ≤ a) (ha1 : a + 1 < d.size) (hs9 : s ≤ 900) (K : HK)
    (hK : K (.int .i64 ((medianAdjacent lt d a s).1 : Nat)) (hset h sp ⟨1, cl [.int .i64 (((medianAdjacent lt d a s).2 : Nat) : Int)], true, none⟩) n) :
    CallE Tryz.prog cx 134 [.sl i 0 d.size cap, .int .i64 a, .ptr sp 0, .fn f p G q F] h n K := by
  refine CallE.to _ _ (by simp only [go_sem]) (fun hok => hok_set hok fun k hk => cl_flat (l := [_]) (by simp [SV.flat]) hk) hK ?_
  refine callE_of_T (P := Tryz.prog) hti (nt := 18) (rs := [.tmp 8]) rfl rfl Tryz.call134 Tryz.func134 rfl _ (by simp only [go_sem, and_self]) (Nat.le_of_ble_eq_true rfl) _ fun hok => ?_
  simp only [go_sem, Nat.reduceLT, w64N (a := (a : Int) + 1) (k := a + 1) (by omega) (by omega), w64N (a := (a : Int) - 1) (k := a - 1) (by omega) (by omega)]
  refine callA_false (median_E _ _ _ i cap d own f p q G F cI lt hlt hs hi0 hm9 hF (hcmp.nt _ _) sp (a - 1) a (a + 1) s hsp hspn hne (by omega) (by omega) (by omega) (by omega) _ ?_)
  simp only [go_sem, Nat.reduceLT]
  exact ⟨rfl, HExt.rfl⟩
set_option maxRecDepth 100000 in
set_option maxHeartbeats 1600000 in
theorem choosePivot_E (i cap : Nat) (d : Array (Int × Int)) (own : Option (Nat × Nat)) (f p q : Nat) (G F : Nat → SV) (cI : Int × Int → Int × Int → Int) (lt : Int × Int → Int × Int → Bool) (hlt : ∀ x y, decide (cI x y < 0) = lt x y)
    (hs : hget h i = some ⟨d.size * 2, spotsC d.toList, true, own⟩) (hi0 : i < n) (hm9 : d.size ≤ 1000000000) (hF : (SV.fn f p G q F).lt n) (hcmp : CmpA cx n f p q G F cI) (a b : Nat) (hab : a < b) (hb : b ≤ d.size) (K : HK)
    (hK : K (.tup 2 (cl [.int .i64 ((choosePivot lt d a b).1 : Nat), .int .i64 (hintCode (choosePivot lt d a b).2)])) h n) :
    CallE Tryz.prog cx 123 [.sl i 0 d.size cap, .int .i64 a, .int .i64 b, .fn f p G q F] h n K := by
  refine CallE.to _ _ (by simp only [go_sem]) (fun hok => hok) hK ?_
  rw [choosePivot_eq]
  obtain ⟨Q, hQ⟩ : ∃ Q, (b - a) / 4 = Q := ⟨_, rfl⟩
  have hQ1 : 4 * Q ≤ b - a ∧ b - a < 4 * Q + 4 := by omega
  have W0 := w64N (a := (b : Int) - (a : Int)) (k := b - a) (by omega) (by omega)
  have W1 : IntKind.i64.wrap (((b - a : Nat) : Int).tdiv 4) = (Q : Int) := by rw [Int.tdiv_eq_ediv_of_nonneg (by omega)]; exact w64N (by omega) (by omega)
  have W21 := w64N (a := (Q : Int) * 1) (k := Q) (by omega) (by omega)
  have W22 := w64N (a := (Q : Int) * 2) (k := Q * 2) (by omega) (by omega)
  have W23 := w64N (a := (Q : Int) * 3) (k := Q * 3) (by omega) (by omega)
  have W31 := w64N (a := (a : Int) + (Q : Int)) (k := a + Q) (by omega) (by omega)
  have W32 := w64N (a := (a : Int) + ((Q * 2 : Nat) : Int)) (k := a + Q * 2) (by omega) (by omega)
  have W33 := w64N (a := (a : Int) + ((Q * 3 : Nat) : Int)) (k := a + Q * 3) (by omega) (by omega)
  have fin : ∀ s : Nat, hintOf s = (if s = 0 then .increasing else if s = 12 then .decreasing else .unknown) := fun s => rfl
  refine callE_of_T (P := Tryz.prog) hti (nt := 63) (rs := [.tmp 8, .tmp 9]) rfl rfl Tryz.call123 Tryz.func123 rfl _ (by simp only [go_sem, and_self]) (Nat.le_of_ble_eq_true rfl) _ fun hok => ?_
  have hweak : impH ((n, ⟨1, (ti 3).z, true, none⟩) :: h) (sig []) (n + 1) ((n, ⟨1, cl [.int .i64 ((0 : Nat) : Int)], true, none⟩) :: h) := impH.cons0 (hget_hit _ _ _) (by omega) (SegLe.flat (Nat.le_refl _) id (.inr rfl) fun k hk => ⟨by have hk : k < 1 := hk; obtain rfl : k = 0 := (by omega); rfl, cl_flat (l := [_]) (by simp [SV.flat]) hk⟩) (impH.base0 hok (by omega) (by simp only [go_sem, HExt_cons]))
  by_cases h8 : b - a ≥ 8
  rotate_left
  · have er : rawPivot lt d a b = (a + Q * 2, 0) := by unfold rawPivot; rw [if_neg h8, hQ]
    rw [er]
    simp only [go_sem, Nat.reduceLT, Nat.reduceEqDiff, reduceIte, Int.reduceEq, W0, W1, W21, W22, W23, W31, W32, W33, show ((8 : Int) ≤ ((b - a : Nat) : Int)) = False from eq_false (by omega)]
    first | rfl | exact ⟨rfl, by simp only [go_sem, Nat.reduceBEq, Nat.reduceLT, Nat.reduceLeDiff, Nat.reduceAdd, Nat.reduceMul, Nat.reduceSub, Nat.reduceMod, Nat.reduceDiv, Nat.reduceEqDiff, Int.reduceToNat, reduceIte, reduceCtorEq, Int.reduceLE, Int.reduceLT, Int.reduceEq, Int.reduceNeg, Int.reduceAdd, Int.reduceSub, Int.reduceMul, HExt_cons]⟩
  have e8 : ((8 : Int) ≤ ((b - a : Nat) : Int)) = True := eq_true (by omega)
  by_cases h50 : b - a ≥ 50
  · have e50 : ((50 : Int) ≤ ((b - a : Nat) : Int)) = True := eq_true (by omega)
    have bd : ∀ z s : Nat, (medianAdjacent lt d z s).1 ≤ z + 1 ∧ (medianAdjacent lt d z s).2 ≤ s + 3 := fun z s => by
      have k1 := medianAdjacent_mem lt d z s
      exact ⟨by omega, medianAdjacent_count (lt := lt) d z s⟩
    have k1 := bd (a + Q) 0
    obtain ⟨⟨x1, s1⟩, e1⟩ : ∃ r, medianAdjacent lt d (a + Q) 0 = r := ⟨_, rfl⟩
    have k2 := bd (a + Q * 2) s1
    obtain ⟨⟨x2, s2⟩, e2⟩ : ∃ r, medianAdjacent lt d (a + Q * 2) s1 = r := ⟨_, rfl⟩
    have k3 := bd (a + Q * 3) s2
    obtain ⟨⟨x3, s3⟩, e3⟩ : ∃ r, medianAdjacent lt d (a + Q * 3) s2 = r := ⟨_, rfl⟩
    rw [e1] at k1
    rw [e2] at k2
    rw [e3] at k3
    simp only at k1 k2 k3
    have er : rawPivot lt d a b = median lt d x1 x2 x3 s3 := by unfold rawPivot; rw [if_pos h8, if_pos h50, hQ, Nat.mul_one]; simp only [e1, e2, e3]
    rw [er]
    simp only [go_sem, Nat.reduceLT, Nat.reduceEqDiff, reduceIte, Int.reduceEq, W0, W1, W21, W22, W23, W31, W32, W33, e8, e50]
    refine callA_false (CallE.weak hweak (medAdj_E _ _ _ i cap d own f p q G F cI lt hlt (by first | (simp only [go_sem, hs, hi0]; done) | (simp only [go_sem, Nat.reduceBEq, Nat.reduceLT, Nat.reduceLeDiff, Nat.reduceAdd, Nat.reduceMul, Nat.reduceSub, Nat.reduceMod, Nat.reduceDiv, Nat.reduceEqDiff, Int.reduceToNat, reduceIte, reduceCtorEq, Int.reduceLE, Int.reduceLT, Int.reduceEq, Int.reduceNeg, Int.reduceAdd, Int.reduceSub, Int.reduceMul, hs, hi0]; rfl)) (by omega) hm9 (SV.lt_mono (by omega) _ hF) ((hcmp.nt _ _).up (by omega)) n (a + Q) 0 (hget_hit _ _ _) (by omega) (by omega) (by omega) (by omega) (by omega) _ ?_))
    rw [e1]
    simp only [go_sem, Nat.reduceLT]
    refine callA_false (medAdj_E _ _ _ i cap d own f p q G F cI lt hlt (by first | (simp only [go_sem, hs, hi0]; done) | (simp only [go_sem, Nat.reduceBEq, Nat.reduceLT, Nat.reduceLeDiff, Nat.reduceAdd, Nat.reduceMul, Nat.reduceSub, Nat.reduceMod, Nat.reduceDiv, Nat.reduceEqDiff, Int.reduceToNat, reduceIte, reduceCtorEq, Int.reduceLE, Int.reduceLT, Int.reduceEq, Int.reduceNeg, Int.reduceAdd, Int.reduceSub, Int.reduceMul, hs, hi0]; rfl)) (by omega) hm9 (SV.lt_mono (by omega) _ hF) ((hcmp.nt _ _).up (by omega)) n (a + Q * 2) s1 (by first | (simp only [go_sem]; done) | (simp only [go_sem, Nat.reduceBEq, Nat.reduceLT, Nat.reduceLeDiff, Nat.reduceAdd, Nat.reduceMul, Nat.reduceSub, Nat.reduceMod, Nat.reduceDiv, Nat.reduceEqDiff, Int.reduceToNat, reduceIte, reduceCtorEq, Int.reduceLE, Int.reduceLT, Int.reduceEq, Int.reduceNeg, Int.reduceAdd, Int.reduceSub, Int.reduceMul]; rfl)) (by omega) (by omega) (by omega) (by omega) (by omega) _ ?_)
    rw [e2]
    simp only [go_sem, Nat.reduceLT]
    refine callA_false (medAdj_E _ _ _ i cap d own f p q G F cI lt hlt (by first | (simp only [go_sem, hs, hi0]; done) | (simp only [go_sem, Nat.reduceBEq, Nat.reduceLT, Nat.reduceLeDiff, Nat.reduceAdd, Nat.reduceMul, Nat.reduceSub, Nat.reduceMod, Nat.reduceDiv, Nat.reduceEqDiff, Int.reduceToNat, reduceIte, reduceCtorEq, Int.reduceLE, Int.reduceLT, Int.reduceEq, Int.reduceNeg, Int.reduceAdd, Int.reduceSub, Int.reduceMul, hs, hi0]; rfl)) (by omega) hm9 (SV.lt_mono (by omega) _ hF) ((hcmp.nt _ _).up (by omega)) n (a + Q * 3) s2 (by first | (simp only [go_sem]; done) | (simp only [go_sem, Nat.reduceBEq, Nat.reduceLT, Nat.reduceLeDiff, Nat.reduceAdd, Nat.reduceMul, Nat.reduceSub, Nat.reduceMod, Nat.reduceDiv, Nat.reduceEqDiff, Int.reduceToNat, reduceIte, reduceCtorEq, Int.reduceLE, Int.reduceLT, Int.reduceEq, Int.reduceNeg, Int.reduceAdd, Int.reduceSub, Int.reduceMul]; rfl)) (by omega) (by omega) (by omega) (by omega) (by omega) _ ?_)
    rw [e3]
    simp only [go_sem, Nat.reduceLT]
    refine callA_false (median_E _ _ _ i cap d own f p q G F cI lt hlt (by first | (simp only [go_sem, hs, hi0]; done) | (simp only [go_sem, Nat.reduceBEq, Nat.reduceLT, Nat.reduceLeDiff, Nat.reduceAdd, Nat.reduceMul, Nat.reduceSub, Nat.reduceMod, Nat.reduceDiv, Nat.reduceEqDiff, Int.reduceToNat, reduceIte, reduceCtorEq, Int.reduceLE, Int.reduceLT, Int.reduceEq, Int.reduceNeg, Int.reduceAdd, Int.reduceSub, Int.reduceMul, hs, hi0]; rfl)) (by omega) hm9 (SV.lt_mono (by omega) _ hF) ((hcmp.nt _ _).up (by omega)) n x1 x2 x3 s3 (by first | (simp only [go_sem]; done) | (simp only [go_sem, Nat.reduceBEq, Nat.reduceLT, Nat.reduceLeDiff, Nat.reduceAdd, Nat.reduceMul, Nat.reduceSub, Nat.reduceMod, Nat.reduceDiv, Nat.reduceEqDiff, Int.reduceToNat, reduceIte, reduceCtorEq, Int.reduceLE, Int.reduceLT, Int.reduceEq, Int.reduceNeg, Int.reduceAdd, Int.reduceSub, Int.reduceMul]; rfl)) (by omega) (by omega) (by omega) (by omega) (by omega) (by omega) _ ?_)
    generalize median lt d x1 x2 x3 s3 = R
    by_cases r0 : R.2 = 0
    · simp only [go_sem, Nat.reduceLT, r0, Int.natCast_zero]
      first | (rw [fin]; done) | (rw [fin]; rfl) | exact ⟨by rw [fin]; rfl, by simp only [go_sem, Nat.reduceBEq, Nat.reduceLT, Nat.reduceLeDiff, Nat.reduceAdd, Nat.reduceMul, Nat.reduceSub, Nat.reduceMod, Nat.reduceDiv, Nat.reduceEqDiff, Int.reduceToNat, reduceIte, reduceCtorEq, Int.reduceLE, Int.reduceLT, Int.reduceEq, Int.reduceNeg, Int.reduceAdd, Int.reduceSub, Int.reduceMul, HExt_cons]⟩
    · by_cases r12 : R.2 = 12
      · simp only [go_sem, Nat.reduceLT, Int.reduceEq, r12, show (((12 : Nat) : Int) = 0) = False from eq_false (by omega), show (((12 : Nat) : Int) = 12) = True from eq_true rfl]
        first | (rw [fin]; done) | (rw [fin]; rfl) | exact ⟨by rw [fin]; rfl, by simp only [go_sem, Nat.reduceBEq, Nat.reduceLT, Nat.reduceLeDiff, Nat.reduceAdd, Nat.reduceMul, Nat.reduceSub, Nat.reduceMod, Nat.reduceDiv, Nat.reduceEqDiff, Int.reduceToNat, reduceIte, reduceCtorEq, Int.reduceLE, Int.reduceLT, Int.reduceEq, Int.reduceNeg, Int.reduceAdd, Int.reduceSub, Int.reduceMul, HExt_cons]⟩
      · simp only [go_sem, Nat.reduceLT, show ((R.2 : Int) = 0) = False from eq_false (by omega), show ((R.2 : Int) = 12) = False from eq_false (by omega)]
        first | (rw [fin, if_neg r0, if_neg r12]; done) | (rw [fin, if_neg r0, if_neg r12]; rfl) | exact ⟨by rw [fin, if_neg r0, if_neg r12]; rfl, by simp only [go_sem, Nat.reduceBEq, Nat.reduceLT, Nat.reduceLeDiff, Nat.reduceAdd, Nat.reduceMul, Nat.reduceSub, Nat.reduceMod, Nat.reduceDiv, Nat.reduceEqDiff, Int.reduceToNat, reduceIte, reduceCtorEq, Int.reduceLE, Int.reduceLT, Int.reduceEq, Int.reduceNeg, Int.reduceAdd, Int.reduceSub, Int.reduceMul, HExt_cons]⟩
  · have e50 : ((50 : Int) ≤ ((b - a : Nat) : Int)) = False := eq_false (by omega)
    have er : rawPivot lt d a b = median lt d (a + Q) (a + Q * 2) (a + Q * 3) 0 := by unfold rawPivot; rw [if_pos h8, if_neg h50, hQ, Nat.mul_one]
    rw [er]
    simp only [go_sem, Nat.reduceLT, Nat.reduceEqDiff, reduceIte, Int.reduceEq, W0, W1, W21, W22, W23, W31, W32, W33, e8, e50]
    refine callA_false (CallE.weak hweak (median_E _ _ _ i cap d own f p q G F cI lt hlt (by first | (simp only [go_sem, hs, hi0]; done) | (simp only [go_sem, Nat.reduceBEq, Nat.reduceLT, Nat.reduceLeDiff, Nat.reduceAdd, Nat.reduceMul, Nat.reduceSub, Nat.reduceMod, Nat.reduceDiv, Nat.reduceEqDiff, Int.reduceToNat, reduceIte, reduceCtorEq, Int.reduceLE, Int.reduceLT, Int.reduceEq, Int.reduceNeg, Int.reduceAdd, Int.reduceSub, Int.reduceMul, hs, hi0]; rfl)) (by omega) hm9 (SV.lt_mono (by omega) _ hF) ((hcmp.nt _ _).up (by omega)) n (a + Q) (a + Q * 2) (a + Q * 3) 0 (hget_hit _ _ _) (by omega) (by omega) (by omega) (by omega) (by omega) (by omega) _ ?_))
    generalize median lt d (a + Q) (a + Q * 2) (a + Q * 3) 0 = R
    by_cases r0 : R.2 = 0
    · simp only [go_sem, Nat.reduceLT, r0, Int.natCast_zero]
      first | (rw [fin]; done) | (rw [fin]; rfl) | exact ⟨by rw [fin]; rfl, by simp only [go_sem, Nat.reduceBEq, Nat.reduceLT, Nat.reduceLeDiff, Nat.reduceAdd, Nat.reduceMul, Nat.reduceSub, Nat.reduceMod, Nat.reduceDiv, Nat.reduceEqDiff, Int.reduceToNat, reduceIte, reduceCtorEq, Int.reduceLE, Int.reduceLT, Int.reduceEq, Int.reduceNeg, Int.reduceAdd, Int.reduceSub, Int.reduceMul, HExt_cons]⟩
    · by_cases r12 : R.2 = 12
      · simp only [go_sem, Nat.reduceLT, Int.reduceEq, r12, show (((12 : Nat) : Int) = 0) = False from eq_false (by omega), show (((12 : Nat) : Int) = 12) = True from eq_true rfl]
        first | (rw [fin]; done) | (rw [fin]; rfl) | exact ⟨by rw [fin]; rfl, by simp only [go_sem, Nat.reduceBEq, Nat.reduceLT, Nat.reduceLeDiff, Nat.reduceAdd, Nat.reduceMul, Nat.reduceSub, Nat.reduceMod, Nat.reduceDiv, Nat.reduceEqDiff, Int.reduceToNat, reduceIte, reduceCtorEq, Int.reduceLE, Int.reduceLT, Int.reduceEq, Int.reduceNeg, Int.reduceAdd, Int.reduceSub, Int.reduceMul, HExt_cons]⟩
      · simp only [go_sem, Nat.reduceLT, show ((R.2 : Int) = 0) = False from eq_false (by omega), show ((R.2 : Int) = 12) = False from eq_false (by omega)]
        first | (rw [fin, if_neg r0, if_neg r12]; done) | (rw [fin, if_neg r0, if_neg r12]; rfl) | exact ⟨by rw [fin, if_neg r0, if_neg r12]; rfl, by simp only [go_sem, Nat.reduceBEq, Nat.reduceLT, Nat.reduceLeDiff, Nat.reduceAdd, Nat.reduceMul, Nat.reduceSub, Nat.reduceMod, Nat.reduceDiv, Nat.reduceEqDiff, Int.reduceToNat, reduceIte, reduceCtorEq, Int.reduceLE, Int.reduceLT, Int.reduceEq, Int.reduceNeg, Int.reduceAdd, Int.reduceSub, Int.reduceMul, HExt_cons]⟩
end
end Go.Proofs.YtfelopllfhcdpaaGreat.V

/- Lengths of numbers in bits, exactly; patterns broken among spots. -/
namespace Go.Proofs.YtfelopllfhcdpaaGreat.V
open Go.Sort (bitsLen bitsLen_le_iff xorNext xorNextN xorNext_toNat xorNextN_lt breakPatterns breakStep swp)
theorem shr_nat (m k : Nat) (hk : k ≤ 63) : shrI .u64 (m : Int) (k : Int) = ((m / 2 ^ k : Nat) : Int) := by
  unfold shrI
  have e : min ((k : Int)).toNat IntKind.u64.bits = k := by rw [Int.toNat_natCast]; simp [IntKind.bits]; omega
  rw [e, show (2 : Int) ^ k = ((2 ^ k : Nat) : Int) from (Int.natCast_pow 2 k).symm]
  exact (Int.ofNat_fdiv m (2 ^ k)).symm
theorem bitsLen_shift {m k : Nat} (h : 0 < m / 2 ^ k) : bitsLen m = k + bitsLen (m / 2 ^ k) := by
  have hk : 2 ^ k ≤ m := by
    rcases Nat.lt_or_ge m (2 ^ k) with h' | h'
    · rw [Nat.div_eq_of_lt h'] at h; omega
    · exact h'
  have key : ∀ j, bitsLen m ≤ j ↔ k + bitsLen (m / 2 ^ k) ≤ j := fun j => by
    rw [bitsLen_le_iff]
    constructor
    · intro hm
      rcases Nat.lt_or_ge j k with hj | hj
      · have := Nat.pow_le_pow_right (n := 2) (by omega) (Nat.le_of_lt hj)
        omega
      · obtain ⟨i, rfl⟩ : ∃ i, j = k + i := ⟨j - k, by omega⟩
        have := (bitsLen_le_iff (m / 2 ^ k) i).2 ((Nat.div_lt_iff_lt_mul (Nat.two_pow_pos k)).2 (by rw [← Nat.pow_add, Nat.add_comm]; exact hm))
        omega
    · intro hj
      obtain ⟨i, rfl⟩ : ∃ i, j = k + i := ⟨j - k, by omega⟩
      have := (Nat.div_lt_iff_lt_mul (Nat.two_pow_pos k)).1 ((bitsLen_le_iff (m / 2 ^ k) i).1 (by omega))
      rw [← Nat.pow_add, Nat.add_comm] at this
      exact this
  have a := (key (bitsLen m)).1 (Nat.le_refl _)
  have b := (key (k + bitsLen (m / 2 ^ k))).2 (Nat.le_refl _)
  omega
theorem lenFin {tab : ByteArray} (hT : ∀ z : Nat, z < 256 → bt tab (z : Int) = ((bitsLen z : Nat) : Int)) {m : Nat} (k z : Nat) (hk : k ≤ 56) (hz : z = m / 2 ^ k) (hz8 : z < 256) (h0 : k = 0 ∨ 0 < z) :
    IntKind.i64.wrap ((k : Int) + IntKind.i64.wrap (bt tab (IntKind.u8.wrap (z : Int)))) = ((bitsLen m : Nat) : Int) := by
  have hb : bitsLen z ≤ 8 := (bitsLen_le_iff z 8).2 (by omega)
  rw [wrap_u8 (z : Int) (by omega) (by omega), hT z hz8, w64 (n := ((bitsLen z : Nat) : Int)) (by omega), w64 (by omega)]
  rcases h0 with rfl | h0
  · rw [hz, Nat.pow_zero, Nat.div_one]; omega
  · rw [hz] at h0
    rw [bitsLen_shift h0, ← hz]; omega
section
variable (cx : Cx) (h : List (Nat × Seg)) (n : Nat)
set_option maxRecDepth 100000 in
theorem len64x_E (m : Nat) (hm : m < 18446744073709551616) (K : HK) (hK : K (.int .i64 ((bitsLen m : Nat) : Int)) h n) : CallE Tryz.prog cx 118 [.int .u64 m] h n K := by
  have S32 : ∀ x : Nat, shrI .u64 (x : Int) 32 = ((x / 2 ^ 32 : Nat) : Int) := fun x => shr_nat x 32 (by omega)
  have S16 : ∀ x : Nat, shrI .u64 (x : Int) 16 = ((x / 2 ^ 16 : Nat) : Int) := fun x => shr_nat x 16 (by omega)
  have S8 : ∀ x : Nat, shrI .u64 (x : Int) 8 = ((x / 2 ^ 8 : Nat) : Int) := fun x => shr_nat x 8 (by omega)
  by_cases h1 : 4294967296 ≤ m
  · by_cases h2 : 65536 ≤ m / 2 ^ 32
    · by_cases h3 : 256 ≤ m / 2 ^ 32 / 2 ^ 16
      · refine callE_of_T (P := Tryz.prog) hti (nt := 25) (rs := [.tmp 2]) rfl rfl Tryz.call118 Tryz.func118 rfl _ (by simp only [go_sem, and_self]) (Nat.le_of_ble_eq_true rfl) _ fun hok => ?_
        simp only [go_sem, Nat.reduceLT, Int.reduceLE, Int.reduceLT, Int.reduceNeg, Int.reduceAdd, S32, S16, S8, show ((4294967296 : Int) ≤ ((m : Nat) : Int)) = True from eq_true (by omega), show ((65536 : Int) ≤ (((m / 2 ^ 32) : Nat) : Int)) = True from eq_true (by omega), show ((256 : Int) ≤ ((((m / 2 ^ 32) / 2 ^ 16) : Nat) : Int)) = True from eq_true (by omega)]
        refine ⟨(u8_in _).2, ?_⟩
        rw [show (56 : Int) = ((56 : Nat) : Int) from rfl, lenFin (m := m) (by decide +kernel) 56 (((m / 2 ^ 32) / 2 ^ 16) / 2 ^ 8) (by omega) (by simp only [Nat.div_div_eq_div_mul, ← Nat.pow_add]) (by omega) (by omega)]
        exact hK
      · refine callE_of_T (P := Tryz.prog) hti (nt := 25) (rs := [.tmp 2]) rfl rfl Tryz.call118 Tryz.func118 rfl _ (by simp only [go_sem, and_self]) (Nat.le_of_ble_eq_true rfl) _ fun hok => ?_
        simp only [go_sem, Nat.reduceLT, Int.reduceLE, Int.reduceLT, Int.reduceNeg, Int.reduceAdd, S32, S16, S8, show ((4294967296 : Int) ≤ ((m : Nat) : Int)) = True from eq_true (by omega), show ((65536 : Int) ≤ (((m / 2 ^ 32) : Nat) : Int)) = True from eq_true (by omega), show ((256 : Int) ≤ ((((m / 2 ^ 32) / 2 ^ 16) : Nat) : Int)) = False from eq_false (by omega)]
        refine ⟨(u8_in _).2, ?_⟩
        rw [show (48 : Int) = ((48 : Nat) : Int) from rfl, lenFin (m := m) (by decide +kernel) 48 ((m / 2 ^ 32) / 2 ^ 16) (by omega) (by simp only [Nat.div_div_eq_div_mul, ← Nat.pow_add]) (by omega) (by omega)]
        exact hK
    · by_cases h3 : 256 ≤ m / 2 ^ 32
      · refine callE_of_T (P := Tryz.prog) hti (nt := 25) (rs := [.tmp 2]) rfl rfl Tryz.call118 Tryz.func118 rfl _ (by simp only [go_sem, and_self]) (Nat.le_of_ble_eq_true rfl) _ fun hok => ?_
        simp only [go_sem, Nat.reduceLT, Int.reduceLE, Int.reduceLT, Int.reduceNeg, Int.reduceAdd, S32, S16, S8, show ((4294967296 : Int) ≤ ((m : Nat) : Int)) = True from eq_true (by omega), show ((65536 : Int) ≤ (((m / 2 ^ 32) : Nat) : Int)) = False from eq_false (by omega), show ((256 : Int) ≤ (((m / 2 ^ 32) : Nat) : Int)) = True from eq_true (by omega)]
        refine ⟨(u8_in _).2, ?_⟩
        rw [show (40 : Int) = ((40 : Nat) : Int) from rfl, lenFin (m := m) (by decide +kernel) 40 ((m / 2 ^ 32) / 2 ^ 8) (by omega) (by simp only [Nat.div_div_eq_div_mul, ← Nat.pow_add]) (by omega) (by omega)]
        exact hK
      · refine callE_of_T (P := Tryz.prog) hti (nt := 25) (rs := [.tmp 2]) rfl rfl Tryz.call118 Tryz.func118 rfl _ (by simp only [go_sem, and_self]) (Nat.le_of_ble_eq_true rfl) _ fun hok => ?_
        simp only [go_sem, Nat.reduceLT, Int.reduceLE, S32, S16, S8, show ((4294967296 : Int) ≤ ((m : Nat) : Int)) = True from eq_true (by omega), show ((65536 : Int) ≤ (((m / 2 ^ 32) : Nat) : Int)) = False from eq_false (by omega), show ((256 : Int) ≤ (((m / 2 ^ 32) : Nat) : Int)) = False from eq_false (by omega)]
        refine ⟨(u8_in _).2, ?_⟩
        rw [show (32 : Int) = ((32 : Nat) : Int) from rfl, lenFin (m := m) (by decide +kernel) 32 (m / 2 ^ 32) (by omega) (rfl) (by omega) (by omega)]
        exact hK
  · by_cases h2 : 65536 ≤ m
    · by_cases h3 : 256 ≤ m / 2 ^ 16
      · refine callE_of_T (P := Tryz.prog) hti (nt := 25) (rs := [.tmp 2]) rfl rfl Tryz.call118 Tryz.func118 rfl _ (by simp only [go_sem, and_self]) (Nat.le_of_ble_eq_true rfl) _ fun hok => ?_
        simp only [go_sem, Nat.reduceLT, Int.reduceLE, Int.reduceLT, Int.reduceNeg, Int.reduceAdd, S32, S16, S8, show ((4294967296 : Int) ≤ ((m : Nat) : Int)) = False from eq_false (by omega), show ((65536 : Int) ≤ ((m : Nat) : Int)) = True from eq_true (by omega), show ((256 : Int) ≤ (((m / 2 ^ 16) : Nat) : Int)) = True from eq_true (by omega)]
        refine ⟨(u8_in _).2, ?_⟩
        rw [show (24 : Int) = ((24 : Nat) : Int) from rfl, lenFin (m := m) (by decide +kernel) 24 ((m / 2 ^ 16) / 2 ^ 8) (by omega) (by simp only [Nat.div_div_eq_div_mul, ← Nat.pow_add]) (by omega) (by omega)]
        exact hK
      · refine callE_of_T (P := Tryz.prog) hti (nt := 25) (rs := [.tmp 2]) rfl rfl Tryz.call118 Tryz.func118 rfl _ (by simp only [go_sem, and_self]) (Nat.le_of_ble_eq_true rfl) _ fun hok => ?_
        simp only [go_sem, Nat.reduceLT, Int.reduceLE, Int.reduceLT, Int.reduceNeg, Int.reduceAdd, S32, S16, S8, show ((4294967296 : Int) ≤ ((m : Nat) : Int)) = False from eq_false (by omega), show ((65536 : Int) ≤ ((m : Nat) : Int)) = True from eq_true (by omega), show ((256 : Int) ≤ (((m / 2 ^ 16) : Nat) : Int)) = False from eq_false (by omega)]
        refine ⟨(u8_in _).2, ?_⟩
        rw [show (16 : Int) = ((16 : Nat) : Int) from rfl, lenFin (m := m) (by decide +kernel) 16 (m / 2 ^ 16) (by omega) (rfl) (by omega) (by omega)]
        exact hK
    · by_cases h3 : 256 ≤ m
      · refine callE_of_T (P := Tryz.prog) hti (nt := 25) (rs := [.tmp 2]) rfl rfl Tryz.call118 Tryz.func118 rfl _ (by simp only [go_sem, and_self]) (Nat.le_of_ble_eq_true rfl) _ fun hok => ?_
        simp only [go_sem, Nat.reduceLT, Int.reduceLE, Int.reduceLT, Int.reduceNeg, Int.reduceAdd, S32, S16, S8, show ((4294967296 : Int) ≤ ((m : Nat) : Int)) = False from eq_false (by omega), show ((65536 : Int) ≤ ((m : Nat) : Int)) = False from eq_false (by omega), show ((256 : Int) ≤ ((m : Nat) : Int)) = True from eq_true (by omega)]
        refine ⟨(u8_in _).2, ?_⟩
        rw [show (8 : Int) = ((8 : Nat) : Int) from rfl, lenFin (m := m) (by decide +kernel) 8 (m / 2 ^ 8) (by omega) (rfl) (by omega) (by omega)]
        exact hK
      · refine callE_of_T (P := Tryz.prog) hti (nt := 25) (rs := [.tmp 2]) rfl rfl Tryz.call118 Tryz.func118 rfl _ (by simp only [go_sem, and_self]) (Nat.le_of_ble_eq_true rfl) _ fun hok => ?_
        simp only [go_sem, Nat.reduceLT, S32, S16, S8, show ((4294967296 : Int) ≤ ((m : Nat) : Int)) = False from eq_false (by omega), show ((65536 : Int) ≤ ((m : Nat) : Int)) = False from eq_false (by omega), show ((256 : Int) ≤ ((m : Nat) : Int)) = False from eq_false (by omega)]
        refine ⟨(u8_in _).2, ?_⟩
        rw [show (0 : Int) = ((0 : Nat) : Int) from rfl, lenFin (m := m) (by decide +kernel) 0 m (by omega) (by rw [Nat.pow_zero, Nat.div_one]) (by omega) (by omega)]
        exact hK
theorem lenx_E (m : Nat) (hm : m < 18446744073709551616) (K : HK) (hK : K (.int .i64 ((bitsLen m : Nat) : Int)) h n) : CallE Tryz.prog cx 96 [.int .u64 m] h n K := by
  refine callE_of_T (P := Tryz.prog) hti (nt := 8) (rs := [.tmp 2]) rfl rfl Tryz.call96 Tryz.func96 rfl _ (by simp only [go_sem, and_self]) (Nat.le_of_ble_eq_true rfl) _ fun hok => ?_
  simp only [go_sem, Nat.reduceLT]
  refine callA_false (len64x_E _ _ _ m hm _ ?_)
  simp only [go_sem, Nat.reduceLT]
  exact hK
end
end Go.Proofs.YtfelopllfhcdpaaGreat.V

/- Patterns broken among spots. -/
namespace Go.Proofs.YtfelopllfhcdpaaGreat.V
open Go.Sort (bitsLen bitsLen_le_iff xorNext xorNextN xorNext_toNat xorNextN_lt breakPatterns breakStep swp two_pow_bitsLen_le)
theorem xor_nat {a b : Nat} (ha : a < 18446744073709551616) (hb : b < 18446744073709551616) : bitsI .xor .u64 (a : Int) (b : Int) = ((a ^^^ b : Nat) : Int) := by
  have hx : a ^^^ b < 2 ^ 64 := Nat.xor_lt_two_pow (by omega) (by omega)
  show IntKind.u64.wrap (((BitVec.ofInt 64 (a : Int) ^^^ BitVec.ofInt 64 (b : Int)).toNat : Nat) : Int) = _
  rw [BitVec.toNat_xor, BitVec.ofInt_natCast, BitVec.ofInt_natCast, BitVec.toNat_ofNat, BitVec.toNat_ofNat, Nat.mod_eq_of_lt (by omega), Nat.mod_eq_of_lt (by omega), IntKind.wrap_u64]
  omega
theorem and_nat {a b : Nat} (ha : a < 18446744073709551616) (hb : b < 18446744073709551616) : bitsI .and .u64 (a : Int) (b : Int) = ((a &&& b : Nat) : Int) := by
  have hx : a &&& b ≤ a := Nat.and_le_left
  show IntKind.u64.wrap (((BitVec.ofInt 64 (a : Int) &&& BitVec.ofInt 64 (b : Int)).toNat : Nat) : Int) = _
  rw [BitVec.toNat_and, BitVec.ofInt_natCast, BitVec.ofInt_natCast, BitVec.toNat_ofNat, BitVec.toNat_ofNat, Nat.mod_eq_of_lt (by omega), Nat.mod_eq_of_lt (by omega), IntKind.wrap_u64]
  omega
theorem shl_nat (x k : Nat) (hk : k ≤ 63) : shlI .u64 (x : Int) (k : Int) = ((x * 2 ^ k % 18446744073709551616 : Nat) : Int) := by
  unfold shlI
  have e : min ((k : Int)).toNat IntKind.u64.bits = k := by rw [Int.toNat_natCast]; simp [IntKind.bits]; omega
  rw [e, show (2 : Int) ^ k = ((2 ^ k : Nat) : Int) from (Int.natCast_pow 2 k).symm, IntKind.wrap_u64, ← Int.natCast_mul]
  omega
def bpR (a L M i0 : Nat) : Nat → UInt64 × Array (Int × Int) → Array (Int × Int)
  | 0, st => st.2
  | k + 1, st => bpR a L M i0 k (breakStep a L M st (i0 + (2 - k)))
section
variable (cx : Cx) (h : List (Nat × Seg)) (n : Nat)
set_option maxRecDepth 100000 in
theorem next64_E (rb X : Nat) (hX : X < 18446744073709551616) (hs : hget h rb = some ⟨1, cl [.int .u64 (X : Int)], true, none⟩) (hr : rb < n) (K : HK)
    (hK : K (.int .u64 ((xorNextN X : Nat) : Int)) (hset h rb ⟨1, cl [.int .u64 ((xorNextN X : Nat) : Int)], true, none⟩) n) :
    CallE Tryz.prog cx 130 [.ptr rb 0] h n K := by
  refine CallE.to _ _ (by simp only [go_sem]) (fun hok => hok_set hok fun k hk => cl_flat (l := [_]) (by simp [SV.flat]) hk) hK ?_
  have hgi : ∀ t, hget (hset h rb t) rb = some t := hget_hset_self hs
  have L13 : ∀ x : Nat, shlI .u64 (x : Int) 13 = ((x * 8192 % 18446744073709551616 : Nat) : Int) := fun x => shl_nat x 13 (by omega)
  have L17 : ∀ x : Nat, shlI .u64 (x : Int) 17 = ((x * 131072 % 18446744073709551616 : Nat) : Int) := fun x => shl_nat x 17 (by omega)
  have R7 : ∀ x : Nat, shrI .u64 (x : Int) 7 = ((x / 128 : Nat) : Int) := fun x => shr_nat x 7 (by omega)
  obtain ⟨A, hA⟩ : ∃ A, X ^^^ (X * 8192 % 18446744073709551616) = A := ⟨_, rfl⟩
  obtain ⟨B, hB⟩ : ∃ B, A ^^^ (A / 128) = B := ⟨_, rfl⟩
  have hA2 : A < 18446744073709551616 := by
    have : A < 2 ^ 64 := by rw [← hA]; exact Nat.xor_lt_two_pow (by omega) (by omega)
    omega
  have hB2 : B < 18446744073709551616 := by
    have : B < 2 ^ 64 := by rw [← hB]; exact Nat.xor_lt_two_pow (by omega) (by omega)
    omega
  have hN : xorNextN X = B ^^^ (B * 131072 % 18446744073709551616) := by unfold xorNextN; simp only [hA, hB]
  have x1 := xor_nat (a := X) (b := X * 8192 % 18446744073709551616) hX (by omega)
  have x2 := xor_nat (a := A) (b := A / 128) hA2 (by omega)
  have x3 := xor_nat (a := B) (b := B * 131072 % 18446744073709551616) hB2 (by omega)
  rw [hA] at x1
  rw [hB] at x2
  rw [← hN] at x3
  refine callE_of_T (P := Tryz.prog) hti (nt := 33) (rs := [.tmp 2]) rfl rfl Tryz.call130 Tryz.func130 rfl _ (by simp only [go_sem, and_self]) (Nat.le_of_ble_eq_true rfl) _ fun hok => ?_
  simp only [go_sem, Nat.reduceLT]
  refine T_drawG hti 10 [9] (.b 0 0 (.b 0 1 (.b 0 2 (.b 0 3 (.b 0 4 (.b 0 5 (.b 0 6 (.b 0 7 (.b 0 8 (.b 4 9 (.f) .o) .o) .o) .o) .o) .o) .o) .o) .o) .o) _ _ (by kernel_rfl) (by kernel_rfl) ?_
  simp only [go_sem, Nat.reduceLT, reduceIte, Int.reduceLE, hs, hr, L13, x1]
  refine T_drawG hti 10 [9] (.b 0 0 (.b 0 1 (.b 0 2 (.b 0 3 (.b 0 4 (.b 0 5 (.b 0 6 (.b 0 7 (.b 0 8 (.b 4 9 (.f) .o) .o) .o) .o) .o) .o) .o) .o) .o) .o) _ _ (by kernel_rfl) (by kernel_rfl) ?_
  simp only [go_sem, Nat.reduceLT, reduceIte, Int.reduceLE, hgi, hr, R7, x2]
  refine T_drawG hti 10 [9] (.b 0 0 (.b 0 1 (.b 0 2 (.b 0 3 (.b 0 4 (.b 0 5 (.b 0 6 (.b 0 7 (.b 0 8 (.b 4 9 (.f) .o) .o) .o) .o) .o) .o) .o) .o) .o) .o) _ _ (by kernel_rfl) (by kernel_rfl) ?_
  simp only [go_sem, Nat.reduceLT, reduceIte, Int.reduceLE, hgi, hr, L17, x3, hset_hset]
theorem pow2_E (m : Nat) (hm : m < 4611686018427387904) (K : HK) (hK : K (.int .u64 ((1 <<< bitsLen m : Nat) : Int)) h n) : CallE Tryz.prog cx 129 [.int .i64 m] h n K := by
  have hb : bitsLen m ≤ 62 := (bitsLen_le_iff m 62).2 (by omega)
  have hp := Nat.pow_le_pow_right (n := 2) (by omega) hb
  have L := shl_nat 1 (bitsLen m) (by omega)
  rw [Nat.one_mul, Nat.mod_eq_of_lt (by omega), ← Nat.one_shiftLeft] at L
  have L' : shlI .u64 1 ((bitsLen m : Nat) : Int) = ((1 <<< bitsLen m : Nat) : Int) := L
  refine callE_of_T (P := Tryz.prog) hti (nt := 7) (rs := [.tmp 2]) rfl rfl Tryz.call129 Tryz.func129 rfl _ (by simp only [go_sem, and_self]) (Nat.le_of_ble_eq_true rfl) _ fun hok => ?_
  simp only [go_sem, Nat.reduceLT, show IntKind.u64.wrap (m : Int) = (m : Int) by rw [IntKind.wrap_u64]; omega]
  refine callA_false (lenx_E _ _ _ m (by omega) _ ?_)
  simp only [go_sem, Nat.reduceLT, L', show ((0 : Int) ≤ ((bitsLen m : Nat) : Int)) = True from eq_true (by omega)]
  exact hK
set_option maxRecDepth 100000 in
set_option maxHeartbeats 1600000 in
theorem breakPat_E (i cap : Nat) (d : Array (Int × Int)) (own : Option (Nat × Nat)) (a b : Nat) (f p q : Nat) (G F : Nat → SV) (cI : Int × Int → Int × Int → Int) (lt : Int × Int → Int × Int → Bool) (hlt : ∀ x y, decide (cI x y < 0) = lt x y)
    (hs : hget h i = some ⟨d.size * 2, spotsC d.toList, true, own⟩) (hi0 : i < n) (hb : b ≤ d.size) (h2 : a + 2 ≤ b) (hm9 : d.size ≤ 1000000000) (hF : (SV.fn f p G q F).lt n) (hcmp : Cmps cx h n i f p q G F cI) (K : HK)
    (hK : K (.tup 0 (cl [])) (hset h i ⟨d.size * 2, spotsC (breakPatterns d a b).toList, true, own⟩) n) :
    CallE Tryz.prog cx 122 [.sl i 0 d.size cap, .int .i64 a, .int .i64 b, .fn f p G q F] h n K := by
  refine CallE.to _ _ (by simp only [go_sem]) (fun hok => hok_set hok fun k hk => spotsC_flat _ _) hK ?_
  have hgi : ∀ t, hget (hset h i t) i = some t := hget_hset_self hs
  have hFl : (SV.fn f p G q F).lt n = True := eq_true hF
  have b6 : (2 = d.size * 2) = False := eq_false (by omega)
  have ca0 : a < d.size := by omega
  refine callE_of_T (P := Tryz.prog) hti (nt := 67) (rs := []) rfl rfl Tryz.call122 Tryz.func122 rfl _ (by simp only [go_sem, and_self]) (Nat.le_of_ble_eq_true rfl) _ fun hok => ?_
  have W0 := w64N (a := (b : Int) - (a : Int)) (k := b - a) (by omega) (by omega)
  by_cases h8 : b - a ≥ 8
  rotate_left
  · have e : breakPatterns d a b = d := by unfold breakPatterns; simp only []; rw [if_neg h8]
    rw [e]
    simp only [go_sem, Nat.reduceLT, W0, show ((8 : Int) ≤ ((b - a : Nat) : Int)) = False from eq_false (by omega), hset_self hs]
  obtain ⟨L, hL⟩ : ∃ L, b - a = L := ⟨_, rfl⟩
  obtain ⟨M, hM⟩ : ∃ M, 1 <<< bitsLen L = M := ⟨_, rfl⟩
  obtain ⟨Q, hQ⟩ : ∃ Q, L / 4 = Q := ⟨_, rfl⟩
  have hM2 : 1 ≤ M ∧ M ≤ 2 * L := by
    rw [← hM, Nat.one_shiftLeft]
    exact ⟨Nat.two_pow_pos _, two_pow_bitsLen_le (by omega)⟩
  have hbp : breakPatterns d a b = bpR a L M (a + Q * 2 - 1) 3 (UInt64.ofNat L, d) := by
    unfold breakPatterns
    simp only [hL, hM, hQ]
    rw [if_pos (by omega)]
    rfl
  rw [hL] at W0 h8
  have W1 : IntKind.i64.wrap (((L : Nat) : Int).tdiv 4) = (Q : Int) := by rw [Int.tdiv_eq_ediv_of_nonneg (by omega)]; exact w64N (by omega) (by omega)
  have W2 := w64N (a := (Q : Int) * 2) (k := Q * 2) (by omega) (by omega)
  have W3 := w64N (a := (a : Int) + ((Q * 2 : Nat) : Int)) (k := a + Q * 2) (by omega) (by omega)
  have W4 := w64N (a := ((a + Q * 2 : Nat) : Int) - 1) (k := a + Q * 2 - 1) (by omega) (by omega)
  have W5 := w64N (a := ((a + Q * 2 : Nat) : Int) + 1) (k := a + Q * 2 + 1) (by omega) (by omega)
  have U0 : IntKind.u64.wrap (L : Int) = (L : Int) := by rw [IntKind.wrap_u64]; omega
  have U1 : IntKind.u64.wrap ((M : Int) - 1) = ((M - 1 : Nat) : Int) := by rw [IntKind.wrap_u64]; omega
  have hLu : (UInt64.ofNat L).toNat = L := by rw [UInt64.toNat_ofNat']; omega
  simp only [go_sem, Nat.reduceLT, Nat.reduceEqDiff, reduceIte, W0, U0, show ((8 : Int) ≤ ((L : Nat) : Int)) = True from eq_true (by omega)]
  refine callA_false (pow2_E _ _ _ L (by omega) _ ?_)
  rw [hM]
  simp only [go_sem, Nat.reduceLT, Int.reduceEq, W0, W1, W2, W3, W4]
  rw [hbp]
  refine T_lp (ι := { w : Nat × UInt64 × Array (Int × Int) // w.1 ≤ 3 ∧ w.2.2.size = d.size ∧ bpR a L M (a + Q * 2 - 1) w.1 w.2 = bpR a L M (a + Q * 2 - 1) 3 (UInt64.ofNat L, d) })
    (fun w => ([(0, .sl i 0 d.size cap), (1, .int .i64 a), (8, .int .i64 L), (9, .ptr n 0), (10, .int .u64 M), (11, .int .i64 ((a + Q * 2 - 1 + (3 - w.1.1) : Nat) : Int))], (n, ⟨1, cl [.int .u64 ((w.1.2.1.toNat : Nat) : Int)], true, none⟩) :: hset h i ⟨d.size * 2, spotsC w.1.2.2.toList, true, own⟩, n + 1)) (fun w => w.1.1) ⟨(3, UInt64.ofNat L, d), Nat.le_refl _, rfl, rfl⟩ ?_ ?_
  · refine Imp.id (by simp) ?_ ?_
    · simp only [go_sem, Nat.reduceLT, hi0, Nat.sub_self]
      (try (repeat' apply And.intro) <;> first | omega | rfl | trivial | assumption | skip)
    · refine impH.cons0 (s := ⟨1, cl [.int .u64 (L : Int)], true, none⟩) (by first | (simp only [go_sem]; done) | (simp only [go_sem, Nat.reduceBEq, Nat.reduceLT, Nat.reduceLeDiff, Nat.reduceAdd, Nat.reduceMul, Nat.reduceSub, Nat.reduceMod, Nat.reduceDiv, Nat.reduceEqDiff, Int.reduceToNat, reduceIte, reduceCtorEq, Int.reduceLE, Int.reduceLT, Int.reduceEq, Int.reduceNeg, Int.reduceAdd, Int.reduceSub, Int.reduceMul]; rfl)) (by simp) (SegLe.flat (Nat.le_refl _) id (.inr rfl) fun k hk => ⟨by rw [hLu], cl_flat (l := [_]) (by simp [SV.flat]) hk⟩) ?_
      rw [hset_self hs]
      exact impH.base0 hok (by simp) (by simp only [go_sem, HExt_cons])
  · rintro ⟨⟨k, r, D⟩, hk, hD, hR⟩
    simp only at hk hD hR
    have hrl := r.toNat_lt
    cases k with
    | zero =>
      rw [bpR] at hR
      have hR' : D = bpR a L M (a + Q * 2 - 1) 3 (UInt64.ofNat L, d) := hR
      simp only [go_sem, Nat.reduceLT, Nat.reduceSub, Int.reduceEq, W1, W2, W3, W5, show (((a + Q * 2 - 1 + (3 - 0) : Nat) : Int) ≤ ((a + Q * 2 + 1 : Nat) : Int)) = False from eq_false (by omega)]
      rw [hR']
      (try simp only [go_sem, HExt_cons])
    | succ k =>
      obtain ⟨o0, ho0⟩ : ∃ o, xorNextN r.toNat &&& (M - 1) = o := ⟨_, rfl⟩
      have ho1 : o0 ≤ M - 1 := by rw [← ho0]; exact Nat.and_le_right
      obtain ⟨o, ho⟩ : ∃ o, (if o0 ≥ L then o0 - L else o0) = o := ⟨_, rfl⟩
      have hoL : o < L := by rw [← ho]; split <;> omega
      have hbs : breakStep a L M (r, D) (a + Q * 2 - 1 + (2 - k)) = (xorNext r, swp D (a + Q * 2 - 1 + (2 - k)) (a + o)) := by
        unfold breakStep
        simp only [xorNext_toNat, ho0, ho]
      rw [bpR, hbs] at hR
      have e3 : a + Q * 2 - 1 + (3 - (k + 1)) = a + Q * 2 - 1 + (2 - k) := by omega
      have hxl := xorNextN_lt r.toNat (by omega)
      have a1 := and_nat (a := xorNextN r.toNat) (b := M - 1) (by omega) (by omega)
      rw [ho0] at a1
      have cX : a + Q * 2 - 1 + (2 - k) < d.size := by omega
      have cO : a + o < d.size := by omega
      have W6 := w64N (a := (o0 : Int)) (k := o0) rfl (by omega)
      have W7 := w64N (a := (a : Int) + (o : Int)) (k := a + o) (by omega) (by omega)
      have hgn : ∀ t u, hget ((n, u) :: hset h i t) i = some t := fun t u => (hget_miss _ _ _ _ (by simp; omega)).trans (hgi t)
      rw [e3]
      simp only [go_sem, Nat.reduceLT, Int.reduceEq, W1, W2, W3, W5, show (((a + Q * 2 - 1 + (2 - k) : Nat) : Int) ≤ ((a + Q * 2 + 1 : Nat) : Int)) = True from eq_true (by omega)]
      refine callA_false (next64_E _ _ _ n r.toNat (by omega) (hget_hit _ _ _) (by omega) _ ?_)
      by_cases hoo : o0 ≥ L
      · rw [if_pos hoo] at ho
        simp only [go_sem, Nat.reduceLT, U1, a1, W6, show ((L : Int) ≤ (o0 : Int)) = True from eq_true (by omega), w64N (a := (o0 : Int) - (L : Int)) (k := o) (by omega) (by omega)]
        refine T_drawG hti 20 [17, 19] (.b 0 0 (.b 0 1 (.b 0 2 (.b 0 3 (.b 0 4 (.b 0 5 (.b 0 6 (.b 0 7 (.b 0 8 (.b 0 9 (.b 0 10 (.b 0 11 (.b 0 12 (.b 0 13 (.b 0 14 (.b 0 15 (.b 0 16 (.b 4 17 (.b 0 18 (.b 4 19 (.f) .o) .o) .o) .o) .o) .o) .o) .o) .o) .o) .o) .o) .o) .o) .o) .o) .o) .o) .o) .o) _ _ (by kernel_rfl) (by kernel_rfl) ?_
        simp only [go_sem, Nat.reduceLT, hgi, hi0, W7, ix_r cX, ix_r cO, ix_b cX, ix_b cO, ix_c cX, ix_c cO, spotsC_x, spotsC_y, b6, and_false, if_false, hset_hset]
        rw [swap_fn D (a := (a + Q * 2 - 1 + (2 - k))) (b := (a + o)) (by omega) (by omega)]
        refine ⟨⟨(k, xorNext r, swp D (a + Q * 2 - 1 + (2 - k)) (a + o)), by show k ≤ 3; omega, (swp_size _ _ _).trans hD, hR⟩, by show k < k + 1; omega, ?_⟩
        refine Imp.id (by simp) ?_ ?_
        · simp only [go_sem, Nat.reduceLT, hi0, w64N (a := ((a + Q * 2 - 1 + (2 - k) : Nat) : Int) + 1) (k := a + Q * 2 - 1 + (3 - k)) (by omega) (by omega)]
          (try (repeat' apply And.intro) <;> first | omega | rfl | trivial | assumption | skip)
        · exact impH.cons0 (hget_hit _ _ _) (by simp) (SegLe.flat (Nat.le_refl _) id (.inr rfl) fun k hk => ⟨by rw [xorNext_toNat], cl_flat (l := [_]) (by simp [SV.flat]) hk⟩) (impH.base0 (hok_set hok fun k hk => spotsC_flat _ _) (by omega) (by simp only [go_sem, HExt_cons]))
      · rw [if_neg hoo] at ho
        subst ho
        simp only [go_sem, Nat.reduceLT, U1, a1, W6, show ((L : Int) ≤ (o0 : Int)) = False from eq_false (by omega)]
        refine T_drawG hti 20 [17, 19] (.b 0 0 (.b 0 1 (.b 0 2 (.b 0 3 (.b 0 4 (.b 0 5 (.b 0 6 (.b 0 7 (.b 0 8 (.b 0 9 (.b 0 10 (.b 0 11 (.b 0 12 (.b 0 13 (.b 0 14 (.b 0 15 (.b 0 16 (.b 4 17 (.b 0 18 (.b 4 19 (.f) .o) .o) .o) .o) .o) .o) .o) .o) .o) .o) .o) .o) .o) .o) .o) .o) .o) .o) .o) .o) _ _ (by kernel_rfl) (by kernel_rfl) ?_
        simp only [go_sem, Nat.reduceLT, hgi, hi0, W7, ix_r cX, ix_r cO, ix_b cX, ix_b cO, ix_c cX, ix_c cO, spotsC_x, spotsC_y, b6, and_false, if_false, hset_hset]
        rw [swap_fn D (a := (a + Q * 2 - 1 + (2 - k))) (b := (a + o0)) (by omega) (by omega)]
        refine ⟨⟨(k, xorNext r, swp D (a + Q * 2 - 1 + (2 - k)) (a + o0)), by show k ≤ 3; omega, (swp_size _ _ _).trans hD, hR⟩, by show k < k + 1; omega, ?_⟩
        refine Imp.id (by simp) ?_ ?_
        · simp only [go_sem, Nat.reduceLT, hi0, w64N (a := ((a + Q * 2 - 1 + (2 - k) : Nat) : Int) + 1) (k := a + Q * 2 - 1 + (3 - k)) (by omega) (by omega)]
          (try (repeat' apply And.intro) <;> first | omega | rfl | trivial | assumption | skip)
        · exact impH.cons0 (hget_hit _ _ _) (by simp) (SegLe.flat (Nat.le_refl _) id (.inr rfl) fun k hk => ⟨by rw [xorNext_toNat], cl_flat (l := [_]) (by simp [SV.flat]) hk⟩) (impH.base0 (hok_set hok fun k hk => spotsC_flat _ _) (by omega) (by simp only [go_sem, HExt_cons]))
end
end Go.Proofs.YtfelopllfhcdpaaGreat.V

/- The library's sort of spots. -/
namespace Go.Proofs.YtfelopllfhcdpaaGreat.V
open Go.Sort (bitsLen swp insertionSort heapSort breakPatterns choosePivot reverseRange partialInsertionSort partition partitionEqual pdq rd Hint hintCode SWO Below rd_facts rd_c rd_true rd_false rd_dec rd_not rd_pi_yes rd_pi_no rd_lim_le round_part round_eq pdq_small pdq_heap pdq_done pdq_eq pdq_left pdq_right insertionSort_holds heapSort_holds partialInsertionSort_holds partition_holds partitionEqual_holds reverseRange_holds pdq_sorts)
section
variable (cx : Cx) (h : List (Nat × Seg)) (n : Nat)
theorem insSort_M (i cap : Nat) (d : Array (Int × Int)) (m : Nat) (hm : d.size = m) (own : Option (Nat × Nat)) (a b : Nat) (f p q : Nat) (G F : Nat → SV) (cI : Int × Int → Int × Int → Int) (lt : Int × Int → Int × Int → Bool) (hlt : ∀ x y, decide (cI x y < 0) = lt x y)
    (hs : hget h i = some ⟨m * 2, spotsC d.toList, true, own⟩) (hi0 : i < n) (hb : b ≤ m) (hab : a ≤ b) (hm9 : m ≤ 1000000000) (hF : (SV.fn f p G q F).lt n) (hcmp : CmpA cx n f p q G F cI) (K : HK)
    (hK : K (.tup 0 (cl [])) (hset h i ⟨m * 2, spotsC (insertionSort lt d a b).toList, true, own⟩) n) :
    CallE Tryz.prog cx 120 [.sl i 0 m cap, .int .i64 a, .int .i64 b, .fn f p G q F] h n K := by
  subst hm
  exact insSort_E cx h n i cap d own a b f p q G F cI lt hlt hs hi0 hb hab hm9 hF (hcmp.cmps h i) K hK
theorem heapSort_M (i cap : Nat) (d : Array (Int × Int)) (m : Nat) (hm : d.size = m) (own : Option (Nat × Nat)) (a b : Nat) (f p q : Nat) (G F : Nat → SV) (cI : Int × Int → Int × Int → Int) (lt : Int × Int → Int × Int → Bool) (hlt : ∀ x y, decide (cI x y < 0) = lt x y)
    (hs : hget h i = some ⟨m * 2, spotsC d.toList, true, own⟩) (hi0 : i < n) (hb : b ≤ m) (h2 : a + 2 ≤ b) (hm9 : m ≤ 1000000000) (hF : (SV.fn f p G q F).lt n) (hcmp : CmpA cx n f p q G F cI) (K : HK)
    (hK : K (.tup 0 (cl [])) (hset h i ⟨m * 2, spotsC (heapSort lt d a b).toList, true, own⟩) n) :
    CallE Tryz.prog cx 121 [.sl i 0 m cap, .int .i64 a, .int .i64 b, .fn f p G q F] h n K := by
  subst hm
  exact heapSort_E cx h n i cap d own a b f p q G F cI lt hlt hs hi0 hb h2 hm9 hF (hcmp.cmps h i) K hK
theorem breakPat_M (i cap : Nat) (d : Array (Int × Int)) (m : Nat) (hm : d.size = m) (own : Option (Nat × Nat)) (a b : Nat) (f p q : Nat) (G F : Nat → SV) (cI : Int × Int → Int × Int → Int) (lt : Int × Int → Int × Int → Bool) (hlt : ∀ x y, decide (cI x y < 0) = lt x y)
    (hs : hget h i = some ⟨m * 2, spotsC d.toList, true, own⟩) (hi0 : i < n) (hb : b ≤ m) (h2 : a + 2 ≤ b) (hm9 : m ≤ 1000000000) (hF : (SV.fn f p G q F).lt n) (hcmp : CmpA cx n f p q G F cI) (K : HK)
    (hK : K (.tup 0 (cl [])) (hset h i ⟨m * 2, spotsC (breakPatterns d a b).toList, true, own⟩) n) :
    CallE Tryz.prog cx 122 [.sl i 0 m cap, .int .i64 a, .int .i64 b, .fn f p G q F] h n K := by
  subst hm
  exact breakPat_E cx h n i cap d own a b f p q G F cI lt hlt hs hi0 hb h2 hm9 hF (hcmp.cmps h i) K hK
theorem reverseRange_M (i cap : Nat) (d : Array (Int × Int)) (m : Nat) (hm : d.size = m) (own : Option (Nat × Nat)) (a b : Nat) (f p q : Nat) (G F : Nat → SV) (cI : Int × Int → Int × Int → Int) (lt : Int × Int → Int × Int → Bool) (hlt : ∀ x y, decide (cI x y < 0) = lt x y)
    (hs : hget h i = some ⟨m * 2, spotsC d.toList, true, own⟩) (hi0 : i < n) (hb : b ≤ m) (h2 : a + 2 ≤ b) (hm9 : m ≤ 1000000000) (hF : (SV.fn f p G q F).lt n) (hcmp : CmpA cx n f p q G F cI) (K : HK)
    (hK : K (.tup 0 (cl [])) (hset h i ⟨m * 2, spotsC (reverseRange d a b).toList, true, own⟩) n) :
    CallE Tryz.prog cx 124 [.sl i 0 m cap, .int .i64 a, .int .i64 b, .fn f p G q F] h n K := by
  subst hm
  exact reverseRange_E cx h n i cap d own a b f p q G F cI lt hlt hs hi0 hb h2 hm9 hF (hcmp.cmps h i) K hK
theorem partialIns_M (i cap : Nat) (d : Array (Int × Int)) (m : Nat) (hm : d.size = m) (own : Option (Nat × Nat)) (a b : Nat) (f p q : Nat) (G F : Nat → SV) (cI : Int × Int → Int × Int → Int) (lt : Int × Int → Int × Int → Bool) (hlt : ∀ x y, decide (cI x y < 0) = lt x y)
    (hs : hget h i = some ⟨m * 2, spotsC d.toList, true, own⟩) (hi0 : i < n) (hb : b ≤ m) (h2 : a + 2 ≤ b) (hm9 : m ≤ 1000000000) (hF : (SV.fn f p G q F).lt n) (hcmp : CmpA cx n f p q G F cI) (K : HK)
    (hK : K (.bool (partialInsertionSort lt d a b).2) (hset h i ⟨m * 2, spotsC (partialInsertionSort lt d a b).1.toList, true, own⟩) n) :
    CallE Tryz.prog cx 125 [.sl i 0 m cap, .int .i64 a, .int .i64 b, .fn f p G q F] h n K := by
  subst hm
  exact partialIns_E cx h n i cap d own a b f p q G F cI lt hlt hs hi0 hb h2 hm9 hF (hcmp.cmps h i) K hK
theorem choosePivot_M (i cap : Nat) (d : Array (Int × Int)) (m : Nat) (hm : d.size = m) (own : Option (Nat × Nat)) (a b : Nat) (f p q : Nat) (G F : Nat → SV) (cI : Int × Int → Int × Int → Int) (lt : Int × Int → Int × Int → Bool) (hlt : ∀ x y, decide (cI x y < 0) = lt x y)
    (hs : hget h i = some ⟨m * 2, spotsC d.toList, true, own⟩) (hi0 : i < n) (hb : b ≤ m) (hab : a < b) (hm9 : m ≤ 1000000000) (hF : (SV.fn f p G q F).lt n) (hcmp : CmpA cx n f p q G F cI) (K : HK)
    (hK : K (.tup 2 (cl [.int .i64 ((choosePivot lt d a b).1 : Nat), .int .i64 (hintCode (choosePivot lt d a b).2)])) h n) :
    CallE Tryz.prog cx 123 [.sl i 0 m cap, .int .i64 a, .int .i64 b, .fn f p G q F] h n K := by
  subst hm
  exact choosePivot_E cx h n i cap d own f p q G F cI lt hlt hs hi0 hm9 hF hcmp a b hab hb K hK
theorem partition_M (i cap : Nat) (d : Array (Int × Int)) (m : Nat) (hm : d.size = m) (own : Option (Nat × Nat)) (a b pivot : Nat) (f p q : Nat) (G F : Nat → SV) (cI : Int × Int → Int × Int → Int) (lt : Int × Int → Int × Int → Bool) (hlt : ∀ x y, decide (cI x y < 0) = lt x y)
    (hs : hget h i = some ⟨m * 2, spotsC d.toList, true, own⟩) (hi0 : i < n) (hap : a ≤ pivot) (hpb : pivot < b) (hb : b ≤ m) (h2 : a + 2 ≤ b) (hm9 : m ≤ 1000000000) (hF : (SV.fn f p G q F).lt n) (hcmp : CmpA cx n f p q G F cI) (K : HK)
    (hK : K (.tup 2 (cl [.int .i64 ((partition lt d a b pivot).1 : Nat), .bool (partition lt d a b pivot).2.1])) (hset h i ⟨m * 2, spotsC (partition lt d a b pivot).2.2.toList, true, own⟩) n) :
    CallE Tryz.prog cx 127 [.sl i 0 m cap, .int .i64 a, .int .i64 b, .int .i64 pivot, .fn f p G q F] h n K := by
  subst hm
  exact partition_E cx h n i cap d own a b pivot f p q G F cI lt hlt hs hi0 hap hpb hb h2 hm9 hF (hcmp.cmps h i) K hK
theorem partitionEq_M (i cap : Nat) (d : Array (Int × Int)) (m : Nat) (hm : d.size = m) (own : Option (Nat × Nat)) (a b pivot : Nat) (f p q : Nat) (G F : Nat → SV) (cI : Int × Int → Int × Int → Int) (lt : Int × Int → Int × Int → Bool) (hlt : ∀ x y, decide (cI x y < 0) = lt x y)
    (hs : hget h i = some ⟨m * 2, spotsC d.toList, true, own⟩) (hi0 : i < n) (hap : a ≤ pivot) (hpb : pivot < b) (hb : b ≤ m) (h2 : a + 2 ≤ b) (hm9 : m ≤ 1000000000) (hF : (SV.fn f p G q F).lt n) (hcmp : CmpA cx n f p q G F cI) (K : HK)
    (hK : K (.int .i64 ((partitionEqual lt d a b pivot).1 : Nat)) (hset h i ⟨m * 2, spotsC (partitionEqual lt d a b pivot).2.toList, true, own⟩) n) :
    CallE Tryz.prog cx 126 [.sl i 0 m cap, .int .i64 a, .int .i64 b, .int .i64 pivot, .fn f p G q F] h n K := by
  subst hm
  exact partitionEqual_E cx h n i cap d own a b pivot f p q G F cI lt hlt hs hi0 hap hpb hb h2 hm9 hF (hcmp.cmps h i) K hK
theorem hint_2 {x : Hint} : (hintCode x = 2) = (x = .decreasing) := by cases x <;> simp [hintCode]
theorem hint_1 {x : Hint} : (hintCode x = 1) = (x = .increasing) := by cases x <;> simp [hintCode]
set_option maxRecDepth 100000 in
set_option maxHeartbeats 3200000 in
theorem pdq_E (f p q : Nat) (G F : Nat → SV) (cI : Int × Int → Int × Int → Int) (lt : Int × Int → Int × Int → Bool) (hlt : ∀ x y, decide (cI x y < 0) = lt x y) (swo : SWO lt) : ∀ (N : Nat) (cx : Cx) (h : List (Nat × Seg)) (n i cap : Nat) (d : Array (Int × Int)) (m : Nat) (hm : d.size = m) (own : Option (Nat × Nat)) (a b limit : Nat) (hN : b - a < N)
    (hs : hget h i = some ⟨m * 2, spotsC d.toList, true, own⟩) (hi0 : i < n) (hab : a ≤ b) (hb : b ≤ m) (hm9 : m ≤ 1000000000) (hlim : limit ≤ 1000) (hBel : Below lt a b d) (hF : (SV.fn f p G q F).lt n) (hcmp : CmpA cx n f p q G F cI) (K : HK)
    (hK : K (.tup 0 (cl [])) (hset h i ⟨m * 2, spotsC (pdq lt d a b limit true true).toList, true, own⟩) n),
    CallE Tryz.prog cx 108 [.sl i 0 m cap, .int .i64 a, .int .i64 b, .int .i64 limit, .fn f p G q F] h n K := by
  intro N
  induction N with
  | zero => intro _ _ _ _ _ _ _ _ _ a b _ hN; exact absurd hN (Nat.not_lt_zero _)
  | succ N ih =>
    intro cx h n i cap d m hm own a b limit hN hs hi0 hab hb hm9 hlim hBel hF hcmp K hK
    refine CallE.to _ _ (by simp only [go_sem]) (fun hok => hok_set hok fun k hk => spotsC_flat _ _) hK ?_
    have hgi : ∀ t, hget (hset h i t) i = some t := hget_hset_self hs
    have hFl : (SV.fn f p G q F).lt n = True := eq_true hF
    refine callE_of_SW (P := Tryz.prog) hti (nt := 148) (rs := []) rfl rfl Tryz.call108 Tryz.func108 rfl _ (by simp only [go_sem, and_self]) (Nat.le_of_ble_eq_true rfl) _ fun hok => ?_
    refine SW_seq (SW_run hti trivial ?_)
    simp only [go_sem, Nat.reduceLT]
    refine SW_seq (SW_run hti trivial ?_)
    simp only [go_sem, Nat.reduceLT]
    refine SW_block (SW_lp (ι := { w : (Nat × Nat × Nat) × (Bool × Bool) × Array (Int × Int) // (w.1.1 ≤ w.1.2.1 ∧ w.1.2.1 ≤ m ∧ w.1.2.1 - w.1.1 ≤ b - a ∧ w.1.2.2 ≤ limit) ∧ w.2.2.size = m ∧ Below lt w.1.1 w.1.2.1 w.2.2 ∧ pdq lt w.2.2 w.1.1 w.1.2.1 w.1.2.2 w.2.1.1 w.2.1.2 = pdq lt d a b limit true true })
      (fun w => ([(0, .sl i 0 m cap), (1, .int .i64 ((w.1.1.1 : Nat) : Int)), (2, .int .i64 ((w.1.1.2.1 : Nat) : Int)), (3, .int .i64 ((w.1.1.2.2 : Nat) : Int)), (4, .fn f p G q F), (10, .bool w.1.2.1.1), (11, .bool w.1.2.1.2)], hset h i ⟨m * 2, spotsC w.1.2.2.toList, true, own⟩, n)) (fun w => w.1.1.2.1 - w.1.1.1) ⟨((a, b, limit), (true, true), d), ⟨hab, hb, Nat.le_refl _, Nat.le_refl _⟩, hm, hBel, rfl⟩ ?_ ?_)
    · refine Imp.id (by simp) ?_ ?_
      · simp only [go_sem, Nat.reduceLT, hFl, hi0]
        (try (repeat' apply And.intro) <;> first | omega | rfl | trivial | assumption | skip)
      · rw [hset_self hs]; exact impH.base0 hok (by simp) HExt.rfl
    rintro ⟨⟨⟨a', b', lim⟩, ⟨wb, wp⟩, D⟩, ⟨g1, g2, g3, g4⟩, hD, hB, hR⟩
    simp only at g1 g2 g3 g4 hD hB hR
    have W0 := w64N (a := (b' : Int) - (a' : Int)) (k := b' - a') (by omega) (by omega)
    refine SW_block (SW_seq (SW_run hti trivial ?_))
    simp only [go_sem, Nat.reduceLT, W0]
    refine SW_seq (SW_run hti trivial ?_)
    by_cases h12 : b' - a' ≤ 12
    · simp only [go_sem, Nat.reduceLT, show (((b' - a' : Nat) : Int) ≤ 12) = True from eq_true (by omega)]
      refine callA_false (insSort_M _ _ _ i cap D m hD own a' b' f p q G F cI lt hlt (hgi _) hi0 g2 g1 hm9 hF (hcmp.nt _ _) _ ?_)
      rw [← hR, pdq_small h12]
      simp only [go_sem, hset_hset]
    simp only [go_sem, Nat.reduceLT, show (((b' - a' : Nat) : Int) ≤ 12) = False from eq_false (by omega)]
    refine SW_seq (SW_run hti trivial ?_)
    by_cases hl0 : lim = 0
    · subst hl0
      simp only [go_sem, Nat.reduceLT, show (((0 : Nat) : Int) = 0) = True from eq_true rfl]
      refine callA_false (heapSort_M _ _ _ i cap D m hD own a' b' f p q G F cI lt hlt (hgi _) hi0 g2 (by omega) hm9 hF (hcmp.nt _ _) _ ?_)
      rw [← hR, pdq_heap h12 rfl]
      simp only [go_sem, hset_hset]
    simp only [go_sem, Nat.reduceLT, show ((lim : Int) = 0) = False from eq_false (by omega)]
    obtain ⟨s1, B1, hc1, s2, B2, hpv, s3, B3⟩ := rd_facts (limit := lim) (wb := wb) (wp := wp) swo partialInsertionSort_holds reverseRange_holds (show a' < b' by omega) (show b' ≤ D.size by omega) hB
    have hlm : (rd lt D a' b' lim wb wp).lim ≤ lim := rd_lim_le
    obtain ⟨r, hrd⟩ : ∃ r, rd lt D a' b' lim wb wp = r := ⟨_, rfl⟩
    refine SW_seq (SW_cut hti (ι := Unit) (fun _ => ([(0, .sl i 0 m cap), (1, .int .i64 ((a' : Nat) : Int)), (2, .int .i64 ((b' : Nat) : Int)), (3, .int .i64 (((rd lt D a' b' lim wb wp).lim : Nat) : Int)), (4, .fn f p G q F), (10, .bool wb), (11, .bool wp), (12, .int .i64 ((b' - a' : Nat) : Int))], hset h i ⟨m * 2, spotsC (rd lt D a' b' lim wb wp).d1.toList, true, own⟩, n)) trivial ?_ ?_)
    · cases wb
      · simp only [go_sem, Nat.reduceLT]
        refine callA_false (breakPat_M _ _ _ i cap D m hD own a' b' f p q G F cI lt hlt (hgi _) hi0 g2 (by omega) hm9 hF (hcmp.nt _ _) _ ?_)
        simp only [go_sem, Nat.reduceLT, hset_hset, w64N (a := (lim : Int) - 1) (k := lim - 1) (by omega) (by omega)]
        refine ⟨(), Imp.id (by simp) ?_ (impH.base0 (hok_set hok fun k hk => spotsC_flat _ _) (by simp) HExt.rfl)⟩
        simp only [go_sem, Nat.reduceLT, hFl, hi0, (rd_false (lt := lt) (d := D) (a := a') (b := b') (limit := lim) (wp := wp)).2]
        (try (repeat' apply And.intro) <;> first | omega | rfl | trivial | assumption | skip)
      · simp only [go_sem, Nat.reduceLT]
        refine ⟨(), Imp.id (by simp) ?_ (impH.base0 (hok_set hok fun k hk => spotsC_flat _ _) (by simp) HExt.rfl)⟩
        simp only [go_sem, Nat.reduceLT, hFl, hi0, (rd_true (lt := lt) (d := D) (a := a') (b := b') (limit := lim) (wp := wp)).2]
        (try (repeat' apply And.intro) <;> first | omega | rfl | trivial | assumption | skip)
    intro _
    refine SW_seq (SW_run hti trivial ?_)
    simp only [go_sem, Nat.reduceLT]
    refine callA_false (choosePivot_M _ _ _ i cap (rd lt D a' b' lim wb wp).d1 m (s1.trans hD) own a' b' f p q G F cI lt hlt (hgi _) hi0 g2 (by omega) hm9 hF (hcmp.nt _ _) _ ?_)
    rw [← rd_c]
    simp only [go_sem, Nat.reduceLT]
    refine SW_seq (SW_cut hti (ι := Unit) (fun _ => ([(0, .sl i 0 m cap), (1, .int .i64 ((a' : Nat) : Int)), (2, .int .i64 ((b' : Nat) : Int)), (3, .int .i64 (((rd lt D a' b' lim wb wp).lim : Nat) : Int)), (4, .fn f p G q F), (10, .bool wb), (11, .bool wp), (12, .int .i64 ((b' - a' : Nat) : Int)), (13, .int .i64 (((rd lt D a' b' lim wb wp).pivot : Nat) : Int)), (14, .int .i64 (hintCode (rd lt D a' b' lim wb wp).hint))], hset h i ⟨m * 2, spotsC (rd lt D a' b' lim wb wp).d2.toList, true, own⟩, n)) trivial ?_ ?_)
    · by_cases hh : (rd lt D a' b' lim wb wp).c.2 = .decreasing
      · obtain ⟨e2, epv, eht⟩ := rd_dec hh
        simp only [go_sem, Nat.reduceLT, show (hintCode (rd lt D a' b' lim wb wp).c.2 = 2) = True from eq_true (by rw [hh]; rfl)]
        refine callA_false (reverseRange_M _ _ _ i cap (rd lt D a' b' lim wb wp).d1 m (s1.trans hD) own a' b' f p q G F cI lt hlt (hgi _) hi0 g2 (by omega) hm9 hF (hcmp.nt _ _) _ ?_)
        rw [← e2]
        simp only [go_sem, Nat.reduceLT, hset_hset, w64N (a := (b' : Int) - 1) (k := b' - 1) (by omega) (by omega), w64N (a := (((rd lt D a' b' lim wb wp).c.1 : Nat) : Int) - (a' : Int)) (k := (rd lt D a' b' lim wb wp).c.1 - a') (by omega) (by omega), w64N (a := ((b' - 1 : Nat) : Int) - (((rd lt D a' b' lim wb wp).c.1 - a' : Nat) : Int)) (k := b' - 1 - ((rd lt D a' b' lim wb wp).c.1 - a')) (by omega) (by omega)]
        refine ⟨(), Imp.id (by simp) ?_ (impH.base0 (hok_set hok fun k hk => spotsC_flat _ _) (by simp) HExt.rfl)⟩
        simp only [go_sem, Nat.reduceLT, hFl, hi0, epv, eht, hintCode]
        (try (repeat' apply And.intro) <;> first | omega | rfl | trivial | assumption | skip)
      · obtain ⟨e2, epv, eht⟩ := rd_not hh
        simp only [go_sem, Nat.reduceLT, show (hintCode (rd lt D a' b' lim wb wp).c.2 = 2) = False from by rw [hint_2]; exact eq_false hh]
        refine ⟨(), Imp.id (by simp) ?_ (by rw [e2]; exact (impH.base0 (hok_set hok fun k hk => spotsC_flat _ _) (by simp) HExt.rfl))⟩
        simp only [go_sem, Nat.reduceLT, hFl, hi0, epv, eht]
        (try (repeat' apply And.intro) <;> first | omega | rfl | trivial | assumption | skip)
    intro _
    refine SW_seq (SW_cut hti (ι := { u : Unit // (rd lt D a' b' lim wb wp).pi.2 = false }) (fun _ => ([(0, .sl i 0 m cap), (1, .int .i64 ((a' : Nat) : Int)), (2, .int .i64 ((b' : Nat) : Int)), (3, .int .i64 (((rd lt D a' b' lim wb wp).lim : Nat) : Int)), (4, .fn f p G q F), (10, .bool wb), (11, .bool wp), (12, .int .i64 ((b' - a' : Nat) : Int)), (13, .int .i64 (((rd lt D a' b' lim wb wp).pivot : Nat) : Int))], hset h i ⟨m * 2, spotsC (rd lt D a' b' lim wb wp).pi.1.toList, true, own⟩, n)) trivial ?_ ?_)
    · by_cases hw : (wb && wp && decide ((rd lt D a' b' lim wb wp).hint = .increasing)) = true
      · have epi := rd_pi_yes hw
        rw [Bool.and_eq_true, Bool.and_eq_true, decide_eq_true_eq] at hw
        obtain ⟨⟨hwb, hwp⟩, hwh⟩ := hw
        subst hwb hwp
        simp only [go_sem, Nat.reduceLT, show (hintCode (rd lt D a' b' lim true true).hint = 1) = True from eq_true (by rw [hwh]; rfl)]
        refine callA_false (partialIns_M _ _ _ i cap (rd lt D a' b' lim true true).d2 m (s2.trans hD) own a' b' f p q G F cI lt hlt (hgi _) hi0 g2 (by omega) hm9 hF (hcmp.nt _ _) _ ?_)
        rw [← epi]
        by_cases hp2 : (rd lt D a' b' lim true true).pi.2 = true
        · simp only [go_sem, hp2]
          rw [← hR, pdq_done h12 hl0 hp2]
          simp only [go_sem, hset_hset]
        · have hp2 : (rd lt D a' b' lim true true).pi.2 = false := by simpa using hp2
          simp only [go_sem, hp2, hset_hset]
          refine ⟨⟨(), hp2⟩, Imp.id (by simp) ?_ (impH.base0 (hok_set hok fun k hk => spotsC_flat _ _) (by simp) HExt.rfl)⟩
          simp only [go_sem, Nat.reduceLT, hFl, hi0]
          (try (repeat' apply And.intro) <;> first | omega | rfl | trivial | assumption | skip)
      · have hw : (wb && wp && decide ((rd lt D a' b' lim wb wp).hint = .increasing)) = false := by simpa using hw
        have epi := rd_pi_no hw
        have hp2 : (rd lt D a' b' lim wb wp).pi.2 = false := by rw [epi]
        have fin : ∀ (l : List (Nat × SV)), impL l (sig []) n [(0, .sl i 0 m cap), (1, .int .i64 ((a' : Nat) : Int)), (2, .int .i64 ((b' : Nat) : Int)), (3, .int .i64 (((rd lt D a' b' lim wb wp).lim : Nat) : Int)), (4, .fn f p G q F), (10, .bool wb), (11, .bool wp), (12, .int .i64 ((b' - a' : Nat) : Int)), (13, .int .i64 (((rd lt D a' b' lim wb wp).pivot : Nat) : Int))] → ∃ j : { u : Unit // (rd lt D a' b' lim wb wp).pi.2 = false }, Imp ⟨cx.w0, cx.W, 148, n⟩ l (hset h i ⟨m * 2, spotsC (rd lt D a' b' lim wb wp).d2.toList, true, own⟩) n [(0, .sl i 0 m cap), (1, .int .i64 ((a' : Nat) : Int)), (2, .int .i64 ((b' : Nat) : Int)), (3, .int .i64 (((rd lt D a' b' lim wb wp).lim : Nat) : Int)), (4, .fn f p G q F), (10, .bool wb), (11, .bool wp), (12, .int .i64 ((b' - a' : Nat) : Int)), (13, .int .i64 (((rd lt D a' b' lim wb wp).pivot : Nat) : Int))] (hset h i ⟨m * 2, spotsC (rd lt D a' b' lim wb wp).pi.1.toList, true, own⟩) n := fun l hl => ⟨⟨(), hp2⟩, Imp.id (by simp) hl (by rw [epi]; exact (impH.base0 (hok_set hok fun k hk => spotsC_flat _ _) (by simp) HExt.rfl))⟩
        cases wb
        · simp only [go_sem, Nat.reduceLT]
          refine fin _ ?_
          simp only [go_sem, Nat.reduceLT, hFl, hi0]
          (try (repeat' apply And.intro) <;> first | omega | rfl | trivial | assumption | skip)
        · cases wp
          · simp only [go_sem, Nat.reduceLT]
            refine fin _ ?_
            simp only [go_sem, Nat.reduceLT, hFl, hi0]
            (try (repeat' apply And.intro) <;> first | omega | rfl | trivial | assumption | skip)
          · have hwh : ¬ (rd lt D a' b' lim true true).hint = .increasing := by simpa using hw
            simp only [go_sem, Nat.reduceLT, show (hintCode (rd lt D a' b' lim true true).hint = 1) = False from by rw [hint_1]; exact eq_false hwh]
            refine fin _ ?_
            simp only [go_sem, Nat.reduceLT, hFl, hi0]
            (try (repeat' apply And.intro) <;> first | omega | rfl | trivial | assumption | skip)
    rintro ⟨_, hp2⟩
    have s3' : (rd lt D a' b' lim wb wp).pi.1.size = m := s3.trans hD
    obtain ⟨E, hE⟩ : ∃ E, (rd lt D a' b' lim wb wp).pi.1 = E := ⟨_, rfl⟩
    obtain ⟨pv, hpve⟩ : ∃ x, (rd lt D a' b' lim wb wp).pivot = x := ⟨_, rfl⟩
    obtain ⟨lm, hlme⟩ : ∃ x, (rd lt D a' b' lim wb wp).lim = x := ⟨_, rfl⟩
    have cP : pv < m := by omega
    have h87e : (decide (a' > 0) && !lt (rd lt D a' b' lim wb wp).pi.1[a' - 1]! (rd lt D a' b' lim wb wp).pi.1[(rd lt D a' b' lim wb wp).pivot]!) = (decide (a' > 0) && !lt E[a' - 1]! E[pv]!) := by rw [hE, hpve]
    refine SW_seq (SW_cut hti (ι := { u : Unit // (decide (a' > 0) && !lt (rd lt D a' b' lim wb wp).pi.1[a' - 1]! (rd lt D a' b' lim wb wp).pi.1[(rd lt D a' b' lim wb wp).pivot]!) = false }) (fun _ => ([(0, .sl i 0 m cap), (1, .int .i64 ((a' : Nat) : Int)), (2, .int .i64 ((b' : Nat) : Int)), (3, .int .i64 (((rd lt D a' b' lim wb wp).lim : Nat) : Int)), (4, .fn f p G q F), (10, .bool wb), (11, .bool wp), (12, .int .i64 ((b' - a' : Nat) : Int)), (13, .int .i64 (((rd lt D a' b' lim wb wp).pivot : Nat) : Int))], hset h i ⟨m * 2, spotsC (rd lt D a' b' lim wb wp).pi.1.toList, true, own⟩, n)) trivial ?_ ?_)
    · rw [hE, hpve, hlme]
      simp only [go_sem]
      by_cases ha0 : a' = 0
      · subst ha0
        refine T_draw hti _ _ (by kernel_rfl) (by kernel_rfl) ?_
        simp only [go_sem, Nat.reduceLT, Nat.reduceSub, Int.reduceLT, show ((0 : Int) < ((0 : Nat) : Int)) = False from eq_false (by omega)]
        refine ⟨⟨(), by simp⟩, Imp.id (by simp) ?_ (impH.base0 (hok_set hok fun k hk => spotsC_flat _ _) (by simp) HExt.rfl)⟩
        simp only [go_sem, Nat.reduceLT, hFl, hi0]
        (try (repeat' apply And.intro) <;> first | omega | rfl | trivial | assumption | skip)
      have cA : a' - 1 < m := by omega
      refine T_draw hti _ _ (by kernel_rfl) (by kernel_rfl) ?_
      simp only [go_sem, Nat.reduceLT, hgi, hi0, show ((0 : Int) < (a' : Int)) = True from eq_true (by omega), w64N (a := (a' : Int) - 1) (k := a' - 1) (by omega) (by omega), ix_r cA, ix_b cA, ix_c cA, ix_r cP, ix_b cP, ix_c cP, spotsC_x, spotsC_y]
      refine (hcmp (E.toList.getD (a' - 1) (0, 0)) (E.toList.getD pv (0, 0)) _ _ _ _ (Nat.le_refl n)).A ?_
      have hl := hlt (E.toList.getD (a' - 1) (0, 0)) (E.toList.getD pv (0, 0))
      by_cases hc : cI (E.toList.getD (a' - 1) (0, 0)) (E.toList.getD pv (0, 0)) < 0
      · simp only [go_sem, Nat.reduceLT, hc]
        refine ⟨⟨(), by rw [bangL, bangL, ← hl, decide_eq_true hc]; simp⟩, Imp.id (by simp) ?_ (impH.base0 (hok_set hok fun k hk => spotsC_flat _ _) (by simp) HExt.rfl)⟩
        simp only [go_sem, Nat.reduceLT, hFl, hi0]
        (try (repeat' apply And.intro) <;> first | omega | rfl | trivial | assumption | skip)
      · have hnl : lt E[a' - 1]! E[pv]! = false := by rw [bangL, bangL, ← hl, decide_eq_false hc]
        have h87 : (decide (a' > 0) && !lt (rd lt D a' b' lim wb wp).pi.1[a' - 1]! (rd lt D a' b' lim wb wp).pi.1[(rd lt D a' b' lim wb wp).pivot]!) = true := by rw [h87e, hnl, decide_eq_true (by omega)]; rfl
        simp only [go_sem, Nat.reduceLT, hc]
        refine callA_false (partitionEq_M _ _ _ i cap E m (by rw [← hE]; exact s3') own a' b' pv f p q G F cI lt hlt (hgi _) hi0 (by omega) (by omega) g2 (by omega) hm9 hF (hcmp.nt _ _) _ ?_)
        obtain ⟨⟨mid, d4⟩, hx⟩ : ∃ z, partitionEqual lt E a' b' pv = z := ⟨_, rfl⟩
        obtain ⟨r1, r2, r3, r4, _⟩ := round_eq swo (partitionEqual_holds lt) (show 0 < a' by omega) (show a' ≤ pv by omega) (show pv < b' by omega) (show b' ≤ E.size by rw [← hE]; omega) (by rw [← hE]; exact B3) hnl hx
        rw [hx]
        simp only [go_sem, Nat.reduceLT, hset_hset]
        refine ⟨⟨((mid, b', lm), (wb, wp), d4), ⟨r2, g2, by show b' - mid ≤ b - a; omega, by show lm ≤ limit; omega⟩, r3.trans (by rw [← hE]; exact s3'), r4, ?_⟩, by show b' - mid < b' - a'; omega, ?_⟩
        · show pdq lt d4 mid b' lm wb wp = _
          rw [← hR, pdq_eq h12 hl0 hp2 h87 (by rw [hE, hpve, hx]; exact ⟨r1, r2⟩), hE, hpve, hlme, hx]
        · refine Imp.id (by simp) ?_ (impH.base0 (hok_set hok fun k hk => spotsC_flat _ _) (by simp) HExt.rfl)
          simp only [go_sem, Nat.reduceLT, hFl, hi0]
          (try (repeat' apply And.intro) <;> first | omega | rfl | trivial | assumption | skip)
    rintro ⟨_, h87⟩
    refine SW_of_T hti trivial ?_
    rw [hE, hpve, hlme]
    simp only [go_sem, Nat.reduceLT]
    refine callA_false (partition_M _ _ _ i cap E m (by rw [← hE]; exact s3') own a' b' pv f p q G F cI lt hlt (hgi _) hi0 (by omega) (by omega) g2 (by omega) hm9 hF (hcmp.nt _ _) _ ?_)
    obtain ⟨⟨mid, ap, d4⟩, hx⟩ : ∃ z, partition lt E a' b' pv = z := ⟨_, rfl⟩
    obtain ⟨r1, r2, r3, r4, r5, r6, r7⟩ := round_part swo (partition_holds lt) (show a' ≤ pv by omega) (show pv < b' by omega) (show b' ≤ E.size by rw [← hE]; omega) (by rw [← hE]; exact B3) hx
    have hd4 : d4.size = m := r3.trans (by rw [← hE]; exact s3')
    rw [hx]
    have W1 := w64N (a := (mid : Int) - (a' : Int)) (k := mid - a') (by omega) (by omega)
    have W2 := w64N (a := (b' : Int) - (mid : Int)) (k := b' - mid) (by omega) (by omega)
    have W3 : IntKind.i64.wrap (((b' - a' : Nat) : Int).tdiv 8) = (((b' - a') / 8 : Nat) : Int) := by rw [Int.tdiv_eq_ediv_of_nonneg (by omega)]; exact w64N (by omega) (by omega)
    have W4 := w64N (a := (mid : Int) + 1) (k := mid + 1) (by omega) (by omega)
    by_cases h4 : mid - a' < b' - mid
    · simp only [go_sem, Nat.reduceLT, Int.reduceEq, hset_hset, W1, W2, W3, show (((mid - a' : Nat) : Int) < ((b' - mid : Nat) : Int)) = True from eq_true (by omega)]
      refine callA_false (ih _ _ _ i cap d4 m hd4 own a' mid lm (by omega) (hgi _) hi0 r1 (by omega) hm9 (by omega) r4 hF (hcmp.nt _ _) _ ?_)
      obtain ⟨pL, sL⟩ := pdq_sorts lt swo d4 a' mid lm true true r1 (by omega) r4
      simp only [go_sem, Nat.reduceLT, hset_hset, W4]
      refine ⟨⟨((mid + 1, b', lm), (decide (mid - a' ≥ (b' - a') / 8), ap), pdq lt d4 a' mid lm true true), ⟨by show mid + 1 ≤ b'; omega, g2, by show b' - (mid + 1) ≤ b - a; omega, by show lm ≤ limit; omega⟩, pL.1.trans hd4, (r6 _ pL sL).1, ?_⟩, by show b' - (mid + 1) < b' - a'; omega, ?_⟩
      · show pdq lt (pdq lt d4 a' mid lm true true) (mid + 1) b' lm (decide (mid - a' ≥ (b' - a') / 8)) ap = _
        rw [← hR, pdq_left h12 hl0 hp2 h87 (by rw [hE, hpve, hx]; exact ⟨r1, r2⟩) (by rw [hE, hpve, hx]; exact h4), hE, hpve, hlme, hx]
      · refine Imp.id (by simp) ?_ (impH.base0 (hok_set hok fun k hk => spotsC_flat _ _) (by simp) HExt.rfl)
        simp only [go_sem, Nat.reduceLT, hFl, hi0, Int.ofNat_le, ge_iff_le]
        (try (repeat' apply And.intro) <;> first | omega | rfl | trivial | assumption | skip)
    · simp only [go_sem, Nat.reduceLT, Int.reduceEq, hset_hset, W1, W2, W3, W4, show (((mid - a' : Nat) : Int) < ((b' - mid : Nat) : Int)) = False from eq_false (by omega)]
      refine callA_false (ih _ _ _ i cap d4 m hd4 own (mid + 1) b' lm (by omega) (hgi _) hi0 (by omega) (by omega) hm9 (by omega) r5 hF (hcmp.nt _ _) _ ?_)
      obtain ⟨pL, sL⟩ := pdq_sorts lt swo d4 (mid + 1) b' lm true true (by omega) (by omega) r5
      simp only [go_sem, Nat.reduceLT, hset_hset]
      refine ⟨⟨((a', mid, lm), (decide (b' - mid ≥ (b' - a') / 8), ap), pdq lt d4 (mid + 1) b' lm true true), ⟨r1, by show mid ≤ m; omega, by show mid - a' ≤ b - a; omega, by show lm ≤ limit; omega⟩, pL.1.trans hd4, (r7 _ pL sL).1, ?_⟩, by show mid - a' < b' - a'; omega, ?_⟩
      · show pdq lt (pdq lt d4 (mid + 1) b' lm true true) a' mid lm (decide (b' - mid ≥ (b' - a') / 8)) ap = _
        rw [← hR, pdq_right h12 hl0 hp2 h87 (by rw [hE, hpve, hx]; exact ⟨r1, r2⟩) (by rw [hE, hpve, hx]; exact h4), hE, hpve, hlme, hx]
      · refine Imp.id (by simp) ?_ (impH.base0 (hok_set hok fun k hk => spotsC_flat _ _) (by simp) HExt.rfl)
        simp only [go_sem, Nat.reduceLT, hFl, hi0, Int.ofNat_le, ge_iff_le]
        (try (repeat' apply And.intro) <;> first | omega | rfl | trivial | assumption | skip)
end
end Go.Proofs.YtfelopllfhcdpaaGreat.V

/- Sorted lists of spots made compact; sets of spots, of whatever length. -/
namespace Go.Proofs.YtfelopllfhcdpaaGreat.V
/-- The first j spots, each one once where equal ones stand together. -/
def compT (L : List (Int × Int)) : Nat → List (Int × Int)
  | 0 => []
  | j + 1 => if 0 < j ∧ L.getD j (0, 0) = L.getD (j - 1) (0, 0) then compT L j else compT L j ++ [L.getD j (0, 0)]
theorem compT_dup {L : List (Int × Int)} {j : Nat} (h0 : 0 < j) (h : L.getD j (0, 0) = L.getD (j - 1) (0, 0)) : compT L (j + 1) = compT L j := by rw [compT, if_pos ⟨h0, h⟩]
theorem compT_new {L : List (Int × Int)} {j : Nat} (h : j = 0 ∨ L.getD j (0, 0) ≠ L.getD (j - 1) (0, 0)) : compT L (j + 1) = compT L j ++ [L.getD j (0, 0)] := by
  rw [compT, if_neg]; rintro ⟨a, b⟩; rcases h with h | h
  · omega
  · exact h b
theorem compT_len (L : List (Int × Int)) : ∀ j, (compT L j).length ≤ j
  | 0 => Nat.le_refl _
  | j + 1 => by
    have := compT_len L j
    rw [compT]; split
    · omega
    · rw [List.length_append, List.length_singleton]; omega
theorem compT_take {L : List (Int × Int)} : ∀ j, j ≤ L.length → (∀ q, q + 1 < j → L.getD (q + 1) (0, 0) ≠ L.getD q (0, 0)) → compT L j = L.take j
  | 0, _, _ => by simp [compT]
  | j + 1, hj, hn => by
    rw [compT_new (L := L) (j := j), compT_take (L := L) j (by omega) (fun q hq => hn q (by omega)), List.take_succ, List.getElem?_eq_getElem (l := L) (i := j) (by omega), List.getD_eq_getElem?_getD, List.getElem?_eq_getElem (l := L) (i := j) (by omega)]
    · rfl
    · rcases Nat.eq_zero_or_pos j with h | h
      · exact .inl h
      · obtain ⟨i, rfl⟩ := nat_succ h
        exact .inr (hn i (by omega))
theorem take_mem_succ {L : List (Int × Int)} {j : Nat} (hj : j < L.length) (a : Int × Int) : a ∈ L.take (j + 1) ↔ a ∈ L.take j ∨ a = L.getD j (0, 0) := by
  rw [List.take_succ, List.getElem?_eq_getElem hj, List.getD_eq_getElem?_getD, List.getElem?_eq_getElem hj, List.mem_append]
  simp
theorem compT_mem {L : List (Int × Int)} : ∀ j, j ≤ L.length → ∀ a, a ∈ compT L j ↔ a ∈ L.take j
  | 0, _, a => by simp [compT]
  | j + 1, hj, a => by
    have ih := compT_mem (L := L) j (by omega) a
    rw [take_mem_succ (by omega)]
    by_cases h : 0 < j ∧ L.getD j (0, 0) = L.getD (j - 1) (0, 0)
    · rw [compT_dup h.1 h.2, ih]
      refine ⟨.inl, fun h' => h'.elim id fun e => ?_⟩
      rw [e, h.2]
      obtain ⟨i, rfl⟩ := nat_succ h.1
      exact (take_mem_succ (by omega) _).2 (.inr (by rw [Nat.add_sub_cancel]))
    · rw [compT_new (by rcases Nat.eq_zero_or_pos j with e | e; exact .inl e; exact .inr fun e' => h ⟨e, e'⟩), List.mem_append, ih, List.mem_singleton]
theorem compT_strict {L : List (Int × Int)} (hL : L.Pairwise fun a b => ltSp b a = false) : ∀ j, j ≤ L.length → (compT L j).Pairwise fun a b => ltSp a b = true
  | 0, _ => List.Pairwise.nil
  | j + 1, hj => by
    have ih := compT_strict hL j (by omega)
    by_cases h : 0 < j ∧ L.getD j (0, 0) = L.getD (j - 1) (0, 0)
    · rw [compT_dup h.1 h.2]; exact ih
    · rw [compT_new (by rcases Nat.eq_zero_or_pos j with e | e; exact .inl e; exact .inr fun e' => h ⟨e, e'⟩)]
      refine List.pairwise_append.2 ⟨ih, by simp, fun a ha b hb => ?_⟩
      rw [List.mem_singleton] at hb; subst hb
      rw [compT_mem j (by omega)] at ha
      obtain ⟨q, hq, rfl⟩ := List.mem_iff_getElem.1 ha
      rw [List.length_take] at hq
      have hqj : q < j := by omega
      have sorted : ∀ x y, x < y → y < L.length → ltSp (L.getD y (0, 0)) (L.getD x (0, 0)) = false := fun x y hxy hy => by
        have := List.pairwise_iff_getElem.1 hL x y (by omega) hy hxy
        rw [List.getD_eq_getElem?_getD, List.getD_eq_getElem?_getD, List.getElem?_eq_getElem hy, List.getElem?_eq_getElem (by omega)]
        exact this
      have e : (L.take j)[q] = L.getD q (0, 0) := by rw [List.getElem_take, List.getD_eq_getElem?_getD, List.getElem?_eq_getElem (by omega)]; rfl
      rw [e]
      cases hlt : ltSp (L.getD q (0, 0)) (L.getD j (0, 0)) with
      | true => rfl
      | false =>
        exfalso
        have e1 := ltSp_tri (sorted q j hqj (by omega)) hlt
        obtain ⟨i, rfl⟩ := nat_succ (show 0 < j by omega)
        refine h ⟨by omega, ?_⟩
        rw [Nat.add_sub_cancel]
        rcases (show q = i ∨ q < i by omega) with rfl | hqi
        · exact e1
        · have s1 := sorted q i hqi (by omega)
          have s2 := sorted i (i + 1) (by omega) (by omega)
          rw [e1] at s2
          rw [e1]
          exact ltSp_tri s2 s1
theorem compT_set (L : List (Int × Int)) : compT (srtS L) (srtS L).length = setL L :=
  (setL_eq (compT_strict (srtS_sorted L) _ (Nat.le_refl _)) fun a => by rw [compT_mem _ (Nat.le_refl _), List.take_length]; exact (srtS_perm L).mem_iff).symm
theorem drop_getD {L A : List (Int × Int)} {j : Nat} (hA : A.length ≤ j) : (A ++ L.drop A.length).getD j (0, 0) = L.getD j (0, 0) := by
  rw [List.getD_eq_getElem?_getD, List.getD_eq_getElem?_getD, List.getElem?_append_right hA, List.getElem?_drop]
  congr 2; omega
theorem spots_dx {L A : List (Int × Int)} {j a b : Nat} (hA : A.length ≤ j) (h : a * 2 + b * 2 = j * 2) : spotsC (A ++ L.drop A.length) (a * 2 + b * 2) = .int .i8 (L.getD j (0, 0)).1 := by
  rw [h, spotsC_x, drop_getD hA]
theorem spots_dy {L A : List (Int × Int)} {j a b : Nat} (hA : A.length ≤ j) (h : a * 2 + b * 2 = j * 2) : spotsC (A ++ L.drop A.length) (a * 2 + b * 2 + 1) = .int .i8 (L.getD j (0, 0)).2 := by
  rw [h, spotsC_y, drop_getD hA]
/-- One more written. -/
theorem spots_step {L A : List (Int × Int)} {j : Nat} (hj : j < L.length) (hA : A.length ≤ j) :
    (fun z => if A.length * 2 ≤ z ∧ z < A.length * 2 + 2 then cl [.int .i8 (L.getD j (0, 0)).1, .int .i8 (L.getD j (0, 0)).2] (z - A.length * 2) else spotsC (A ++ L.drop A.length) z) = spotsC ((A ++ [L.getD j (0, 0)]) ++ L.drop (A ++ [L.getD j (0, 0)]).length) := by
  rw [spots_store _ _ _ (by rw [List.length_append, List.length_drop]; omega)]
  congr 1
  rw [List.set_append_right _ _ (Nat.le_refl _), Nat.sub_self, List.append_assoc, List.length_append, List.length_singleton, List.drop_eq_getElem_cons (show A.length < L.length by omega)]
  rfl
section
variable (cx : Cx) (h : List (Nat × Seg)) (n : Nat)
set_option maxRecDepth 100000 in
set_option maxHeartbeats 1600000 in
theorem compact_E (i cap : Nat) (L : List (Int × Int)) (own : Option (Nat × Nat)) (hs : hget h i = some ⟨L.length * 2, spotsC L, true, own⟩) (hi : i < n) (hm9 : L.length ≤ 10000000) (hcap : L.length ≤ cap) (K : HK)
    (hK : K (.sl i 0 (compT L L.length).length cap) (hset h i ⟨(compT L L.length).length * 2, spotsC (compT L L.length), true, none⟩) n) :
    CallE Tryz.prog cx 93 [.sl i 0 L.length cap] h n K := by
  have hgi : ∀ t, hget (hset h i t) i = some t := hget_hset_self hs
  refine CallE.imp0 (K := fun r h' n' => n ≤ n' ∧ r = .sl i 0 (compT L L.length).length cap ∧ HBut i n h h' ∧ ∃ t, hget h' i = some t ∧ (compT L L.length).length * 2 ≤ t.n ∧ t.rw = true ∧ ∀ k, k < (compT L L.length).length * 2 → t.c k = spotsC (compT L L.length) k) ?_ ?_
  rotate_left
  · rintro hok r h' n' ⟨h0, rfl, hx, t, ht, h1, h2, h3⟩
    exact ⟨.sl i 0 (compT L L.length).length cap, hset h i ⟨(compT L L.length).length * 2, spotsC (compT L L.length), true, none⟩, n, Nat.le_refl _, by simp only [ren_nil], hi, impH.set0 hok (Nat.le_refl n) hs hx ht (SegLe.flat h1 (fun _ => h2) (.inl rfl) fun k hk => ⟨h3 k hk, spotsC_flat _ _⟩), hK⟩
  refine callE_of_T (P := Tryz.prog) hti (nt := 61) (rs := [.tmp 2]) rfl rfl Tryz.call93 Tryz.func93 rfl _ (by simp only [go_sem, and_self]) (Nat.le_of_ble_eq_true rfl) _ fun hok => ?_
  by_cases h2 : L.length < 2
  · have e : compT L L.length = L := by rw [compT_take L.length (Nat.le_refl _) (fun q hq => by omega), List.take_length]
    simp only [go_sem, Nat.reduceLT, show (L.length : Int) < 2 by omega]
    rw [e]
    exact ⟨rfl, HBut.refl _ _ _, _, hs, Nat.le_refl _, rfl, fun _ _ => rfl⟩
  simp only [go_sem, Nat.reduceLT, show ((L.length : Int) < 2) = False from eq_false (by omega)]
  refine T_lp (ι := { k : Nat // k ≤ L.length ∧ 1 ≤ k ∧ ∀ q, q + 1 < k → L.getD (q + 1) (0, 0) ≠ L.getD q (0, 0) }) (fun k => ([(0, .sl i 0 L.length cap), (3, .int .i64 k.1)], h, n)) (fun k => L.length - k.1) ⟨1, by omega, by omega, fun q hq => by omega⟩ ?_ ?_
  · refine Imp.id (by simp) ?_ (impH.base0 hok (by simp) HExt.rfl)
    simp only [go_sem, Nat.reduceLT, hi]
    (try (repeat' apply And.intro) <;> first | omega | rfl | trivial | assumption | skip)
  · rintro ⟨k, hk, hk1, hne⟩
    simp only [go_sem, Nat.reduceLT, decide_eq_true_eq, decide_eq_false_iff_not]
    refine ⟨fun h1 => ?_, fun h1 => ?_⟩
    rotate_left
    · have hkL : k = L.length := by omega
      subst hkL
      have e : compT L L.length = L := by rw [compT_take L.length (Nat.le_refl _) hne, List.take_length]
      rw [e]
      exact ⟨rfl, HBut.refl _ _ _, _, hs, Nat.le_refl _, rfl, fun _ _ => rfl⟩
    obtain ⟨k, rfl⟩ := nat_succ (show 0 < k by omega)
    have c1 : k + 1 < L.length := by omega
    have c2 : k < L.length := by omega
    have hd : (decide ((L.getD (k + 1) (0, 0)).1 = (L.getD k (0, 0)).1) && decide ((L.getD (k + 1) (0, 0)).2 = (L.getD k (0, 0)).2)) = decide (L.getD (k + 1) (0, 0) = L.getD k (0, 0)) := by
      rw [Bool.eq_iff_iff]; simp [Prod.ext_iff]
    refine T_draw hti _ _ (by kernel_rfl) (by kernel_rfl) ?_
    simp only [go_sem, Nat.reduceLT, Nat.reduceLeDiff, Nat.reduceMod, hs, hi, w64N (a := ((k + 1 : Nat) : Int) - 1) (k := k) (by omega) (by omega), ix_r c1, ix_b c1, ix_c c1, ix_r c2, ix_b c2, ix_c c2, spotsC_x, spotsC_y, hd]
    by_cases he : L.getD (k + 1) (0, 0) = L.getD k (0, 0)
    rotate_left
    · simp only [go_sem, he, decide_false]
      refine ⟨⟨k + 1 + 1, by omega, by omega, fun q hq => ?_⟩, by show L.length - (k + 1 + 1) < L.length - (k + 1); omega, ?_⟩
      · rcases (show q + 1 < k + 1 ∨ q = k by omega) with hq | rfl
        · exact hne q hq
        · exact he
      · refine Imp.id (by simp) ?_ (impH.base0 hok (by simp) HExt.rfl)
        simp only [go_sem, Nat.reduceLT, hi, w64N (a := ((k + 1 : Nat) : Int) + 1) (k := k + 1 + 1) (by omega) (by omega)]
        (try (repeat' apply And.intro) <;> first | omega | rfl | trivial | assumption | skip)
    simp only [go_sem, reduceCtorEq, he, decide_true]
    have e27 : (cap : Int) ≠ ((k + 1 : Nat) : Int) := by omega
    refine ⟨⟨by omega, by omega⟩, ?_⟩
    rw [if_neg e27]
    have hcT : ∀ j, k + 2 ≤ j → (compT L j).length < j := fun j hj => by
      induction j with
      | zero => omega
      | succ j ih =>
        rcases (show k + 2 ≤ j ∨ j = k + 1 by omega) with h' | rfl
        · have := ih h'; rw [compT]; split
          · omega
          · rw [List.length_append, List.length_singleton]; omega
        · rw [compT_dup (by omega) (by rw [Nat.add_sub_cancel]; exact he)]; have := compT_len L (k + 1); omega
    refine T_lp (ι := { q : Nat // k + 1 + (q + 1) ≤ L.length }) (fun q => ([(0, .sl i 0 L.length cap), (3, .int .i64 (((compT L (k + 1 + (q.1 + 1))).length : Nat) : Int)), (4, .sl i ((k + 1) * 2) (L.length - (k + 1)) (cap - (k + 1))), (5, .int .i64 ((q.1 + 1 : Nat) : Int))],
      hset h i ⟨L.length * 2, spotsC (compT L (k + 1 + (q.1 + 1)) ++ L.drop (compT L (k + 1 + (q.1 + 1))).length), true, own⟩, n)) (fun q => L.length - q.1) ⟨0, by omega⟩ ?_ ?_
    · have e0 : compT L (k + 1 + (0 + 1)) = L.take (k + 1) := by
        rw [show k + 1 + (0 + 1) = k + 1 + 1 from rfl, compT_dup (by omega) (by rw [Nat.add_sub_cancel]; exact he), compT_take (L := L) (k + 1) (by omega) hne]
      have e1 : (L.take (k + 1)).length = k + 1 := by rw [List.length_take]; omega
      refine Imp.id (by simp) ?_ ?_
      · simp only [go_sem, Nat.reduceLT, hi, e0, e1]
      · simp only [e0, e1, List.take_append_drop]
        rw [hset_self hs]; exact impH.base0 hok (by simp) HExt.rfl
    rintro ⟨q, hq⟩
    obtain ⟨A, hA⟩ : ∃ A, compT L (k + 1 + (q + 1)) = A := ⟨_, rfl⟩
    have hAl : A.length < k + 1 + (q + 1) := by rw [← hA]; exact hcT _ (by omega)
    have hAm := compT_len L (k + 1 + (q + 1))
    simp only [go_sem, Nat.reduceLT, hA, decide_eq_true_eq, decide_eq_false_iff_not]
    refine ⟨fun h3 => ?_, fun h3 => ?_⟩
    rotate_left
    · have hqL : k + 1 + (q + 1) = L.length := by omega
      rw [hqL] at hA
      rw [hA, if_neg (show ¬ (cap : Int) = (A.length : Nat) by omega)]
      simp only [go_sem, Nat.reduceLT, Nat.reduceMul, Int.reduceToNat, Int.reduceLE, hgi, hset_hset]
      refine ⟨⟨by omega, by omega, by omega⟩, by omega, ⟨by omega, by omega⟩, by simp, HBut.set i n h _, _, rfl, by show A.length * 2 ≤ L.length * 2; omega, rfl, fun z hz => ?_⟩
      show clrC _ _ _ _ _ = _
      unfold clrC
      rw [if_neg (by omega)]
      exact spotsC_take (b := L.drop A.length) hz
    have c3 : k + 1 + (q + 1) < L.length := by omega
    have c4 : k + 1 + q < L.length := by omega
    have gx1 : spotsC (A ++ List.drop A.length L) ((k + 1) * 2 + (q + 1) * 2) = .int .i8 (L.getD (k + 1 + (q + 1)) (0, 0)).1 := spots_dx (by omega) (by omega)
    have gx2 : spotsC (A ++ List.drop A.length L) ((k + 1) * 2 + (q + 1) * 2 + 1) = .int .i8 (L.getD (k + 1 + (q + 1)) (0, 0)).2 := spots_dy (by omega) (by omega)
    have gx3 : spotsC (A ++ List.drop A.length L) ((k + 1) * 2 + q * 2) = .int .i8 (L.getD (k + 1 + q) (0, 0)).1 := spots_dx (by omega) (by omega)
    have gx4 : spotsC (A ++ List.drop A.length L) ((k + 1) * 2 + q * 2 + 1) = .int .i8 (L.getD (k + 1 + q) (0, 0)).2 := spots_dy (by omega) (by omega)
    have hd2 : (decide ((L.getD (k + 1 + (q + 1)) (0, 0)).1 = (L.getD (k + 1 + q) (0, 0)).1) && decide ((L.getD (k + 1 + (q + 1)) (0, 0)).2 = (L.getD (k + 1 + q) (0, 0)).2)) = decide (L.getD (k + 1 + (q + 1)) (0, 0) = L.getD (k + 1 + q) (0, 0)) := by
      rw [Bool.eq_iff_iff]; simp [Prod.ext_iff]
    have hrw : L.length * 2 = (A ++ L.drop A.length).length * 2 := by rw [List.length_append, List.length_drop]; omega
    refine T_draw hti _ _ (by kernel_rfl) (by kernel_rfl) ?_
    simp only [go_sem, Nat.reduceLT, Nat.reduceLeDiff, Nat.reduceMod, hgi, hi, w64N (a := ((q + 1 : Nat) : Int) - 1) (k := q) (by omega) (by omega), gx1, gx2, gx3, gx4, hd2, hset_hset]
    by_cases he2 : L.getD (k + 1 + (q + 1)) (0, 0) = L.getD (k + 1 + q) (0, 0)
    · have eA : compT L (k + 1 + (q + 1 + 1)) = A := by
        rw [← hA, show k + 1 + (q + 1 + 1) = k + 1 + (q + 1) + 1 from rfl, compT_dup (by omega) (by rw [show k + 1 + (q + 1) - 1 = k + 1 + q by omega]; exact he2)]
      simp only [go_sem, he2, decide_true, Bool.not_true]
      refine ⟨⟨by omega, by omega⟩, by omega, ⟨by omega, by omega⟩, by omega, ?_⟩
      refine ⟨⟨q + 1, by omega⟩, by show L.length - (q + 1) < L.length - q; omega, ?_⟩
      simp only [eA]
      refine Imp.id (by simp) ?_ (impH.base0 (hok_set hok fun k hk => spotsC_flat _ _) (by simp) HExt.rfl)
      simp only [go_sem, Nat.reduceLT, hi, w64N (a := ((q + 1 : Nat) : Int) + 1) (k := q + 1 + 1) (by omega) (by omega)]
    · have eA : compT L (k + 1 + (q + 1 + 1)) = A ++ [L.getD (k + 1 + (q + 1)) (0, 0)] := by
        rw [← hA, show k + 1 + (q + 1 + 1) = k + 1 + (q + 1) + 1 from rfl, compT_new (.inr (by rw [show k + 1 + (q + 1) - 1 = k + 1 + q by omega]; exact he2))]
      have b6 : (A.length * 2 = 0 ∧ 2 = L.length * 2) = False := eq_false (by omega)
      simp only [go_sem, reduceCtorEq, he2, decide_false, Bool.not_false, b6, if_false, spots_step (L := L) (A := A) c3 (by omega), w64N (a := ((A.length : Nat) : Int) + 1) (k := A.length + 1) (by omega) (by omega)]
      refine ⟨⟨by omega, by omega⟩, by omega, ⟨by omega, by omega⟩, by omega, ⟨by omega, by omega⟩, by omega, ⟨by omega, by omega⟩, by omega, ?_⟩
      refine ⟨⟨q + 1, by omega⟩, by show L.length - (q + 1) < L.length - q; omega, ?_⟩
      simp only [eA]
      refine Imp.id (by simp) ?_ (impH.base0 (hok_set hok fun k hk => spotsC_flat _ _) (by simp) HExt.rfl)
      simp only [go_sem, Nat.reduceLT, hi, w64N (a := ((q + 1 : Nat) : Int) + 1) (k := q + 1 + 1) (by omega) (by omega), List.length_append, List.length_singleton]
end
end Go.Proofs.YtfelopllfhcdpaaGreat.V

/- The library's sort of spots, of whatever length; sets of spots. -/
namespace Go.Proofs.YtfelopllfhcdpaaGreat.V
open Go.Sort (pdq pdq_sorts PermIn SortedIn SWO bitsLen bitsLen_le_iff)
theorem pdq_srtS (L : List (Int × Int)) (lim : Nat) : (pdq ltSp L.toArray 0 L.length lim true true).toList = srtS L := by
  have h := pdq_sorts ltSp ltSp_swo L.toArray 0 L.length lim true true (Nat.zero_le _) (by simp) (.inl rfl)
  have := sorted_srtS (d := L.toArray) (d' := pdq ltSp L.toArray 0 L.length lim true true) (by simpa using h.1) (by simpa using h.2)
  simpa using this
theorem bitsLen_64 {m : Nat} (h : m ≤ 1000000000) : bitsLen m ≤ 1000 := by
  refine Nat.le_trans ((bitsLen_le_iff m 64).2 ?_) (by decide)
  exact Nat.lt_of_le_of_lt h (by decide)
section
variable (cx : Cx) (h : List (Nat × Seg)) (n : Nat)
/-- The library's sort of spots. -/
theorem sortFuncA_E (i cap : Nat) (L : List (Int × Int)) (own : Option (Nat × Nat)) (f p q : Nat) (G F : Nat → SV) (cI : Int × Int → Int × Int → Int) (hlt : ∀ x y, decide (cI x y < 0) = ltSp x y)
    (hs : hget h i = some ⟨L.length * 2, spotsC L, true, own⟩) (hi : i < n) (hm : L.length ≤ 1000000000) (hF : (SV.fn f p G q F).lt n) (hcmp : CmpA cx n f p q G F cI) (K : HK)
    (hK : K (.tup 0 (cl [])) (hset h i ⟨L.length * 2, spotsC (srtS L), true, own⟩) n) :
    CallE Tryz.prog cx 92 [.sl i 0 L.length cap, .fn f p G q F] h n K := by
  refine CallE.to _ _ (by simp only [go_sem]) (fun hok => hok_set hok fun k hk => spotsC_flat _ _) hK ?_
  refine callE_of_T (P := Tryz.prog) hti (nt := 14) (rs := []) rfl rfl Tryz.call92 Tryz.func92 rfl _ (by simp only [go_sem, and_self]) (Nat.le_of_ble_eq_true rfl) _ fun hok => ?_
  have hw : IntKind.u64.wrap ((L.length : Nat) : Int) = ((L.length : Nat) : Int) := by
    unfold IntKind.wrap; simp [IntKind.signed, IntKind.bits]; omega
  simp only [go_sem, Nat.reduceLT, hw]
  refine callA_false (lenx_E _ _ _ L.length (by omega) _ ?_)
  simp only [go_sem, Nat.reduceLT]
  refine callA_false (pdq_E f p q G F cI ltSp hlt ltSp_swo (L.length + 1) _ _ _ i cap L.toArray L.length (by simp) own 0 L.length (bitsLen L.length) (by omega) hs hi (Nat.zero_le _) (Nat.le_refl _) hm (bitsLen_64 hm) (.inl rfl) hF (by intro a b nt n0 h' n' hn; exact hcmp a b nt n0 h' n' hn) _ ?_)
  rw [pdq_srtS]
  simp only [go_sem]
  (try exact HExt.rfl)
end
section
variable (cx : Cx) (h : List (Nat × Seg)) (n : Nat)
/-- A set of cells. -/
theorem set_E (i cap : Nat) (L : List (Int × Int)) (s : Seg) (hs : hget h i = some s) (hi : i < n) (hn : L.length * 2 ≤ s.n) (hc : ∀ k, k < L.length * 2 → s.c k = spotsC L k) (hm : L.length ≤ 10000000) (K : HK)
    (hK : ∀ cap', (setL L).length ≤ cap' → K (.sl n 0 (setL L).length cap') ((n, ⟨(setL L).length * 2, spotsC (setL L), true, none⟩) :: h) (n + 1)) :
    CallE Tryz.prog cx 60 [.sl i 0 L.length cap] h n K := by
  have hsl := srtS_len L
  have hcs := compT_set L
  have hlen : (setL L).length ≤ L.length := by rw [← hcs]; exact Nat.le_trans (compT_len _ _) (by omega)
  refine callE_of_T (P := Tryz.prog) hti (nt := 10) (rs := [.tmp 2]) rfl rfl Tryz.call60 Tryz.func60 rfl _ (by simp only [go_sem, and_self]) (Nat.le_of_ble_eq_true rfl) _ fun hok => ?_
  simp only [go_sem, Nat.reduceLT]
  refine callA_false (cloneSp_E _ _ _ i cap L s hs hi hn hc (by omega) _ fun cap' c1 c2 => ?_)
  simp only [go_sem, Nat.reduceLT]
  refine callA_false (sortFuncA_E _ _ _ n cap' L none _ _ _ _ _ cmpSp cmpSp_lt (by simp only [go_sem]) (by omega) (by omega) (fn_lt (xs := []) (ys := []) (fun v hv => by cases hv) (fun v hv => by cases hv)) (by intro a b nt n0 h' n' hn; exact inOrder_Q _ h' n' a b) _ ?_)
  simp only [go_sem, Nat.reduceLT]
  have key := compact_E ⟨cx.w0, cx.W, 10, n⟩ ((n, ⟨L.length * 2, spotsC (srtS L), true, none⟩) :: h) (n + 1) n cap' (srtS L) none (by simp only [go_sem, hsl]) (by omega) (by omega) (by omega)
  rw [hcs, hsl] at key
  refine callA_false (key _ ?_)
  simp only [go_sem, Nat.reduceLT]
  exact hK cap' (by omega)
end
end Go.Proofs.YtfelopllfhcdpaaGreat.V

/- Lists of cells: the program's own walk. -/
namespace Go.Proofs.YtfelopllfhcdpaaGreat.V
/-- A list of spots in memory. -/
def Sp (h : List (Nat × Seg)) (lo n : Nat) (V : SV) (L : List (Int × Int)) : Prop :=
  ∃ i cap s, V = .sl i 0 L.length cap ∧ lo ≤ i ∧ i < n ∧ hget h i = some s ∧ s.rw = true ∧ s.n = L.length * 2 ∧ L.length ≤ cap ∧ ∀ k, k < L.length * 2 → s.c k = spotsC L k
theorem Sp.out {h : List (Nat × Seg)} {lo n : Nat} {V : SV} {L : List (Int × Int)} (hA : Sp h lo n V L) : SpsOut h lo n V L := by
  obtain ⟨i, cap, s, h1, h2, h3, h4, h5, h6, h7, h8⟩ := hA
  exact .inr ⟨i, cap, s, h1, h2, h3, h4, h5, h6, h8⟩
theorem Sp.ok {h : List (Nat × Seg)} {lo n : Nat} {V : SV} {L : List (Int × Int)} (hA : Sp h lo n V L) : V.ok = True := hA.out.ok
theorem Sp.ext {h h' : List (Nat × Seg)} {lo n n' : Nat} {V : SV} {L : List (Int × Int)} (hA : Sp h lo n V L) (hn : n ≤ n') (hx : HExt n h h') : Sp h' lo n' V L := by
  obtain ⟨i, cap, s, h1, h2, h3, h4, h5⟩ := hA
  exact ⟨i, cap, s, h1, h2, by omega, hx i h3 s h4, h5⟩
theorem Sp.lo {h : List (Nat × Seg)} {lo lo' n : Nat} {V : SV} {L : List (Int × Int)} (hA : Sp h lo n V L) (hl : lo' ≤ lo) : Sp h lo' n V L := by
  obtain ⟨i, cap, s, h1, h2, h3⟩ := hA
  exact ⟨i, cap, s, h1, by omega, h3⟩
theorem Sp.lt {h : List (Nat × Seg)} {lo n : Nat} {V : SV} {L : List (Int × Int)} (hA : Sp h lo n V L) : V.lt n := by
  obtain ⟨i, cap, s, rfl, h2, h3, _⟩ := hA
  exact h3
theorem HOk.consF {n : Nat} {h : List (Nat × Seg)} {s : Seg} (hok : HOk n h) (hs : ∀ k, k < s.n → (s.c k).flat) : HOk (n + 1) ((n, s) :: h) := fun i t hi => by
  simp only [hget] at hi
  by_cases e : n = i
  · rw [if_pos e] at hi; cases hi
    exact ⟨by omega, fun k hk => (hs k hk).below _⟩
  · rw [if_neg e] at hi
    obtain ⟨g1, g2⟩ := hok i t hi
    exact ⟨by omega, fun k hk => SV.lt_mono (by omega) _ (g2 k hk)⟩
theorem HOk.hdel {n j : Nat} {h : List (Nat × Seg)} (hok : HOk n h) : HOk n (hdel h j) := fun i t hi => by
  rw [hget_hdel] at hi
  split at hi
  · cases hi
  · exact hok i t hi
theorem any_fst4 (p : Int → Int → Bool) (L : List (Int × Int)) : decide (0 ≤ fst4 p L) = L.any fun a => p a.1 a.2 := by
  by_cases h : fst4 p L = -1
  · have := fst4_none h
    rw [h]
    refine Eq.symm (List.any_eq_false.2 fun a ha => ?_)
    obtain ⟨j, hj, rfl⟩ := List.mem_iff_getElem.1 ha
    have := this j hj
    rw [List.getD_eq_getElem?_getD, List.getElem?_eq_getElem hj, Option.getD_some] at this
    rw [this]; decide
  · obtain ⟨h0, h1, h2, _⟩ := fst4_some h
    rw [decide_eq_true h0]
    refine Eq.symm (List.any_eq_true.2 ⟨_, ?_, h2⟩)
    rw [List.getD_eq_getElem?_getD, List.getElem?_eq_getElem (show (fst4 p L).toNat < L.length by omega)]
    exact List.getElem_mem _
theorem spots_at {L : List (Int × Int)} {j : Nat} (hj : j < L.length) : L.getD j (0, 0) ∈ L := by
  rw [List.getD_eq_getElem?_getD, List.getElem?_eq_getElem hj]; exact List.getElem_mem hj
section
variable (cx : Cx) (h : List (Nat × Seg)) (n : Nat)
theorem containsP_Q (i m cap : Nat) (L : List (Int × Int)) (s : Seg) (f a b : Nat) (G F : Nat → SV) (p : Int → Int → Bool)
    (hs : hget h i = some s) (hi : i < n) (hm : L.length = m) (hm9 : m ≤ 1000000000) (hn : m * 2 ≤ s.n) (hc : ∀ k, k < m * 2 → s.c k = spotsC L k) (hF : (SV.fn f a G b F).lt n)
    (hp : ∀ j, j < m → ∀ nt n0, CallQ Tryz.prog ⟨cx.w0, cx.W, nt, n0⟩ f (lst a G ++ [spot (L.getD j (0, 0)).1 (L.getD j (0, 0)).2] ++ lst b F) h n (.bool (p (L.getD j (0, 0)).1 (L.getD j (0, 0)).2))) :
    CallQ Tryz.prog cx 81 [.sl i 0 m cap, .fn f a G b F] h n (.bool (L.any fun a => p a.1 a.2)) := by
  refine callQ_of_T (P := Tryz.prog) hti (nt := 9) (rs := [.tmp 4]) rfl rfl Tryz.call81 Tryz.func81 rfl _ (by simp only [go_sem, and_self]) (Nat.le_of_ble_eq_true rfl) _ (by first | exact trivial | (refine lt_flat rfl ?_; simp [SV.flat]; done) | simp only [go_sem]) fun hok => ?_
  simp only [go_sem, Nat.reduceLT]
  refine (indexFunc_Q _ _ _ i m cap L s f a b G F p (fst4 p L) hs hi hm hm9 hn hc hF (fun h => by rw [← hm]; exact fst4_none h) (fun h => by rw [← hm]; exact fst4_some h) (by intro j hj nt n0; exact hp j hj nt n0)).A ?_
  simp only [go_sem, Nat.reduceLT, ge_iff_le, any_fst4]
theorem hasAll1_Q (i o iv : Nat) (s sv : Seg) (S : Sh) (x y : Int) (hs : hget h i = some s) (hi : i < n) (hS : ShAt s o S) (hv : hget h iv = some sv) (hvi : iv < n) (hvn : 1 ≤ sv.n) (hvc : sv.c 0 = .ptr i o) :
    CallQ Tryz.prog cx 82 [spot x y, .ptr iv 0] h n (.bool (!hasB S x y)) := by
  have hne : (n == i) = false := by simp; omega
  have hnv : (n == iv) = false := by simp; omega
  refine callQ_of_T (P := Tryz.prog) hti (nt := 8) (rs := [.tmp 3]) rfl rfl Tryz.call82 Tryz.func82 rfl _ (by simp only [go_sem, and_self]) (Nat.le_of_ble_eq_true rfl) _ (by first | exact trivial | (refine lt_flat rfl ?_; simp [SV.flat]; done) | simp only [go_sem]) fun hok => ?_
  simp only [go_sem, Nat.reduceLT, hnv, hv, hvc]
  refine ⟨by omega, (has_Q _ _ _ i o s S x y ((hget_miss _ _ _ _ hne).trans hs) (by omega) hS).A ?_⟩
  simp only [go_sem, Nat.reduceLT, hnv, hv, hvc, HExt_cons]
theorem hasAll_Q (i o : Nat) (s : Seg) (S : Sh) (V : SV) (L : List (Int × Int)) (lo : Nat) (hs : hget h i = some s) (hi : i < n) (hS : ShAt s o S) (hV : Sp h lo n V L) (hm9 : L.length ≤ 10000000) :
    CallQ Tryz.prog cx 55 [.ptr i o, V] h n (.bool (L.all fun a => hasB S a.1 a.2)) := by
  obtain ⟨j, cap, t, rfl, h2, h3, h4, h5, h6, h7, h8⟩ := hV
  have hni : n ≠ i := by omega
  have hnj : n ≠ j := by omega
  refine callQ_of_T (P := Tryz.prog) hti (nt := 9) (rs := [.tmp 4]) rfl rfl Tryz.call55 Tryz.func55 rfl _ (by simp only [go_sem, and_self]) (Nat.le_of_ble_eq_true rfl) _ (by first | exact trivial | (refine lt_flat rfl ?_; simp [SV.flat]; done) | simp only [go_sem]) fun hok => ?_
  simp only [go_sem, Nat.reduceLT]
  refine (containsP_Q _ _ _ j L.length cap L t _ _ _ _ _ (fun x y => !hasB S x y) (by simp only [go_sem, h4, h3]) (by omega) rfl (by omega) (by omega) h8 ?_ fun q hq nt n0 => ?_).A ?_
  · exact fn_lt (xs := []) (ys := [.ptr n 0]) (fun v hv => by cases hv) (fun v hv => by simp at hv; subst hv; show n < _; omega)
  · exact hasAll1_Q _ _ _ i o n s ⟨1, cl [.ptr i o], true, none⟩ S _ _ (by simp only [go_sem, hs, hi]) (by omega) hS (hget_hit _ _ _) (by omega) (Nat.le_refl _) rfl
  · simp only [go_sem, Nat.reduceLT, HExt_cons]
    congr 1
    rw [List.all_eq_not_any_not]
end
end Go.Proofs.YtfelopllfhcdpaaGreat.V

/- Lists of cells: the program's own walk, on. -/
namespace Go.Proofs.YtfelopllfhcdpaaGreat.V
def eqP (a : Int × Int) : Int → Int → Bool := fun x y => decide (a.1 = x) && decide (a.2 = y)
theorem eqP_iff {a b : Int × Int} : eqP a b.1 b.2 = true ↔ a = b := by simp [eqP, Prod.ext_iff]
theorem any_eqP (a : Int × Int) (L : List (Int × Int)) : (L.any fun b => eqP a b.1 b.2) = decide (a ∈ L) := by
  rw [Bool.eq_iff_iff, List.any_eq_true, decide_eq_true_eq]
  exact ⟨fun ⟨b, hb, e⟩ => (eqP_iff.1 e) ▸ hb, fun h => ⟨a, h, eqP_iff.2 rfl⟩⟩
section
variable (cx : Cx) (h : List (Nat × Seg)) (n : Nat)
theorem indexSp_Q (i m cap : Nat) (L : List (Int × Int)) (s : Seg) (a : Int × Int) (r : Int)
    (hs : hget h i = some s) (hi : i < n) (hm : L.length = m) (hm9 : m ≤ 1000000000) (hn : m * 2 ≤ s.n) (hc : ∀ k, k < m * 2 → s.c k = spotsC L k)
    (hr0 : r = -1 → ∀ j, j < m → eqP a (L.getD j (0, 0)).1 (L.getD j (0, 0)).2 = false) (hr1 : r ≠ -1 → 0 ≤ r ∧ r < m ∧ eqP a (L.getD r.toNat (0, 0)).1 (L.getD r.toNat (0, 0)).2 = true ∧ ∀ j : Nat, (j : Int) < r → eqP a (L.getD j (0, 0)).1 (L.getD j (0, 0)).2 = false) :
    CallQ Tryz.prog cx 107 [.sl i 0 m cap, spot a.1 a.2] h n (.int .i64 r) := by
  have hni : n ≠ i := by omega
  refine callQ_of_T (P := Tryz.prog) hti (nt := 19) (rs := [.tmp 4]) rfl rfl Tryz.call107 Tryz.func107 rfl _ (by simp only [go_sem, and_self]) (Nat.le_of_ble_eq_true rfl) _ (by first | exact trivial | (refine lt_flat rfl ?_; simp [SV.flat]; done) | simp only [go_sem]) fun hok => ?_
  simp only [go_sem, Nat.reduceLT, Int.reduceNeg]
  refine T_lp (ι := { j : Nat // j ≤ m ∧ ∀ k, k < j → eqP a (L.getD k (0, 0)).1 (L.getD k (0, 0)).2 = false })
    (fun j => ([(0, .sl i 0 m cap), (3, .ptr n 0), (7, .int .i64 m), (8, .int .i64 j.1)], (n, ⟨2, cl [.int .i8 a.1, .int .i8 a.2], true, none⟩) :: h, n + 1)) (fun j => m - j.1) ⟨0, by simp⟩ ?_ ?_
  · refine Imp.id (by simp) ?_ (impH.base0 (hok.consF fun k hk => pair_flat _ _ hk) (Nat.le_refl _) HExt.rfl)
    simp only [go_sem, Nat.reduceLT]
    (try (repeat' apply And.intro) <;> first | omega | rfl | trivial | assumption | skip)
  · rintro ⟨j, hj, hall⟩
    simp only [go_sem, Nat.reduceLT, Int.reduceNeg, decide_eq_true_eq, decide_eq_false_iff_not]
    refine ⟨fun h1 => ?_, fun h1 => ?_⟩
    · have r1 : (0 : Int) ≤ j ∧ (j : Int) < m := ⟨by omega, by omega⟩
      have b1 : j * 2 ≤ s.n - 2 := by omega
      have b2 : 2 ≤ s.n := by omega
      have b3 : j * 2 + 2 ≤ s.n := by omega
      refine T_draw hti _ _ (by kernel_rfl) (by kernel_rfl) ?_
      simp only [go_sem, Nat.reduceLT, Nat.reduceLeDiff, Nat.reduceMod, Int.reduceNeg, hs, hi, hni, r1, b1, b2, b3, hc (j * 2) (by omega), hc (j * 2 + 1) (by omega), spotsC_x, spotsC_y]
      refine ⟨fun h2 => ?_, fun h2 => ⟨⟨j + 1, by omega, fun k hk => ?_⟩, by show m - (j + 1) < m - j; omega, ?_⟩⟩
      · rcases (by omega : r = -1 ∨ r ≠ -1) with hr | hr
        · have := hr0 hr j (by omega)
          rw [eqP, h2] at this; cases this
        · obtain ⟨r0, r1, r2, r3⟩ := hr1 hr
          rcases (by omega : (j : Int) < r ∨ r < j ∨ r = j) with h | h | h
          · have := r3 j h
            rw [eqP, h2] at this; cases this
          · have := hall r.toNat (by omega)
            rw [r2] at this; cases this
          · rw [h]
      · rcases (by omega : k < j ∨ k = j) with h | rfl
        · exact hall k h
        · exact h2
      · refine Imp.id (by simp) ?_ (impH.base0 (hok.consF fun k hk => pair_flat _ _ hk) (Nat.le_refl _) HExt.rfl)
        simp only [go_sem, Nat.reduceLT, w64N (a := (j : Int) + 1) (k := j + 1) (by omega) (by omega)]
        (try (repeat' apply And.intro) <;> first | omega | rfl | trivial | assumption | skip)
    · rcases (by omega : r = -1 ∨ r ≠ -1) with hr | hr
      · rw [hr]
      · obtain ⟨r0, r1, r2, r3⟩ := hr1 hr
        have := hall r.toNat (by omega)
        rw [r2] at this; cases this
theorem containsSp_Q (V : SV) (L : List (Int × Int)) (lo : Nat) (a : Int × Int) (hV : Sp h lo n V L) (hm9 : L.length ≤ 1000000000) :
    CallQ Tryz.prog cx 89 [V, spot a.1 a.2] h n (.bool (decide (a ∈ L))) := by
  obtain ⟨j, cap, t, rfl, h2, h3, h4, h5, h6, h7, h8⟩ := hV
  have hnj : n ≠ j := by omega
  refine callQ_of_T (P := Tryz.prog) hti (nt := 9) (rs := [.tmp 4]) rfl rfl Tryz.call89 Tryz.func89 rfl _ (by simp only [go_sem, and_self]) (Nat.le_of_ble_eq_true rfl) _ (by first | exact trivial | (refine lt_flat rfl ?_; simp [SV.flat]; done) | simp only [go_sem]) fun hok => ?_
  simp only [go_sem, Nat.reduceLT]
  refine (indexSp_Q _ _ _ j L.length cap L t a (fst4 (eqP a) L) (by simp only [go_sem, h4, h3]) (by omega) rfl (by omega) (by omega) h8 (fun h => fst4_none h) (fun h => fst4_some h)).A ?_
  simp only [go_sem, Nat.reduceLT, ge_iff_le, any_fst4, any_eqP, HExt_cons]
theorem inner11_Q (iv : Nat) (sv : Seg) (V : SV) (L : List (Int × Int)) (lo : Nat) (a : Int × Int) (hV : Sp h lo n V L) (hm9 : L.length ≤ 1000000000) (hv : hget h iv = some sv) (hvi : iv < n) (hvn : 1 ≤ sv.n) (hvc : sv.c 0 = V) :
    CallQ Tryz.prog cx 88 [spot a.1 a.2, .ptr iv 0] h n (.bool (!decide (a ∈ L))) := by
  have hnv : (n == iv) = false := by simp; omega
  have hVo := hV.ok
  refine callQ_of_T (P := Tryz.prog) hti (nt := 8) (rs := [.tmp 3]) rfl rfl Tryz.call88 Tryz.func88 rfl _ (by simp only [go_sem, and_self]) (Nat.le_of_ble_eq_true rfl) _ (by first | exact trivial | (refine lt_flat rfl ?_; simp [SV.flat]; done) | simp only [go_sem]) fun hok => ?_
  have hV' := hV.ext (n' := n + 1) (h' := (n, ⟨2, cl [.int .i8 a.1, .int .i8 a.2], true, none⟩) :: h) (by omega) (by simp only [go_sem, HExt_cons])
  obtain ⟨j, cap, t, e, hV2⟩ := hV
  simp only [go_sem, Nat.reduceLT, hnv, hv, hvc, e]
  refine ⟨by omega, ?_⟩
  rw [← e]
  refine (containsSp_Q _ _ _ V L lo a hV' hm9).A ?_
  simp only [go_sem, Nat.reduceLT, HExt_cons]
theorem inner1_Q (i o iv jv : Nat) (s sv tv : Seg) (S : Sh) (V : SV) (L : List (Int × Int)) (lo : Nat) (x y : Int) (hs : hget h i = some s) (hi : i < n) (hS : ShAt s o S) (hsm : Small S) (hV : Sp h lo n V L) (hm9 : L.length ≤ 1000000000)
    (hv : hget h iv = some sv) (hvi : iv < n) (hvn : 1 ≤ sv.n) (hvc : sv.c 0 = .ptr i o) (hw : hget h jv = some tv) (hwi : jv < n) (hwn : 1 ≤ tv.n) (hwc : tv.c 0 = V) :
    CallQ Tryz.prog cx 86 [spot x y, .ptr iv 0, .ptr jv 0] h n (.bool (!inP S L (x, y))) := by
  have hni : n ≠ i := by omega
  have hnv : (n == iv) = false := by simp; omega
  have hnw : n ≠ jv := by omega
  refine callQ_of_T (P := Tryz.prog) hti (nt := 10) (rs := [.tmp 4]) rfl rfl Tryz.call86 Tryz.func86 rfl _ (by simp only [go_sem, and_self]) (Nat.le_of_ble_eq_true rfl) _ (by first | exact trivial | (refine lt_flat rfl ?_; simp [SV.flat]; done) | simp only [go_sem]) fun hok => ?_
  simp only [go_sem, Nat.reduceLT, hnv, hv, hvc]
  refine ⟨by omega, ?_⟩
  refine callA_false (neighbours_E _ _ _ i o s S x y (by simp only [go_sem, hs, hi]) (by omega) hS hsm _ fun cap => ?_)
  simp only [go_sem, Nat.reduceLT]
  have h1 : HExt n h ((n + 1, ⟨(nb S x y).length * 2, spotsC (nb S x y), true, none⟩) :: (n, ⟨2, cl [.int .i8 x, .int .i8 y], true, none⟩) :: h) := by simp only [go_sem, HExt_cons]
  refine (containsP_Q _ _ _ (n + 1) (nb S x y).length cap (nb S x y) ⟨(nb S x y).length * 2, spotsC (nb S x y), true, none⟩ _ _ _ _ _ (fun x y => !decide ((x, y) ∈ L)) (hget_hit _ _ _) (by omega) rfl (by have := nb_len4 S x y; omega) (Nat.le_refl _) (fun _ _ => rfl) ?_ fun q hq nt n0 => ?_).A ?_
  · exact fn_lt (xs := []) (ys := [.ptr jv 0]) (fun v hv => by cases hv) (fun v hv => by simp at hv; subst hv; show jv < _; omega)
  · exact inner11_Q _ _ _ jv tv V L lo _ (hV.ext (by omega) h1) hm9 (h1 jv hwi _ hw) (by omega) hwn hwc
  · simp only [go_sem, Nat.reduceLT, HExt_cons]
    congr 1
    unfold inP
    rw [List.all_eq_not_any_not, Bool.not_not]
theorem cloneO_E (V : SV) (L : List (Int × Int)) (lo : Nat) (hV : Sp h lo n V L) (hm9 : L.length ≤ 10000000) (K : HK)
    (hK : ∀ cap', L.length ≤ cap' → cap' ≤ maxLen → K (.sl n 0 L.length cap') ((n, ⟨L.length * 2, spotsC L, true, some (58, cap' * 2)⟩) :: h) (n + 1)) :
    CallE Tryz.prog cx 85 [V] h n K := by
  obtain ⟨i, cap, s, rfl, h2, hi, hs, h5, h6, h7, hc⟩ := hV
  refine CallE.imp1 (K := fun r h1 n1 => ∃ cap', L.length ≤ cap' ∧ cap' ≤ maxLen ∧ r = .sl (n + 1) 0 L.length cap' ∧ n1 = n + 2 ∧ HExt n h h1 ∧ ∃ t, hget h1 (n + 1) = some t ∧ t.n = L.length * 2 ∧ t.rw = true ∧ t.own = some (58, cap' * 2) ∧ ∀ k, k < L.length * 2 → t.c k = spotsC L k) ?_ ?_
  · refine callE_of_T (P := Tryz.prog) hti (nt := 8) (rs := [.tmp 2]) rfl rfl Tryz.call85 Tryz.func85 rfl _ (by simp only [go_sem, and_self]) (Nat.le_of_ble_eq_true rfl) _ fun hok => ?_
    simp only [go_sem, Nat.reduceLT, Nat.reduceLeDiff, Nat.reduceMul, hs, hi, ↓hok.del (Nat.le_refl n)]
    refine ⟨⟨⟨trivial, Nat.succ_pos 1, ?_, ?_⟩, by omega⟩, fun cap' c1 c2 => ?_⟩
    · show 0 + L.length * 2 ≤ s.n
      omega
    · refine allP_iff.2 fun j hj => ?_
      have hj : j < L.length * 2 := hj
      show (s.c (0 + j)).one
      rw [Nat.zero_add, hc j hj]
      exact (spotsC_flat L j).one
    · refine ⟨cap', c1, c2, rfl, _, rfl, rfl, rfl, rfl, fun k hk => ?_⟩
      refine Eq.trans ?_ (hc k hk)
      simp only [both, news, Nat.not_lt_zero, if_false, Nat.sub_zero, Nat.zero_add]
  · rintro hok r h1 n1 ⟨cap', c1, c2, rfl, rfl, hx, t, ht, t1, t2, t4, t3⟩
    exact ⟨n + 1, .sl n 0 L.length cap', (n, ⟨L.length * 2, spotsC L, true, some (58, cap' * 2)⟩) :: h, n + 1, by omega, by omega, by simp only [ren_sl, sig_hit], Nat.lt_succ_self n,
      impH.cons1 ht (Nat.lt_succ_self n) (SegLe.flat (by rw [t1]; exact Nat.le_refl _) (fun _ => t2) (.inr t4.symm) fun k hk => ⟨t3 k hk, spotsC_flat _ _⟩) (impH.base1 hok (by simp) (Nat.le_refl n) hx), hK cap' c1 c2⟩
theorem inner_E (i o : Nat) (s : Seg) (S : Sh) (V : SV) (L : List (Int × Int)) (lo : Nat) (hs : hget h i = some s) (hi : i < n) (hS : ShAt s o S) (hsm : Small S) (hV : Sp h lo n V L) (hVl : V.lt n) (hm9 : L.length ≤ 10000000) (K : HK)
    (hK : ∀ V' h' n', n ≤ n' → HExt n h h' → HOk n' h' → Sp h' n n' V' (innerL S L) → K V' h' n') :
    CallE Tryz.prog cx 56 [.ptr i o, V] h n K := by
  have hVo := hV.ok
  have hV0 := hV
  obtain ⟨j, cap, t, rfl, h2, h3, h4, h5, h6, h7, h8⟩ := hV
  refine CallE.hokE ?_
  refine callE_of_T (P := Tryz.prog) hti (nt := 9) (rs := [.tmp 4]) rfl rfl Tryz.call56 Tryz.func56 rfl _ (by simp only [go_sem, and_self]) (Nat.le_of_ble_eq_true rfl) _ fun hok => ?_
  simp only [go_sem, Nat.reduceLT]
  refine callA_false (cloneO_E _ _ _ _ L lo (hV0.ext (by omega) (by simp only [go_sem, HExt_cons])) hm9 _ fun cap' c1 c2 => ?_)
  simp only [go_sem, Nat.reduceLT]
  refine callA_false (deleteFunc_E _ _ _ (n + 2) L.length cap' L ⟨L.length * 2, spotsC L, true, some (58, cap' * 2)⟩ _ _ _ _ _ (fun x y => !inP S L (x, y)) (fst4 (fun x y => !inP S L (x, y)) L) (hget_hit _ _ _) (by omega) rfl (by omega) c1 rfl rfl (fun _ _ => rfl) ?_
      (fun h => fst4_none h) (fun h => fst4_some h) (fun q hq nt n0 h' n' hn hb => ?_) _ fun own => ?_)
  · exact fn_lt (xs := []) (ys := [.ptr n 0, .ptr (n + 1) 0]) (fun v hv => by cases hv) (fun v hv => by simp at hv; rcases hv with rfl | rfl; exact (show n < _ by omega); exact (show n + 1 < _ by omega))
  · refine inner1_Q _ _ _ i o n (n + 1) s ⟨1, cl [.ptr i o], true, none⟩ ⟨1, cl [.sl j 0 L.length cap], true, none⟩ S (.sl j 0 L.length cap) L 0 _ _ (hb i (by omega) (by omega) _ (by simp only [go_sem, hs, hi])) (by omega) hS hsm ⟨j, cap, t, rfl, Nat.zero_le _, by omega, hb j (by omega) (by omega) _ (by simp only [go_sem, h4, h3]), h5, h6, h7, h8⟩ (by omega) (hb n (by omega) (by omega) _ (by simp only [go_sem])) (by omega) (Nat.le_refl _) rfl (hb (n + 1) (by omega) (by omega) _ (by simp only [go_sem, Nat.reduceLT])) (by omega) (Nat.le_refl _) rfl
  · simp only [go_sem, Nat.reduceLT]
    have e : (L.filter fun a => !(!inP S L (a.1, a.2))) = innerL S L := by simp [innerL]
    simp only [e]
    refine fun hok' => hK _ _ _ (by omega) (by simp only [go_sem, HExt_cons]) hok' ⟨n + 2, cap', _, rfl, by omega, by omega, hget_hit _ _ _, rfl, rfl, ?_, fun _ _ => rfl⟩
    exact Nat.le_trans (List.length_filter_le _ _) c1
theorem equalSp_Q (V V' : SV) (A B : List (Int × Int)) (lo lo' : Nat) (hV : Sp h lo n V A) (hV' : Sp h lo' n V' B) (hA9 : A.length ≤ 1000000000) (hB9 : B.length ≤ 1000000000) :
    CallQ Tryz.prog cx 61 [V, V'] h n (.bool (decide (A = B))) := by
  obtain ⟨i, cap, s, rfl, h2, hi, hs, h5, h6, h7, hc⟩ := hV
  obtain ⟨j, cap', t, rfl, k2, hj, ht, k5, k6, k7, kc⟩ := hV'
  refine callQ_of_T (P := Tryz.prog) hti (nt := 26) (rs := [.tmp 4]) rfl rfl Tryz.call61 Tryz.func61 rfl _ (by simp only [go_sem, and_self]) (Nat.le_of_ble_eq_true rfl) _ (by first | exact trivial | (refine lt_flat rfl ?_; simp [SV.flat]; done) | simp only [go_sem]) fun hok => ?_
  by_cases hl : A.length = B.length
  rotate_left
  · have e : (A = B) = False := eq_false fun e => hl (by rw [e])
    simp only [go_sem, Nat.reduceLT, show ((A.length : Int) = (B.length : Int)) = False from eq_false (by omega), e]
  simp only [go_sem, Nat.reduceLT, show ((A.length : Int) = (B.length : Int)) = True from eq_true (by omega)]
  refine T_lp (ι := { q : Nat // q ≤ A.length ∧ ∀ k, k < q → A.getD k (0, 0) = B.getD k (0, 0) })
    (fun q => ([(0, .sl i 0 A.length cap), (1, .sl j 0 B.length cap'), (12, .int .i64 A.length), (13, .int .i64 q.1)], h, n)) (fun q => A.length - q.1) ⟨0, by simp⟩ ?_ ?_
  · refine Imp.id (by simp) ?_ (impH.base0 hok (Nat.le_refl _) HExt.rfl)
    simp only [go_sem, Nat.reduceLT]
    (try (repeat' apply And.intro) <;> first | omega | rfl | trivial | assumption | skip)
  rintro ⟨q, hq, hall⟩
  simp only [go_sem, Nat.reduceLT, decide_eq_true_eq, decide_eq_false_iff_not]
  refine ⟨fun h1 => ?_, fun h1 => ?_⟩
  · have r1 : (0 : Int) ≤ q ∧ (q : Int) < A.length := ⟨by omega, by omega⟩
    have r2 : (0 : Int) ≤ q ∧ (q : Int) < B.length := ⟨by omega, by omega⟩
    have b1 : q * 2 ≤ s.n - 2 := by omega
    have b2 : 2 ≤ s.n := by omega
    have b3 : q * 2 + 2 ≤ s.n := by omega
    have d1 : q * 2 ≤ t.n - 2 := by omega
    have d2 : 2 ≤ t.n := by omega
    have d3 : q * 2 + 2 ≤ t.n := by omega
    refine T_draw hti _ _ (by kernel_rfl) (by kernel_rfl) ?_
    simp only [go_sem, Nat.reduceLT, Nat.reduceLeDiff, Nat.reduceMod, hs, hi, ht, hj, r1, r2, b1, b2, b3, d1, d2, d3, hc (q * 2) (by omega), hc (q * 2 + 1) (by omega), kc (q * 2) (by omega), kc (q * 2 + 1) (by omega), spotsC_x, spotsC_y]
    have hd : (decide ((A.getD q (0, 0)).1 = (B.getD q (0, 0)).1) && decide ((A.getD q (0, 0)).2 = (B.getD q (0, 0)).2)) = decide (A.getD q (0, 0) = B.getD q (0, 0)) := by
      rw [Bool.eq_iff_iff]; simp [Prod.ext_iff]
    rw [hd]
    refine ⟨fun h2 => ?_, fun h2 => ⟨⟨q + 1, by omega, fun k hk => ?_⟩, by show A.length - (q + 1) < A.length - q; omega, ?_⟩⟩
    · have hn : ¬ (A = B) := fun e => by rw [e] at h2; simp at h2
      rw [decide_eq_false hn]
    · rcases (by omega : k < q ∨ k = q) with h | rfl
      · exact hall k h
      · simpa using h2
    · refine Imp.id (by simp) ?_ (impH.base0 hok (Nat.le_refl _) HExt.rfl)
      simp only [go_sem, Nat.reduceLT, w64N (a := (q : Int) + 1) (k := q + 1) (by omega) (by omega)]
      (try (repeat' apply And.intro) <;> first | omega | rfl | trivial | assumption | skip)
  · have e : (A = B) = True := eq_true (by
      refine List.ext_getElem hl fun k k1 k2 => ?_
      have := hall k (by omega)
      rw [List.getD_eq_getElem?_getD, List.getD_eq_getElem?_getD, List.getElem?_eq_getElem k1, List.getElem?_eq_getElem k2] at this
      exact this)
    simp only [go_sem, e]
end
end Go.Proofs.YtfelopllfhcdpaaGreat.V

/- Spreads: the program's own walk. -/
namespace Go.Proofs.YtfelopllfhcdpaaGreat.V
/-- A list to which one may append. -/
def SpO (h : List (Nat × Seg)) (lo n : Nat) (V : SV) (L : List (Int × Int)) : Prop :=
  ∃ j cap s, V = .sl j 0 L.length cap ∧ lo ≤ j ∧ j < n ∧ hget h j = some s ∧ s.own = some (58, cap * 2) ∧ s.rw = true ∧ s.n = L.length * 2 ∧ L.length ≤ cap ∧ cap ≤ maxLen ∧ ∀ k, k < L.length * 2 → s.c k = spotsC L k
theorem SpO.sp {h : List (Nat × Seg)} {lo n : Nat} {V : SV} {L : List (Int × Int)} (hA : SpO h lo n V L) : Sp h lo n V L := by
  obtain ⟨i, cap, s, h1, h2, h3, h4, h5, h6, h7, h8, h9, h10⟩ := hA
  exact ⟨i, cap, s, h1, h2, h3, h4, h6, h7, h8, h10⟩
theorem both_sp (A B : List (Int × Int)) {c d : Nat → SV} {o : Nat} (hc : ∀ k, k < A.length * 2 → c k = spotsC A k) (hd : ∀ k, k < B.length * 2 → d (o + k) = spotsC B k) {k : Nat} (hk : k < (A ++ B).length * 2) : both (A.length * 2) c (news d o) k = spotsC (A ++ B) k := by
  rw [List.length_append] at hk
  unfold both news
  split
  · rename_i h; rw [hc k h, spotsC_take (b := B) h]
  · rename_i h
    rw [hd _ (by omega)]
    unfold spotsC
    have e : (A ++ B).getD (k / 2) (0, 0) = B.getD ((k - A.length * 2) / 2) (0, 0) := by
      rw [List.getD_eq_getElem?_getD, List.getD_eq_getElem?_getD, List.getElem?_append_right (by omega)]
      congr 2; omega
    rw [e, show (k - A.length * 2) % 2 = k % 2 by omega]
theorem nbs_take_succ (S : Sh) (L : List (Int × Int)) {q : Nat} (hq : q < L.length) : nbs S (L.take (q + 1)) = nbs S (L.take q) ++ nb S (L.getD q (0, 0)).1 (L.getD q (0, 0)).2 := by
  unfold nbs
  rw [List.take_succ, List.getElem?_eq_getElem hq, List.flatMap_append, List.getD_eq_getElem?_getD, List.getElem?_eq_getElem hq]
  simp
structure SpI (S : Sh) (L : List (Int × Int)) (h : List (Nat × Seg)) (n q : Nat) (hq : List (Nat × Seg)) (nq : Nat) (V : SV) : Prop where
  le : q ≤ L.length
  hn : n ≤ nq
  ok : HOk nq hq
  ex : HExt n h hq
  out : SpO hq n nq V (L ++ nbs S (L.take q))
section
variable (cx : Cx) (h : List (Nat × Seg)) (n : Nat)
theorem spread_E (i o : Nat) (s : Seg) (S : Sh) (A : SV) (L : List (Int × Int)) (lo : Nat) (hs : hget h i = some s) (hi : i < n) (hS : ShAt s o S) (hsm : Small S) (hA : Sp h lo n A L) (hm9 : L.length ≤ 1000000) (K : HK)
    (hK : ∀ V' h' n', n ≤ n' → HExt n h h' → HOk n' h' → Sp h' n n' V' (spreadL S L) → K V' h' n') :
    CallE Tryz.prog cx 62 [.ptr i o, A] h n K := by
  have hA0 := hA
  obtain ⟨j, cap, t, rfl, h2, h3, h4, h5, h6, h7, h8⟩ := hA
  refine CallE.hokE ?_
  refine callE_of_T (P := Tryz.prog) hti (nt := 24) (rs := [.tmp 4]) rfl rfl Tryz.call62 Tryz.func62 rfl _ (by simp only [go_sem, and_self]) (Nat.le_of_ble_eq_true rfl) _ fun hok => ?_
  simp only [go_sem, Nat.reduceLT]
  refine callA_false (cloneO_E _ _ _ _ L lo hA0 (by omega) _ fun cap' c1 c2 => ?_)
  simp only [go_sem, Nat.reduceLT]
  have ok1 : HOk (n + 1) ((n, ⟨L.length * 2, spotsC L, true, some (58, cap' * 2)⟩) :: h) := hok.consF fun k hk => spotsC_flat _ _
  have I0 : SpI S L h n 0 ((n, ⟨L.length * 2, spotsC L, true, some (58, cap' * 2)⟩) :: h) (n + 1) (.sl n 0 L.length cap') :=
    ⟨Nat.zero_le _, by omega, ok1, by simp only [go_sem, HExt_cons], n, cap', _, by simp [nbs], Nat.le_refl _, by omega, hget_hit _ _ _, rfl, rfl, by simp [nbs], by simpa [nbs] using c1, c2, by simp [nbs]⟩
  refine T_lp (ι := { q : Nat × List (Nat × Seg) × Nat × SV // SpI S L h n q.1 q.2.1 q.2.2.1 q.2.2.2 })
    (fun q => ([(0, .ptr i o), (5, q.1.2.2.2), (10, .sl j 0 L.length cap), (11, .int .i64 L.length), (12, .int .i64 q.1.1)], q.1.2.1, q.1.2.2.1)) (fun q => L.length - q.1.1) ⟨(0, _, _, _), I0⟩ ?_ ?_
  · refine Imp.id (by simp) ?_ (impH.base0 ok1 (Nat.le_refl _) HExt.rfl)
    simp only [go_sem, Nat.reduceLT]
    (try (repeat' apply And.intro) <;> first | omega | rfl | trivial | assumption | skip)
  · rintro ⟨⟨q, hq, nq, V⟩, ⟨I1, I2, I3, I4, I5⟩⟩
    simp only at I1 I2 I3 I4 I5
    have hM : (L ++ nbs S (L.take q)).length ≤ 5 * L.length := by
      have := nbs_len S (L.take q); rw [List.length_take] at this; rw [List.length_append]; omega
    have hVok := I5.sp.ok
    simp only [go_sem, Nat.reduceLT, hVok, decide_eq_true_eq, decide_eq_false_iff_not]
    refine ⟨fun h1 => ?_, fun h1 => ?_⟩
    · have r1 : (0 : Int) ≤ q ∧ (q : Int) < L.length := ⟨by omega, by omega⟩
      have b1 : q * 2 ≤ t.n - 2 := by omega
      have b2 : 2 ≤ t.n := by omega
      have b3 : q * 2 + 2 ≤ t.n := by omega
      have htq : hget hq j = some t := I4 j h3 _ h4
      have hsq : hget hq i = some s := I4 i hi _ hs
      have hjq : j < nq := by omega
      have hiq : i < nq := by omega
      simp only [go_sem, Nat.reduceLT, Nat.reduceEqDiff, reduceIte, hVok, htq, hjq, r1, b1, b2, b3, h8 (q * 2) (by omega), h8 (q * 2 + 1) (by omega), spotsC_x, spotsC_y]
      refine callA_false (neighbours_E _ _ _ i o s S _ _ (by simp only [go_sem, hsq, hiq]) (by omega) hS hsm _ fun capN => ?_)
      have hnl := nb_len4 S (L.getD q (0, 0)).1 (L.getD q (0, 0)).2
      have hst := nbs_take_succ S L (q := q) (by omega)
      obtain ⟨jv, capV, sV, e, v1, v2, v3, v4, v5, v6, v7, v8, v9⟩ := I5
      subst e
      obtain ⟨sn, sc, sr, so⟩ := sV
      simp only at v4 v5 v6 v9
      subst v4 v5 v6
      have hjv1 : nq ≠ jv := by omega
      have hjv2 : nq + 1 ≠ jv := by omega
      simp only [go_sem, Nat.reduceLT, Nat.reduceLeDiff, v3, v2, hjv1, hjv2]
      generalize hNB : nb S (L.getD q (0, 0)).1 (L.getD q (0, 0)).2 = B at *
      generalize hAA : L ++ nbs S (L.take q) = A at *
      have hst2 : L ++ nbs S (L.take (q + 1)) = A ++ B := by rw [hst, ← List.append_assoc, hAA]
      have hbo : ∀ k, k < (A.length + B.length) * 2 → both (A.length * 2) sc (news (spotsC B) 0) k = spotsC (A ++ B) k := fun k hk =>
        both_sp A B v9 (fun k _ => by rw [Nat.zero_add]) (by rw [List.length_append]; exact hk)
      refine ⟨⟨allP_iff.2 fun k hk => (spotsC_flat _ _).one, by omega, by omega, by omega⟩, fun capM m1 m2 => ?_⟩
      have okM : HOk (nq + 3) ((nq + 2, ⟨(A.length + B.length) * 2, both (A.length * 2) sc (news (spotsC B) 0), true, some (58, capM * 2)⟩) :: (nq + 1, ⟨B.length * 2, spotsC B, true, none⟩) ::
          (nq, ⟨2, cl [.int .i8 (L.getD q (0, 0)).1, .int .i8 (L.getD q (0, 0)).2], true, none⟩) :: hdel hq jv) :=
        ((I3.hdel.consF fun k hk => pair_flat _ _ hk).consF fun k hk => spotsC_flat _ _).consF fun k hk => by
          show (both (A.length * 2) sc (news (spotsC B) 0) k).flat
          rw [hbo k hk]; exact spotsC_flat _ _
      have exM : HExt n h ((nq + 2, ⟨(A.length + B.length) * 2, both (A.length * 2) sc (news (spotsC B) 0), true, some (58, capM * 2)⟩) :: (nq + 1, ⟨B.length * 2, spotsC B, true, none⟩) ::
          (nq, ⟨2, cl [.int .i8 (L.getD q (0, 0)).1, .int .i8 (L.getD q (0, 0)).2], true, none⟩) :: hdel hq jv) := fun z hz t ht => by
        simp only [hget]
        rw [if_neg (by omega), if_neg (by omega), if_neg (by omega), hget_hdel, if_neg (by omega)]
        exact I4 z hz t ht
      have IM : SpI S L h n (q + 1) _ (nq + 3) (.sl (nq + 2) 0 (A.length + B.length) capM) :=
        ⟨by omega, by omega, okM, exM, nq + 2, capM, _, by rw [hst2, List.length_append], by omega, by omega, hget_hit _ _ _, rfl, rfl, by rw [hst2, List.length_append], by rw [hst2, List.length_append]; exact m1, m2, by
          rw [hst2]; intro k hk; exact hbo k (by rw [List.length_append] at hk; exact hk)⟩
      refine ⟨⟨(q + 1, _, _, _), IM⟩, by show L.length - (q + 1) < L.length - q; omega, ?_⟩
      refine Imp.id (by show n ≤ nq + 3; omega) ?_ (impH.base0 okM (Nat.le_refl _) HExt.rfl)
      simp only [go_sem, Nat.reduceLT, w64N (a := (q : Int) + 1) (k := q + 1) (by omega) (by omega)]
      (try (repeat' apply And.intro) <;> first | omega | rfl | trivial | assumption | skip)
    · have hqL : q = L.length := by omega
      subst hqL
      rw [List.take_length] at I5 hM
      have hlen : (setL (L ++ nbs S L)).length ≤ (L ++ nbs S L).length := by rw [← compT_set]; exact Nat.le_trans (compT_len _ _) (Nat.le_of_eq (srtS_len _))
      obtain ⟨jv, capV, sV, rfl, v1, v2, v3, v4, v5, v6, v7, v8, v9⟩ := I5
      refine callA_false (set_E _ _ _ jv capV (L ++ nbs S L) sV v3 v2 (by omega) v9 (by omega) _ fun cap3 hc3 => ?_)
      simp only [go_sem, Nat.reduceLT]
      refine fun hok' => hK _ _ _ (by omega) (fun z hz t ht => by simp only [hget]; rw [if_neg (by omega)]; exact I4 z hz t ht) hok' ⟨nq, cap3, _, rfl, by omega, by omega, hget_hit _ _ _, rfl, rfl, hc3, fun _ _ => rfl⟩
end
end Go.Proofs.YtfelopllfhcdpaaGreat.V

/- Lists of lists of spots: made, compared, marked, looked at again. -/
namespace Go.Proofs.YtfelopllfhcdpaaGreat.V
abbrev LSp := List (Int × Int)
/-- A row of spots. -/
structure RowAt (h : List (Nat × Seg)) (i : Nat) (L : LSp) : Prop where
  row : ∃ s, hget h i = some s ∧ s.rw = true ∧ s.n = L.length * 2 ∧ ∀ k, k < L.length * 2 → s.c k = spotsC L k
/-- A list of lists of spots: the outer row at j, the inner rows at names r k. -/
structure Lss (h : List (Nat × Seg)) (lo n j cap : Nat) (sc : Nat → SV) (r cp : Nat → Nat) (LL : List LSp) : Prop where
  jlo : lo ≤ j
  lt : j < n
  seg : hget h j = some ⟨LL.length, sc, true, some (34, cap)⟩
  le : LL.length ≤ cap
  cap : cap ≤ maxLen
  rlo : ∀ k, k < LL.length → lo ≤ r k
  rlt : ∀ k, k < LL.length → r k < n
  rj : ∀ k, k < LL.length → r k ≠ j
  cell : ∀ k, k < LL.length → sc k = .sl (r k) 0 (LL.getD k []).length (cp k)
  row : ∀ k, k < LL.length → RowAt h (r k) (LL.getD k [])
  dis : ∀ k k', k < k' → k' < LL.length → r k ≠ r k'
theorem Lss.mono {h h' : List (Nat × Seg)} {lo n n' j cap : Nat} {sc : Nat → SV} {r cp : Nat → Nat} {LL : List LSp} (S : Lss h lo n j cap sc r cp LL) (hn : n ≤ n') (hx : ∀ i, lo ≤ i → i < n → ∀ t, hget h i = some t → hget h' i = some t) : Lss h' lo n' j cap sc r cp LL :=
  ⟨S.jlo, by have := S.lt; omega, hx _ S.jlo S.lt _ S.seg, S.le, S.cap, S.rlo, fun k hk => by have := S.rlt k hk; omega, S.rj, S.cell, fun k hk => by
    obtain ⟨s, a1, a2⟩ := (S.row k hk).row
    exact ⟨s, hx _ (S.rlo k hk) (S.rlt k hk) _ a1, a2⟩, S.dis⟩
theorem Lss.mlo {h : List (Nat × Seg)} {lo lo' n j cap : Nat} {sc : Nat → SV} {r cp : Nat → Nat} {LL : List LSp} (S : Lss h lo n j cap sc r cp LL) (hl : lo' ≤ lo) : Lss h lo' n j cap sc r cp LL :=
  ⟨by have := S.jlo; omega, S.lt, S.seg, S.le, S.cap, fun k hk => by have := S.rlo k hk; omega, S.rlt, S.rj, S.cell, S.row, S.dis⟩
theorem Lss.sps {h : List (Nat × Seg)} {lo n j cap : Nat} {sc : Nat → SV} {r cp : Nat → Nat} {LL : List LSp} (S : Lss h lo n j cap sc r cp LL) {k : Nat} (hk : k < LL.length) : SpsOut h lo n (sc k) (LL.getD k []) := by
  obtain ⟨s, a1, a2, a3, a4⟩ := (S.row k hk).row
  exact .inr ⟨r k, cp k, s, S.cell k hk, S.rlo k hk, S.rlt k hk, a1, a2, a3, a4⟩
/-- A list of lists of spots that a call has made. -/
def LssOut (h : List (Nat × Seg)) (lo n : Nat) (V : SV) (LL : List LSp) : Prop :=
  (V = .nils ∧ LL = []) ∨ ∃ (j cap : Nat) (sc : Nat → SV) (r cp : Nat → Nat), V = .sl j 0 LL.length cap ∧ Lss h lo n j cap sc r cp LL
theorem LssOut.ok {h : List (Nat × Seg)} {lo n : Nat} {V : SV} {LL : List LSp} (hA : LssOut h lo n V LL) : V.ok = True := by
  rcases hA with ⟨rfl, rfl⟩ | ⟨j, cap, sc, r, cp, rfl, _⟩ <;> rfl
theorem LssOut.ext {h h' : List (Nat × Seg)} {lo n n' : Nat} {V : SV} {LL : List LSp} (hA : LssOut h lo n V LL) (hn : n ≤ n') (hx : HExt n h h') : LssOut h' lo n' V LL := by
  rcases hA with h1 | ⟨j, cap, sc, r, cp, e, S⟩
  · exact .inl h1
  · exact .inr ⟨j, cap, sc, r, cp, e, S.mono hn fun i _ hi => hx i hi⟩
theorem LssOut.mono {h h' : List (Nat × Seg)} {lo n n' : Nat} {V : SV} {LL : List LSp} (hA : LssOut h lo n V LL) (hn : n ≤ n') (hx : ∀ i, lo ≤ i → i < n → ∀ t, hget h i = some t → hget h' i = some t) : LssOut h' lo n' V LL := by
  rcases hA with h1 | ⟨j, cap, sc, r, cp, e, S⟩
  · exact .inl h1
  · exact .inr ⟨j, cap, sc, r, cp, e, S.mono hn hx⟩
theorem LssOut.mlo {h : List (Nat × Seg)} {lo lo' n : Nat} {V : SV} {LL : List LSp} (hA : LssOut h lo n V LL) (hl : lo' ≤ lo) : LssOut h lo' n V LL := by
  rcases hA with h1 | ⟨j, cap, sc, r, cp, e, S⟩
  · exact .inl h1
  · exact .inr ⟨j, cap, sc, r, cp, e, S.mlo hl⟩
/-- How many spots the first lists have. -/
def totN (LL : List LSp) : Nat → Nat
  | 0 => 0
  | q + 1 => totN LL q + (LL.getD q []).length
/-- A row whose cells bear marks from a number on. -/
def HeldAt (h : List (Nat × Seg)) (i len : Nat) (b : Int) : Prop :=
  ∃ s, hget h i = some s ∧ s.n = len * 2 ∧ ∀ k : Nat, k < len → s.c (k * 2) = .int .i8 (IntKind.i8.wrap (b + 2 * (k : Int))) ∧ s.c (k * 2 + 1) = .int .i8 (IntKind.i8.wrap (b + 2 * (k : Int) + 1))
/-- Lists of lists that were marked. -/
def LssHeld (h : List (Nat × Seg)) (lo n : Nat) (V : SV) (LL : List LSp) : Prop :=
  (V = .nils ∧ LL = []) ∨ ∃ (j cap : Nat) (sc : Nat → SV) (r cp : Nat → Nat) (sr : Bool) (so : Option (Nat × Nat)), V = .sl j 0 LL.length cap ∧ lo ≤ j ∧ j < n ∧ hget h j = some ⟨LL.length, sc, sr, so⟩ ∧ (∀ k, k < LL.length → lo ≤ r k) ∧ (∀ k, k < LL.length → r k < n) ∧ (∀ k, k < LL.length → sc k = .sl (r k) 0 (LL.getD k []).length (cp k)) ∧
    ∀ k, k < LL.length → HeldAt h (r k) (LL.getD k []).length (1 + 2 * (totN LL k : Int))
theorem LssHeld.ext {h h' : List (Nat × Seg)} {lo n n' : Nat} {V : SV} {LL : List LSp} (hA : LssHeld h lo n V LL) (hn : n ≤ n') (hx : HExt n h h') : LssHeld h' lo n' V LL := by
  rcases hA with h1 | ⟨j, cap, sc, r, cp, sr, so, e, a1, a2, a3, a4, a5, a6, a7⟩
  · exact .inl h1
  · refine .inr ⟨j, cap, sc, r, cp, sr, so, e, a1, by omega, hx _ a2 _ a3, a4, fun k hk => by have := a5 k hk; omega, a6, fun k hk => ?_⟩
    obtain ⟨s, b1, b2⟩ := a7 k hk
    exact ⟨s, hx _ (a5 k hk) _ b1, b2⟩
section
variable (cx : Cx) (h : List (Nat × Seg)) (n : Nat)
end
end Go.Proofs.YtfelopllfhcdpaaGreat.V

/- Sets of cells: the reference's walk. -/
namespace Go.Proofs.YtfelopllfhcdpaaGreat.V
@[go_sem] theorem zz_mk : zz_a010c9 = mkC [] := by funext j; simp [mkC, zz_a010c9]
@[go_sem] theorem ones_mk (L : List (Int × Int)) : ones (.agg 64 (mkC L)) = True := eq_true fun j hj => trivial
@[go_sem] theorem okc_mk (L : List (Int × Int)) : (SV.agg 64 (mkC L)).okc = True := eq_true trivial
@[go_sem] theorem mkS_eq (L : List (Int × Int)) : mkS L = ⟨64, mkC L, true, none⟩ := rfl
@[go_sem] theorem lt_mk (m : Nat) (L : List (Int × Int)) : (SV.agg 64 (mkC L)).lt m = True := eq_true fun j hj => trivial
theorem take_step {L : List (Int × Int)} {j : Nat} (hj : j < L.length) : mkC (L.getD j (0, 0) :: L.take j) = mkC (L.take (j + 1)) :=
  mkC_congr fun p => by rw [take_mem_succ hj, List.mem_cons, or_comm]
section
variable (cx : Cx) (h : List (Nat × Seg)) (n : Nat)
theorem mask0_Q (i cap : Nat) (s : Seg) (L : List (Int × Int)) (hi : i < n) (hs : hget h i = some s) (h6 : s.n = L.length * 2) (hc : ∀ k, k < L.length * 2 → s.c k = spotsC L k) (hm9 : L.length ≤ 1048576) (h8 : In8s L) :
    CallQ Tryz.prog cx 64 [.sl i 0 L.length cap] h n (.agg 64 (mkC L)) := by
  have hn1 : n ≠ i := by omega
  have hn2 : n + 1 ≠ i := by omega
  refine callQ_of_T (P := Tryz.prog) hti (nt := 25) (rs := [.cell 2 78]) rfl rfl Tryz.call64 Tryz.func64 rfl _ (by simp only [go_sem, and_self]) (Nat.le_of_ble_eq_true rfl) _ (by first | exact trivial | (refine lt_flat rfl ?_; simp [SV.flat]; done) | simp only [go_sem]) fun hok => ?_
  simp only [go_sem, Nat.reduceLT, Nat.reduceEqDiff, reduceIte]
  have ok2 : ∀ M, HOk (n + 2) ((n + 1, mkS M) :: (n, mkS []) :: h) := fun M => (hok.consF fun k hk => mkC_flat _ _).consF fun k hk => mkC_flat _ _
  refine T_lp (ι := { q : Nat // q ≤ L.length }) (fun q => ([(0, .sl i 0 L.length cap), (2, .ptr n 0), (3, .ptr (n + 1) 0), (4, .int .i64 ((q.1 : Nat) : Int))], (n + 1, mkS (L.take q.1)) :: (n, mkS []) :: h, n + 2)) (fun q => L.length - q.1) ⟨0, by omega⟩ ?_ ?_
  · refine Imp.id (by simp) ?_ (impH.base0 (ok2 []) (Nat.le_refl _) (by first | exact HExt.rfl | (rw [List.take_zero]; exact HExt.rfl)))
    simp only [go_sem, Nat.reduceLT]
    (try (repeat' apply And.intro) <;> first | omega | rfl | trivial | assumption | skip)
  rintro ⟨q, hq⟩
  simp only [go_sem, Nat.reduceLT, reduceIte, decide_eq_true_eq, decide_eq_false_iff_not]
  refine ⟨fun h1 => ?_, fun h1 => ?_⟩
  · have r1 : (0 : Int) ≤ q ∧ (q : Int) < L.length := ⟨by omega, by omega⟩
    have b1 : q * 2 ≤ s.n - 2 := by omega
    have b2 : 2 ≤ s.n := by omega
    have b3 : q * 2 + 2 ≤ s.n := by omega
    have a8 := h8 _ (spots_at (L := L) (j := q) (by omega))
    have hst := mkC_set (L.take q) a8.2.1 a8.1.1 a8.1.2
    refine T_drawT hti 12 _ _ (by kernel_rfl) (by kernel_rfl) ?_
    simp only [go_sem, Nat.reduceLT, Nat.reduceLeDiff, Nat.reduceEqDiff, reduceIte, reduceCtorEq, hs, hi, hn1, hn2, r1, b1, b2, b3, hc (q * 2) (by omega), hc (q * 2 + 1) (by omega), spotsC_x, spotsC_y, a8.1.1, a8.1.2, a8.2.1, a8.2.2]
    rw [hst]
    refine ⟨by omega, by have := a8.1; have := a8.2; omega, ⟨q + 1, by omega⟩, by show L.length - (q + 1) < L.length - q; omega, ?_⟩
    rw [take_step (by omega)]
    refine Imp.id (by simp) ?_ (impH.base0 (ok2 (L.take (q + 1))) (Nat.le_refl _) HExt.rfl)
    simp only [go_sem, Nat.reduceLT, w64N (a := (q : Int) + 1) (k := q + 1) (by omega) (by omega)]
    (try (repeat' apply And.intro) <;> first | omega | rfl | trivial | assumption | skip)
  · have hqL : q = L.length := by omega
    subst hqL
    rw [List.take_length]
theorem mask_Q (A : SV) (L : List (Int × Int)) (lo : Nat) (hA : Sp h lo n A L) (hm9 : L.length ≤ 1048576) (h8 : In8s L) :
    CallQ Tryz.prog cx 64 [A] h n (.agg 64 (mkC L)) := by
  obtain ⟨i, cap, s, rfl, h2, hi, hs, h5, h6, h7, hc⟩ := hA
  exact mask0_Q cx h n i cap s L hi hs h6 hc hm9 h8
theorem asked6_Q (g o : Nat) (sS : Seg) (S : Sh) (A : SV) (L : List (Int × Int)) (lo : Nat) (hg : hget h g = some sS) (hgn : g < n) (hS : ShAt sS o S) (hA : Sp h lo n A L) (hm9 : L.length ≤ 1048576) (hLR : SpotsR L) :
    CallQ Tryz.prog cx 50 [.ptr g o, A] h n (.int .i64 (codeI S (L.all fun a => hasB S a.1 a.2))) := by
  obtain ⟨i, cap, s, rfl, h2, hi, hs, h5, h6, h7, hc⟩ := hA
  refine callQ_of_T (P := Tryz.prog) hti (nt := 22) (rs := [.tmp 4]) rfl rfl Tryz.call50 Tryz.func50 rfl _ (by simp only [go_sem, and_self]) (Nat.le_of_ble_eq_true rfl) _ (by first | exact trivial | (refine lt_flat rfl ?_; simp [SV.flat]; done) | simp only [go_sem]) fun hok => ?_
  simp only [go_sem, Nat.reduceLT]
  refine (ok2_Q _ _ _ g o sS S hg hgn hS).A ?_
  by_cases hV : Valid S
  rotate_left
  · have e : ∀ b, codeI S b = 1 := fun b => by simp [codeI, validB_false hV]
    simp only [go_sem, Nat.reduceLT, validB_false hV, e]
  have e : ∀ b, codeI S b = if b then 0 else 2 := fun b => by simp [codeI, validB_true hV]
  simp only [go_sem, Nat.reduceLT, validB_true hV, e]
  refine T_lp (ι := { q : Nat // q ≤ L.length ∧ ∀ k, k < q → hasB S (L.getD k (0, 0)).1 (L.getD k (0, 0)).2 = true }) (fun q => ([(0, .ptr g o), (1, .sl i 0 L.length cap), (5, .int .i64 ((q.1 : Nat) : Int))], h, n)) (fun q => L.length - q.1) ⟨0, by omega, fun k hk => by omega⟩ ?_ ?_
  · refine Imp.id (by simp) ?_ (impH.base0 hok (Nat.le_refl _) HExt.rfl)
    simp only [go_sem, Nat.reduceLT]
    (try (repeat' apply And.intro) <;> first | omega | rfl | trivial | assumption | skip)
  rintro ⟨q, hq, hall⟩
  simp only [go_sem, Nat.reduceLT, decide_eq_true_eq, decide_eq_false_iff_not]
  refine ⟨fun h1 => ?_, fun h1 => ?_⟩
  · have r1 : (0 : Int) ≤ q ∧ (q : Int) < L.length := ⟨by omega, by omega⟩
    have b1 : q * 2 ≤ s.n - 2 := by omega
    have b2 : 2 ≤ s.n := by omega
    have b3 : q * 2 + 2 ≤ s.n := by omega
    have hr := hLR q (by omega)
    simp only [go_sem, Nat.reduceLT, hs, hi, r1, b1, b2, b3, hc (q * 2) (by omega), hc (q * 2 + 1) (by omega), spotsC_x, spotsC_y]
    refine (is_Q _ _ _ g o sS S _ _ hg hgn hS hr.1 hr.2).A ?_
    cases hb : hasB S (L.getD q (0, 0)).1 (L.getD q (0, 0)).2
    · have ha : (L.all fun a => hasB S a.1 a.2) = false := by
        rw [List.all_eq_false]; exact ⟨_, spots_at (L := L) (j := q) (by omega), by rw [hb]; decide⟩
      simp only [go_sem, Nat.reduceLT, reduceIte, ha]
    · simp only [go_sem, Nat.reduceLT]
      refine ⟨⟨q + 1, by omega, fun k hk => ?_⟩, by show L.length - (q + 1) < L.length - q; omega, ?_⟩
      · rcases (by omega : k < q ∨ k = q) with h | rfl
        · exact hall k h
        · exact hb
      · refine Imp.id (by simp) ?_ (impH.base0 hok (Nat.le_refl _) HExt.rfl)
        simp only [go_sem, Nat.reduceLT, w64N (a := (q : Int) + 1) (k := q + 1) (by omega) (by omega)]
        (try (repeat' apply And.intro) <;> first | omega | rfl | trivial | assumption | skip)
  · have ha : (L.all fun a => hasB S a.1 a.2) = true := List.all_eq_true.2 fun a ha => by
      obtain ⟨j, hj, rfl⟩ := List.mem_iff_getElem.1 ha
      have := hall j (by omega)
      rw [List.getD_eq_getElem?_getD, List.getElem?_eq_getElem hj] at this
      exact this
    simp only [go_sem, reduceIte, ha]
end
end Go.Proofs.YtfelopllfhcdpaaGreat.V

/- Sets of cells: the reference's lists and spreads. -/
namespace Go.Proofs.YtfelopllfhcdpaaGreat.V
/-- One spot appended. -/
theorem app1 {h hq : List (Nat × Seg)} {n nq jv cap : Nat} {A : List (Int × Int)} {a : Int × Int} {sc c1 : Nat → SV} {w : Option (Nat × Nat)} (I1 : n ≤ nq) (I2 : HOk nq hq) (I3 : HExt n h hq) (v1 : n ≤ jv) (c10 : c1 0 = .int .i8 a.1) (c11 : c1 1 = .int .i8 a.2)
    (v9 : ∀ k, k < A.length * 2 → sc k = spotsC A k) (m1 : A.length + 1 ≤ cap) (m2 : cap ≤ maxLen) :
    HOk (nq + 2) ((nq + 1, ⟨(A.length + 1) * 2, both (A.length * 2) sc (news c1 0), true, some (58, cap * 2)⟩) :: (nq, ⟨2, c1, true, w⟩) :: hdel hq jv) ∧
    HExt n h ((nq + 1, ⟨(A.length + 1) * 2, both (A.length * 2) sc (news c1 0), true, some (58, cap * 2)⟩) :: (nq, ⟨2, c1, true, w⟩) :: hdel hq jv) ∧
    SpO ((nq + 1, ⟨(A.length + 1) * 2, both (A.length * 2) sc (news c1 0), true, some (58, cap * 2)⟩) :: (nq, ⟨2, c1, true, w⟩) :: hdel hq jv) n (nq + 2) (.sl (nq + 1) 0 (A.length + 1) cap) (A ++ [a]) := by
  have hB : ∀ k, k < ([a] : List (Int × Int)).length * 2 → c1 (0 + k) = spotsC [a] k := fun k hk => by
    simp at hk
    rcases (by omega : k = 0 ∨ k = 1) with rfl | rfl
    · exact c10
    · exact c11
  have hbo : ∀ k, k < (A.length + 1) * 2 → both (A.length * 2) sc (news c1 0) k = spotsC (A ++ [a]) k := fun k hk =>
    both_sp A [a] v9 hB (by rw [List.length_append]; exact hk)
  refine ⟨(I2.hdel.consF fun k hk => ?_).consF fun k hk => ?_, fun z hz t ht => ?_, nq + 1, cap, _, by rw [List.length_append]; rfl, by omega, by omega, hget_hit _ _ _, rfl, rfl, by rw [List.length_append]; rfl, by rw [List.length_append]; exact m1, m2, fun k hk => hbo k (by rw [List.length_append] at hk; exact hk)⟩
  · have hk : k < 2 := hk
    have := hB k (by simpa using hk)
    rw [Nat.zero_add] at this
    show (c1 k).flat
    rw [this]; exact spotsC_flat _ _
  · show (both (A.length * 2) sc (news c1 0) k).flat
    rw [hbo k hk]; exact spotsC_flat _ _
  · simp only [hget]
    rw [if_neg (by omega), if_neg (by omega), hget_hdel, if_neg (by omega)]
    exact I3 z hz t ht
structure LsI (L : List (Int × Int)) (h : List (Nat × Seg)) (n k : Nat) (hq : List (Nat × Seg)) (nq : Nat) (V : SV) : Prop where
  hn : n ≤ nq
  ok : HOk nq hq
  ex : HExt n h hq
  out : SpO hq n nq V (upM L k)
theorem cellK_at {y x : Nat} (hx : x < 8) : cellK (y * 8 + x) = ((x : Int), (y : Int)) := by
  unfold cellK; rw [show (y * 8 + x) % 8 = x by omega, show (y * 8 + x) / 8 = y by omega]
section
variable (cx : Cx) (h : List (Nat × Seg)) (n : Nat)
set_option maxHeartbeats 1600000 in
theorem list_E (g : Nat) (L : List (Int × Int)) (hg : hget h g = some (mkS L)) (hgn : g < n) (K : HK)
    (hK : ∀ V h' n', n ≤ n' → HExt n h h' → HOk n' h' → Sp h' n n' V (upM L 64) → K V h' n') :
    CallE Tryz.prog cx 53 [.ptr g 0] h n K := by
  refine CallE.hokE ?_
  refine callE_of_T (P := Tryz.prog) hti (nt := 29) (rs := [.tmp 2]) rfl rfl Tryz.call53 Tryz.func53 rfl _ (by simp only [go_sem, and_self]) (Nat.le_of_ble_eq_true rfl) _ fun hok => ?_
  simp only [go_sem, Nat.reduceLT, Nat.reduceMul]
  have ok1 : HOk (n + 1) ((n, ⟨0, zrow (ti 58), true, some (58, 0)⟩) :: h) := hok.consF fun k hk => absurd hk (Nat.not_lt_zero k)
  have I0 : LsI L h n 0 ((n, ⟨0, zrow (ti 58), true, some (58, 0)⟩) :: h) (n + 1) (.sl n 0 0 0) :=
    ⟨by omega, ok1, by simp only [go_sem, HExt_cons], n, 0, _, rfl, Nat.le_refl _, by omega, hget_hit _ _ _, rfl, rfl, rfl, Nat.le_refl _, Nat.zero_le _, fun k hk => absurd hk (Nat.not_lt_zero k)⟩
  refine T_lp (ι := { q : Nat × List (Nat × Seg) × Nat × SV // q.1 ≤ 8 ∧ LsI L h n (q.1 * 8) q.2.1 q.2.2.1 q.2.2.2 })
    (fun q => ([(0, .ptr g 0), (3, q.1.2.2.2), (4, .int .i8 ((q.1.1 : Nat) : Int))], q.1.2.1, q.1.2.2.1)) (fun q => 8 - q.1.1) ⟨(0, _, _, _), by omega, I0⟩ ?_ ?_
  · refine Imp.id (by show n ≤ n + 1; omega) ?_ (impH.base0 ok1 (Nat.le_refl _) HExt.rfl)
    simp only [go_sem, Nat.reduceLT]
    (try (repeat' apply And.intro) <;> first | omega | rfl | trivial | assumption | skip)
  rintro ⟨⟨y, hy, ny, Vy⟩, hy8, J1, J2, J3, J4⟩
  simp only at hy8 J1 J2 J3 J4
  have Vyo := J4.sp.ok
  simp only [go_sem, Nat.reduceLT, Vyo, decide_eq_true_eq, decide_eq_false_iff_not]
  refine ⟨fun h1 => ?_, fun h1 => ?_⟩
  rotate_left
  · have hy88 : y = 8 := by omega
    subst hy88
    exact fun hok' => hK Vy hy ny J1 J3 hok' J4.sp
  refine T_lp (ι := { q : Nat × List (Nat × Seg) × Nat × SV // q.1 ≤ 8 ∧ LsI L h n (y * 8 + q.1) q.2.1 q.2.2.1 q.2.2.2 })
    (fun q => ([(0, .ptr g 0), (3, q.1.2.2.2), (4, .int .i8 ((y : Nat) : Int)), (5, .int .i8 ((q.1.1 : Nat) : Int))], q.1.2.1, q.1.2.2.1)) (fun q => 8 - q.1.1) ⟨(0, hy, ny, Vy), by omega, J1, J2, J3, J4⟩ ?_ ?_
  · refine Imp.id (by show n ≤ ny; omega) ?_ (impH.base0 J2 (Nat.le_refl _) HExt.rfl)
    simp only [go_sem, Nat.reduceLT, Vyo, J4.sp.lt]
    (try omega)
  rintro ⟨⟨x, hq, nq, V⟩, hx8, I1, I2, I3, I4⟩
  simp only at hx8 I1 I2 I3 I4
  have Vo := I4.sp.ok
  have hul := upM_len L (y * 8 + x)
  have hgq : hget hq g = some (mkS L) := I3 g hgn _ hg
  have hgnq : g < nq := by omega
  simp only [go_sem, Nat.reduceLT, Vo, decide_eq_true_eq, decide_eq_false_iff_not]
  refine ⟨fun h2 => ?_, fun h2 => ?_⟩
  rotate_left
  · have hx88 : x = 8 := by omega
    subst hx88
    simp only [go_sem, Int.reduceLT, Vo]
    refine ⟨⟨(y + 1, hq, nq, V), by show y + 1 ≤ 8; omega, I1, I2, I3, by rw [show (y + 1) * 8 = y * 8 + 8 by omega]; exact I4⟩, by show 8 - (y + 1) < 8 - y; omega, ?_⟩
    refine Imp.id (by show n ≤ nq; omega) ?_ (impH.base0 I2 (Nat.le_refl _) HExt.rfl)
    simp only [go_sem, Nat.reduceLT, Vo, I4.sp.lt, w8 (n := (y : Int) + 1) (by omega), Int.natCast_add, Int.natCast_one]
    (try (repeat' apply And.intro) <;> first | omega | rfl | trivial | assumption | skip)
  have hyx : y * 8 + x ≤ 63 := by omega
  have hm := mkC_at L (y := (y : Int)) (x := (x : Int)) (by omega) (by omega) (by omega)
  rw [Int.toNat_natCast, Int.toNat_natCast] at hm
  have hsucc := upM_succ L (y * 8 + x)
  rw [cellK_at (by omega)] at hsucc
  have I4c := I4
  obtain ⟨jv, capV, sV, e, v1, v2, v3, v4, v5, v6, v7, v8, v9⟩ := I4
  subst e
  simp only [go_sem, Nat.reduceLT, Nat.reduceLeDiff, Nat.reduceMul, hgq, hgnq, hm, hyx, show ((0 : Int) ≤ (y : Int) ∧ (y : Int) < 8) from ⟨by omega, by omega⟩, show ((0 : Int) ≤ (x : Int) ∧ (x : Int) < 8) from ⟨by omega, by omega⟩]
  by_cases hin : ((x : Int), (y : Int)) ∈ L
  rotate_left
  · rw [if_neg hin, List.append_nil] at hsucc
    simp only [go_sem, hin]
    refine ⟨⟨(x + 1, hq, nq, .sl jv 0 (upM L (y * 8 + x)).length capV), by show x + 1 ≤ 8; omega, I1, I2, I3, by rw [show y * 8 + (x + 1) = y * 8 + x + 1 by omega, hsucc]; exact I4c⟩, by show 8 - (x + 1) < 8 - x; omega, ?_⟩
    refine Imp.id (by show n ≤ nq; omega) ?_ (impH.base0 I2 (Nat.le_refl _) HExt.rfl)
    simp only [go_sem, Nat.reduceLT, v2, w8 (n := (x : Int) + 1) (by omega), Int.natCast_add, Int.natCast_one]
    (try (repeat' apply And.intro) <;> first | omega | rfl | trivial | assumption | skip)
  · rw [if_pos hin] at hsucc
    obtain ⟨sn, sc, sr, so⟩ := sV
    simp only at v4 v5 v6 v9
    subst v4 v5 v6
    have hjv1 : nq ≠ jv := by omega
    simp only [go_sem, Nat.reduceLT, Nat.reduceLeDiff, Nat.reduceMul, Nat.reduceSub, Nat.reduceMod, reduceIte, reduceCtorEq, hin, v3, v2, hjv1, ↓I2.del (Nat.le_refl nq)]
    generalize hAA : upM L (y * 8 + x) = A at *
    refine ⟨⟨v7, v8, by omega⟩, fun cap' m1 m2 => ?_⟩
    obtain ⟨okM, exM, spM⟩ := app1 (a := ((x : Int), (y : Int))) (w := some (58, 2)) (c1 := fun j => if j < 2 then cl [SV.int IntKind.i8 x, SV.int IntKind.i8 y] (j - 0) else cl [SV.int IntKind.i8 0, SV.int IntKind.i8 0] (j % 2)) I1 I2 I3 v1 rfl rfl v9 m1 m2
    refine ⟨⟨(x + 1, _, nq + 2, .sl (nq + 1) 0 (A.length + 1) cap'), by show x + 1 ≤ 8; omega, by show n ≤ nq + 2; omega, okM, exM, by rw [show y * 8 + (x + 1) = y * 8 + x + 1 by omega, hsucc]; exact spM⟩, by show 8 - (x + 1) < 8 - x; omega, ?_⟩
    refine Imp.id (by show n ≤ nq + 2; omega) ?_ (impH.base0 okM (Nat.le_refl _) HExt.rfl)
    simp only [go_sem, Nat.reduceLT, w8 (n := (x : Int) + 1) (by omega), Int.natCast_add, Int.natCast_one]
    (try (repeat' apply And.intro) <;> first | omega | rfl | trivial | assumption | skip)
end
end Go.Proofs.YtfelopllfhcdpaaGreat.V

/- The cells to which one can go: the program's own walk. -/
namespace Go.Proofs.YtfelopllfhcdpaaGreat.V
section
variable (cx : Cx) (h : List (Nat × Seg)) (n : Nat)
end
end Go.Proofs.YtfelopllfhcdpaaGreat.V

/- (lists of spots) The library's partitions of spots. -/
namespace Go.Proofs.YtfelopllfhcdpaaGreat.V
open Go.Sort (swp scanUp scanDown partLoop partition partEqLoop partitionEqual round_facts partLoop_eq partEqLoop_eq)
abbrev ySpP := Nat → Bool
theorem yscanUp_go {p : ySpP} {d : Array Nat} {j i : Nat} (h : i ≤ j) (hp : p d[i]! = true) : scanUp p d j i = scanUp p d j (i + 1) := by
  rw [scanUp, if_pos (by rw [hp, decide_eq_true h]; rfl)]
theorem yscanUp_far {p : ySpP} {d : Array Nat} {j i : Nat} (h : ¬ i ≤ j) : scanUp p d j i = i := by
  rw [scanUp, if_neg (by rw [decide_eq_false h]; simp)]
theorem yscanUp_stop {p : ySpP} {d : Array Nat} {j i : Nat} (hp : p d[i]! = false) : scanUp p d j i = i := by
  rw [scanUp, if_neg (by rw [hp]; simp)]
theorem yscanDown_go {p : ySpP} {d : Array Nat} {j i : Nat} (h : i ≤ j + 1) (hp : p d[j + 1]! = true) : scanDown p d i (j + 1) = scanDown p d i j := by
  rw [scanDown, if_pos (by rw [hp, decide_eq_true h]; rfl)]
theorem yscanDown_far {p : ySpP} {d : Array Nat} {j i : Nat} (h : ¬ i ≤ j) : scanDown p d i j = j := by
  cases j with
  | zero => rfl
  | succ j => rw [scanDown, if_neg (by rw [decide_eq_false h]; simp)]
theorem yscanDown_stop {p : ySpP} {d : Array Nat} {j i : Nat} (hp : p d[j]! = false) : scanDown p d i j = j := by
  cases j with
  | zero => rfl
  | succ j => rw [scanDown, if_neg (by rw [hp]; simp)]
section
variable (cx : Cx) (h : List (Nat × Seg)) (n : Nat)
set_option maxRecDepth 100000 in
set_option maxHeartbeats 3200000 in
theorem ypartition_E (i cap : Nat) (d : Array Nat) (own : Option (Nat × Nat)) (ee : El) (hRw : ∀ k, ee.r k < n) (a b pivot : Nat) (f p q : Nat) (G F : Nat → SV) (cI : Nat → Nat → Int) (lt : Nat → Nat → Bool) (hlt : ∀ x y, decide (cI x y < 0) = lt x y)
    (hs : hget h i = some ⟨d.size, elC ee d.toList, true, own⟩) (hi0 : i < n) (hap : a ≤ pivot) (hpb : pivot < b) (hb : b ≤ d.size) (h2 : a + 2 ≤ b) (hm9 : d.size ≤ 1000000000) (hF : (SV.fn f p G q F).lt n) (hcmp : yCmps cx h n i ee f p q G F cI) (K : HK)
    (hK : K (.tup 2 (cl [.int .i64 ((partition lt d a b pivot).1 : Nat), .bool (partition lt d a b pivot).2.1])) (hset h i ⟨d.size, elC ee (partition lt d a b pivot).2.2.toList, true, own⟩) n) :
    CallE Tryz.prog cx 116 [.sl i 0 d.size cap, .int .i64 a, .int .i64 b, .int .i64 pivot, .fn f p G q F] h n K := by
  refine CallE.to _ _ (by simp only [go_sem]) (fun hok => hokE hok hRw) hK ?_
  have hgi : ∀ t, hget (hset h i t) i = some t := hget_hset_self hs
  have hFl : (SV.fn f p G q F).lt n = True := eq_true hF
  have b6 : (1 = d.size) = False := eq_false (by omega)
  have ca0 : a < d.size := by omega
  have cp0 : pivot < d.size := by omega
  obtain ⟨D, hDe⟩ : ∃ D, D = swp d a pivot := ⟨_, rfl⟩
  have hDs : D.size = d.size := by rw [hDe]; exact yswp_size _ _ _
  obtain ⟨pU, hpUe⟩ : ∃ p : ySpP, p = fun x => lt x D[a]! := ⟨_, rfl⟩
  obtain ⟨pD, hpDe⟩ : ∃ p : ySpP, p = fun x => !lt x D[a]! := ⟨_, rfl⟩
  have hpU : ∀ x, pU x = lt x D[a]! := fun x => by rw [hpUe]
  have hpD : ∀ x, pD x = !lt x D[a]! := fun x => by rw [hpDe]
  have hpart : partition lt d a b pivot = if scanUp pU D (b - 1) (a + 1) > scanDown pD D (scanUp pU D (b - 1) (a + 1)) (b - 1) then (scanDown pD D (scanUp pU D (b - 1) (a + 1)) (b - 1), true, swp D (scanDown pD D (scanUp pU D (b - 1) (a + 1)) (b - 1)) a) else
      ((partLoop lt a (scanUp pU D (b - 1) (a + 1) + 1) (scanDown pD D (scanUp pU D (b - 1) (a + 1)) (b - 1) - 1) (swp D (scanUp pU D (b - 1) (a + 1)) (scanDown pD D (scanUp pU D (b - 1) (a + 1)) (b - 1)))).1, false,
        swp (partLoop lt a (scanUp pU D (b - 1) (a + 1) + 1) (scanDown pD D (scanUp pU D (b - 1) (a + 1)) (b - 1) - 1) (swp D (scanUp pU D (b - 1) (a + 1)) (scanDown pD D (scanUp pU D (b - 1) (a + 1)) (b - 1)))).2
          (partLoop lt a (scanUp pU D (b - 1) (a + 1) + 1) (scanDown pD D (scanUp pU D (b - 1) (a + 1)) (b - 1) - 1) (swp D (scanUp pU D (b - 1) (a + 1)) (scanDown pD D (scanUp pU D (b - 1) (a + 1)) (b - 1)))).1 a) := by
    subst hpUe hpDe hDe; rfl
  obtain ⟨f1, f2, f3, f4, _, _, f5⟩ := round_facts pU pD (fun x => by rw [hpU, hpD]) D (a + 1 - 1) (b - 1 + 1) (a + 1) (b - 1) (by omega) (by omega) (fun t h1 h2 => by omega) (fun t h1 h2 => by omega)
  refine callE_of_SW (P := Tryz.prog) hti (nt := 178) (rs := [.tmp 10, .tmp 11]) rfl rfl Tryz.call116 Tryz.func116 rfl _ (by simp only [go_sem, and_self]) (Nat.le_of_ble_eq_true rfl) _ fun hok => ?_
  refine SW_seq (SW_run hti trivial ?_)
  simp only [go_sem, Nat.reduceLT]
  refine SW_seq (SW_run hti trivial ?_)
  refine T_drawG hti 16 [13, 15] (.b 0 0 (.b 0 1 (.b 0 2 (.b 0 3 (.b 0 4 (.b 0 5 (.b 0 6 (.b 0 7 (.b 0 8 (.b 0 9 (.b 0 10 (.b 0 11 (.b 0 12 (.b 4 13 (.b 0 14 (.b 4 15 (.f) .o) .o) .o) .o) .o) .o) .o) .o) .o) .o) .o) .o) .o) .o) .o) .o) _ _ (by kernel_rfl) (by kernel_rfl) ?_
  simp only [go_sem, Nat.reduceLT, hgi, hi0, hs, ix_r ca0, ix_r cp0, yix_b ca0, yix_b cp0, yix_c ca0, yix_c cp0, elC_at, b6, and_false, if_false, hset_hset]
  rw [yswap_fn d (a := a) (b := pivot) (by omega) (by omega)]
  rw [← hDe]
  refine SW_seq (SW_run hti trivial ?_)
  simp only [go_sem, Nat.reduceLT, w64N (a := (a : Int) + 1) (k := a + 1) (by omega) (by omega), w64N (a := (b : Int) - 1) (k := b - 1) (by omega) (by omega)]
  obtain ⟨I, hI⟩ : ∃ I, scanUp pU D (b - 1) (a + 1) = I := ⟨_, rfl⟩
  rw [hI] at hpart f1 f2 f3 f4 f5
  obtain ⟨J, hJ⟩ : ∃ J, scanDown pD D I (b - 1) = J := ⟨_, rfl⟩
  rw [hJ] at hpart f3 f4 f5
  refine SW_seq (SW_cut hti (ι := Unit) (fun _ => ([(0, .sl i 0 d.size cap), (1, .int .i64 a), (4, .fn f p G q F), (12, .int .i64 ((I : Nat) : Int)), (13, .int .i64 ((b - 1 : Nat) : Int))], hset h i ⟨d.size, elC ee D.toList, true, own⟩, n)) trivial ?_ ?_)
  · simp only [go_sem]
    subst hI
    refine T_lp (ι := { k : Nat // a + 1 ≤ k ∧ k ≤ (b - 1) + 1 ∧ scanUp pU D (b - 1) k = scanUp pU D (b - 1) (a + 1) }) (fun k => ([(0, .sl i 0 d.size cap), (1, .int .i64 a), (4, .fn f p G q F), (12, .int .i64 ((k.1 : Nat) : Int)), (13, .int .i64 ((b - 1 : Nat) : Int))], hset h i ⟨d.size, elC ee D.toList, true, own⟩, n)) (fun k => (b - 1) + 1 - k.1) ⟨(a + 1), by omega, by omega, rfl⟩ ?_ ?_
    · refine Imp.id (by simp) ?_ (impH.base0 (hokE hok hRw) (by simp) HExt.rfl)
      simp only [go_sem, Nat.reduceLT, hFl, hi0]
      (try (repeat' apply And.intro) <;> first | omega | rfl | trivial | assumption | skip)
    · rintro ⟨k, hk1, hk2, hK⟩
      simp only [go_sem]
      by_cases h1 : k ≤ (b - 1)
      rotate_left
      · have e1 : ((k : Int) ≤ ((b - 1) : Nat)) = False := eq_false (by omega)
        rw [yscanUp_far h1] at hK
        refine T_draw hti _ _ (by kernel_rfl) (by kernel_rfl) ?_
        simp only [go_sem, Nat.reduceLT, e1]
        refine ⟨(), Imp.id (by simp) ?_ (impH.base0 (hokE hok hRw) (by simp) HExt.rfl)⟩
        simp only [go_sem, Nat.reduceLT, hFl, hi0, hK]
        (try (repeat' apply And.intro) <;> first | omega | rfl | trivial | assumption | skip)
      have e1 : ((k : Int) ≤ ((b - 1) : Nat)) = True := eq_true (by omega)
      have ck : k < d.size := by omega
      have ca : a < d.size := by omega
      refine T_draw hti _ _ (by kernel_rfl) (by kernel_rfl) ?_
      simp only [go_sem, Nat.reduceLT, hgi, hi0, e1, ix_r ck, yix_b ck, yix_c ck, ix_r ca, yix_b ca, yix_c ca, elC_at]
      refine (hcmp (D.toList.getD k 0) (D.toList.getD a 0) _ _ _ _ (Nat.le_refl n) (HBut.set i n h _)).A ?_
      have hl := hlt (D.toList.getD k 0) (D.toList.getD a 0)
      by_cases hc : cI (D.toList.getD k 0) (D.toList.getD a 0) < 0
      · rw [yscanUp_go (by omega) (show pU D[k]! = _ from by rw [hpU, ybangL, ybangL, ← hl, decide_eq_true hc])] at hK
        simp only [go_sem, Nat.reduceLT, hc]
        refine ⟨⟨k + 1, by omega, by omega, hK⟩, by show (b - 1) + 1 - (k + 1) < (b - 1) + 1 - k; omega, ?_⟩
        refine Imp.id (by simp) ?_ (impH.base0 (hokE hok hRw) (by simp) HExt.rfl)
        simp only [go_sem, Nat.reduceLT, hFl, hi0, w64N (a := (k : Int) + 1) (k := k + 1) (by omega) (by omega)]
        (try (repeat' apply And.intro) <;> first | omega | rfl | trivial | assumption | skip)
      · rw [yscanUp_stop (show pU D[k]! = _ from by rw [hpU, ybangL, ybangL, ← hl, decide_eq_false hc])] at hK
        simp only [go_sem, Nat.reduceLT, hc]
        refine ⟨(), Imp.id (by simp) ?_ (impH.base0 (hokE hok hRw) (by simp) HExt.rfl)⟩
        simp only [go_sem, Nat.reduceLT, hFl, hi0, hK]
        (try (repeat' apply And.intro) <;> first | omega | rfl | trivial | assumption | skip)
  intro _
  refine SW_seq (SW_cut hti (ι := Unit) (fun _ => ([(0, .sl i 0 d.size cap), (1, .int .i64 a), (4, .fn f p G q F), (12, .int .i64 ((I : Nat) : Int)), (13, .int .i64 ((J : Nat) : Int))], hset h i ⟨d.size, elC ee D.toList, true, own⟩, n)) trivial ?_ ?_)
  · simp only [go_sem]
    subst hJ
    refine T_lp (ι := { k : Nat // I ≤ k + 1 ∧ k ≤ (b - 1) ∧ scanDown pD D I k = scanDown pD D I (b - 1) }) (fun k => ([(0, .sl i 0 d.size cap), (1, .int .i64 a), (4, .fn f p G q F), (12, .int .i64 ((I : Nat) : Int)), (13, .int .i64 ((k.1 : Nat) : Int))], hset h i ⟨d.size, elC ee D.toList, true, own⟩, n)) (fun k => k.1) ⟨(b - 1), by omega, Nat.le_refl _, rfl⟩ ?_ ?_
    · refine Imp.id (by simp) ?_ (impH.base0 (hokE hok hRw) (by simp) HExt.rfl)
      simp only [go_sem, Nat.reduceLT, hFl, hi0]
      (try (repeat' apply And.intro) <;> first | omega | rfl | trivial | assumption | skip)
    · rintro ⟨k, hk1, hk2, hK⟩
      simp only [go_sem]
      by_cases h1 : I ≤ k
      rotate_left
      · have e1 : (((I : Nat) : Int) ≤ (k : Nat)) = False := eq_false (by omega)
        rw [yscanDown_far h1] at hK
        refine T_draw hti _ _ (by kernel_rfl) (by kernel_rfl) ?_
        simp only [go_sem, Nat.reduceLT, e1]
        refine ⟨(), Imp.id (by simp) ?_ (impH.base0 (hokE hok hRw) (by simp) HExt.rfl)⟩
        simp only [go_sem, Nat.reduceLT, hFl, hi0, hK]
        (try (repeat' apply And.intro) <;> first | omega | rfl | trivial | assumption | skip)
      obtain ⟨k, rfl⟩ := nat_succ (show 0 < k by omega)
      have e1 : (((I : Nat) : Int) ≤ ((k + 1 : Nat) : Int)) = True := eq_true (by omega)
      have ck : k + 1 < d.size := by omega
      have ca : a < d.size := by omega
      refine T_draw hti _ _ (by kernel_rfl) (by kernel_rfl) ?_
      simp only [go_sem, Nat.reduceLT, hgi, hi0, e1, ix_r ck, yix_b ck, yix_c ck, ix_r ca, yix_b ca, yix_c ca, elC_at]
      refine (hcmp (D.toList.getD (k + 1) 0) (D.toList.getD a 0) _ _ _ _ (Nat.le_refl n) (HBut.set i n h _)).A ?_
      have hl := hlt (D.toList.getD (k + 1) 0) (D.toList.getD a 0)
      by_cases hc : cI (D.toList.getD (k + 1) 0) (D.toList.getD a 0) < 0
      · rw [yscanDown_stop (show pD D[k + 1]! = _ from by rw [hpD, ybangL, ybangL, ← hl, decide_eq_true hc]; rfl)] at hK
        simp only [go_sem, Nat.reduceLT, hc]
        refine ⟨(), Imp.id (by simp) ?_ (impH.base0 (hokE hok hRw) (by simp) HExt.rfl)⟩
        simp only [go_sem, Nat.reduceLT, hFl, hi0, hK]
        (try (repeat' apply And.intro) <;> first | omega | rfl | trivial | assumption | skip)
      · rw [yscanDown_go (by omega) (show pD D[k + 1]! = _ from by rw [hpD, ybangL, ybangL, ← hl, decide_eq_false hc]; rfl)] at hK
        simp only [go_sem, Nat.reduceLT, hc]
        refine ⟨⟨k, by omega, by omega, hK⟩, by show k < k + 1; omega, ?_⟩
        refine Imp.id (by simp) ?_ (impH.base0 (hokE hok hRw) (by simp) HExt.rfl)
        simp only [go_sem, Nat.reduceLT, hFl, hi0, w64N (a := ((k + 1 : Nat) : Int) - 1) (k := k) (by omega) (by omega)]
        (try (repeat' apply And.intro) <;> first | omega | rfl | trivial | assumption | skip)
  intro _
  by_cases hIJ : I > J
  · rw [if_pos hIJ] at hpart
    have e1 : ((J : Int) < (I : Int)) = True := eq_true (by omega)
    have cXJ : J < d.size := by omega
    refine SW_of_T hti trivial ?_
    simp only [go_sem, Nat.reduceLT, e1]
    refine T_drawG hti 16 [13, 15] (.b 0 0 (.b 0 1 (.b 0 2 (.b 0 3 (.b 0 4 (.b 0 5 (.b 0 6 (.b 0 7 (.b 0 8 (.b 0 9 (.b 0 10 (.b 0 11 (.b 0 12 (.b 4 13 (.b 0 14 (.b 4 15 (.f) .o) .o) .o) .o) .o) .o) .o) .o) .o) .o) .o) .o) .o) .o) .o) .o) _ _ (by kernel_rfl) (by kernel_rfl) ?_
    simp only [go_sem, Nat.reduceLT, hgi, hi0, ix_r cXJ, ix_r ca0, yix_b cXJ, yix_b ca0, yix_c cXJ, yix_c ca0, elC_at, b6, and_false, if_false, hset_hset]
    rw [yswap_fn D (a := J) (b := a) (by omega) (by omega)]
    rw [hpart]
    exact ⟨rfl, HExt.rfl⟩
  rw [if_neg hIJ] at hpart
  obtain ⟨_, _, hlt2⟩ := f5 hIJ
  have e1 : ((J : Int) < (I : Int)) = False := eq_false (by omega)
  have cXI : I < d.size := by omega
  have cXJ : J < d.size := by omega
  refine SW_seq (SW_run hti trivial ?_)
  simp only [go_sem, Nat.reduceLT, e1]
  refine SW_seq (SW_run hti trivial ?_)
  refine T_drawG hti 16 [13, 15] (.b 0 0 (.b 0 1 (.b 0 2 (.b 0 3 (.b 0 4 (.b 0 5 (.b 0 6 (.b 0 7 (.b 0 8 (.b 0 9 (.b 0 10 (.b 0 11 (.b 0 12 (.b 4 13 (.b 0 14 (.b 4 15 (.f) .o) .o) .o) .o) .o) .o) .o) .o) .o) .o) .o) .o) .o) .o) .o) .o) _ _ (by kernel_rfl) (by kernel_rfl) ?_
  simp only [go_sem, Nat.reduceLT, hgi, hi0, ix_r cXI, ix_r cXJ, yix_b cXI, yix_b cXJ, yix_c cXI, yix_c cXJ, elC_at, b6, and_false, if_false, hset_hset]
  rw [yswap_fn D (a := I) (b := J) (by omega) (by omega)]
  refine SW_seq (SW_run hti trivial ?_)
  simp only [go_sem, Nat.reduceLT, w64N (a := (I : Int) + 1) (k := I + 1) (by omega) (by omega)]
  refine SW_seq (SW_run hti trivial ?_)
  simp only [go_sem, Nat.reduceLT, w64N (a := (J : Int) - 1) (k := J - 1) (by omega) (by omega)]
  have hEs : (swp D I J).size = d.size := (yswp_size _ _ _).trans hDs
  generalize hE0 : swp D I J = E0 at *
  generalize hR : partLoop lt a (I + 1) (J - 1) E0 = R at *
  clear hI hJ hpU hpD hpUe hpDe hDe f5
  refine SW_seq (SW_cutS (ι := { u : Nat × Array Nat // u = R ∧ u.1 + 1 ≤ b ∧ u.2.size = d.size }) (fun u => ([(0, .sl i 0 d.size cap), (1, .int .i64 a), (13, .int .i64 ((u.1.1 : Nat) : Int))], hset h i ⟨d.size, elC ee u.1.2.toList, true, own⟩, n)) ?_ ?_)
  · refine SW_block (SW_lp (ι := { w : Nat × Nat × Array Nat // (a + 1 ≤ w.1 ∧ w.1 ≤ w.2.1 + 1 ∧ w.2.1 + 1 ≤ b) ∧ w.2.2.size = d.size ∧ partLoop lt a w.1 w.2.1 w.2.2 = R })
      (fun w => ([(0, .sl i 0 d.size cap), (1, .int .i64 a), (4, .fn f p G q F), (12, .int .i64 ((w.1.1 : Nat) : Int)), (13, .int .i64 ((w.1.2.1 : Nat) : Int))], hset h i ⟨d.size, elC ee w.1.2.2.toList, true, own⟩, n)) (fun w => w.1.2.1 + 1 - w.1.1) ⟨(I + 1, J - 1, E0), ⟨by show a + 1 ≤ I + 1; omega, by show I + 1 ≤ J - 1 + 1; omega, by show J - 1 + 1 ≤ b; omega⟩, hEs, hR⟩ ?_ ?_)
    · refine Imp.id (by simp) ?_ (impH.base0 (hokE hok hRw) (by simp) HExt.rfl)
      simp only [go_sem, Nat.reduceLT, hFl, hi0]
      (try (repeat' apply And.intro) <;> first | omega | rfl | trivial | assumption | skip)
    rintro ⟨⟨i0, j0, E⟩, ⟨g1, g2, g3⟩, hEz, hPL⟩
    simp only at g1 g2 g3 hEz hPL
    obtain ⟨pU, hpUe⟩ : ∃ p : ySpP, p = fun x => lt x E[a]! := ⟨_, rfl⟩
    obtain ⟨pD, hpDe⟩ : ∃ p : ySpP, p = fun x => !lt x E[a]! := ⟨_, rfl⟩
    have hpU : ∀ x, pU x = lt x E[a]! := fun x => by rw [hpUe]
    have hpD : ∀ x, pD x = !lt x E[a]! := fun x => by rw [hpDe]
    rw [partLoop_eq, ← hpUe, ← hpDe] at hPL
    obtain ⟨f1, f2, f3, f4, _, _, f5⟩ := round_facts pU pD (fun x => by rw [hpU, hpD]) E (i0 - 1) (j0 + 1) (i0) (j0) (by omega) (by omega) (fun t h1 h2 => by omega) (fun t h1 h2 => by omega)
    obtain ⟨I2, hI2⟩ : ∃ I, scanUp pU E j0 i0 = I := ⟨_, rfl⟩
    rw [hI2] at hPL f1 f2 f3 f4 f5
    obtain ⟨J2, hJ2⟩ : ∃ J, scanDown pD E I2 j0 = J := ⟨_, rfl⟩
    rw [hJ2] at hPL f3 f4 f5
    refine SW_block (SW_seq (SW_cut hti (ι := Unit) (fun _ => ([(0, .sl i 0 d.size cap), (1, .int .i64 a), (4, .fn f p G q F), (12, .int .i64 ((I2 : Nat) : Int)), (13, .int .i64 ((j0 : Nat) : Int))], hset h i ⟨d.size, elC ee E.toList, true, own⟩, n)) trivial ?_ ?_))
    · simp only [go_sem]
      subst hI2
      refine T_lp (ι := { k : Nat // a + 1 ≤ k ∧ k ≤ j0 + 1 ∧ scanUp pU E j0 k = scanUp pU E j0 i0 }) (fun k => ([(0, .sl i 0 d.size cap), (1, .int .i64 a), (4, .fn f p G q F), (12, .int .i64 ((k.1 : Nat) : Int)), (13, .int .i64 ((j0 : Nat) : Int))], hset h i ⟨d.size, elC ee E.toList, true, own⟩, n)) (fun k => j0 + 1 - k.1) ⟨i0, by omega, by omega, rfl⟩ ?_ ?_
      · refine Imp.id (by simp) ?_ (impH.base0 (hokE hok hRw) (by simp) HExt.rfl)
        simp only [go_sem, Nat.reduceLT, hFl, hi0]
        (try (repeat' apply And.intro) <;> first | omega | rfl | trivial | assumption | skip)
      · rintro ⟨k, hk1, hk2, hK⟩
        simp only [go_sem]
        by_cases h1 : k ≤ j0
        rotate_left
        · have e1 : ((k : Int) ≤ (j0 : Nat)) = False := eq_false (by omega)
          rw [yscanUp_far h1] at hK
          refine T_draw hti _ _ (by kernel_rfl) (by kernel_rfl) ?_
          simp only [go_sem, Nat.reduceLT, e1]
          refine ⟨(), Imp.id (by simp) ?_ (impH.base0 (hokE hok hRw) (by simp) HExt.rfl)⟩
          simp only [go_sem, Nat.reduceLT, hFl, hi0, hK]
          (try (repeat' apply And.intro) <;> first | omega | rfl | trivial | assumption | skip)
        have e1 : ((k : Int) ≤ (j0 : Nat)) = True := eq_true (by omega)
        have ck : k < d.size := by omega
        have ca : a < d.size := by omega
        refine T_draw hti _ _ (by kernel_rfl) (by kernel_rfl) ?_
        simp only [go_sem, Nat.reduceLT, hgi, hi0, e1, ix_r ck, yix_b ck, yix_c ck, ix_r ca, yix_b ca, yix_c ca, elC_at]
        refine (hcmp (E.toList.getD k 0) (E.toList.getD a 0) _ _ _ _ (Nat.le_refl n) (HBut.set i n h _)).A ?_
        have hl := hlt (E.toList.getD k 0) (E.toList.getD a 0)
        by_cases hc : cI (E.toList.getD k 0) (E.toList.getD a 0) < 0
        · rw [yscanUp_go (by omega) (show pU E[k]! = _ from by rw [hpU, ybangL, ybangL, ← hl, decide_eq_true hc])] at hK
          simp only [go_sem, Nat.reduceLT, hc]
          refine ⟨⟨k + 1, by omega, by omega, hK⟩, by show j0 + 1 - (k + 1) < j0 + 1 - k; omega, ?_⟩
          refine Imp.id (by simp) ?_ (impH.base0 (hokE hok hRw) (by simp) HExt.rfl)
          simp only [go_sem, Nat.reduceLT, hFl, hi0, w64N (a := (k : Int) + 1) (k := k + 1) (by omega) (by omega)]
          (try (repeat' apply And.intro) <;> first | omega | rfl | trivial | assumption | skip)
        · rw [yscanUp_stop (show pU E[k]! = _ from by rw [hpU, ybangL, ybangL, ← hl, decide_eq_false hc])] at hK
          simp only [go_sem, Nat.reduceLT, hc]
          refine ⟨(), Imp.id (by simp) ?_ (impH.base0 (hokE hok hRw) (by simp) HExt.rfl)⟩
          simp only [go_sem, Nat.reduceLT, hFl, hi0, hK]
          (try (repeat' apply And.intro) <;> first | omega | rfl | trivial | assumption | skip)
    intro _
    refine SW_seq (SW_cut hti (ι := Unit) (fun _ => ([(0, .sl i 0 d.size cap), (1, .int .i64 a), (4, .fn f p G q F), (12, .int .i64 ((I2 : Nat) : Int)), (13, .int .i64 ((J2 : Nat) : Int))], hset h i ⟨d.size, elC ee E.toList, true, own⟩, n)) trivial ?_ ?_)
    · simp only [go_sem]
      subst hJ2
      refine T_lp (ι := { k : Nat // I2 ≤ k + 1 ∧ k ≤ j0 ∧ scanDown pD E I2 k = scanDown pD E I2 j0 }) (fun k => ([(0, .sl i 0 d.size cap), (1, .int .i64 a), (4, .fn f p G q F), (12, .int .i64 ((I2 : Nat) : Int)), (13, .int .i64 ((k.1 : Nat) : Int))], hset h i ⟨d.size, elC ee E.toList, true, own⟩, n)) (fun k => k.1) ⟨j0, by omega, Nat.le_refl _, rfl⟩ ?_ ?_
      · refine Imp.id (by simp) ?_ (impH.base0 (hokE hok hRw) (by simp) HExt.rfl)
        simp only [go_sem, Nat.reduceLT, hFl, hi0]
        (try (repeat' apply And.intro) <;> first | omega | rfl | trivial | assumption | skip)
      · rintro ⟨k, hk1, hk2, hK⟩
        simp only [go_sem]
        by_cases h1 : I2 ≤ k
        rotate_left
        · have e1 : (((I2 : Nat) : Int) ≤ (k : Nat)) = False := eq_false (by omega)
          rw [yscanDown_far h1] at hK
          refine T_draw hti _ _ (by kernel_rfl) (by kernel_rfl) ?_
          simp only [go_sem, Nat.reduceLT, e1]
          refine ⟨(), Imp.id (by simp) ?_ (impH.base0 (hokE hok hRw) (by simp) HExt.rfl)⟩
          simp only [go_sem, Nat.reduceLT, hFl, hi0, hK]
          (try (repeat' apply And.intro) <;> first | omega | rfl | trivial | assumption | skip)
        obtain ⟨k, rfl⟩ := nat_succ (show 0 < k by omega)
        have e1 : (((I2 : Nat) : Int) ≤ ((k + 1 : Nat) : Int)) = True := eq_true (by omega)
        have ck : k + 1 < d.size := by omega
        have ca : a < d.size := by omega
        refine T_draw hti _ _ (by kernel_rfl) (by kernel_rfl) ?_
        simp only [go_sem, Nat.reduceLT, hgi, hi0, e1, ix_r ck, yix_b ck, yix_c ck, ix_r ca, yix_b ca, yix_c ca, elC_at]
        refine (hcmp (E.toList.getD (k + 1) 0) (E.toList.getD a 0) _ _ _ _ (Nat.le_refl n) (HBut.set i n h _)).A ?_
        have hl := hlt (E.toList.getD (k + 1) 0) (E.toList.getD a 0)
        by_cases hc : cI (E.toList.getD (k + 1) 0) (E.toList.getD a 0) < 0
        · rw [yscanDown_stop (show pD E[k + 1]! = _ from by rw [hpD, ybangL, ybangL, ← hl, decide_eq_true hc]; rfl)] at hK
          simp only [go_sem, Nat.reduceLT, hc]
          refine ⟨(), Imp.id (by simp) ?_ (impH.base0 (hokE hok hRw) (by simp) HExt.rfl)⟩
          simp only [go_sem, Nat.reduceLT, hFl, hi0, hK]
          (try (repeat' apply And.intro) <;> first | omega | rfl | trivial | assumption | skip)
        · rw [yscanDown_go (by omega) (show pD E[k + 1]! = _ from by rw [hpD, ybangL, ybangL, ← hl, decide_eq_false hc]; rfl)] at hK
          simp only [go_sem, Nat.reduceLT, hc]
          refine ⟨⟨k, by omega, by omega, hK⟩, by show k < k + 1; omega, ?_⟩
          refine Imp.id (by simp) ?_ (impH.base0 (hokE hok hRw) (by simp) HExt.rfl)
          simp only [go_sem, Nat.reduceLT, hFl, hi0, w64N (a := ((k + 1 : Nat) : Int) - 1) (k := k) (by omega) (by omega)]
          (try (repeat' apply And.intro) <;> first | omega | rfl | trivial | assumption | skip)
    intro _
    refine SW_of_T hti trivial ?_
    by_cases hx : I2 > J2
    · rw [if_pos hx] at hPL
      have e2 : ((J2 : Int) < (I2 : Int)) = True := eq_true (by omega)
      simp only [go_sem, Nat.reduceLT, e2]
      refine ⟨⟨(J2, E), hPL, by show J2 + 1 ≤ b; omega, hEz⟩, Imp.id (by simp) ?_ (impH.base0 (hokE hok hRw) (by simp) HExt.rfl)⟩
      simp only [go_sem, Nat.reduceLT, hi0]
      (try (repeat' apply And.intro) <;> first | omega | rfl | trivial | assumption | skip)
    · rw [if_neg hx] at hPL
      obtain ⟨_, _, hlt3⟩ := f5 hx
      have e2 : ((J2 : Int) < (I2 : Int)) = False := eq_false (by omega)
      have cI2 : I2 < d.size := by omega
      have cJ2 : J2 < d.size := by omega
      simp only [go_sem, Nat.reduceLT, e2]
      refine T_drawG hti 16 [13, 15] (.b 0 0 (.b 0 1 (.b 0 2 (.b 0 3 (.b 0 4 (.b 0 5 (.b 0 6 (.b 0 7 (.b 0 8 (.b 0 9 (.b 0 10 (.b 0 11 (.b 0 12 (.b 4 13 (.b 0 14 (.b 4 15 (.f) .o) .o) .o) .o) .o) .o) .o) .o) .o) .o) .o) .o) .o) .o) .o) .o) _ _ (by kernel_rfl) (by kernel_rfl) ?_
      simp only [go_sem, Nat.reduceLT, hgi, hi0, w64N (a := (I2 : Int) + 1) (k := I2 + 1) (by omega) (by omega), w64N (a := (J2 : Int) - 1) (k := J2 - 1) (by omega) (by omega), ix_r cI2, ix_r cJ2, yix_b cI2, yix_b cJ2, yix_c cI2, yix_c cJ2, elC_at, b6, and_false, if_false, hset_hset]
      rw [yswap_fn E (a := I2) (b := J2) (by omega) (by omega)]
      refine ⟨⟨(I2 + 1, J2 - 1, swp E I2 J2), ⟨by show a + 1 ≤ I2 + 1; omega, by show I2 + 1 ≤ J2 - 1 + 1; omega, by show J2 - 1 + 1 ≤ b; omega⟩, (yswp_size _ _ _).trans hEz, hPL⟩, by show J2 - 1 + 1 - (I2 + 1) < j0 + 1 - i0; omega, ?_⟩
      refine Imp.id (by simp) ?_ (impH.base0 (hokE hok hRw) (by simp) HExt.rfl)
      simp only [go_sem, Nat.reduceLT, hFl, hi0]
      (try (repeat' apply And.intro) <;> first | omega | rfl | trivial | assumption | skip)
  rintro ⟨⟨m, E⟩, rfl, hm, hEz⟩
  simp only at hm hEz hpart
  have cm : m < d.size := by omega
  refine SW_of_T hti trivial ?_
  simp only [go_sem]
  refine T_drawG hti 16 [13, 15] (.b 0 0 (.b 0 1 (.b 0 2 (.b 0 3 (.b 0 4 (.b 0 5 (.b 0 6 (.b 0 7 (.b 0 8 (.b 0 9 (.b 0 10 (.b 0 11 (.b 0 12 (.b 4 13 (.b 0 14 (.b 4 15 (.f) .o) .o) .o) .o) .o) .o) .o) .o) .o) .o) .o) .o) .o) .o) .o) .o) _ _ (by kernel_rfl) (by kernel_rfl) ?_
  simp only [go_sem, Nat.reduceLT, hgi, hi0, ix_r cm, ix_r ca0, yix_b cm, yix_b ca0, yix_c cm, yix_c ca0, elC_at, b6, and_false, if_false, hset_hset]
  rw [yswap_fn E (a := m) (b := a) (by omega) (by omega)]
  rw [hpart]
  exact ⟨rfl, HExt.rfl⟩
end
end Go.Proofs.YtfelopllfhcdpaaGreat.V

/- (lists of spots) The library's partition of spots by equality. -/
namespace Go.Proofs.YtfelopllfhcdpaaGreat.V
open Go.Sort (swp scanUp scanDown partEqLoop partitionEqual round_facts partEqLoop_eq)
section
variable (cx : Cx) (h : List (Nat × Seg)) (n : Nat)
set_option maxRecDepth 100000 in
set_option maxHeartbeats 3200000 in
theorem ypartitionEqual_E (i cap : Nat) (d : Array Nat) (own : Option (Nat × Nat)) (ee : El) (hRw : ∀ k, ee.r k < n) (a b pivot : Nat) (f p q : Nat) (G F : Nat → SV) (cI : Nat → Nat → Int) (lt : Nat → Nat → Bool) (hlt : ∀ x y, decide (cI x y < 0) = lt x y)
    (hs : hget h i = some ⟨d.size, elC ee d.toList, true, own⟩) (hi0 : i < n) (hap : a ≤ pivot) (hpb : pivot < b) (hb : b ≤ d.size) (h2 : a + 2 ≤ b) (hm9 : d.size ≤ 1000000000) (hF : (SV.fn f p G q F).lt n) (hcmp : yCmps cx h n i ee f p q G F cI) (K : HK)
    (hK : K (.int .i64 ((partitionEqual lt d a b pivot).1 : Nat)) (hset h i ⟨d.size, elC ee (partitionEqual lt d a b pivot).2.toList, true, own⟩) n) :
    CallE Tryz.prog cx 115 [.sl i 0 d.size cap, .int .i64 a, .int .i64 b, .int .i64 pivot, .fn f p G q F] h n K := by
  refine CallE.to _ _ (by simp only [go_sem]) (fun hok => hokE hok hRw) hK ?_
  have hgi : ∀ t, hget (hset h i t) i = some t := hget_hset_self hs
  have hFl : (SV.fn f p G q F).lt n = True := eq_true hF
  have b6 : (1 = d.size) = False := eq_false (by omega)
  have ca0 : a < d.size := by omega
  have cp0 : pivot < d.size := by omega
  have hpart : partitionEqual lt d a b pivot = partEqLoop lt a (a + 1) (b - 1) (swp d a pivot) := rfl
  have hDs : (swp d a pivot).size = d.size := yswp_size _ _ _
  refine callE_of_SW (P := Tryz.prog) hti (nt := 90) (rs := [.tmp 10]) rfl rfl Tryz.call115 Tryz.func115 rfl _ (by simp only [go_sem, and_self]) (Nat.le_of_ble_eq_true rfl) _ fun hok => ?_
  refine SW_seq (SW_run hti trivial ?_)
  simp only [go_sem, Nat.reduceLT]
  refine SW_seq (SW_run hti trivial ?_)
  refine T_drawG hti 16 [13, 15] (.b 0 0 (.b 0 1 (.b 0 2 (.b 0 3 (.b 0 4 (.b 0 5 (.b 0 6 (.b 0 7 (.b 0 8 (.b 0 9 (.b 0 10 (.b 0 11 (.b 0 12 (.b 4 13 (.b 0 14 (.b 4 15 (.f) .o) .o) .o) .o) .o) .o) .o) .o) .o) .o) .o) .o) .o) .o) .o) .o) _ _ (by kernel_rfl) (by kernel_rfl) ?_
  simp only [go_sem, Nat.reduceLT, hgi, hi0, hs, ix_r ca0, ix_r cp0, yix_b ca0, yix_b cp0, yix_c ca0, yix_c cp0, elC_at, b6, and_false, if_false, hset_hset]
  rw [yswap_fn d (a := a) (b := pivot) (by omega) (by omega)]
  refine SW_seq (SW_run hti trivial ?_)
  simp only [go_sem, Nat.reduceLT, w64N (a := (a : Int) + 1) (k := a + 1) (by omega) (by omega), w64N (a := (b : Int) - 1) (k := b - 1) (by omega) (by omega)]
  generalize hE0 : swp d a pivot = E0 at *
  generalize hR : partEqLoop lt a (a + 1) (b - 1) E0 = R at *
  refine SW_seq (SW_cutS (ι := { u : Nat × Array Nat // u = R ∧ u.2.size = d.size }) (fun u => ([(11, .int .i64 ((u.1.1 : Nat) : Int))], hset h i ⟨d.size, elC ee u.1.2.toList, true, own⟩, n)) ?_ ?_)
  · refine SW_block (SW_lp (ι := { w : Nat × Nat × Array Nat // (a + 1 ≤ w.1 ∧ w.1 ≤ w.2.1 + 1 ∧ w.2.1 + 1 ≤ b) ∧ w.2.2.size = d.size ∧ partEqLoop lt a w.1 w.2.1 w.2.2 = R })
      (fun w => ([(0, .sl i 0 d.size cap), (1, .int .i64 a), (4, .fn f p G q F), (11, .int .i64 ((w.1.1 : Nat) : Int)), (12, .int .i64 ((w.1.2.1 : Nat) : Int))], hset h i ⟨d.size, elC ee w.1.2.2.toList, true, own⟩, n)) (fun w => w.1.2.1 + 1 - w.1.1) ⟨(a + 1, b - 1, E0), ⟨Nat.le_refl _, by show a + 1 ≤ b - 1 + 1; omega, by show b - 1 + 1 ≤ b; omega⟩, hDs, hR⟩ ?_ ?_)
    · refine Imp.id (by simp) ?_ (impH.base0 (hokE hok hRw) (by simp) HExt.rfl)
      simp only [go_sem, Nat.reduceLT, hFl, hi0]
      (try (repeat' apply And.intro) <;> first | omega | rfl | trivial | assumption | skip)
    rintro ⟨⟨i0, j0, E⟩, ⟨g1, g2, g3⟩, hEz, hPL⟩
    simp only at g1 g2 g3 hEz hPL
    obtain ⟨pU, hpUe⟩ : ∃ p : ySpP, p = fun x => !lt E[a]! x := ⟨_, rfl⟩
    obtain ⟨pD, hpDe⟩ : ∃ p : ySpP, p = fun x => lt E[a]! x := ⟨_, rfl⟩
    have hpU : ∀ x, pU x = !lt E[a]! x := fun x => by rw [hpUe]
    have hpD : ∀ x, pD x = lt E[a]! x := fun x => by rw [hpDe]
    rw [partEqLoop_eq, ← hpUe, ← hpDe] at hPL
    obtain ⟨f1, f2, f3, f4, _, _, f5⟩ := round_facts pU pD (fun x => by rw [hpU, hpD]; simp) E (i0 - 1) (j0 + 1) (i0) (j0) (by omega) (by omega) (fun t h1 h2 => by omega) (fun t h1 h2 => by omega)
    obtain ⟨I2, hI2⟩ : ∃ I, scanUp pU E j0 i0 = I := ⟨_, rfl⟩
    rw [hI2] at hPL f1 f2 f3 f4 f5
    obtain ⟨J2, hJ2⟩ : ∃ J, scanDown pD E I2 j0 = J := ⟨_, rfl⟩
    rw [hJ2] at hPL f3 f4 f5
    refine SW_block (SW_seq (SW_cut hti (ι := Unit) (fun _ => ([(0, .sl i 0 d.size cap), (1, .int .i64 a), (4, .fn f p G q F), (11, .int .i64 ((I2 : Nat) : Int)), (12, .int .i64 ((j0 : Nat) : Int))], hset h i ⟨d.size, elC ee E.toList, true, own⟩, n)) trivial ?_ ?_))
    · simp only [go_sem]
      subst hI2
      refine T_lp (ι := { k : Nat // a + 1 ≤ k ∧ k ≤ j0 + 1 ∧ scanUp pU E j0 k = scanUp pU E j0 i0 }) (fun k => ([(0, .sl i 0 d.size cap), (1, .int .i64 a), (4, .fn f p G q F), (11, .int .i64 ((k.1 : Nat) : Int)), (12, .int .i64 ((j0 : Nat) : Int))], hset h i ⟨d.size, elC ee E.toList, true, own⟩, n)) (fun k => j0 + 1 - k.1) ⟨i0, by omega, by omega, rfl⟩ ?_ ?_
      · refine Imp.id (by simp) ?_ (impH.base0 (hokE hok hRw) (by simp) HExt.rfl)
        simp only [go_sem, Nat.reduceLT, hFl, hi0]
        (try (repeat' apply And.intro) <;> first | omega | rfl | trivial | assumption | skip)
      · rintro ⟨k, hk1, hk2, hK⟩
        simp only [go_sem]
        by_cases h1 : k ≤ j0
        rotate_left
        · have e1 : ((k : Int) ≤ (j0 : Nat)) = False := eq_false (by omega)
          rw [yscanUp_far h1] at hK
          refine T_draw hti _ _ (by kernel_rfl) (by kernel_rfl) ?_
          simp only [go_sem, Nat.reduceLT, e1]
          refine ⟨(), Imp.id (by simp) ?_ (impH.base0 (hokE hok hRw) (by simp) HExt.rfl)⟩
          simp only [go_sem, Nat.reduceLT, hFl, hi0, hK]
          (try (repeat' apply And.intro) <;> first | omega | rfl | trivial | assumption | skip)
        have e1 : ((k : Int) ≤ (j0 : Nat)) = True := eq_true (by omega)
        have ck : k < d.size := by omega
        have ca : a < d.size := by omega
        refine T_draw hti _ _ (by kernel_rfl) (by kernel_rfl) ?_
        simp only [go_sem, Nat.reduceLT, hgi, hi0, e1, ix_r ck, yix_b ck, yix_c ck, ix_r ca, yix_b ca, yix_c ca, elC_at]
        refine (hcmp (E.toList.getD a 0) (E.toList.getD k 0) _ _ _ _ (Nat.le_refl n) (HBut.set i n h _)).A ?_
        have hl := hlt (E.toList.getD a 0) (E.toList.getD k 0)
        by_cases hc : cI (E.toList.getD a 0) (E.toList.getD k 0) < 0
        · rw [yscanUp_stop (show pU E[k]! = _ from by rw [hpU, ybangL, ybangL, ← hl, decide_eq_true hc]; rfl)] at hK
          simp only [go_sem, Nat.reduceLT, hc]
          refine ⟨(), Imp.id (by simp) ?_ (impH.base0 (hokE hok hRw) (by simp) HExt.rfl)⟩
          simp only [go_sem, Nat.reduceLT, hFl, hi0, hK]
          (try (repeat' apply And.intro) <;> first | omega | rfl | trivial | assumption | skip)
        · rw [yscanUp_go (by omega) (show pU E[k]! = _ from by rw [hpU, ybangL, ybangL, ← hl, decide_eq_false hc]; rfl)] at hK
          simp only [go_sem, Nat.reduceLT, hc]
          refine ⟨⟨k + 1, by omega, by omega, hK⟩, by show j0 + 1 - (k + 1) < j0 + 1 - k; omega, ?_⟩
          refine Imp.id (by simp) ?_ (impH.base0 (hokE hok hRw) (by simp) HExt.rfl)
          simp only [go_sem, Nat.reduceLT, hFl, hi0, w64N (a := (k : Int) + 1) (k := k + 1) (by omega) (by omega)]
          (try (repeat' apply And.intro) <;> first | omega | rfl | trivial | assumption | skip)
    intro _
    refine SW_seq (SW_cut hti (ι := Unit) (fun _ => ([(0, .sl i 0 d.size cap), (1, .int .i64 a), (4, .fn f p G q F), (11, .int .i64 ((I2 : Nat) : Int)), (12, .int .i64 ((J2 : Nat) : Int))], hset h i ⟨d.size, elC ee E.toList, true, own⟩, n)) trivial ?_ ?_)
    · simp only [go_sem]
      subst hJ2
      refine T_lp (ι := { k : Nat // I2 ≤ k + 1 ∧ k ≤ j0 ∧ scanDown pD E I2 k = scanDown pD E I2 j0 }) (fun k => ([(0, .sl i 0 d.size cap), (1, .int .i64 a), (4, .fn f p G q F), (11, .int .i64 ((I2 : Nat) : Int)), (12, .int .i64 ((k.1 : Nat) : Int))], hset h i ⟨d.size, elC ee E.toList, true, own⟩, n)) (fun k => k.1) ⟨j0, by omega, Nat.le_refl _, rfl⟩ ?_ ?_
      · refine Imp.id (by simp) ?_ (impH.base0 (hokE hok hRw) (by simp) HExt.rfl)
        simp only [go_sem, Nat.reduceLT, hFl, hi0]
        (try (repeat' apply And.intro) <;> first | omega | rfl | trivial | assumption | skip)
      · rintro ⟨k, hk1, hk2, hK⟩
        simp only [go_sem]
        by_cases h1 : I2 ≤ k
        rotate_left
        · have e1 : (((I2 : Nat) : Int) ≤ (k : Nat)) = False := eq_false (by omega)
          rw [yscanDown_far h1] at hK
          refine T_draw hti _ _ (by kernel_rfl) (by kernel_rfl) ?_
          simp only [go_sem, Nat.reduceLT, e1]
          refine ⟨(), Imp.id (by simp) ?_ (impH.base0 (hokE hok hRw) (by simp) HExt.rfl)⟩
          simp only [go_sem, Nat.reduceLT, hFl, hi0, hK]
          (try (repeat' apply And.intro) <;> first | omega | rfl | trivial | assumption | skip)
        obtain ⟨k, rfl⟩ := nat_succ (show 0 < k by omega)
        have e1 : (((I2 : Nat) : Int) ≤ ((k + 1 : Nat) : Int)) = True := eq_true (by omega)
        have ck : k + 1 < d.size := by omega
        have ca : a < d.size := by omega
        refine T_draw hti _ _ (by kernel_rfl) (by kernel_rfl) ?_
        simp only [go_sem, Nat.reduceLT, hgi, hi0, e1, ix_r ck, yix_b ck, yix_c ck, ix_r ca, yix_b ca, yix_c ca, elC_at]
        refine (hcmp (E.toList.getD a 0) (E.toList.getD (k + 1) 0) _ _ _ _ (Nat.le_refl n) (HBut.set i n h _)).A ?_
        have hl := hlt (E.toList.getD a 0) (E.toList.getD (k + 1) 0)
        by_cases hc : cI (E.toList.getD a 0) (E.toList.getD (k + 1) 0) < 0
        · rw [yscanDown_go (by omega) (show pD E[k + 1]! = _ from by rw [hpD, ybangL, ybangL, ← hl, decide_eq_true hc])] at hK
          simp only [go_sem, Nat.reduceLT, hc]
          refine ⟨⟨k, by omega, by omega, hK⟩, by show k < k + 1; omega, ?_⟩
          refine Imp.id (by simp) ?_ (impH.base0 (hokE hok hRw) (by simp) HExt.rfl)
          simp only [go_sem, Nat.reduceLT, hFl, hi0, w64N (a := ((k + 1 : Nat) : Int) - 1) (k := k) (by omega) (by omega)]
          (try (repeat' apply And.intro) <;> first | omega | rfl | trivial | assumption | skip)
        · rw [yscanDown_stop (show pD E[k + 1]! = _ from by rw [hpD, ybangL, ybangL, ← hl, decide_eq_false hc])] at hK
          simp only [go_sem, Nat.reduceLT, hc]
          refine ⟨(), Imp.id (by simp) ?_ (impH.base0 (hokE hok hRw) (by simp) HExt.rfl)⟩
          simp only [go_sem, Nat.reduceLT, hFl, hi0, hK]
          (try (repeat' apply And.intro) <;> first | omega | rfl | trivial | assumption | skip)
    intro _
    refine SW_of_T hti trivial ?_
    by_cases hx : I2 > J2
    · rw [if_pos hx] at hPL
      have e2 : ((J2 : Int) < (I2 : Int)) = True := eq_true (by omega)
      simp only [go_sem, Nat.reduceLT, e2]
      refine ⟨⟨(I2, E), hPL, hEz⟩, Imp.id (by simp) ?_ (impH.base0 (hokE hok hRw) (by simp) HExt.rfl)⟩
      simp only [go_sem, Nat.reduceLT, hi0]
      (try (repeat' apply And.intro) <;> first | omega | rfl | trivial | assumption | skip)
    · rw [if_neg hx] at hPL
      obtain ⟨_, _, hlt3⟩ := f5 hx
      have e2 : ((J2 : Int) < (I2 : Int)) = False := eq_false (by omega)
      have cI2 : I2 < d.size := by omega
      have cJ2 : J2 < d.size := by omega
      simp only [go_sem, Nat.reduceLT, e2]
      refine T_drawG hti 16 [13, 15] (.b 0 0 (.b 0 1 (.b 0 2 (.b 0 3 (.b 0 4 (.b 0 5 (.b 0 6 (.b 0 7 (.b 0 8 (.b 0 9 (.b 0 10 (.b 0 11 (.b 0 12 (.b 4 13 (.b 0 14 (.b 4 15 (.f) .o) .o) .o) .o) .o) .o) .o) .o) .o) .o) .o) .o) .o) .o) .o) .o) _ _ (by kernel_rfl) (by kernel_rfl) ?_
      simp only [go_sem, Nat.reduceLT, hgi, hi0, w64N (a := (I2 : Int) + 1) (k := I2 + 1) (by omega) (by omega), w64N (a := (J2 : Int) - 1) (k := J2 - 1) (by omega) (by omega), ix_r cI2, ix_r cJ2, yix_b cI2, yix_b cJ2, yix_c cI2, yix_c cJ2, elC_at, b6, and_false, if_false, hset_hset]
      rw [yswap_fn E (a := I2) (b := J2) (by omega) (by omega)]
      refine ⟨⟨(I2 + 1, J2 - 1, swp E I2 J2), ⟨by show a + 1 ≤ I2 + 1; omega, by show I2 + 1 ≤ J2 - 1 + 1; omega, by show J2 - 1 + 1 ≤ b; omega⟩, (yswp_size _ _ _).trans hEz, hPL⟩, by show J2 - 1 + 1 - (I2 + 1) < j0 + 1 - i0; omega, ?_⟩
      refine Imp.id (by simp) ?_ (impH.base0 (hokE hok hRw) (by simp) HExt.rfl)
      simp only [go_sem, Nat.reduceLT, hFl, hi0]
      (try (repeat' apply And.intro) <;> first | omega | rfl | trivial | assumption | skip)
  rintro ⟨⟨m, E⟩, hmE, hEz⟩
  refine SW_of_T hti trivial ?_
  simp only [go_sem, Nat.reduceLT]
  rw [hpart, ← hmE]
  exact ⟨rfl, HExt.rfl⟩
end
end Go.Proofs.YtfelopllfhcdpaaGreat.V
