/- Part 5 of the texts that this proof stands on: a symbolic walk over the program, what its functions and the reference's do, plain laws. -/
import Derived.Test.YtddnnodkkdjniaaZpud
import Derived.Test.YtddnnodkkdjniaaZpuc
import Derived.Test.YtddnnodkkdjniaaV19
import Derived.Sort.LotD4
import Derived.Sort.LotD5
import Derived.Test.YtddnnodkkdjniaaZpua
set_option linter.all false

/- The library's partitions of spots. -/
namespace Go.Proofs.Ytddnnodkkdjniaa.V
open Go.Sort (swp scanUp scanDown partLoop partition partEqLoop partitionEqual round_facts partLoop_eq partEqLoop_eq)
abbrev SpP := Int × Int → Bool
theorem scanUp_go {p : SpP} {d : Array (Int × Int)} {j i : Nat} (h : i ≤ j) (hp : p d[i]! = true) : scanUp p d j i = scanUp p d j (i + 1) := by
  rw [scanUp, if_pos (by rw [hp, decide_eq_true h]; rfl)]
theorem scanUp_far {p : SpP} {d : Array (Int × Int)} {j i : Nat} (h : ¬ i ≤ j) : scanUp p d j i = i := by
  rw [scanUp, if_neg (by rw [decide_eq_false h]; simp)]
theorem scanUp_stop {p : SpP} {d : Array (Int × Int)} {j i : Nat} (hp : p d[i]! = false) : scanUp p d j i = i := by
  rw [scanUp, if_neg (by rw [hp]; simp)]
theorem scanDown_go {p : SpP} {d : Array (Int × Int)} {j i : Nat} (h : i ≤ j + 1) (hp : p d[j + 1]! = true) : scanDown p d i (j + 1) = scanDown p d i j := by
  rw [scanDown, if_pos (by rw [hp, decide_eq_true h]; rfl)]
theorem scanDown_far {p : SpP} {d : Array (Int × Int)} {j i : Nat} (h : ¬ i ≤ j) : scanDown p d i j = j := by
  cases j with
  | zero => rfl
  | succ j => rw [scanDown, if_neg (by rw [decide_eq_false h]; simp)]
theorem scanDown_stop {p : SpP} {d : Array (Int × Int)} {j i : Nat} (hp : p d[j]! = false) : scanDown p d i j = j := by
  cases j with
  | zero => rfl
  | succ j => rw [scanDown, if_neg (by rw [hp]; simp)]
theorem nat_succ {k : Nat} (h : 0 < k) : ∃ j, k = j + 1 := ⟨k - 1, by omega⟩
section
variable (cx : Cx) (h : List (Nat × Seg)) (n : Nat)
set_option maxRecDepth 100000 in
set_option maxHeartbeats 3200000 in
theorem partition_E (i cap : Nat) (d : Array (Int × Int)) (own : Option (Nat × Nat)) (a b pivot : Nat) (f p q : Nat) (G F : Nat → SV) (cI : Int × Int → Int × Int → Int) (lt : Int × Int → Int × Int → Bool) (hlt : ∀ x y, decide (cI x y < 0) = lt x y)
    (hs : hget h i = some ⟨d.size * 2, spotsC d.toList, true, own⟩) (hi0 : i < n) (hap : a ≤ pivot) (hpb : pivot < b) (hb : b ≤ d.size) (h2 : a + 2 ≤ b) (hm9 : d.size ≤ 1000000000) (hF : (SV.fn f p G q F).lt n) (hcmp : Cmps cx h n i f p q G F cI) (K : HK)
    (hK : K (.tup 2 (cl [.int .i64 ((partition lt d a b pivot).1 : Nat), .bool (partition lt d a b pivot).2.1])) (hset h i ⟨d.size * 2, spotsC (partition lt d a b pivot).2.2.toList, true, own⟩) n) :
    CallE Try.prog cx 73 [.sl i 0 d.size cap, .int .i64 a, .int .i64 b, .int .i64 pivot, .fn f p G q F] h n K := by
  refine CallE.to _ _ (by simp only [go_sem]) (fun hok => hok_set hok fun k hk => spotsC_flat _ _) hK ?_
  have hgi : ∀ t, hget (hset h i t) i = some t := hget_hset_self hs
  have hFl : (SV.fn f p G q F).lt n = True := eq_true hF
  have b6 : (2 = d.size * 2) = False := eq_false (by omega)
  have ca0 : a < d.size := by omega
  have cp0 : pivot < d.size := by omega
  obtain ⟨D, hDe⟩ : ∃ D, D = swp d a pivot := ⟨_, rfl⟩
  have hDs : D.size = d.size := by rw [hDe]; exact swp_size _ _ _
  obtain ⟨pU, hpUe⟩ : ∃ p : SpP, p = fun x => lt x D[a]! := ⟨_, rfl⟩
  obtain ⟨pD, hpDe⟩ : ∃ p : SpP, p = fun x => !lt x D[a]! := ⟨_, rfl⟩
  have hpU : ∀ x, pU x = lt x D[a]! := fun x => by rw [hpUe]
  have hpD : ∀ x, pD x = !lt x D[a]! := fun x => by rw [hpDe]
  have hpart : partition lt d a b pivot = if scanUp pU D (b - 1) (a + 1) > scanDown pD D (scanUp pU D (b - 1) (a + 1)) (b - 1) then (scanDown pD D (scanUp pU D (b - 1) (a + 1)) (b - 1), true, swp D (scanDown pD D (scanUp pU D (b - 1) (a + 1)) (b - 1)) a) else
      ((partLoop lt a (scanUp pU D (b - 1) (a + 1) + 1) (scanDown pD D (scanUp pU D (b - 1) (a + 1)) (b - 1) - 1) (swp D (scanUp pU D (b - 1) (a + 1)) (scanDown pD D (scanUp pU D (b - 1) (a + 1)) (b - 1)))).1, false,
        swp (partLoop lt a (scanUp pU D (b - 1) (a + 1) + 1) (scanDown pD D (scanUp pU D (b - 1) (a + 1)) (b - 1) - 1) (swp D (scanUp pU D (b - 1) (a + 1)) (scanDown pD D (scanUp pU D (b - 1) (a + 1)) (b - 1)))).2
          (partLoop lt a (scanUp pU D (b - 1) (a + 1) + 1) (scanDown pD D (scanUp pU D (b - 1) (a + 1)) (b - 1) - 1) (swp D (scanUp pU D (b - 1) (a + 1)) (scanDown pD D (scanUp pU D (b - 1) (a + 1)) (b - 1)))).1 a) := by
    subst hpUe hpDe hDe; rfl
  obtain ⟨f1, f2, f3, f4, _, _, f5⟩ := round_facts pU pD (fun x => by rw [hpU, hpD]) D (a + 1 - 1) (b - 1 + 1) (a + 1) (b - 1) (by omega) (by omega) (fun t h1 h2 => by omega) (fun t h1 h2 => by omega)
  refine callE_of_SW (P := Try.prog) hti (nt := 178) (rs := [.tmp 10, .tmp 11]) rfl rfl Try.call73 Try.func73 rfl _ (by simp only [go_sem, and_self]) (Nat.le_of_ble_eq_true rfl) _ fun hok => ?_
  refine SW_seq (SW_run hti trivial ?_)
  simp only [go_sem, Nat.reduceLT]
  refine SW_seq (SW_run hti trivial ?_)
  refine T_drawG hti 16 [13, 15] (.b 0 0 (.b 0 1 (.b 0 2 (.b 0 3 (.b 0 4 (.b 0 5 (.b 0 6 (.b 0 7 (.b 0 8 (.b 0 9 (.b 0 10 (.b 0 11 (.b 0 12 (.b 4 13 (.b 0 14 (.b 4 15 (.f) .o) .o) .o) .o) .o) .o) .o) .o) .o) .o) .o) .o) .o) .o) .o) .o) _ _ (by kernel_rfl) (by kernel_rfl) ?_
  simp only [go_sem, Nat.reduceLT, hgi, hi0, hs, ix_r ca0, ix_r cp0, ix_b ca0, ix_b cp0, ix_c ca0, ix_c cp0, spotsC_x, spotsC_y, b6, and_false, if_false, hset_hset]
  rw [swap_fn d (a := a) (b := pivot) (by omega) (by omega)]
  rw [← hDe]
  refine SW_seq (SW_run hti trivial ?_)
  simp only [go_sem, Nat.reduceLT, w64N (a := (a : Int) + 1) (k := a + 1) (by omega) (by omega), w64N (a := (b : Int) - 1) (k := b - 1) (by omega) (by omega)]
  obtain ⟨I, hI⟩ : ∃ I, scanUp pU D (b - 1) (a + 1) = I := ⟨_, rfl⟩
  rw [hI] at hpart f1 f2 f3 f4 f5
  obtain ⟨J, hJ⟩ : ∃ J, scanDown pD D I (b - 1) = J := ⟨_, rfl⟩
  rw [hJ] at hpart f3 f4 f5
  refine SW_seq (SW_cut hti (ι := Unit) (fun _ => ([(0, .sl i 0 d.size cap), (1, .int .i64 a), (4, .fn f p G q F), (12, .int .i64 ((I : Nat) : Int)), (13, .int .i64 ((b - 1 : Nat) : Int))], hset h i ⟨d.size * 2, spotsC D.toList, true, own⟩, n)) trivial ?_ ?_)
  · simp only [go_sem]
    subst hI
    refine T_lp (ι := { k : Nat // a + 1 ≤ k ∧ k ≤ (b - 1) + 1 ∧ scanUp pU D (b - 1) k = scanUp pU D (b - 1) (a + 1) }) (fun k => ([(0, .sl i 0 d.size cap), (1, .int .i64 a), (4, .fn f p G q F), (12, .int .i64 ((k.1 : Nat) : Int)), (13, .int .i64 ((b - 1 : Nat) : Int))], hset h i ⟨d.size * 2, spotsC D.toList, true, own⟩, n)) (fun k => (b - 1) + 1 - k.1) ⟨(a + 1), by omega, by omega, rfl⟩ ?_ ?_
    · refine Imp.id (by simp) ?_ (impH.base0 (hok_set hok fun k hk => spotsC_flat _ _) (by simp) HExt.rfl)
      simp only [go_sem, Nat.reduceLT, hFl, hi0]
      (try (repeat' apply And.intro) <;> first | omega | rfl | trivial | assumption | skip)
    · rintro ⟨k, hk1, hk2, hK⟩
      simp only [go_sem]
      by_cases h1 : k ≤ (b - 1)
      rotate_left
      · have e1 : ((k : Int) ≤ ((b - 1) : Nat)) = False := eq_false (by omega)
        rw [scanUp_far h1] at hK
        refine T_draw hti _ _ (by kernel_rfl) (by kernel_rfl) ?_
        simp only [go_sem, Nat.reduceLT, e1]
        refine ⟨(), Imp.id (by simp) ?_ (impH.base0 (hok_set hok fun k hk => spotsC_flat _ _) (by simp) HExt.rfl)⟩
        simp only [go_sem, Nat.reduceLT, hFl, hi0, hK]
        (try (repeat' apply And.intro) <;> first | omega | rfl | trivial | assumption | skip)
      have e1 : ((k : Int) ≤ ((b - 1) : Nat)) = True := eq_true (by omega)
      have ck : k < d.size := by omega
      have ca : a < d.size := by omega
      refine T_draw hti _ _ (by kernel_rfl) (by kernel_rfl) ?_
      simp only [go_sem, Nat.reduceLT, hgi, hi0, e1, ix_r ck, ix_b ck, ix_c ck, ix_r ca, ix_b ca, ix_c ca, spotsC_x, spotsC_y]
      refine (hcmp (D.toList.getD k (0, 0)) (D.toList.getD a (0, 0)) _ _ _ _ (Nat.le_refl n) (HBut.set i n h _)).A ?_
      have hl := hlt (D.toList.getD k (0, 0)) (D.toList.getD a (0, 0))
      by_cases hc : cI (D.toList.getD k (0, 0)) (D.toList.getD a (0, 0)) < 0
      · rw [scanUp_go (by omega) (show pU D[k]! = _ from by rw [hpU, bangL, bangL, ← hl, decide_eq_true hc])] at hK
        simp only [go_sem, Nat.reduceLT, hc]
        refine ⟨⟨k + 1, by omega, by omega, hK⟩, by show (b - 1) + 1 - (k + 1) < (b - 1) + 1 - k; omega, ?_⟩
        refine Imp.id (by simp) ?_ (impH.base0 (hok_set hok fun k hk => spotsC_flat _ _) (by simp) HExt.rfl)
        simp only [go_sem, Nat.reduceLT, hFl, hi0, w64N (a := (k : Int) + 1) (k := k + 1) (by omega) (by omega)]
        (try (repeat' apply And.intro) <;> first | omega | rfl | trivial | assumption | skip)
      · rw [scanUp_stop (show pU D[k]! = _ from by rw [hpU, bangL, bangL, ← hl, decide_eq_false hc])] at hK
        simp only [go_sem, Nat.reduceLT, hc]
        refine ⟨(), Imp.id (by simp) ?_ (impH.base0 (hok_set hok fun k hk => spotsC_flat _ _) (by simp) HExt.rfl)⟩
        simp only [go_sem, Nat.reduceLT, hFl, hi0, hK]
        (try (repeat' apply And.intro) <;> first | omega | rfl | trivial | assumption | skip)
  intro _
  refine SW_seq (SW_cut hti (ι := Unit) (fun _ => ([(0, .sl i 0 d.size cap), (1, .int .i64 a), (4, .fn f p G q F), (12, .int .i64 ((I : Nat) : Int)), (13, .int .i64 ((J : Nat) : Int))], hset h i ⟨d.size * 2, spotsC D.toList, true, own⟩, n)) trivial ?_ ?_)
  · simp only [go_sem]
    subst hJ
    refine T_lp (ι := { k : Nat // I ≤ k + 1 ∧ k ≤ (b - 1) ∧ scanDown pD D I k = scanDown pD D I (b - 1) }) (fun k => ([(0, .sl i 0 d.size cap), (1, .int .i64 a), (4, .fn f p G q F), (12, .int .i64 ((I : Nat) : Int)), (13, .int .i64 ((k.1 : Nat) : Int))], hset h i ⟨d.size * 2, spotsC D.toList, true, own⟩, n)) (fun k => k.1) ⟨(b - 1), by omega, Nat.le_refl _, rfl⟩ ?_ ?_
    · refine Imp.id (by simp) ?_ (impH.base0 (hok_set hok fun k hk => spotsC_flat _ _) (by simp) HExt.rfl)
      simp only [go_sem, Nat.reduceLT, hFl, hi0]
      (try (repeat' apply And.intro) <;> first | omega | rfl | trivial | assumption | skip)
    · rintro ⟨k, hk1, hk2, hK⟩
      simp only [go_sem]
      by_cases h1 : I ≤ k
      rotate_left
      · have e1 : (((I : Nat) : Int) ≤ (k : Nat)) = False := eq_false (by omega)
        rw [scanDown_far h1] at hK
        refine T_draw hti _ _ (by kernel_rfl) (by kernel_rfl) ?_
        simp only [go_sem, Nat.reduceLT, e1]
        refine ⟨(), Imp.id (by simp) ?_ (impH.base0 (hok_set hok fun k hk => spotsC_flat _ _) (by simp) HExt.rfl)⟩
        simp only [go_sem, Nat.reduceLT, hFl, hi0, hK]
        (try (repeat' apply And.intro) <;> first | omega | rfl | trivial | assumption | skip)
      obtain ⟨k, rfl⟩ := nat_succ (show 0 < k by omega)
      have e1 : (((I : Nat) : Int) ≤ ((k + 1 : Nat) : Int)) = True := eq_true (by omega)
      have ck : k + 1 < d.size := by omega
      have ca : a < d.size := by omega
      refine T_draw hti _ _ (by kernel_rfl) (by kernel_rfl) ?_
      simp only [go_sem, Nat.reduceLT, hgi, hi0, e1, ix_r ck, ix_b ck, ix_c ck, ix_r ca, ix_b ca, ix_c ca, spotsC_x, spotsC_y]
      refine (hcmp (D.toList.getD (k + 1) (0, 0)) (D.toList.getD a (0, 0)) _ _ _ _ (Nat.le_refl n) (HBut.set i n h _)).A ?_
      have hl := hlt (D.toList.getD (k + 1) (0, 0)) (D.toList.getD a (0, 0))
      by_cases hc : cI (D.toList.getD (k + 1) (0, 0)) (D.toList.getD a (0, 0)) < 0
      · rw [scanDown_stop (show pD D[k + 1]! = _ from by rw [hpD, bangL, bangL, ← hl, decide_eq_true hc]; rfl)] at hK
        simp only [go_sem, Nat.reduceLT, hc]
        refine ⟨(), Imp.id (by simp) ?_ (impH.base0 (hok_set hok fun k hk => spotsC_flat _ _) (by simp) HExt.rfl)⟩
        simp only [go_sem, Nat.reduceLT, hFl, hi0, hK]
        (try (repeat' apply And.intro) <;> first | omega | rfl | trivial | assumption | skip)
      · rw [scanDown_go (by omega) (show pD D[k + 1]! = _ from by rw [hpD, bangL, bangL, ← hl, decide_eq_false hc]; rfl)] at hK
        simp only [go_sem, Nat.reduceLT, hc]
        refine ⟨⟨k, by omega, by omega, hK⟩, by show k < k + 1; omega, ?_⟩
        refine Imp.id (by simp) ?_ (impH.base0 (hok_set hok fun k hk => spotsC_flat _ _) (by simp) HExt.rfl)
        simp only [go_sem, Nat.reduceLT, hFl, hi0, w64N (a := ((k + 1 : Nat) : Int) - 1) (k := k) (by omega) (by omega)]
        (try (repeat' apply And.intro) <;> first | omega | rfl | trivial | assumption | skip)
  intro _
  by_cases hIJ : I > J
  · rw [if_pos hIJ] at hpart
    have e1 : ((J : Int) < (I : Int)) = True := eq_true (by omega)
    have cXJ : J < d.size := by omega
    refine SW_of_T hti trivial ?_
    simp only [go_sem, Nat.reduceLT, e1]
    refine T_drawG hti 16 [13, 15] (.b 0 0 (.b 0 1 (.b 0 2 (.b 0 3 (.b 0 4 (.b 0 5 (.b 0 6 (.b 0 7 (.b 0 8 (.b 0 9 (.b 0 10 (.b 0 11 (.b 0 12 (.b 4 13 (.b 0 14 (.b 4 15 (.f) .o) .o) .o) .o) .o) .o) .o) .o) .o) .o) .o) .o) .o) .o) .o) .o) _ _ (by kernel_rfl) (by kernel_rfl) ?_
    simp only [go_sem, Nat.reduceLT, hgi, hi0, ix_r cXJ, ix_r ca0, ix_b cXJ, ix_b ca0, ix_c cXJ, ix_c ca0, spotsC_x, spotsC_y, b6, and_false, if_false, hset_hset]
    rw [swap_fn D (a := J) (b := a) (by omega) (by omega)]
    rw [hpart]
    exact ⟨rfl, HExt.rfl⟩
  rw [if_neg hIJ] at hpart
  obtain ⟨_, _, hlt2⟩ := f5 hIJ
  have e1 : ((J : Int) < (I : Int)) = False := eq_false (by omega)
  have cXI : I < d.size := by omega
  have cXJ : J < d.size := by omega
  refine SW_seq (SW_run hti trivial ?_)
  simp only [go_sem, Nat.reduceLT, e1]
  refine SW_seq (SW_run hti trivial ?_)
  refine T_drawG hti 16 [13, 15] (.b 0 0 (.b 0 1 (.b 0 2 (.b 0 3 (.b 0 4 (.b 0 5 (.b 0 6 (.b 0 7 (.b 0 8 (.b 0 9 (.b 0 10 (.b 0 11 (.b 0 12 (.b 4 13 (.b 0 14 (.b 4 15 (.f) .o) .o) .o) .o) .o) .o) .o) .o) .o) .o) .o) .o) .o) .o) .o) .o) _ _ (by kernel_rfl) (by kernel_rfl) ?_
  simp only [go_sem, Nat.reduceLT, hgi, hi0, ix_r cXI, ix_r cXJ, ix_b cXI, ix_b cXJ, ix_c cXI, ix_c cXJ, spotsC_x, spotsC_y, b6, and_false, if_false, hset_hset]
  rw [swap_fn D (a := I) (b := J) (by omega) (by omega)]
  refine SW_seq (SW_run hti trivial ?_)
  simp only [go_sem, Nat.reduceLT, w64N (a := (I : Int) + 1) (k := I + 1) (by omega) (by omega)]
  refine SW_seq (SW_run hti trivial ?_)
  simp only [go_sem, Nat.reduceLT, w64N (a := (J : Int) - 1) (k := J - 1) (by omega) (by omega)]
  have hEs : (swp D I J).size = d.size := (swp_size _ _ _).trans hDs
  generalize hE0 : swp D I J = E0 at *
  generalize hR : partLoop lt a (I + 1) (J - 1) E0 = R at *
  clear hI hJ hpU hpD hpUe hpDe hDe f5
  refine SW_seq (SW_cutS (ι := { u : Nat × Array (Int × Int) // u = R ∧ u.1 + 1 ≤ b ∧ u.2.size = d.size }) (fun u => ([(0, .sl i 0 d.size cap), (1, .int .i64 a), (13, .int .i64 ((u.1.1 : Nat) : Int))], hset h i ⟨d.size * 2, spotsC u.1.2.toList, true, own⟩, n)) ?_ ?_)
  · refine SW_block (SW_lp (ι := { w : Nat × Nat × Array (Int × Int) // (a + 1 ≤ w.1 ∧ w.1 ≤ w.2.1 + 1 ∧ w.2.1 + 1 ≤ b) ∧ w.2.2.size = d.size ∧ partLoop lt a w.1 w.2.1 w.2.2 = R })
      (fun w => ([(0, .sl i 0 d.size cap), (1, .int .i64 a), (4, .fn f p G q F), (12, .int .i64 ((w.1.1 : Nat) : Int)), (13, .int .i64 ((w.1.2.1 : Nat) : Int))], hset h i ⟨d.size * 2, spotsC w.1.2.2.toList, true, own⟩, n)) (fun w => w.1.2.1 + 1 - w.1.1) ⟨(I + 1, J - 1, E0), ⟨by show a + 1 ≤ I + 1; omega, by show I + 1 ≤ J - 1 + 1; omega, by show J - 1 + 1 ≤ b; omega⟩, hEs, hR⟩ ?_ ?_)
    · refine Imp.id (by simp) ?_ (impH.base0 (hok_set hok fun k hk => spotsC_flat _ _) (by simp) HExt.rfl)
      simp only [go_sem, Nat.reduceLT, hFl, hi0]
      (try (repeat' apply And.intro) <;> first | omega | rfl | trivial | assumption | skip)
    rintro ⟨⟨i0, j0, E⟩, ⟨g1, g2, g3⟩, hEz, hPL⟩
    simp only at g1 g2 g3 hEz hPL
    obtain ⟨pU, hpUe⟩ : ∃ p : SpP, p = fun x => lt x E[a]! := ⟨_, rfl⟩
    obtain ⟨pD, hpDe⟩ : ∃ p : SpP, p = fun x => !lt x E[a]! := ⟨_, rfl⟩
    have hpU : ∀ x, pU x = lt x E[a]! := fun x => by rw [hpUe]
    have hpD : ∀ x, pD x = !lt x E[a]! := fun x => by rw [hpDe]
    rw [partLoop_eq, ← hpUe, ← hpDe] at hPL
    obtain ⟨f1, f2, f3, f4, _, _, f5⟩ := round_facts pU pD (fun x => by rw [hpU, hpD]) E (i0 - 1) (j0 + 1) (i0) (j0) (by omega) (by omega) (fun t h1 h2 => by omega) (fun t h1 h2 => by omega)
    obtain ⟨I2, hI2⟩ : ∃ I, scanUp pU E j0 i0 = I := ⟨_, rfl⟩
    rw [hI2] at hPL f1 f2 f3 f4 f5
    obtain ⟨J2, hJ2⟩ : ∃ J, scanDown pD E I2 j0 = J := ⟨_, rfl⟩
    rw [hJ2] at hPL f3 f4 f5
    refine SW_block (SW_seq (SW_cut hti (ι := Unit) (fun _ => ([(0, .sl i 0 d.size cap), (1, .int .i64 a), (4, .fn f p G q F), (12, .int .i64 ((I2 : Nat) : Int)), (13, .int .i64 ((j0 : Nat) : Int))], hset h i ⟨d.size * 2, spotsC E.toList, true, own⟩, n)) trivial ?_ ?_))
    · simp only [go_sem]
      subst hI2
      refine T_lp (ι := { k : Nat // a + 1 ≤ k ∧ k ≤ j0 + 1 ∧ scanUp pU E j0 k = scanUp pU E j0 i0 }) (fun k => ([(0, .sl i 0 d.size cap), (1, .int .i64 a), (4, .fn f p G q F), (12, .int .i64 ((k.1 : Nat) : Int)), (13, .int .i64 ((j0 : Nat) : Int))], hset h i ⟨d.size * 2, spotsC E.toList, true, own⟩, n)) (fun k => j0 + 1 - k.1) ⟨i0, by omega, by omega, rfl⟩ ?_ ?_
      · refine Imp.id (by simp) ?_ (impH.base0 (hok_set hok fun k hk => spotsC_flat _ _) (by simp) HExt.rfl)
        simp only [go_sem, Nat.reduceLT, hFl, hi0]
        (try (repeat' apply And.intro) <;> first | omega | rfl | trivial | assumption | skip)
      · rintro ⟨k, hk1, hk2, hK⟩
        simp only [go_sem]
        by_cases h1 : k ≤ j0
        rotate_left
        · have e1 : ((k : Int) ≤ (j0 : Nat)) = False := eq_false (by omega)
          rw [scanUp_far h1] at hK
          refine T_draw hti _ _ (by kernel_rfl) (by kernel_rfl) ?_
          simp only [go_sem, Nat.reduceLT, e1]
          refine ⟨(), Imp.id (by simp) ?_ (impH.base0 (hok_set hok fun k hk => spotsC_flat _ _) (by simp) HExt.rfl)⟩
          simp only [go_sem, Nat.reduceLT, hFl, hi0, hK]
          (try (repeat' apply And.intro) <;> first | omega | rfl | trivial | assumption | skip)
        have e1 : ((k : Int) ≤ (j0 : Nat)) = True := eq_true (by omega)
        have ck : k < d.size := by omega
        have ca : a < d.size := by omega
        refine T_draw hti _ _ (by kernel_rfl) (by kernel_rfl) ?_
        simp only [go_sem, Nat.reduceLT, hgi, hi0, e1, ix_r ck, ix_b ck, ix_c ck, ix_r ca, ix_b ca, ix_c ca, spotsC_x, spotsC_y]
        refine (hcmp (E.toList.getD k (0, 0)) (E.toList.getD a (0, 0)) _ _ _ _ (Nat.le_refl n) (HBut.set i n h _)).A ?_
        have hl := hlt (E.toList.getD k (0, 0)) (E.toList.getD a (0, 0))
        by_cases hc : cI (E.toList.getD k (0, 0)) (E.toList.getD a (0, 0)) < 0
        · rw [scanUp_go (by omega) (show pU E[k]! = _ from by rw [hpU, bangL, bangL, ← hl, decide_eq_true hc])] at hK
          simp only [go_sem, Nat.reduceLT, hc]
          refine ⟨⟨k + 1, by omega, by omega, hK⟩, by show j0 + 1 - (k + 1) < j0 + 1 - k; omega, ?_⟩
          refine Imp.id (by simp) ?_ (impH.base0 (hok_set hok fun k hk => spotsC_flat _ _) (by simp) HExt.rfl)
          simp only [go_sem, Nat.reduceLT, hFl, hi0, w64N (a := (k : Int) + 1) (k := k + 1) (by omega) (by omega)]
          (try (repeat' apply And.intro) <;> first | omega | rfl | trivial | assumption | skip)
        · rw [scanUp_stop (show pU E[k]! = _ from by rw [hpU, bangL, bangL, ← hl, decide_eq_false hc])] at hK
          simp only [go_sem, Nat.reduceLT, hc]
          refine ⟨(), Imp.id (by simp) ?_ (impH.base0 (hok_set hok fun k hk => spotsC_flat _ _) (by simp) HExt.rfl)⟩
          simp only [go_sem, Nat.reduceLT, hFl, hi0, hK]
          (try (repeat' apply And.intro) <;> first | omega | rfl | trivial | assumption | skip)
    intro _
    refine SW_seq (SW_cut hti (ι := Unit) (fun _ => ([(0, .sl i 0 d.size cap), (1, .int .i64 a), (4, .fn f p G q F), (12, .int .i64 ((I2 : Nat) : Int)), (13, .int .i64 ((J2 : Nat) : Int))], hset h i ⟨d.size * 2, spotsC E.toList, true, own⟩, n)) trivial ?_ ?_)
    · simp only [go_sem]
      subst hJ2
      refine T_lp (ι := { k : Nat // I2 ≤ k + 1 ∧ k ≤ j0 ∧ scanDown pD E I2 k = scanDown pD E I2 j0 }) (fun k => ([(0, .sl i 0 d.size cap), (1, .int .i64 a), (4, .fn f p G q F), (12, .int .i64 ((I2 : Nat) : Int)), (13, .int .i64 ((k.1 : Nat) : Int))], hset h i ⟨d.size * 2, spotsC E.toList, true, own⟩, n)) (fun k => k.1) ⟨j0, by omega, Nat.le_refl _, rfl⟩ ?_ ?_
      · refine Imp.id (by simp) ?_ (impH.base0 (hok_set hok fun k hk => spotsC_flat _ _) (by simp) HExt.rfl)
        simp only [go_sem, Nat.reduceLT, hFl, hi0]
        (try (repeat' apply And.intro) <;> first | omega | rfl | trivial | assumption | skip)
      · rintro ⟨k, hk1, hk2, hK⟩
        simp only [go_sem]
        by_cases h1 : I2 ≤ k
        rotate_left
        · have e1 : (((I2 : Nat) : Int) ≤ (k : Nat)) = False := eq_false (by omega)
          rw [scanDown_far h1] at hK
          refine T_draw hti _ _ (by kernel_rfl) (by kernel_rfl) ?_
          simp only [go_sem, Nat.reduceLT, e1]
          refine ⟨(), Imp.id (by simp) ?_ (impH.base0 (hok_set hok fun k hk => spotsC_flat _ _) (by simp) HExt.rfl)⟩
          simp only [go_sem, Nat.reduceLT, hFl, hi0, hK]
          (try (repeat' apply And.intro) <;> first | omega | rfl | trivial | assumption | skip)
        obtain ⟨k, rfl⟩ := nat_succ (show 0 < k by omega)
        have e1 : (((I2 : Nat) : Int) ≤ ((k + 1 : Nat) : Int)) = True := eq_true (by omega)
        have ck : k + 1 < d.size := by omega
        have ca : a < d.size := by omega
        refine T_draw hti _ _ (by kernel_rfl) (by kernel_rfl) ?_
        simp only [go_sem, Nat.reduceLT, hgi, hi0, e1, ix_r ck, ix_b ck, ix_c ck, ix_r ca, ix_b ca, ix_c ca, spotsC_x, spotsC_y]
        refine (hcmp (E.toList.getD (k + 1) (0, 0)) (E.toList.getD a (0, 0)) _ _ _ _ (Nat.le_refl n) (HBut.set i n h _)).A ?_
        have hl := hlt (E.toList.getD (k + 1) (0, 0)) (E.toList.getD a (0, 0))
        by_cases hc : cI (E.toList.getD (k + 1) (0, 0)) (E.toList.getD a (0, 0)) < 0
        · rw [scanDown_stop (show pD E[k + 1]! = _ from by rw [hpD, bangL, bangL, ← hl, decide_eq_true hc]; rfl)] at hK
          simp only [go_sem, Nat.reduceLT, hc]
          refine ⟨(), Imp.id (by simp) ?_ (impH.base0 (hok_set hok fun k hk => spotsC_flat _ _) (by simp) HExt.rfl)⟩
          simp only [go_sem, Nat.reduceLT, hFl, hi0, hK]
          (try (repeat' apply And.intro) <;> first | omega | rfl | trivial | assumption | skip)
        · rw [scanDown_go (by omega) (show pD E[k + 1]! = _ from by rw [hpD, bangL, bangL, ← hl, decide_eq_false hc]; rfl)] at hK
          simp only [go_sem, Nat.reduceLT, hc]
          refine ⟨⟨k, by omega, by omega, hK⟩, by show k < k + 1; omega, ?_⟩
          refine Imp.id (by simp) ?_ (impH.base0 (hok_set hok fun k hk => spotsC_flat _ _) (by simp) HExt.rfl)
          simp only [go_sem, Nat.reduceLT, hFl, hi0, w64N (a := ((k + 1 : Nat) : Int) - 1) (k := k) (by omega) (by omega)]
          (try (repeat' apply And.intro) <;> first | omega | rfl | trivial | assumption | skip)
    intro _
    refine SW_of_T hti trivial ?_
    by_cases hx : I2 > J2
    · rw [if_pos hx] at hPL
      have e2 : ((J2 : Int) < (I2 : Int)) = True := eq_true (by omega)
      simp only [go_sem, Nat.reduceLT, e2]
      refine ⟨⟨(J2, E), hPL, by show J2 + 1 ≤ b; omega, hEz⟩, Imp.id (by simp) ?_ (impH.base0 (hok_set hok fun k hk => spotsC_flat _ _) (by simp) HExt.rfl)⟩
      simp only [go_sem, Nat.reduceLT, hi0]
      (try (repeat' apply And.intro) <;> first | omega | rfl | trivial | assumption | skip)
    · rw [if_neg hx] at hPL
      obtain ⟨_, _, hlt3⟩ := f5 hx
      have e2 : ((J2 : Int) < (I2 : Int)) = False := eq_false (by omega)
      have cI2 : I2 < d.size := by omega
      have cJ2 : J2 < d.size := by omega
      simp only [go_sem, Nat.reduceLT, e2]
      refine T_drawG hti 16 [13, 15] (.b 0 0 (.b 0 1 (.b 0 2 (.b 0 3 (.b 0 4 (.b 0 5 (.b 0 6 (.b 0 7 (.b 0 8 (.b 0 9 (.b 0 10 (.b 0 11 (.b 0 12 (.b 4 13 (.b 0 14 (.b 4 15 (.f) .o) .o) .o) .o) .o) .o) .o) .o) .o) .o) .o) .o) .o) .o) .o) .o) _ _ (by kernel_rfl) (by kernel_rfl) ?_
      simp only [go_sem, Nat.reduceLT, hgi, hi0, w64N (a := (I2 : Int) + 1) (k := I2 + 1) (by omega) (by omega), w64N (a := (J2 : Int) - 1) (k := J2 - 1) (by omega) (by omega), ix_r cI2, ix_r cJ2, ix_b cI2, ix_b cJ2, ix_c cI2, ix_c cJ2, spotsC_x, spotsC_y, b6, and_false, if_false, hset_hset]
      rw [swap_fn E (a := I2) (b := J2) (by omega) (by omega)]
      refine ⟨⟨(I2 + 1, J2 - 1, swp E I2 J2), ⟨by show a + 1 ≤ I2 + 1; omega, by show I2 + 1 ≤ J2 - 1 + 1; omega, by show J2 - 1 + 1 ≤ b; omega⟩, (swp_size _ _ _).trans hEz, hPL⟩, by show J2 - 1 + 1 - (I2 + 1) < j0 + 1 - i0; omega, ?_⟩
      refine Imp.id (by simp) ?_ (impH.base0 (hok_set hok fun k hk => spotsC_flat _ _) (by simp) HExt.rfl)
      simp only [go_sem, Nat.reduceLT, hFl, hi0]
      (try (repeat' apply And.intro) <;> first | omega | rfl | trivial | assumption | skip)
  rintro ⟨⟨m, E⟩, rfl, hm, hEz⟩
  simp only at hm hEz hpart
  have cm : m < d.size := by omega
  refine SW_of_T hti trivial ?_
  simp only [go_sem]
  refine T_drawG hti 16 [13, 15] (.b 0 0 (.b 0 1 (.b 0 2 (.b 0 3 (.b 0 4 (.b 0 5 (.b 0 6 (.b 0 7 (.b 0 8 (.b 0 9 (.b 0 10 (.b 0 11 (.b 0 12 (.b 4 13 (.b 0 14 (.b 4 15 (.f) .o) .o) .o) .o) .o) .o) .o) .o) .o) .o) .o) .o) .o) .o) .o) .o) _ _ (by kernel_rfl) (by kernel_rfl) ?_
  simp only [go_sem, Nat.reduceLT, hgi, hi0, ix_r cm, ix_r ca0, ix_b cm, ix_b ca0, ix_c cm, ix_c ca0, spotsC_x, spotsC_y, b6, and_false, if_false, hset_hset]
  rw [swap_fn E (a := m) (b := a) (by omega) (by omega)]
  rw [hpart]
  exact ⟨rfl, HExt.rfl⟩
end
end Go.Proofs.Ytddnnodkkdjniaa.V

/- The library's partition of spots by equality. -/
namespace Go.Proofs.Ytddnnodkkdjniaa.V
open Go.Sort (swp scanUp scanDown partEqLoop partitionEqual round_facts partEqLoop_eq)
section
variable (cx : Cx) (h : List (Nat × Seg)) (n : Nat)
set_option maxRecDepth 100000 in
set_option maxHeartbeats 3200000 in
theorem partitionEqual_E (i cap : Nat) (d : Array (Int × Int)) (own : Option (Nat × Nat)) (a b pivot : Nat) (f p q : Nat) (G F : Nat → SV) (cI : Int × Int → Int × Int → Int) (lt : Int × Int → Int × Int → Bool) (hlt : ∀ x y, decide (cI x y < 0) = lt x y)
    (hs : hget h i = some ⟨d.size * 2, spotsC d.toList, true, own⟩) (hi0 : i < n) (hap : a ≤ pivot) (hpb : pivot < b) (hb : b ≤ d.size) (h2 : a + 2 ≤ b) (hm9 : d.size ≤ 1000000000) (hF : (SV.fn f p G q F).lt n) (hcmp : Cmps cx h n i f p q G F cI) (K : HK)
    (hK : K (.int .i64 ((partitionEqual lt d a b pivot).1 : Nat)) (hset h i ⟨d.size * 2, spotsC (partitionEqual lt d a b pivot).2.toList, true, own⟩) n) :
    CallE Try.prog cx 72 [.sl i 0 d.size cap, .int .i64 a, .int .i64 b, .int .i64 pivot, .fn f p G q F] h n K := by
  refine CallE.to _ _ (by simp only [go_sem]) (fun hok => hok_set hok fun k hk => spotsC_flat _ _) hK ?_
  have hgi : ∀ t, hget (hset h i t) i = some t := hget_hset_self hs
  have hFl : (SV.fn f p G q F).lt n = True := eq_true hF
  have b6 : (2 = d.size * 2) = False := eq_false (by omega)
  have ca0 : a < d.size := by omega
  have cp0 : pivot < d.size := by omega
  have hpart : partitionEqual lt d a b pivot = partEqLoop lt a (a + 1) (b - 1) (swp d a pivot) := rfl
  have hDs : (swp d a pivot).size = d.size := swp_size _ _ _
  refine callE_of_SW (P := Try.prog) hti (nt := 90) (rs := [.tmp 10]) rfl rfl Try.call72 Try.func72 rfl _ (by simp only [go_sem, and_self]) (Nat.le_of_ble_eq_true rfl) _ fun hok => ?_
  refine SW_seq (SW_run hti trivial ?_)
  simp only [go_sem, Nat.reduceLT]
  refine SW_seq (SW_run hti trivial ?_)
  refine T_drawG hti 16 [13, 15] (.b 0 0 (.b 0 1 (.b 0 2 (.b 0 3 (.b 0 4 (.b 0 5 (.b 0 6 (.b 0 7 (.b 0 8 (.b 0 9 (.b 0 10 (.b 0 11 (.b 0 12 (.b 4 13 (.b 0 14 (.b 4 15 (.f) .o) .o) .o) .o) .o) .o) .o) .o) .o) .o) .o) .o) .o) .o) .o) .o) _ _ (by kernel_rfl) (by kernel_rfl) ?_
  simp only [go_sem, Nat.reduceLT, hgi, hi0, hs, ix_r ca0, ix_r cp0, ix_b ca0, ix_b cp0, ix_c ca0, ix_c cp0, spotsC_x, spotsC_y, b6, and_false, if_false, hset_hset]
  rw [swap_fn d (a := a) (b := pivot) (by omega) (by omega)]
  refine SW_seq (SW_run hti trivial ?_)
  simp only [go_sem, Nat.reduceLT, w64N (a := (a : Int) + 1) (k := a + 1) (by omega) (by omega), w64N (a := (b : Int) - 1) (k := b - 1) (by omega) (by omega)]
  generalize hE0 : swp d a pivot = E0 at *
  generalize hR : partEqLoop lt a (a + 1) (b - 1) E0 = R at *
  refine SW_seq (SW_cutS (ι := { u : Nat × Array (Int × Int) // u = R ∧ u.2.size = d.size }) (fun u => ([(11, .int .i64 ((u.1.1 : Nat) : Int))], hset h i ⟨d.size * 2, spotsC u.1.2.toList, true, own⟩, n)) ?_ ?_)
  · refine SW_block (SW_lp (ι := { w : Nat × Nat × Array (Int × Int) // (a + 1 ≤ w.1 ∧ w.1 ≤ w.2.1 + 1 ∧ w.2.1 + 1 ≤ b) ∧ w.2.2.size = d.size ∧ partEqLoop lt a w.1 w.2.1 w.2.2 = R })
      (fun w => ([(0, .sl i 0 d.size cap), (1, .int .i64 a), (4, .fn f p G q F), (11, .int .i64 ((w.1.1 : Nat) : Int)), (12, .int .i64 ((w.1.2.1 : Nat) : Int))], hset h i ⟨d.size * 2, spotsC w.1.2.2.toList, true, own⟩, n)) (fun w => w.1.2.1 + 1 - w.1.1) ⟨(a + 1, b - 1, E0), ⟨Nat.le_refl _, by show a + 1 ≤ b - 1 + 1; omega, by show b - 1 + 1 ≤ b; omega⟩, hDs, hR⟩ ?_ ?_)
    · refine Imp.id (by simp) ?_ (impH.base0 (hok_set hok fun k hk => spotsC_flat _ _) (by simp) HExt.rfl)
      simp only [go_sem, Nat.reduceLT, hFl, hi0]
      (try (repeat' apply And.intro) <;> first | omega | rfl | trivial | assumption | skip)
    rintro ⟨⟨i0, j0, E⟩, ⟨g1, g2, g3⟩, hEz, hPL⟩
    simp only at g1 g2 g3 hEz hPL
    obtain ⟨pU, hpUe⟩ : ∃ p : SpP, p = fun x => !lt E[a]! x := ⟨_, rfl⟩
    obtain ⟨pD, hpDe⟩ : ∃ p : SpP, p = fun x => lt E[a]! x := ⟨_, rfl⟩
    have hpU : ∀ x, pU x = !lt E[a]! x := fun x => by rw [hpUe]
    have hpD : ∀ x, pD x = lt E[a]! x := fun x => by rw [hpDe]
    rw [partEqLoop_eq, ← hpUe, ← hpDe] at hPL
    obtain ⟨f1, f2, f3, f4, _, _, f5⟩ := round_facts pU pD (fun x => by rw [hpU, hpD]; simp) E (i0 - 1) (j0 + 1) (i0) (j0) (by omega) (by omega) (fun t h1 h2 => by omega) (fun t h1 h2 => by omega)
    obtain ⟨I2, hI2⟩ : ∃ I, scanUp pU E j0 i0 = I := ⟨_, rfl⟩
    rw [hI2] at hPL f1 f2 f3 f4 f5
    obtain ⟨J2, hJ2⟩ : ∃ J, scanDown pD E I2 j0 = J := ⟨_, rfl⟩
    rw [hJ2] at hPL f3 f4 f5
    refine SW_block (SW_seq (SW_cut hti (ι := Unit) (fun _ => ([(0, .sl i 0 d.size cap), (1, .int .i64 a), (4, .fn f p G q F), (11, .int .i64 ((I2 : Nat) : Int)), (12, .int .i64 ((j0 : Nat) : Int))], hset h i ⟨d.size * 2, spotsC E.toList, true, own⟩, n)) trivial ?_ ?_))
    · simp only [go_sem]
      subst hI2
      refine T_lp (ι := { k : Nat // a + 1 ≤ k ∧ k ≤ j0 + 1 ∧ scanUp pU E j0 k = scanUp pU E j0 i0 }) (fun k => ([(0, .sl i 0 d.size cap), (1, .int .i64 a), (4, .fn f p G q F), (11, .int .i64 ((k.1 : Nat) : Int)), (12, .int .i64 ((j0 : Nat) : Int))], hset h i ⟨d.size * 2, spotsC E.toList, true, own⟩, n)) (fun k => j0 + 1 - k.1) ⟨i0, by omega, by omega, rfl⟩ ?_ ?_
      · refine Imp.id (by simp) ?_ (impH.base0 (hok_set hok fun k hk => spotsC_flat _ _) (by simp) HExt.rfl)
        simp only [go_sem, Nat.reduceLT, hFl, hi0]
        (try (repeat' apply And.intro) <;> first | omega | rfl | trivial | assumption | skip)
      · rintro ⟨k, hk1, hk2, hK⟩
        simp only [go_sem]
        by_cases h1 : k ≤ j0
        rotate_left
        · have e1 : ((k : Int) ≤ (j0 : Nat)) = False := eq_false (by omega)
          rw [scanUp_far h1] at hK
          refine T_draw hti _ _ (by kernel_rfl) (by kernel_rfl) ?_
          simp only [go_sem, Nat.reduceLT, e1]
          refine ⟨(), Imp.id (by simp) ?_ (impH.base0 (hok_set hok fun k hk => spotsC_flat _ _) (by simp) HExt.rfl)⟩
          simp only [go_sem, Nat.reduceLT, hFl, hi0, hK]
          (try (repeat' apply And.intro) <;> first | omega | rfl | trivial | assumption | skip)
        have e1 : ((k : Int) ≤ (j0 : Nat)) = True := eq_true (by omega)
        have ck : k < d.size := by omega
        have ca : a < d.size := by omega
        refine T_draw hti _ _ (by kernel_rfl) (by kernel_rfl) ?_
        simp only [go_sem, Nat.reduceLT, hgi, hi0, e1, ix_r ck, ix_b ck, ix_c ck, ix_r ca, ix_b ca, ix_c ca, spotsC_x, spotsC_y]
        refine (hcmp (E.toList.getD a (0, 0)) (E.toList.getD k (0, 0)) _ _ _ _ (Nat.le_refl n) (HBut.set i n h _)).A ?_
        have hl := hlt (E.toList.getD a (0, 0)) (E.toList.getD k (0, 0))
        by_cases hc : cI (E.toList.getD a (0, 0)) (E.toList.getD k (0, 0)) < 0
        · rw [scanUp_stop (show pU E[k]! = _ from by rw [hpU, bangL, bangL, ← hl, decide_eq_true hc]; rfl)] at hK
          simp only [go_sem, Nat.reduceLT, hc]
          refine ⟨(), Imp.id (by simp) ?_ (impH.base0 (hok_set hok fun k hk => spotsC_flat _ _) (by simp) HExt.rfl)⟩
          simp only [go_sem, Nat.reduceLT, hFl, hi0, hK]
          (try (repeat' apply And.intro) <;> first | omega | rfl | trivial | assumption | skip)
        · rw [scanUp_go (by omega) (show pU E[k]! = _ from by rw [hpU, bangL, bangL, ← hl, decide_eq_false hc]; rfl)] at hK
          simp only [go_sem, Nat.reduceLT, hc]
          refine ⟨⟨k + 1, by omega, by omega, hK⟩, by show j0 + 1 - (k + 1) < j0 + 1 - k; omega, ?_⟩
          refine Imp.id (by simp) ?_ (impH.base0 (hok_set hok fun k hk => spotsC_flat _ _) (by simp) HExt.rfl)
          simp only [go_sem, Nat.reduceLT, hFl, hi0, w64N (a := (k : Int) + 1) (k := k + 1) (by omega) (by omega)]
          (try (repeat' apply And.intro) <;> first | omega | rfl | trivial | assumption | skip)
    intro _
    refine SW_seq (SW_cut hti (ι := Unit) (fun _ => ([(0, .sl i 0 d.size cap), (1, .int .i64 a), (4, .fn f p G q F), (11, .int .i64 ((I2 : Nat) : Int)), (12, .int .i64 ((J2 : Nat) : Int))], hset h i ⟨d.size * 2, spotsC E.toList, true, own⟩, n)) trivial ?_ ?_)
    · simp only [go_sem]
      subst hJ2
      refine T_lp (ι := { k : Nat // I2 ≤ k + 1 ∧ k ≤ j0 ∧ scanDown pD E I2 k = scanDown pD E I2 j0 }) (fun k => ([(0, .sl i 0 d.size cap), (1, .int .i64 a), (4, .fn f p G q F), (11, .int .i64 ((I2 : Nat) : Int)), (12, .int .i64 ((k.1 : Nat) : Int))], hset h i ⟨d.size * 2, spotsC E.toList, true, own⟩, n)) (fun k => k.1) ⟨j0, by omega, Nat.le_refl _, rfl⟩ ?_ ?_
      · refine Imp.id (by simp) ?_ (impH.base0 (hok_set hok fun k hk => spotsC_flat _ _) (by simp) HExt.rfl)
        simp only [go_sem, Nat.reduceLT, hFl, hi0]
        (try (repeat' apply And.intro) <;> first | omega | rfl | trivial | assumption | skip)
      · rintro ⟨k, hk1, hk2, hK⟩
        simp only [go_sem]
        by_cases h1 : I2 ≤ k
        rotate_left
        · have e1 : (((I2 : Nat) : Int) ≤ (k : Nat)) = False := eq_false (by omega)
          rw [scanDown_far h1] at hK
          refine T_draw hti _ _ (by kernel_rfl) (by kernel_rfl) ?_
          simp only [go_sem, Nat.reduceLT, e1]
          refine ⟨(), Imp.id (by simp) ?_ (impH.base0 (hok_set hok fun k hk => spotsC_flat _ _) (by simp) HExt.rfl)⟩
          simp only [go_sem, Nat.reduceLT, hFl, hi0, hK]
          (try (repeat' apply And.intro) <;> first | omega | rfl | trivial | assumption | skip)
        obtain ⟨k, rfl⟩ := nat_succ (show 0 < k by omega)
        have e1 : (((I2 : Nat) : Int) ≤ ((k + 1 : Nat) : Int)) = True := eq_true (by omega)
        have ck : k + 1 < d.size := by omega
        have ca : a < d.size := by omega
        refine T_draw hti _ _ (by kernel_rfl) (by kernel_rfl) ?_
        simp only [go_sem, Nat.reduceLT, hgi, hi0, e1, ix_r ck, ix_b ck, ix_c ck, ix_r ca, ix_b ca, ix_c ca, spotsC_x, spotsC_y]
        refine (hcmp (E.toList.getD a (0, 0)) (E.toList.getD (k + 1) (0, 0)) _ _ _ _ (Nat.le_refl n) (HBut.set i n h _)).A ?_
        have hl := hlt (E.toList.getD a (0, 0)) (E.toList.getD (k + 1) (0, 0))
        by_cases hc : cI (E.toList.getD a (0, 0)) (E.toList.getD (k + 1) (0, 0)) < 0
        · rw [scanDown_go (by omega) (show pD E[k + 1]! = _ from by rw [hpD, bangL, bangL, ← hl, decide_eq_true hc])] at hK
          simp only [go_sem, Nat.reduceLT, hc]
          refine ⟨⟨k, by omega, by omega, hK⟩, by show k < k + 1; omega, ?_⟩
          refine Imp.id (by simp) ?_ (impH.base0 (hok_set hok fun k hk => spotsC_flat _ _) (by simp) HExt.rfl)
          simp only [go_sem, Nat.reduceLT, hFl, hi0, w64N (a := ((k + 1 : Nat) : Int) - 1) (k := k) (by omega) (by omega)]
          (try (repeat' apply And.intro) <;> first | omega | rfl | trivial | assumption | skip)
        · rw [scanDown_stop (show pD E[k + 1]! = _ from by rw [hpD, bangL, bangL, ← hl, decide_eq_false hc])] at hK
          simp only [go_sem, Nat.reduceLT, hc]
          refine ⟨(), Imp.id (by simp) ?_ (impH.base0 (hok_set hok fun k hk => spotsC_flat _ _) (by simp) HExt.rfl)⟩
          simp only [go_sem, Nat.reduceLT, hFl, hi0, hK]
          (try (repeat' apply And.intro) <;> first | omega | rfl | trivial | assumption | skip)
    intro _
    refine SW_of_T hti trivial ?_
    by_cases hx : I2 > J2
    · rw [if_pos hx] at hPL
      have e2 : ((J2 : Int) < (I2 : Int)) = True := eq_true (by omega)
      simp only [go_sem, Nat.reduceLT, e2]
      refine ⟨⟨(I2, E), hPL, hEz⟩, Imp.id (by simp) ?_ (impH.base0 (hok_set hok fun k hk => spotsC_flat _ _) (by simp) HExt.rfl)⟩
      simp only [go_sem, Nat.reduceLT, hi0]
      (try (repeat' apply And.intro) <;> first | omega | rfl | trivial | assumption | skip)
    · rw [if_neg hx] at hPL
      obtain ⟨_, _, hlt3⟩ := f5 hx
      have e2 : ((J2 : Int) < (I2 : Int)) = False := eq_false (by omega)
      have cI2 : I2 < d.size := by omega
      have cJ2 : J2 < d.size := by omega
      simp only [go_sem, Nat.reduceLT, e2]
      refine T_drawG hti 16 [13, 15] (.b 0 0 (.b 0 1 (.b 0 2 (.b 0 3 (.b 0 4 (.b 0 5 (.b 0 6 (.b 0 7 (.b 0 8 (.b 0 9 (.b 0 10 (.b 0 11 (.b 0 12 (.b 4 13 (.b 0 14 (.b 4 15 (.f) .o) .o) .o) .o) .o) .o) .o) .o) .o) .o) .o) .o) .o) .o) .o) .o) _ _ (by kernel_rfl) (by kernel_rfl) ?_
      simp only [go_sem, Nat.reduceLT, hgi, hi0, w64N (a := (I2 : Int) + 1) (k := I2 + 1) (by omega) (by omega), w64N (a := (J2 : Int) - 1) (k := J2 - 1) (by omega) (by omega), ix_r cI2, ix_r cJ2, ix_b cI2, ix_b cJ2, ix_c cI2, ix_c cJ2, spotsC_x, spotsC_y, b6, and_false, if_false, hset_hset]
      rw [swap_fn E (a := I2) (b := J2) (by omega) (by omega)]
      refine ⟨⟨(I2 + 1, J2 - 1, swp E I2 J2), ⟨by show a + 1 ≤ I2 + 1; omega, by show I2 + 1 ≤ J2 - 1 + 1; omega, by show J2 - 1 + 1 ≤ b; omega⟩, (swp_size _ _ _).trans hEz, hPL⟩, by show J2 - 1 + 1 - (I2 + 1) < j0 + 1 - i0; omega, ?_⟩
      refine Imp.id (by simp) ?_ (impH.base0 (hok_set hok fun k hk => spotsC_flat _ _) (by simp) HExt.rfl)
      simp only [go_sem, Nat.reduceLT, hFl, hi0]
      (try (repeat' apply And.intro) <;> first | omega | rfl | trivial | assumption | skip)
  rintro ⟨⟨m, E⟩, hmE, hEz⟩
  refine SW_of_T hti trivial ?_
  simp only [go_sem, Nat.reduceLT]
  rw [hpart, ← hmE]
  exact ⟨rfl, HExt.rfl⟩
end
end Go.Proofs.Ytddnnodkkdjniaa.V

/- The library's reversal and its partial insertion sort of spots. -/
namespace Go.Proofs.Ytddnnodkkdjniaa.V
open Go.Sort (swp scanSorted shiftDown shiftUp partialIns partialInsertionSort reverseLoop reverseRange fixDown fixUp partialIns_succ)
abbrev SpL := Int × Int → Int × Int → Bool
theorem scanSorted_go {lt : SpL} {d : Array (Int × Int)} {b i : Nat} (h : i < b) (hp : lt d[i]! d[i - 1]! = false) : scanSorted lt d b i = scanSorted lt d b (i + 1) := by
  rw [scanSorted, if_pos (by rw [hp, decide_eq_true h]; rfl)]
theorem scanSorted_far {lt : SpL} {d : Array (Int × Int)} {b i : Nat} (h : ¬ i < b) : scanSorted lt d b i = i := by
  rw [scanSorted, if_neg (by rw [decide_eq_false h]; simp)]
theorem scanSorted_stop {lt : SpL} {d : Array (Int × Int)} {b i : Nat} (hp : lt d[i]! d[i - 1]! = true) : scanSorted lt d b i = i := by
  rw [scanSorted, if_neg (by rw [hp]; simp)]
theorem scanSorted_in (lt : SpL) (d : Array (Int × Int)) (b : Nat) : ∀ (n i : Nat), b - i = n → i ≤ b → i ≤ scanSorted lt d b i ∧ scanSorted lt d b i ≤ b := by
  intro n
  induction n with
  | zero => intro i hn hi; rw [scanSorted_far (by omega)]; omega
  | succ n ih =>
    intro i hn hi
    cases hp : lt d[i]! d[i - 1]!
    · rw [scanSorted_go (by omega) hp]
      have := ih (i + 1) (by omega) (by omega)
      omega
    · rw [scanSorted_stop hp]; omega
theorem shiftDown_go {lt : SpL} {d : Array (Int × Int)} {j : Nat} (hp : lt d[j + 1]! d[j]! = true) : shiftDown lt (j + 1) d = shiftDown lt j (swp d (j + 1) j) := by
  rw [shiftDown, hp]; rfl
theorem shiftDown_stop {lt : SpL} {d : Array (Int × Int)} {j : Nat} (hp : lt d[j + 1]! d[j]! = false) : shiftDown lt (j + 1) d = d := by
  rw [shiftDown, hp]; rfl
theorem shiftUp_go {lt : SpL} {d : Array (Int × Int)} {b j : Nat} (h : j < b) (hp : lt d[j]! d[j - 1]! = true) : shiftUp lt b j d = shiftUp lt b (j + 1) (swp d j (j - 1)) := by
  rw [shiftUp, if_pos h, hp]; rfl
theorem shiftUp_stop {lt : SpL} {d : Array (Int × Int)} {b j : Nat} (h : j < b) (hp : lt d[j]! d[j - 1]! = false) : shiftUp lt b j d = d := by
  rw [shiftUp, if_pos h, hp]; rfl
theorem shiftUp_far {lt : SpL} {d : Array (Int × Int)} {b j : Nat} (h : ¬ j < b) : shiftUp lt b j d = d := by
  rw [shiftUp, if_neg h]
section
variable (cx : Cx) (h : List (Nat × Seg)) (n : Nat)
set_option maxRecDepth 100000 in
theorem reverseRange_E (i cap : Nat) (d : Array (Int × Int)) (own : Option (Nat × Nat)) (a b : Nat) (f p q : Nat) (G F : Nat → SV) (cI : Int × Int → Int × Int → Int) (lt : Int × Int → Int × Int → Bool) (hlt : ∀ x y, decide (cI x y < 0) = lt x y)
    (hs : hget h i = some ⟨d.size * 2, spotsC d.toList, true, own⟩) (hi0 : i < n) (hb : b ≤ d.size) (h2 : a + 2 ≤ b) (hm9 : d.size ≤ 1000000000) (hF : (SV.fn f p G q F).lt n) (hcmp : Cmps cx h n i f p q G F cI) (K : HK)
    (hK : K (.tup 0 (cl [])) (hset h i ⟨d.size * 2, spotsC (reverseRange d a b).toList, true, own⟩) n) :
    CallE Try.prog cx 70 [.sl i 0 d.size cap, .int .i64 a, .int .i64 b, .fn f p G q F] h n K := by
  refine CallE.to _ _ (by simp only [go_sem]) (fun hok => hok_set hok fun k hk => spotsC_flat _ _) hK ?_
  have hgi : ∀ t, hget (hset h i t) i = some t := hget_hset_self hs
  have hFl : (SV.fn f p G q F).lt n = True := eq_true hF
  have b6 : (2 = d.size * 2) = False := eq_false (by omega)
  have ca0 : a < d.size := by omega
  refine callE_of_T (P := Try.prog) hti (nt := 34) (rs := []) rfl rfl Try.call70 Try.func70 rfl _ (by simp only [go_sem, and_self]) (Nat.le_of_ble_eq_true rfl) _ fun hok => ?_
  simp only [go_sem, Nat.reduceLT, w64N (a := (b : Int) - 1) (k := b - 1) (by omega) (by omega)]
  refine T_lp (ι := { w : (Nat × Nat) × Array (Int × Int) // w.1.2 + 1 ≤ b ∧ w.2.size = d.size ∧ reverseLoop w.1.1 w.1.2 w.2 = reverseRange d a b })
    (fun w => ([(0, .sl i 0 d.size cap), (8, .int .i64 ((w.1.1.1 : Nat) : Int)), (9, .int .i64 ((w.1.1.2 : Nat) : Int))], hset h i ⟨d.size * 2, spotsC w.1.2.toList, true, own⟩, n)) (fun w => w.1.1.2 - w.1.1.1) ⟨((a, b - 1), d), by show b - 1 + 1 ≤ b; omega, rfl, rfl⟩ ?_ ?_
  · refine Imp.id (by simp) ?_ ?_
    · simp only [go_sem, Nat.reduceLT, hi0]
      (try (repeat' apply And.intro) <;> first | omega | rfl | trivial | assumption | skip)
    · rw [hset_self hs]; exact impH.base0 hok (by simp) HExt.rfl
  · rintro ⟨⟨⟨x, y⟩, D⟩, hy, hD, hR⟩
    simp only at hy hD hR
    rw [reverseLoop] at hR
    simp only [go_sem, Nat.reduceLT]
    by_cases hxy : x < y
    · rw [if_pos hxy] at hR
      have e1 : ((x : Int) < (y : Int)) = True := eq_true (by omega)
      have cX : x < d.size := by omega
      have cY : y < d.size := by omega
      simp only [go_sem, reduceCtorEq, e1]
      refine T_drawG hti 16 [13, 15] (.b 0 0 (.b 0 1 (.b 0 2 (.b 0 3 (.b 0 4 (.b 0 5 (.b 0 6 (.b 0 7 (.b 0 8 (.b 0 9 (.b 0 10 (.b 0 11 (.b 0 12 (.b 4 13 (.b 0 14 (.b 4 15 (.f) .o) .o) .o) .o) .o) .o) .o) .o) .o) .o) .o) .o) .o) .o) .o) .o) _ _ (by kernel_rfl) (by kernel_rfl) ?_
      simp only [go_sem, Nat.reduceLT, hgi, hi0, w64N (a := (x : Int) + 1) (k := x + 1) (by omega) (by omega), w64N (a := (y : Int) - 1) (k := y - 1) (by omega) (by omega), ix_r cX, ix_r cY, ix_b cX, ix_b cY, ix_c cX, ix_c cY, spotsC_x, spotsC_y, b6, and_false, if_false, hset_hset]
      rw [swap_fn D (a := x) (b := y) (by omega) (by omega)]
      refine ⟨⟨((x + 1, y - 1), swp D x y), by show y - 1 + 1 ≤ b; omega, (swp_size _ _ _).trans hD, hR⟩, by show y - 1 - (x + 1) < y - x; omega, ?_⟩
      refine Imp.id (by simp) ?_ (impH.base0 (hok_set hok fun k hk => spotsC_flat _ _) (by simp) HExt.rfl)
      simp only [go_sem, Nat.reduceLT, hi0]
      (try (repeat' apply And.intro) <;> first | omega | rfl | trivial | assumption | skip)
    · rw [if_neg hxy] at hR
      have e1 : ((x : Int) < (y : Int)) = False := eq_false (by omega)
      simp only [go_sem, e1]
      rw [hR]
      exact HExt.rfl
set_option maxRecDepth 100000 in
set_option maxHeartbeats 3200000 in
theorem partialIns_E (i cap : Nat) (d : Array (Int × Int)) (own : Option (Nat × Nat)) (a b : Nat) (f p q : Nat) (G F : Nat → SV) (cI : Int × Int → Int × Int → Int) (lt : Int × Int → Int × Int → Bool) (hlt : ∀ x y, decide (cI x y < 0) = lt x y)
    (hs : hget h i = some ⟨d.size * 2, spotsC d.toList, true, own⟩) (hi0 : i < n) (hb : b ≤ d.size) (h2 : a + 2 ≤ b) (hm9 : d.size ≤ 1000000000) (hF : (SV.fn f p G q F).lt n) (hcmp : Cmps cx h n i f p q G F cI) (K : HK)
    (hK : K (.bool (partialInsertionSort lt d a b).2) (hset h i ⟨d.size * 2, spotsC (partialInsertionSort lt d a b).1.toList, true, own⟩) n) :
    CallE Try.prog cx 71 [.sl i 0 d.size cap, .int .i64 a, .int .i64 b, .fn f p G q F] h n K := by
  refine CallE.to _ _ (by simp only [go_sem]) (fun hok => hok_set hok fun k hk => spotsC_flat _ _) hK ?_
  have hgi : ∀ t, hget (hset h i t) i = some t := hget_hset_self hs
  have hFl : (SV.fn f p G q F).lt n = True := eq_true hF
  have b6 : (2 = d.size * 2) = False := eq_false (by omega)
  have ca0 : a < d.size := by omega
  refine callE_of_SW (P := Try.prog) hti (nt := 141) (rs := [.tmp 8]) rfl rfl Try.call71 Try.func71 rfl _ (by simp only [go_sem, and_self]) (Nat.le_of_ble_eq_true rfl) _ fun hok => ?_
  refine SW_seq (SW_run hti trivial ?_)
  simp only [go_sem, Nat.reduceLT]
  refine SW_seq (SW_run hti trivial ?_)
  simp only [go_sem, Nat.reduceLT, w64N (a := (a : Int) + 1) (k := a + 1) (by omega) (by omega)]
  refine SW_seq (SW_seq (SW_run hti trivial ?_))
  simp only [go_sem, Nat.reduceLT]
  refine SW_block (SW_lp (ι := { w : (Nat × Nat) × Array (Int × Int) // (w.1.1 ≤ 5 ∧ a + 1 ≤ w.1.2 ∧ w.1.2 ≤ b) ∧ w.2.size = d.size ∧ partialIns lt a b w.1.1 w.1.2 w.2 = partialInsertionSort lt d a b })
    (fun w => ([(0, .sl i 0 d.size cap), (1, .int .i64 a), (2, .int .i64 b), (3, .fn f p G q F), (9, .int .i64 ((w.1.1.2 : Nat) : Int)), (10, .int .i64 (5 - ((w.1.1.1 : Nat) : Int)))], hset h i ⟨d.size * 2, spotsC w.1.2.toList, true, own⟩, n)) (fun w => w.1.1.1) ⟨((5, a + 1), d), ⟨Nat.le_refl _, Nat.le_refl _, by show a + 1 ≤ b; omega⟩, rfl, rfl⟩ ?_ ?_)
  · refine Imp.id (by simp) ?_ ?_
    · simp only [go_sem, Nat.reduceLT, Int.reduceSub, hFl, hi0]
      (try (repeat' apply And.intro) <;> first | omega | rfl | trivial | assumption | skip)
    · rw [hset_self hs]; exact impH.base0 hok (by simp) HExt.rfl
  rintro ⟨⟨⟨s, i0⟩, D⟩, ⟨hs5, ha1, hib⟩, hD, hR⟩
  simp only at hs5 ha1 hib hD hR
  cases s with
  | zero =>
    rw [partialIns] at hR
    refine SW_of_T hti trivial ?_
    simp only [go_sem, Nat.reduceLT, Int.reduceLT, Int.reduceSub, show ((5 : Int) - ((0 : Nat) : Int) < 5) = False from eq_false (by omega)]
    rw [← hR]
    exact ⟨rfl, HExt.rfl⟩
  | succ s =>
    rw [partialIns_succ] at hR
    obtain ⟨gI1, gI2⟩ := scanSorted_in lt D b _ i0 rfl hib
    obtain ⟨I, hI⟩ : ∃ I, scanSorted lt D b i0 = I := ⟨_, rfl⟩
    rw [hI] at hR gI1 gI2
    refine SW_seq (SW_run hti trivial ?_)
    simp only [go_sem, Nat.reduceLT, show ((5 : Int) - ((s + 1 : Nat) : Int) < 5) = True from eq_true (by omega)]
    refine SW_seq (SW_block (SW_seq (SW_cut hti (ι := Unit) (fun _ => ([(0, .sl i 0 d.size cap), (1, .int .i64 a), (2, .int .i64 b), (3, .fn f p G q F), (9, .int .i64 ((I : Nat) : Int)), (10, .int .i64 (5 - ((s + 1 : Nat) : Int)))], hset h i ⟨d.size * 2, spotsC D.toList, true, own⟩, n)) trivial ?_ ?_)))
    · simp only [go_sem]
      subst hI
      refine T_lp (ι := { k : Nat // i0 ≤ k ∧ k ≤ b ∧ scanSorted lt D b k = scanSorted lt D b i0 }) (fun k => ([(0, .sl i 0 d.size cap), (1, .int .i64 a), (2, .int .i64 b), (3, .fn f p G q F), (9, .int .i64 ((k.1 : Nat) : Int)), (10, .int .i64 (5 - ((s + 1 : Nat) : Int)))], hset h i ⟨d.size * 2, spotsC D.toList, true, own⟩, n)) (fun k => b - k.1) ⟨i0, Nat.le_refl _, hib, rfl⟩ ?_ ?_
      · refine Imp.id (by simp) ?_ (impH.base0 (hok_set hok fun k hk => spotsC_flat _ _) (by simp) HExt.rfl)
        simp only [go_sem, Nat.reduceLT, hFl, hi0]
        (try (repeat' apply And.intro) <;> first | omega | rfl | trivial | assumption | skip)
      · rintro ⟨k, hk1, hk2, hK⟩
        simp only [go_sem]
        by_cases h1 : k < b
        rotate_left
        · have e1 : ((k : Int) < (b : Int)) = False := eq_false (by omega)
          rw [scanSorted_far h1] at hK
          refine T_draw hti _ _ (by kernel_rfl) (by kernel_rfl) ?_
          simp only [go_sem, Nat.reduceLT, e1]
          refine ⟨(), Imp.id (by simp) ?_ (impH.base0 (hok_set hok fun k hk => spotsC_flat _ _) (by simp) HExt.rfl)⟩
          simp only [go_sem, Nat.reduceLT, hFl, hi0, hK]
          (try (repeat' apply And.intro) <;> first | omega | rfl | trivial | assumption | skip)
        obtain ⟨k, rfl⟩ := nat_succ (show 0 < k by omega)
        have e1 : (((k + 1 : Nat) : Int) < (b : Int)) = True := eq_true (by omega)
        have c1 : k + 1 < d.size := by omega
        have c2 : k < d.size := by omega
        refine T_draw hti _ _ (by kernel_rfl) (by kernel_rfl) ?_
        simp only [go_sem, Nat.reduceLT, hgi, hi0, e1, w64N (a := ((k + 1 : Nat) : Int) - 1) (k := k) (by omega) (by omega), ix_r c1, ix_r c2, ix_b c1, ix_b c2, ix_c c1, ix_c c2, spotsC_x, spotsC_y]
        refine (hcmp (D.toList.getD (k + 1) (0, 0)) (D.toList.getD k (0, 0)) _ _ _ _ (Nat.le_refl n) (HBut.set i n h _)).A ?_
        have hl := hlt (D.toList.getD (k + 1) (0, 0)) (D.toList.getD k (0, 0))
        by_cases hc : cI (D.toList.getD (k + 1) (0, 0)) (D.toList.getD k (0, 0)) < 0
        · rw [scanSorted_stop (show lt D[k + 1]! D[k + 1 - 1]! = true from by rw [Nat.add_sub_cancel, bangL, bangL, ← hl, decide_eq_true hc])] at hK
          simp only [go_sem, Nat.reduceLT, hc]
          refine ⟨(), Imp.id (by simp) ?_ (impH.base0 (hok_set hok fun k hk => spotsC_flat _ _) (by simp) HExt.rfl)⟩
          simp only [go_sem, Nat.reduceLT, hFl, hi0, hK]
          (try (repeat' apply And.intro) <;> first | omega | rfl | trivial | assumption | skip)
        · rw [scanSorted_go h1 (show lt D[k + 1]! D[k + 1 - 1]! = false from by rw [Nat.add_sub_cancel, bangL, bangL, ← hl, decide_eq_false hc])] at hK
          simp only [go_sem, Nat.reduceLT, hc]
          refine ⟨⟨k + 1 + 1, by omega, by omega, hK⟩, by show b - (k + 1 + 1) < b - (k + 1); omega, ?_⟩
          refine Imp.id (by simp) ?_ (impH.base0 (hok_set hok fun k hk => spotsC_flat _ _) (by simp) HExt.rfl)
          simp only [go_sem, Nat.reduceLT, hFl, hi0, w64N (a := ((k + 1 : Nat) : Int) + 1) (k := k + 1 + 1) (by omega) (by omega)]
          (try (repeat' apply And.intro) <;> first | omega | rfl | trivial | assumption | skip)
    intro _
    refine SW_seq (SW_run hti trivial ?_)
    by_cases hIb : I = b
    · rw [if_pos hIb] at hR
      subst hIb
      simp only [go_sem, Nat.reduceLT]
      rw [← hR]
      exact ⟨rfl, HExt.rfl⟩
    rw [if_neg hIb] at hR
    simp only [go_sem, Nat.reduceLT, show ((I : Int) = (b : Int)) = False from eq_false (by omega)]
    refine SW_seq (SW_run hti trivial ?_)
    by_cases h50 : b - a < 50
    · rw [if_pos h50] at hR
      simp only [go_sem, Nat.reduceLT, w64N (a := (b : Int) - (a : Int)) (k := b - a) (by omega) (by omega), show (((b - a : Nat) : Int) < 50) = True from eq_true (by omega)]
      rw [← hR]
      exact ⟨rfl, HExt.rfl⟩
    rw [if_neg h50] at hR
    simp only [go_sem, Nat.reduceLT, w64N (a := (b : Int) - (a : Int)) (k := b - a) (by omega) (by omega), show (((b - a : Nat) : Int) < 50) = False from eq_false (by omega)]
    refine SW_seq (SW_run hti trivial ?_)
    have cXI : I < d.size := by omega
    have cXJ : I - 1 < d.size := by omega
    refine T_drawG hti 18 [15, 17] (.b 0 0 (.b 0 1 (.b 0 2 (.b 0 3 (.b 0 4 (.b 0 5 (.b 0 6 (.b 0 7 (.b 0 8 (.b 0 9 (.b 0 10 (.b 0 11 (.b 0 12 (.b 0 13 (.b 0 14 (.b 4 15 (.b 0 16 (.b 4 17 (.f) .o) .o) .o) .o) .o) .o) .o) .o) .o) .o) .o) .o) .o) .o) .o) .o) .o) .o) _ _ (by kernel_rfl) (by kernel_rfl) ?_
    simp only [go_sem, Nat.reduceLT, hgi, hi0, w64N (a := (I : Int) - 1) (k := I - 1) (by omega) (by omega), ix_r cXI, ix_r cXJ, ix_b cXI, ix_b cXJ, ix_c cXI, ix_c cXJ, spotsC_x, spotsC_y, b6, and_false, if_false, hset_hset]
    rw [swap_fn D (a := I) (b := (I - 1)) (by omega) (by omega)]
    have hE1 : (swp D I (I - 1)).size = d.size := (swp_size _ _ _).trans hD
    generalize swp D I (I - 1) = E1 at *
    have sDn : ∀ (j : Nat) (E : Array (Int × Int)), (shiftDown lt j E).size = E.size := fun j => by
      induction j with
      | zero => intro E; rfl
      | succ j ih =>
        intro E
        cases hp : lt E[j + 1]! E[j]!
        · rw [shiftDown_stop hp]
        · rw [shiftDown_go hp, ih, swp_size]
    have sUp : ∀ (m j : Nat) (E : Array (Int × Int)), b - j = m → (shiftUp lt b j E).size = E.size := fun m => by
      induction m with
      | zero => intro j E hj; rw [shiftUp_far (by omega)]
      | succ m ih =>
        intro j E hj
        cases hp : lt E[j]! E[j - 1]!
        · rw [shiftUp_stop (by omega) hp]
        · rw [shiftUp_go (by omega) hp, ih _ _ (by omega), swp_size]
    have hE2 : (fixDown lt a I E1).size = d.size := by unfold fixDown; split; rw [sDn, hE1]; exact hE1
    have hE3 : ∀ E : Array (Int × Int), (fixUp lt b I E).size = E.size := fun E => by unfold fixUp; split; exact sUp _ _ _ rfl; rfl
    refine SW_seq (SW_cut hti (ι := Unit) (fun _ => ([(0, .sl i 0 d.size cap), (1, .int .i64 a), (2, .int .i64 b), (3, .fn f p G q F), (9, .int .i64 ((I : Nat) : Int)), (10, .int .i64 (5 - ((s + 1 : Nat) : Int)))], hset h i ⟨d.size * 2, spotsC (fixDown lt a I E1).toList, true, own⟩, n)) trivial ?_ ?_)
    · by_cases h2 : I - a ≥ 2
      rotate_left
      · simp only [go_sem, Nat.reduceLT, w64N (a := (I : Int) - (a : Int)) (k := I - a) (by omega) (by omega), show ((2 : Int) ≤ ((I - a : Nat) : Int)) = False from eq_false (by omega)]
        refine ⟨(), Imp.id (by simp) ?_ (by unfold fixDown; rw [if_neg h2]; exact (impH.base0 (hok_set hok fun k hk => spotsC_flat _ _) (by simp) HExt.rfl))⟩
        simp only [go_sem, Nat.reduceLT, hFl, hi0]
        (try (repeat' apply And.intro) <;> first | omega | rfl | trivial | assumption | skip)
      have hfd : fixDown lt a I E1 = shiftDown lt (I - 1) E1 := by unfold fixDown; rw [if_pos h2]
      rw [hfd]
      simp only [go_sem, Nat.reduceLT, w64N (a := (I : Int) - (a : Int)) (k := I - a) (by omega) (by omega), show ((2 : Int) ≤ ((I - a : Nat) : Int)) = True from eq_true (by omega), w64N (a := (I : Int) - 1) (k := I - 1) (by omega) (by omega)]
      refine T_lp (ι := { w : Nat × Array (Int × Int) // w.1 < d.size ∧ w.2.size = d.size ∧ shiftDown lt w.1 w.2 = shiftDown lt (I - 1) E1 }) (fun w => ([(0, .sl i 0 d.size cap), (1, .int .i64 a), (2, .int .i64 b), (3, .fn f p G q F), (9, .int .i64 ((I : Nat) : Int)), (10, .int .i64 (5 - ((s + 1 : Nat) : Int)))] ++ [(11, .int .i64 ((w.1.1 : Nat) : Int))], hset h i ⟨d.size * 2, spotsC w.1.2.toList, true, own⟩, n)) (fun w => w.1.1) ⟨(I - 1, E1), cXJ, hE1, rfl⟩ ?_ ?_
      · refine Imp.id (by simp) ?_ (impH.base0 (hok_set hok fun k hk => spotsC_flat _ _) (by simp) HExt.rfl)
        simp only [go_sem, Nat.reduceLT, hFl, hi0, List.cons_append, List.nil_append]
        (try (repeat' apply And.intro) <;> first | omega | rfl | trivial | assumption | skip)
      · rintro ⟨⟨k, E⟩, hk, hE, hK⟩
        simp only at hk hE hK
        cases k with
        | zero =>
          rw [shiftDown] at hK
          simp only [go_sem, Nat.reduceLT, Int.reduceLE, List.cons_append, List.nil_append, show ((1 : Int) ≤ ((0 : Nat) : Int)) = False from eq_false (by omega)]
          refine ⟨(), Imp.id (by simp) ?_ (by rw [← hK]; exact (impH.base0 (hok_set hok fun k hk => spotsC_flat _ _) (by simp) HExt.rfl))⟩
          simp only [go_sem, Nat.reduceLT, hFl, hi0]
          (try (repeat' apply And.intro) <;> first | omega | rfl | trivial | assumption | skip)
        | succ k =>
          have c2 : k < d.size := by omega
          simp only [go_sem, Nat.reduceLT, List.cons_append, List.nil_append, show ((1 : Int) ≤ ((k + 1 : Nat) : Int)) = True from eq_true (by omega)]
          refine T_draw hti _ _ (by kernel_rfl) (by kernel_rfl) ?_
          simp only [go_sem, Nat.reduceLT, hgi, hi0, w64N (a := ((k + 1 : Nat) : Int) - 1) (k := k) (by omega) (by omega), ix_r hk, ix_r c2, ix_b hk, ix_b c2, ix_c hk, ix_c c2, spotsC_x, spotsC_y]
          refine (hcmp (E.toList.getD (k + 1) (0, 0)) (E.toList.getD k (0, 0)) _ _ _ _ (Nat.le_refl n) (HBut.set i n h _)).A ?_
          have hl := hlt (E.toList.getD (k + 1) (0, 0)) (E.toList.getD k (0, 0))
          by_cases hc : cI (E.toList.getD (k + 1) (0, 0)) (E.toList.getD k (0, 0)) < 0
          · rw [shiftDown_go (show lt E[k + 1]! E[k]! = true from by rw [bangL, bangL, ← hl, decide_eq_true hc])] at hK
            simp only [go_sem, Nat.reduceLT, hc]
            refine T_drawG hti 18 [15, 17] (.b 0 0 (.b 0 1 (.b 0 2 (.b 0 3 (.b 0 4 (.b 0 5 (.b 0 6 (.b 0 7 (.b 0 8 (.b 0 9 (.b 0 10 (.b 0 11 (.b 0 12 (.b 0 13 (.b 0 14 (.b 4 15 (.b 0 16 (.b 4 17 (.f) .o) .o) .o) .o) .o) .o) .o) .o) .o) .o) .o) .o) .o) .o) .o) .o) .o) .o) _ _ (by kernel_rfl) (by kernel_rfl) ?_
            simp only [go_sem, Nat.reduceLT, reduceCtorEq, hgi, hi0, w64N (a := ((k + 1 : Nat) : Int) - 1) (k := k) (by omega) (by omega), ix_r hk, ix_r c2, ix_b hk, ix_b c2, ix_c hk, ix_c c2, spotsC_x, spotsC_y, b6, and_false, if_false, hset_hset]
            rw [swap_fn E (a := (k + 1)) (b := k) (by omega) (by omega)]
            refine ⟨⟨(k, swp E (k + 1) k), c2, (swp_size _ _ _).trans hE, hK⟩, by show k < k + 1; omega, ?_⟩
            refine Imp.id (by simp) ?_ (impH.base0 (hok_set hok fun k hk => spotsC_flat _ _) (by simp) HExt.rfl)
            simp only [go_sem, Nat.reduceLT, hFl, hi0, List.cons_append, List.nil_append, w64N (a := ((k + 1 : Nat) : Int) - 1) (k := k) (by omega) (by omega)]
            (try (repeat' apply And.intro) <;> first | omega | rfl | trivial | assumption | skip)
          · rw [shiftDown_stop (show lt E[k + 1]! E[k]! = false from by rw [bangL, bangL, ← hl, decide_eq_false hc])] at hK
            simp only [go_sem, Nat.reduceLT, hc]
            refine ⟨(), Imp.id (by simp) ?_ (by rw [← hK]; exact (impH.base0 (hok_set hok fun k hk => spotsC_flat _ _) (by simp) HExt.rfl))⟩
            simp only [go_sem, Nat.reduceLT, hFl, hi0]
            (try (repeat' apply And.intro) <;> first | omega | rfl | trivial | assumption | skip)
    intro _
    generalize fixDown lt a I E1 = E2 at *
    refine SW_cut hti (ι := Unit) (fun _ => ([(0, .sl i 0 d.size cap), (1, .int .i64 a), (2, .int .i64 b), (3, .fn f p G q F), (9, .int .i64 ((I : Nat) : Int)), (10, .int .i64 (5 - ((s + 1 : Nat) : Int)))], hset h i ⟨d.size * 2, spotsC (fixUp lt b I E2).toList, true, own⟩, n)) trivial ?_ ?_
    · by_cases h2 : b - I ≥ 2
      rotate_left
      · simp only [go_sem, Nat.reduceLT, w64N (a := (b : Int) - (I : Int)) (k := b - I) (by omega) (by omega), show ((2 : Int) ≤ ((b - I : Nat) : Int)) = False from eq_false (by omega)]
        refine ⟨(), Imp.id (by simp) ?_ (by unfold fixUp; rw [if_neg h2]; exact (impH.base0 (hok_set hok fun k hk => spotsC_flat _ _) (by simp) HExt.rfl))⟩
        simp only [go_sem, Nat.reduceLT, hFl, hi0]
        (try (repeat' apply And.intro) <;> first | omega | rfl | trivial | assumption | skip)
      have hfd : fixUp lt b I E2 = shiftUp lt b (I + 1) E2 := by unfold fixUp; rw [if_pos h2]
      rw [hfd]
      simp only [go_sem, Nat.reduceLT, w64N (a := (b : Int) - (I : Int)) (k := b - I) (by omega) (by omega), show ((2 : Int) ≤ ((b - I : Nat) : Int)) = True from eq_true (by omega), w64N (a := (I : Int) + 1) (k := I + 1) (by omega) (by omega)]
      refine T_lp (ι := { w : Nat × Array (Int × Int) // (I + 1 ≤ w.1 ∧ w.1 ≤ b) ∧ w.2.size = d.size ∧ shiftUp lt b w.1 w.2 = shiftUp lt b (I + 1) E2 }) (fun w => ([(0, .sl i 0 d.size cap), (1, .int .i64 a), (2, .int .i64 b), (3, .fn f p G q F), (9, .int .i64 ((I : Nat) : Int)), (10, .int .i64 (5 - ((s + 1 : Nat) : Int)))] ++ [(12, .int .i64 ((w.1.1 : Nat) : Int))], hset h i ⟨d.size * 2, spotsC w.1.2.toList, true, own⟩, n)) (fun w => b - w.1.1) ⟨(I + 1, E2), ⟨Nat.le_refl _, by show I + 1 ≤ b; omega⟩, hE2, rfl⟩ ?_ ?_
      · refine Imp.id (by simp) ?_ (impH.base0 (hok_set hok fun k hk => spotsC_flat _ _) (by simp) HExt.rfl)
        simp only [go_sem, Nat.reduceLT, hFl, hi0, List.cons_append, List.nil_append]
        (try (repeat' apply And.intro) <;> first | omega | rfl | trivial | assumption | skip)
      · rintro ⟨⟨k, E⟩, ⟨hk0, hk⟩, hE, hK⟩
        simp only at hk0 hk hE hK
        by_cases hkb : k < b
        rotate_left
        · rw [shiftUp_far hkb] at hK
          simp only [go_sem, Nat.reduceLT, List.cons_append, List.nil_append, show ((k : Int) < (b : Int)) = False from eq_false (by omega)]
          refine ⟨(), Imp.id (by simp) ?_ (by rw [← hK]; exact (impH.base0 (hok_set hok fun k hk => spotsC_flat _ _) (by simp) HExt.rfl))⟩
          simp only [go_sem, Nat.reduceLT, hFl, hi0]
          (try (repeat' apply And.intro) <;> first | omega | rfl | trivial | assumption | skip)
        · obtain ⟨k, rfl⟩ := nat_succ (show 0 < k by omega)
          have c1 : k + 1 < d.size := by omega
          have c2 : k < d.size := by omega
          simp only [go_sem, Nat.reduceLT, List.cons_append, List.nil_append, show (((k + 1 : Nat) : Int) < (b : Int)) = True from eq_true (by omega)]
          refine T_draw hti _ _ (by kernel_rfl) (by kernel_rfl) ?_
          simp only [go_sem, Nat.reduceLT, hgi, hi0, w64N (a := ((k + 1 : Nat) : Int) - 1) (k := k) (by omega) (by omega), ix_r c1, ix_r c2, ix_b c1, ix_b c2, ix_c c1, ix_c c2, spotsC_x, spotsC_y]
          refine (hcmp (E.toList.getD (k + 1) (0, 0)) (E.toList.getD k (0, 0)) _ _ _ _ (Nat.le_refl n) (HBut.set i n h _)).A ?_
          have hl := hlt (E.toList.getD (k + 1) (0, 0)) (E.toList.getD k (0, 0))
          by_cases hc : cI (E.toList.getD (k + 1) (0, 0)) (E.toList.getD k (0, 0)) < 0
          · rw [shiftUp_go hkb (show lt E[k + 1]! E[k + 1 - 1]! = true from by rw [Nat.add_sub_cancel, bangL, bangL, ← hl, decide_eq_true hc]), Nat.add_sub_cancel] at hK
            simp only [go_sem, Nat.reduceLT, hc]
            refine T_drawG hti 18 [15, 17] (.b 0 0 (.b 0 1 (.b 0 2 (.b 0 3 (.b 0 4 (.b 0 5 (.b 0 6 (.b 0 7 (.b 0 8 (.b 0 9 (.b 0 10 (.b 0 11 (.b 0 12 (.b 0 13 (.b 0 14 (.b 4 15 (.b 0 16 (.b 4 17 (.f) .o) .o) .o) .o) .o) .o) .o) .o) .o) .o) .o) .o) .o) .o) .o) .o) .o) .o) _ _ (by kernel_rfl) (by kernel_rfl) ?_
            simp only [go_sem, Nat.reduceLT, reduceCtorEq, hgi, hi0, w64N (a := ((k + 1 : Nat) : Int) - 1) (k := k) (by omega) (by omega), ix_r c1, ix_r c2, ix_b c1, ix_b c2, ix_c c1, ix_c c2, spotsC_x, spotsC_y, b6, and_false, if_false, hset_hset]
            rw [swap_fn E (a := (k + 1)) (b := k) (by omega) (by omega)]
            refine ⟨⟨(k + 1 + 1, swp E (k + 1) k), ⟨by show I + 1 ≤ k + 1 + 1; omega, by show k + 1 + 1 ≤ b; omega⟩, (swp_size _ _ _).trans hE, hK⟩, by show b - (k + 1 + 1) < b - (k + 1); omega, ?_⟩
            refine Imp.id (by simp) ?_ (impH.base0 (hok_set hok fun k hk => spotsC_flat _ _) (by simp) HExt.rfl)
            simp only [go_sem, Nat.reduceLT, hFl, hi0, List.cons_append, List.nil_append, w64N (a := ((k + 1 : Nat) : Int) + 1) (k := k + 1 + 1) (by omega) (by omega)]
            (try (repeat' apply And.intro) <;> first | omega | rfl | trivial | assumption | skip)
          · rw [shiftUp_stop hkb (show lt E[k + 1]! E[k + 1 - 1]! = false from by rw [Nat.add_sub_cancel, bangL, bangL, ← hl, decide_eq_false hc])] at hK
            simp only [go_sem, Nat.reduceLT, hc]
            refine ⟨(), Imp.id (by simp) ?_ (by rw [← hK]; exact (impH.base0 (hok_set hok fun k hk => spotsC_flat _ _) (by simp) HExt.rfl))⟩
            simp only [go_sem, Nat.reduceLT, hFl, hi0]
            (try (repeat' apply And.intro) <;> first | omega | rfl | trivial | assumption | skip)
    intro _
    refine SW_of_T hti trivial ?_
    simp only [go_sem, Nat.reduceLT, w64 (n := (5 : Int) - ((s + 1 : Nat) : Int) + 1) (by omega)]
    refine ⟨⟨((s, I), fixUp lt b I E2), ⟨by show s ≤ 5; omega, by show a + 1 ≤ I; omega, gI2⟩, (hE3 _).trans hE2, hR⟩, by show s < s + 1; omega, ?_⟩
    refine Imp.id (by simp) ?_ (impH.base0 (hok_set hok fun k hk => spotsC_flat _ _) (by simp) HExt.rfl)
    simp only [go_sem, Nat.reduceLT, hFl, hi0, show (5 : Int) - ((s + 1 : Nat) : Int) + 1 = 5 - (s : Int) by omega]
    (try (repeat' apply And.intro) <;> first | omega | rfl | trivial | assumption | skip)
end
end Go.Proofs.Ytddnnodkkdjniaa.V

/- The library's choice of a pivot among spots. -/
namespace Go.Proofs.Ytddnnodkkdjniaa.V
open Go.Sort (order2 median medianAdjacent choosePivot rawPivot hintOf hintCode order2_mem median_mem medianAdjacent_mem median_count medianAdjacent_count order2_count choosePivot_eq)
/-- A function that compares spots and looks at no memory. -/
def CmpA (cx : Cx) (n f p q : Nat) (G F : Nat → SV) (cI : Int × Int → Int × Int → Int) : Prop :=
  ∀ (a b : Int × Int) nt n0 h' n', n ≤ n' → CallQ Try.prog ⟨cx.w0, cx.W, nt, n0⟩ f (lst p G ++ [spot a.1 a.2, spot b.1 b.2] ++ lst q F) h' n' (.int .i64 (cI a b))
theorem CmpA.cmps {cx : Cx} {n f p q : Nat} {G F : Nat → SV} {cI : Int × Int → Int × Int → Int} (hc : CmpA cx n f p q G F cI) (h : List (Nat × Seg)) (i : Nat) : Cmps cx h n i f p q G F cI := fun a b nt n0 h' n' hn _ => hc a b nt n0 h' n' hn
theorem CmpA.nt {cx : Cx} {n f p q : Nat} {G F : Nat → SV} {cI : Int × Int → Int × Int → Int} (hc : CmpA cx n f p q G F cI) (t m : Nat) : CmpA ⟨cx.w0, cx.W, t, m⟩ n f p q G F cI := fun a b nt n0 h' n' hn => hc a b nt n0 h' n' hn
theorem CmpA.up {cx : Cx} {n f p q : Nat} {G F : Nat → SV} {cI : Int × Int → Int × Int → Int} (hc : CmpA cx n f p q G F cI) {m : Nat} (hm : n ≤ m) : CmpA cx m f p q G F cI := fun a b nt n0 h' n' hn => hc a b nt n0 h' n' (by omega)
section
variable (cx : Cx) (h : List (Nat × Seg)) (n : Nat)
set_option maxRecDepth 100000 in
theorem order2_E (i cap : Nat) (d : Array (Int × Int)) (own : Option (Nat × Nat)) (f p q : Nat) (G F : Nat → SV) (cI : Int × Int → Int × Int → Int) (lt : Int × Int → Int × Int → Bool) (hlt : ∀ x y, decide (cI x y < 0) = lt x y)
    (hs : hget h i = some ⟨d.size * 2, spotsC d.toList, true, own⟩) (hi0 : i < n) (hm9 : d.size ≤ 1000000000) (hF : (SV.fn f p G q F).lt n) (hcmp : CmpA cx n f p q G F cI) (sp a b s : Nat) (hsp : hget h sp = some ⟨1, cl [.int .i64 (s : Int)], true, none⟩) (hspn : sp < n) (hne : i ≠ sp) (ha : a < d.size) (hb : b < d.size) (hs9 : s ≤ 1000) (K : HK)
    (hK : K (.tup 2 (cl [.int .i64 ((order2 lt d a b s).1 : Nat), .int .i64 ((order2 lt d a b s).2.1 : Nat)])) (hset h sp ⟨1, cl [.int .i64 (((order2 lt d a b s).2.2 : Nat) : Int)], true, none⟩) n) :
    CallE Try.prog cx 82 [.sl i 0 d.size cap, .int .i64 a, .int .i64 b, .ptr sp 0, .fn f p G q F] h n K := by
  refine CallE.to _ _ (by simp only [go_sem]) (fun hok => hok_set hok fun k hk => cl_flat (l := [_]) (by simp [SV.flat]) hk) hK ?_
  refine callE_of_T (P := Try.prog) hti (nt := 32) (rs := [.tmp 10, .tmp 11]) rfl rfl Try.call82 Try.func82 rfl _ (by simp only [go_sem, and_self]) (Nat.le_of_ble_eq_true rfl) _ fun hok => ?_
  simp only [go_sem, Nat.reduceLT]
  refine T_draw hti _ _ (by kernel_rfl) (by kernel_rfl) ?_
  simp only [go_sem, Nat.reduceLT, hs, hi0, ix_r ha, ix_r hb, ix_b ha, ix_b hb, ix_c ha, ix_c hb, spotsC_x, spotsC_y]
  refine (hcmp (d.toList.getD b (0, 0)) (d.toList.getD a (0, 0)) _ _ _ _ (Nat.le_refl n)).A ?_
  have hl := hlt (d.toList.getD b (0, 0)) (d.toList.getD a (0, 0))
  by_cases hc : cI (d.toList.getD b (0, 0)) (d.toList.getD a (0, 0)) < 0
  · have e : order2 lt d a b s = (b, a, s + 1) := by unfold order2; rw [bangL, bangL, ← hl, decide_eq_true hc]; rfl
    rw [e]
    simp only [go_sem, Nat.reduceLT, reduceIte, hc, hsp, hspn, w64N (a := (s : Int) + 1) (k := s + 1) (by omega) (by omega)]
  · have e : order2 lt d a b s = (a, b, s) := by unfold order2; rw [bangL, bangL, ← hl, decide_eq_false hc]; rfl
    rw [e]
    simp only [go_sem, Nat.reduceLT, hc, hset_self hsp]
set_option maxRecDepth 100000 in
theorem median_E (i cap : Nat) (d : Array (Int × Int)) (own : Option (Nat × Nat)) (f p q : Nat) (G F : Nat → SV) (cI : Int × Int → Int × Int → Int) (lt : Int × Int → Int × Int → Bool) (hlt : ∀ x y, decide (cI x y < 0) = lt x y)
    (hs : hget h i = some ⟨d.size * 2, spotsC d.toList, true, own⟩) (hi0 : i < n) (hm9 : d.size ≤ 1000000000) (hF : (SV.fn f p G q F).lt n) (hcmp : CmpA cx n f p q G F cI) (sp a b c s : Nat) (hsp : hget h sp = some ⟨1, cl [.int .i64 (s : Int)], true, none⟩) (hspn : sp < n) (hne : i ≠ sp) (ha : a < d.size) (hb : b < d.size) (hc : c < d.size) (hs9 : s ≤ 900) (K : HK)
    (hK : K (.int .i64 ((median lt d a b c s).1 : Nat)) (hset h sp ⟨1, cl [.int .i64 (((median lt d a b c s).2 : Nat) : Int)], true, none⟩) n) :
    CallE Try.prog cx 81 [.sl i 0 d.size cap, .int .i64 a, .int .i64 b, .int .i64 c, .ptr sp 0, .fn f p G q F] h n K := by
  refine CallE.to _ _ (by simp only [go_sem]) (fun hok => hok_set hok fun k hk => cl_flat (l := [_]) (by simp [SV.flat]) hk) hK ?_
  have hgi : ∀ t, hget (hset h sp t) sp = some t := hget_hset_self hsp
  have hgd : ∀ t, hget (hset h sp t) i = some ⟨d.size * 2, spotsC d.toList, true, own⟩ := fun t => by rw [hget_hset, if_neg (Ne.symm hne)]; exact hs
  have m1 := order2_mem lt d a b s
  have c1 := order2_count (lt := lt) d a b s
  obtain ⟨⟨x1, y1, s1⟩, e1⟩ : ∃ r, order2 lt d a b s = r := ⟨_, rfl⟩
  have m2 := order2_mem lt d y1 c s1
  have c2 := order2_count (lt := lt) d y1 c s1
  obtain ⟨⟨x2, y2, s2⟩, e2⟩ : ∃ r, order2 lt d y1 c s1 = r := ⟨_, rfl⟩
  have m3 := order2_mem lt d x1 x2 s2
  obtain ⟨⟨x3, y3, s3⟩, e3⟩ : ∃ r, order2 lt d x1 x2 s2 = r := ⟨_, rfl⟩
  rw [e1] at m1 c1
  rw [e2] at m2 c2
  rw [e3] at m3
  simp only at m1 c1 m2 c2 m3
  have em : median lt d a b c s = (y3, s3) := by unfold median; simp only [e1, e2, e3]
  rw [em]
  refine callE_of_T (P := Try.prog) hti (nt := 41) (rs := [.tmp 12]) rfl rfl Try.call81 Try.func81 rfl _ (by simp only [go_sem, and_self]) (Nat.le_of_ble_eq_true rfl) _ fun hok => ?_
  simp only [go_sem, Nat.reduceLT]
  refine callA_false (order2_E _ _ _ i cap d own f p q G F cI lt hlt hs hi0 hm9 hF (hcmp.nt _ _) sp a b s hsp hspn hne ha hb (by omega) _ ?_)
  rw [e1]
  simp only [go_sem, Nat.reduceLT]
  refine callA_false (order2_E _ _ _ i cap d own f p q G F cI lt hlt (hgd _) hi0 hm9 hF (hcmp.nt _ _) sp y1 c s1 (hgi _) hspn hne (by omega) hc (by omega) _ ?_)
  rw [e2]
  simp only [go_sem, Nat.reduceLT, hset_hset]
  refine callA_false (order2_E _ _ _ i cap d own f p q G F cI lt hlt (hgd _) hi0 hm9 hF (hcmp.nt _ _) sp x1 x2 s2 (hgi _) hspn hne (by omega) (by omega) (by omega) _ ?_)
  rw [e3]
  simp only [go_sem, Nat.reduceLT, hset_hset]
theorem medAdj_E (i cap : Nat) (d : Array (Int × Int)) (own : Option (Nat × Nat)) (f p q : Nat) (G F : Nat → SV) (cI : Int × Int → Int × Int → Int) (lt : Int × Int → Int × Int → Bool) (hlt : ∀ x y, decide (cI x y < 0) = lt x y)
    (hs : hget h i = some ⟨d.size * 2, spotsC d.toList, true, own⟩) (hi0 : i < n) (hm9 : d.size ≤ 1000000000) (hF : (SV.fn f p G q F).lt n) (hcmp : CmpA cx n f p q G F cI) (sp a s : Nat) (hsp : hget h sp = some ⟨1, cl [.int .i64 (s : Int)], true, none⟩) (hspn : sp < n) (hne : i ≠ sp) (ha : 1 ≤ a) (ha1 : a + 1 < d.size) (hs9 : s ≤ 900) (K : HK)
    (hK : K (.int .i64 ((medianAdjacent lt d a s).1 : Nat)) (hset h sp ⟨1, cl [.int .i64 (((medianAdjacent lt d a s).2 : Nat) : Int)], true, none⟩) n) :
    CallE Try.prog cx 80 [.sl i 0 d.size cap, .int .i64 a, .ptr sp 0, .fn f p G q F] h n K := by
  refine CallE.to _ _ (by simp only [go_sem]) (fun hok => hok_set hok fun k hk => cl_flat (l := [_]) (by simp [SV.flat]) hk) hK ?_
  refine callE_of_T (P := Try.prog) hti (nt := 18) (rs := [.tmp 8]) rfl rfl Try.call80 Try.func80 rfl _ (by simp only [go_sem, and_self]) (Nat.le_of_ble_eq_true rfl) _ fun hok => ?_
  simp only [go_sem, Nat.reduceLT, w64N (a := (a : Int) + 1) (k := a + 1) (by omega) (by omega), w64N (a := (a : Int) - 1) (k := a - 1) (by omega) (by omega)]
  refine callA_false (median_E _ _ _ i cap d own f p q G F cI lt hlt hs hi0 hm9 hF (hcmp.nt _ _) sp (a - 1) a (a + 1) s hsp hspn hne (by omega) (by omega) (by omega) (by omega) _ ?_)
  simp only [go_sem, Nat.reduceLT]
  exact ⟨rfl, HExt.rfl⟩
set_option maxRecDepth 100000 in
set_option maxHeartbeats 1600000 in
theorem choosePivot_E (i cap : Nat) (d : Array (Int × Int)) (own : Option (Nat × Nat)) (f p q : Nat) (G F : Nat → SV) (cI : Int × Int → Int × Int → Int) (lt : Int × Int → Int × Int → Bool) (hlt : ∀ x y, decide (cI x y < 0) = lt x y)
    (hs : hget h i = some ⟨d.size * 2, spotsC d.toList, true, own⟩) (hi0 : i < n) (hm9 : d.size ≤ 1000000000) (hF : (SV.fn f p G q F).lt n) (hcmp : CmpA cx n f p q G F cI) (a b : Nat) (hab : a < b) (hb : b ≤ d.size) (K : HK)
    (hK : K (.tup 2 (cl [.int .i64 ((choosePivot lt d a b).1 : Nat), .int .i64 (hintCode (choosePivot lt d a b).2)])) h n) :
    CallE Try.prog cx 69 [.sl i 0 d.size cap, .int .i64 a, .int .i64 b, .fn f p G q F] h n K := by
  refine CallE.to _ _ (by simp only [go_sem]) (fun hok => hok) hK ?_
  rw [choosePivot_eq]
  obtain ⟨Q, hQ⟩ : ∃ Q, (b - a) / 4 = Q := ⟨_, rfl⟩
  have hQ1 : 4 * Q ≤ b - a ∧ b - a < 4 * Q + 4 := by omega
  have W0 := w64N (a := (b : Int) - (a : Int)) (k := b - a) (by omega) (by omega)
  have W1 : IntKind.i64.wrap (((b - a : Nat) : Int).tdiv 4) = (Q : Int) := by rw [Int.tdiv_eq_ediv_of_nonneg (by omega)]; exact w64N (by omega) (by omega)
  have W21 := w64N (a := (Q : Int) * 1) (k := Q) (by omega) (by omega)
  have W22 := w64N (a := (Q : Int) * 2) (k := Q * 2) (by omega) (by omega)
  have W23 := w64N (a := (Q : Int) * 3) (k := Q * 3) (by omega) (by omega)
  have W31 := w64N (a := (a : Int) + (Q : Int)) (k := a + Q) (by omega) (by omega)
  have W32 := w64N (a := (a : Int) + ((Q * 2 : Nat) : Int)) (k := a + Q * 2) (by omega) (by omega)
  have W33 := w64N (a := (a : Int) + ((Q * 3 : Nat) : Int)) (k := a + Q * 3) (by omega) (by omega)
  have fin : ∀ s : Nat, hintOf s = (if s = 0 then .increasing else if s = 12 then .decreasing else .unknown) := fun s => rfl
  refine callE_of_T (P := Try.prog) hti (nt := 63) (rs := [.tmp 8, .tmp 9]) rfl rfl Try.call69 Try.func69 rfl _ (by simp only [go_sem, and_self]) (Nat.le_of_ble_eq_true rfl) _ fun hok => ?_
  have hweak : impH ((n, ⟨1, (ti 3).z, true, none⟩) :: h) (sig []) (n + 1) ((n, ⟨1, cl [.int .i64 ((0 : Nat) : Int)], true, none⟩) :: h) := impH.cons0 (hget_hit _ _ _) (by omega) (SegLe.flat (Nat.le_refl _) id (.inr rfl) fun k hk => ⟨by have hk : k < 1 := hk; obtain rfl : k = 0 := (by omega); rfl, cl_flat (l := [_]) (by simp [SV.flat]) hk⟩) (impH.base0 hok (by omega) (by simp only [go_sem, HExt_cons]))
  by_cases h8 : b - a ≥ 8
  rotate_left
  · have er : rawPivot lt d a b = (a + Q * 2, 0) := by unfold rawPivot; rw [if_neg h8, hQ]
    rw [er]
    simp only [go_sem, Nat.reduceLT, Nat.reduceEqDiff, reduceIte, Int.reduceEq, W0, W1, W21, W22, W23, W31, W32, W33, show ((8 : Int) ≤ ((b - a : Nat) : Int)) = False from eq_false (by omega)]
    first | rfl | exact ⟨rfl, by simp only [go_sem, Nat.reduceBEq, Nat.reduceLT, Nat.reduceLeDiff, Nat.reduceAdd, Nat.reduceMul, Nat.reduceSub, Nat.reduceMod, Nat.reduceDiv, Nat.reduceEqDiff, Int.reduceToNat, reduceIte, reduceCtorEq, Int.reduceLE, Int.reduceLT, Int.reduceEq, Int.reduceNeg, Int.reduceAdd, Int.reduceSub, Int.reduceMul, HExt_cons]⟩
  have e8 : ((8 : Int) ≤ ((b - a : Nat) : Int)) = True := eq_true (by omega)
  by_cases h50 : b - a ≥ 50
  · have e50 : ((50 : Int) ≤ ((b - a : Nat) : Int)) = True := eq_true (by omega)
    have bd : ∀ z s : Nat, (medianAdjacent lt d z s).1 ≤ z + 1 ∧ (medianAdjacent lt d z s).2 ≤ s + 3 := fun z s => by
      have k1 := medianAdjacent_mem lt d z s
      exact ⟨by omega, medianAdjacent_count (lt := lt) d z s⟩
    have k1 := bd (a + Q) 0
    obtain ⟨⟨x1, s1⟩, e1⟩ : ∃ r, medianAdjacent lt d (a + Q) 0 = r := ⟨_, rfl⟩
    have k2 := bd (a + Q * 2) s1
    obtain ⟨⟨x2, s2⟩, e2⟩ : ∃ r, medianAdjacent lt d (a + Q * 2) s1 = r := ⟨_, rfl⟩
    have k3 := bd (a + Q * 3) s2
    obtain ⟨⟨x3, s3⟩, e3⟩ : ∃ r, medianAdjacent lt d (a + Q * 3) s2 = r := ⟨_, rfl⟩
    rw [e1] at k1
    rw [e2] at k2
    rw [e3] at k3
    simp only at k1 k2 k3
    have er : rawPivot lt d a b = median lt d x1 x2 x3 s3 := by unfold rawPivot; rw [if_pos h8, if_pos h50, hQ, Nat.mul_one]; simp only [e1, e2, e3]
    rw [er]
    simp only [go_sem, Nat.reduceLT, Nat.reduceEqDiff, reduceIte, Int.reduceEq, W0, W1, W21, W22, W23, W31, W32, W33, e8, e50]
    refine callA_false (CallE.weak hweak (medAdj_E _ _ _ i cap d own f p q G F cI lt hlt (by first | (simp only [go_sem, hs, hi0]; done) | (simp only [go_sem, Nat.reduceBEq, Nat.reduceLT, Nat.reduceLeDiff, Nat.reduceAdd, Nat.reduceMul, Nat.reduceSub, Nat.reduceMod, Nat.reduceDiv, Nat.reduceEqDiff, Int.reduceToNat, reduceIte, reduceCtorEq, Int.reduceLE, Int.reduceLT, Int.reduceEq, Int.reduceNeg, Int.reduceAdd, Int.reduceSub, Int.reduceMul, hs, hi0]; rfl)) (by omega) hm9 (SV.lt_mono (by omega) _ hF) ((hcmp.nt _ _).up (by omega)) n (a + Q) 0 (hget_hit _ _ _) (by omega) (by omega) (by omega) (by omega) (by omega) _ ?_))
    rw [e1]
    simp only [go_sem, Nat.reduceLT]
    refine callA_false (medAdj_E _ _ _ i cap d own f p q G F cI lt hlt (by first | (simp only [go_sem, hs, hi0]; done) | (simp only [go_sem, Nat.reduceBEq, Nat.reduceLT, Nat.reduceLeDiff, Nat.reduceAdd, Nat.reduceMul, Nat.reduceSub, Nat.reduceMod, Nat.reduceDiv, Nat.reduceEqDiff, Int.reduceToNat, reduceIte, reduceCtorEq, Int.reduceLE, Int.reduceLT, Int.reduceEq, Int.reduceNeg, Int.reduceAdd, Int.reduceSub, Int.reduceMul, hs, hi0]; rfl)) (by omega) hm9 (SV.lt_mono (by omega) _ hF) ((hcmp.nt _ _).up (by omega)) n (a + Q * 2) s1 (by first | (simp only [go_sem]; done) | (simp only [go_sem, Nat.reduceBEq, Nat.reduceLT, Nat.reduceLeDiff, Nat.reduceAdd, Nat.reduceMul, Nat.reduceSub, Nat.reduceMod, Nat.reduceDiv, Nat.reduceEqDiff, Int.reduceToNat, reduceIte, reduceCtorEq, Int.reduceLE, Int.reduceLT, Int.reduceEq, Int.reduceNeg, Int.reduceAdd, Int.reduceSub, Int.reduceMul]; rfl)) (by omega) (by omega) (by omega) (by omega) (by omega) _ ?_)
    rw [e2]
    simp only [go_sem, Nat.reduceLT]
    refine callA_false (medAdj_E _ _ _ i cap d own f p q G F cI lt hlt (by first | (simp only [go_sem, hs, hi0]; done) | (simp only [go_sem, Nat.reduceBEq, Nat.reduceLT, Nat.reduceLeDiff, Nat.reduceAdd, Nat.reduceMul, Nat.reduceSub, Nat.reduceMod, Nat.reduceDiv, Nat.reduceEqDiff, Int.reduceToNat, reduceIte, reduceCtorEq, Int.reduceLE, Int.reduceLT, Int.reduceEq, Int.reduceNeg, Int.reduceAdd, Int.reduceSub, Int.reduceMul, hs, hi0]; rfl)) (by omega) hm9 (SV.lt_mono (by omega) _ hF) ((hcmp.nt _ _).up (by omega)) n (a + Q * 3) s2 (by first | (simp only [go_sem]; done) | (simp only [go_sem, Nat.reduceBEq, Nat.reduceLT, Nat.reduceLeDiff, Nat.reduceAdd, Nat.reduceMul, Nat.reduceSub, Nat.reduceMod, Nat.reduceDiv, Nat.reduceEqDiff, Int.reduceToNat, reduceIte, reduceCtorEq, Int.reduceLE, Int.reduceLT, Int.reduceEq, Int.reduceNeg, Int.reduceAdd, Int.reduceSub, Int.reduceMul]; rfl)) (by omega) (by omega) (by omega) (by omega) (by omega) _ ?_)
    rw [e3]
    simp only [go_sem, Nat.reduceLT]
    refine callA_false (median_E _ _ _ i cap d own f p q G F cI lt hlt (by first | (simp only [go_sem, hs, hi0]; done) | (simp only [go_sem, Nat.reduceBEq, Nat.reduceLT, Nat.reduceLeDiff, Nat.reduceAdd, Nat.reduceMul, Nat.reduceSub, Nat.reduceMod, Nat.reduceDiv, Nat.reduceEqDiff, Int.reduceToNat, reduceIte, reduceCtorEq, Int.reduceLE, Int.reduceLT, Int.reduceEq, Int.reduceNeg, Int.reduceAdd, Int.reduceSub, Int.reduceMul, hs, hi0]; rfl)) (by omega) hm9 (SV.lt_mono (by omega) _ hF) ((hcmp.nt _ _).up (by omega)) n x1 x2 x3 s3 (by first | (simp only [go_sem]; done) | (simp only [go_sem, Nat.reduceBEq, Nat.reduceLT, Nat.reduceLeDiff, Nat.reduceAdd, Nat.reduceMul, Nat.reduceSub, Nat.reduceMod, Nat.reduceDiv, Nat.reduceEqDiff, Int.reduceToNat, reduceIte, reduceCtorEq, Int.reduceLE, Int.reduceLT, Int.reduceEq, Int.reduceNeg, Int.reduceAdd, Int.reduceSub, Int.reduceMul]; rfl)) (by omega) (by omega) (by omega) (by omega) (by omega) (by omega) _ ?_)
    generalize median lt d x1 x2 x3 s3 = R
    by_cases r0 : R.2 = 0
    · simp only [go_sem, Nat.reduceLT, r0, Int.natCast_zero]
      first | (rw [fin]; done) | (rw [fin]; rfl) | exact ⟨by rw [fin]; rfl, by simp only [go_sem, Nat.reduceBEq, Nat.reduceLT, Nat.reduceLeDiff, Nat.reduceAdd, Nat.reduceMul, Nat.reduceSub, Nat.reduceMod, Nat.reduceDiv, Nat.reduceEqDiff, Int.reduceToNat, reduceIte, reduceCtorEq, Int.reduceLE, Int.reduceLT, Int.reduceEq, Int.reduceNeg, Int.reduceAdd, Int.reduceSub, Int.reduceMul, HExt_cons]⟩
    · by_cases r12 : R.2 = 12
      · simp only [go_sem, Nat.reduceLT, Int.reduceEq, r12, show (((12 : Nat) : Int) = 0) = False from eq_false (by omega), show (((12 : Nat) : Int) = 12) = True from eq_true rfl]
        first | (rw [fin]; done) | (rw [fin]; rfl) | exact ⟨by rw [fin]; rfl, by simp only [go_sem, Nat.reduceBEq, Nat.reduceLT, Nat.reduceLeDiff, Nat.reduceAdd, Nat.reduceMul, Nat.reduceSub, Nat.reduceMod, Nat.reduceDiv, Nat.reduceEqDiff, Int.reduceToNat, reduceIte, reduceCtorEq, Int.reduceLE, Int.reduceLT, Int.reduceEq, Int.reduceNeg, Int.reduceAdd, Int.reduceSub, Int.reduceMul, HExt_cons]⟩
      · simp only [go_sem, Nat.reduceLT, show ((R.2 : Int) = 0) = False from eq_false (by omega), show ((R.2 : Int) = 12) = False from eq_false (by omega)]
        first | (rw [fin, if_neg r0, if_neg r12]; done) | (rw [fin, if_neg r0, if_neg r12]; rfl) | exact ⟨by rw [fin, if_neg r0, if_neg r12]; rfl, by simp only [go_sem, Nat.reduceBEq, Nat.reduceLT, Nat.reduceLeDiff, Nat.reduceAdd, Nat.reduceMul, Nat.reduceSub, Nat.reduceMod, Nat.reduceDiv, Nat.reduceEqDiff, Int.reduceToNat, reduceIte, reduceCtorEq, Int.reduceLE, Int.reduceLT, Int.reduceEq, Int.reduceNeg, Int.reduceAdd, Int.reduceSub, Int.reduceMul, HExt_cons]⟩
  · have e50 : ((50 : Int) ≤ ((b - a : Nat) : Int)) = False := eq_false (by omega)
    have er : rawPivot lt d a b = median lt d (a + Q) (a + Q * 2) (a + Q * 3) 0 := by unfold rawPivot; rw [if_pos h8, if_neg h50, hQ, Nat.mul_one]
    rw [er]
    simp only [go_sem, Nat.reduceLT, Nat.reduceEqDiff, reduceIte, Int.reduceEq, W0, W1, W21, W22, W23, W31, W32, W33, e8, e50]
    refine callA_false (CallE.weak hweak (median_E _ _ _ i cap d own f p q G F cI lt hlt (by first | (simp only [go_sem, hs, hi0]; done) | (simp only [go_sem, Nat.reduceBEq, Nat.reduceLT, Nat.reduceLeDiff, Nat.reduceAdd, Nat.reduceMul, Nat.reduceSub, Nat.reduceMod, Nat.reduceDiv, Nat.reduceEqDiff, Int.reduceToNat, reduceIte, reduceCtorEq, Int.reduceLE, Int.reduceLT, Int.reduceEq, Int.reduceNeg, Int.reduceAdd, Int.reduceSub, Int.reduceMul, hs, hi0]; rfl)) (by omega) hm9 (SV.lt_mono (by omega) _ hF) ((hcmp.nt _ _).up (by omega)) n (a + Q) (a + Q * 2) (a + Q * 3) 0 (hget_hit _ _ _) (by omega) (by omega) (by omega) (by omega) (by omega) (by omega) _ ?_))
    generalize median lt d (a + Q) (a + Q * 2) (a + Q * 3) 0 = R
    by_cases r0 : R.2 = 0
    · simp only [go_sem, Nat.reduceLT, r0, Int.natCast_zero]
      first | (rw [fin]; done) | (rw [fin]; rfl) | exact ⟨by rw [fin]; rfl, by simp only [go_sem, Nat.reduceBEq, Nat.reduceLT, Nat.reduceLeDiff, Nat.reduceAdd, Nat.reduceMul, Nat.reduceSub, Nat.reduceMod, Nat.reduceDiv, Nat.reduceEqDiff, Int.reduceToNat, reduceIte, reduceCtorEq, Int.reduceLE, Int.reduceLT, Int.reduceEq, Int.reduceNeg, Int.reduceAdd, Int.reduceSub, Int.reduceMul, HExt_cons]⟩
    · by_cases r12 : R.2 = 12
      · simp only [go_sem, Nat.reduceLT, Int.reduceEq, r12, show (((12 : Nat) : Int) = 0) = False from eq_false (by omega), show (((12 : Nat) : Int) = 12) = True from eq_true rfl]
        first | (rw [fin]; done) | (rw [fin]; rfl) | exact ⟨by rw [fin]; rfl, by simp only [go_sem, Nat.reduceBEq, Nat.reduceLT, Nat.reduceLeDiff, Nat.reduceAdd, Nat.reduceMul, Nat.reduceSub, Nat.reduceMod, Nat.reduceDiv, Nat.reduceEqDiff, Int.reduceToNat, reduceIte, reduceCtorEq, Int.reduceLE, Int.reduceLT, Int.reduceEq, Int.reduceNeg, Int.reduceAdd, Int.reduceSub, Int.reduceMul, HExt_cons]⟩
      · simp only [go_sem, Nat.reduceLT, show ((R.2 : Int) = 0) = False from eq_false (by omega), show ((R.2 : Int) = 12) = False from eq_false (by omega)]
        first | (rw [fin, if_neg r0, if_neg r12]; done) | (rw [fin, if_neg r0, if_neg r12]; rfl) | exact ⟨by rw [fin, if_neg r0, if_neg r12]; rfl, by simp only [go_sem, Nat.reduceBEq, Nat.reduceLT, Nat.reduceLeDiff, Nat.reduceAdd, Nat.reduceMul, Nat.reduceSub, Nat.reduceMod, Nat.reduceDiv, Nat.reduceEqDiff, Int.reduceToNat, reduceIte, reduceCtorEq, Int.reduceLE, Int.reduceLT, Int.reduceEq, Int.reduceNeg, Int.reduceAdd, Int.reduceSub, Int.reduceMul, HExt_cons]⟩
end
end Go.Proofs.Ytddnnodkkdjniaa.V

/- Lengths of numbers in bits, exactly; patterns broken among spots. -/
namespace Go.Proofs.Ytddnnodkkdjniaa.V
open Go.Sort (bitsLen bitsLen_le_iff xorNext xorNextN xorNext_toNat xorNextN_lt breakPatterns breakStep swp)
theorem shr_nat (m k : Nat) (hk : k ≤ 63) : shrI .u64 (m : Int) (k : Int) = ((m / 2 ^ k : Nat) : Int) := by
  unfold shrI
  have e : min ((k : Int)).toNat IntKind.u64.bits = k := by rw [Int.toNat_natCast]; simp [IntKind.bits]; omega
  rw [e, show (2 : Int) ^ k = ((2 ^ k : Nat) : Int) from (Int.natCast_pow 2 k).symm]
  exact (Int.ofNat_fdiv m (2 ^ k)).symm
theorem bitsLen_shift {m k : Nat} (h : 0 < m / 2 ^ k) : bitsLen m = k + bitsLen (m / 2 ^ k) := by
  have hk : 2 ^ k ≤ m := by
    rcases Nat.lt_or_ge m (2 ^ k) with h' | h'
    · rw [Nat.div_eq_of_lt h'] at h; omega
    · exact h'
  have key : ∀ j, bitsLen m ≤ j ↔ k + bitsLen (m / 2 ^ k) ≤ j := fun j => by
    rw [bitsLen_le_iff]
    constructor
    · intro hm
      rcases Nat.lt_or_ge j k with hj | hj
      · have := Nat.pow_le_pow_right (n := 2) (by omega) (Nat.le_of_lt hj)
        omega
      · obtain ⟨i, rfl⟩ : ∃ i, j = k + i := ⟨j - k, by omega⟩
        have := (bitsLen_le_iff (m / 2 ^ k) i).2 ((Nat.div_lt_iff_lt_mul (Nat.two_pow_pos k)).2 (by rw [← Nat.pow_add, Nat.add_comm]; exact hm))
        omega
    · intro hj
      obtain ⟨i, rfl⟩ : ∃ i, j = k + i := ⟨j - k, by omega⟩
      have := (Nat.div_lt_iff_lt_mul (Nat.two_pow_pos k)).1 ((bitsLen_le_iff (m / 2 ^ k) i).1 (by omega))
      rw [← Nat.pow_add, Nat.add_comm] at this
      exact this
  have a := (key (bitsLen m)).1 (Nat.le_refl _)
  have b := (key (k + bitsLen (m / 2 ^ k))).2 (Nat.le_refl _)
  omega
theorem lenFin {tab : ByteArray} (hT : ∀ z : Nat, z < 256 → bt tab (z : Int) = ((bitsLen z : Nat) : Int)) {m : Nat} (k z : Nat) (hk : k ≤ 56) (hz : z = m / 2 ^ k) (hz8 : z < 256) (h0 : k = 0 ∨ 0 < z) :
    IntKind.i64.wrap ((k : Int) + IntKind.i64.wrap (bt tab (IntKind.u8.wrap (z : Int)))) = ((bitsLen m : Nat) : Int) := by
  have hb : bitsLen z ≤ 8 := (bitsLen_le_iff z 8).2 (by omega)
  rw [wrap_u8 (z : Int) (by omega) (by omega), hT z hz8, w64 (n := ((bitsLen z : Nat) : Int)) (by omega), w64 (by omega)]
  rcases h0 with rfl | h0
  · rw [hz, Nat.pow_zero, Nat.div_one]; omega
  · rw [hz] at h0
    rw [bitsLen_shift h0, ← hz]; omega
section
variable (cx : Cx) (h : List (Nat × Seg)) (n : Nat)
set_option maxRecDepth 100000 in
theorem len64x_E (m : Nat) (hm : m < 18446744073709551616) (K : HK) (hK : K (.int .i64 ((bitsLen m : Nat) : Int)) h n) : CallE Try.prog cx 75 [.int .u64 m] h n K := by
  have S32 : ∀ x : Nat, shrI .u64 (x : Int) 32 = ((x / 2 ^ 32 : Nat) : Int) := fun x => shr_nat x 32 (by omega)
  have S16 : ∀ x : Nat, shrI .u64 (x : Int) 16 = ((x / 2 ^ 16 : Nat) : Int) := fun x => shr_nat x 16 (by omega)
  have S8 : ∀ x : Nat, shrI .u64 (x : Int) 8 = ((x / 2 ^ 8 : Nat) : Int) := fun x => shr_nat x 8 (by omega)
  by_cases h1 : 4294967296 ≤ m
  · by_cases h2 : 65536 ≤ m / 2 ^ 32
    · by_cases h3 : 256 ≤ m / 2 ^ 32 / 2 ^ 16
      · refine callE_of_T (P := Try.prog) hti (nt := 25) (rs := [.tmp 2]) rfl rfl Try.call75 Try.func75 rfl _ (by simp only [go_sem, and_self]) (Nat.le_of_ble_eq_true rfl) _ fun hok => ?_
        simp only [go_sem, Nat.reduceLT, Int.reduceLE, Int.reduceLT, Int.reduceNeg, Int.reduceAdd, S32, S16, S8, show ((4294967296 : Int) ≤ ((m : Nat) : Int)) = True from eq_true (by omega), show ((65536 : Int) ≤ (((m / 2 ^ 32) : Nat) : Int)) = True from eq_true (by omega), show ((256 : Int) ≤ ((((m / 2 ^ 32) / 2 ^ 16) : Nat) : Int)) = True from eq_true (by omega)]
        refine ⟨(u8_in _).2, ?_⟩
        rw [show (56 : Int) = ((56 : Nat) : Int) from rfl, lenFin (m := m) (by decide +kernel) 56 (((m / 2 ^ 32) / 2 ^ 16) / 2 ^ 8) (by omega) (by simp only [Nat.div_div_eq_div_mul, ← Nat.pow_add]) (by omega) (by omega)]
        exact hK
      · refine callE_of_T (P := Try.prog) hti (nt := 25) (rs := [.tmp 2]) rfl rfl Try.call75 Try.func75 rfl _ (by simp only [go_sem, and_self]) (Nat.le_of_ble_eq_true rfl) _ fun hok => ?_
        simp only [go_sem, Nat.reduceLT, Int.reduceLE, Int.reduceLT, Int.reduceNeg, Int.reduceAdd, S32, S16, S8, show ((4294967296 : Int) ≤ ((m : Nat) : Int)) = True from eq_true (by omega), show ((65536 : Int) ≤ (((m / 2 ^ 32) : Nat) : Int)) = True from eq_true (by omega), show ((256 : Int) ≤ ((((m / 2 ^ 32) / 2 ^ 16) : Nat) : Int)) = False from eq_false (by omega)]
        refine ⟨(u8_in _).2, ?_⟩
        rw [show (48 : Int) = ((48 : Nat) : Int) from rfl, lenFin (m := m) (by decide +kernel) 48 ((m / 2 ^ 32) / 2 ^ 16) (by omega) (by simp only [Nat.div_div_eq_div_mul, ← Nat.pow_add]) (by omega) (by omega)]
        exact hK
    · by_cases h3 : 256 ≤ m / 2 ^ 32
      · refine callE_of_T (P := Try.prog) hti (nt := 25) (rs := [.tmp 2]) rfl rfl Try.call75 Try.func75 rfl _ (by simp only [go_sem, and_self]) (Nat.le_of_ble_eq_true rfl) _ fun hok => ?_
        simp only [go_sem, Nat.reduceLT, Int.reduceLE, Int.reduceLT, Int.reduceNeg, Int.reduceAdd, S32, S16, S8, show ((4294967296 : Int) ≤ ((m : Nat) : Int)) = True from eq_true (by omega), show ((65536 : Int) ≤ (((m / 2 ^ 32) : Nat) : Int)) = False from eq_false (by omega), show ((256 : Int) ≤ (((m / 2 ^ 32) : Nat) : Int)) = True from eq_true (by omega)]
        refine ⟨(u8_in _).2, ?_⟩
        rw [show (40 : Int) = ((40 : Nat) : Int) from rfl, lenFin (m := m) (by decide +kernel) 40 ((m / 2 ^ 32) / 2 ^ 8) (by omega) (by simp only [Nat.div_div_eq_div_mul, ← Nat.pow_add]) (by omega) (by omega)]
        exact hK
      · refine callE_of_T (P := Try.prog) hti (nt := 25) (rs := [.tmp 2]) rfl rfl Try.call75 Try.func75 rfl _ (by simp only [go_sem, and_self]) (Nat.le_of_ble_eq_true rfl) _ fun hok => ?_
        simp only [go_sem, Nat.reduceLT, Int.reduceLE, S32, S16, S8, show ((4294967296 : Int) ≤ ((m : Nat) : Int)) = True from eq_true (by omega), show ((65536 : Int) ≤ (((m / 2 ^ 32) : Nat) : Int)) = False from eq_false (by omega), show ((256 : Int) ≤ (((m / 2 ^ 32) : Nat) : Int)) = False from eq_false (by omega)]
        refine ⟨(u8_in _).2, ?_⟩
        rw [show (32 : Int) = ((32 : Nat) : Int) from rfl, lenFin (m := m) (by decide +kernel) 32 (m / 2 ^ 32) (by omega) (rfl) (by omega) (by omega)]
        exact hK
  · by_cases h2 : 65536 ≤ m
    · by_cases h3 : 256 ≤ m / 2 ^ 16
      · refine callE_of_T (P := Try.prog) hti (nt := 25) (rs := [.tmp 2]) rfl rfl Try.call75 Try.func75 rfl _ (by simp only [go_sem, and_self]) (Nat.le_of_ble_eq_true rfl) _ fun hok => ?_
        simp only [go_sem, Nat.reduceLT, Int.reduceLE, Int.reduceLT, Int.reduceNeg, Int.reduceAdd, S32, S16, S8, show ((4294967296 : Int) ≤ ((m : Nat) : Int)) = False from eq_false (by omega), show ((65536 : Int) ≤ ((m : Nat) : Int)) = True from eq_true (by omega), show ((256 : Int) ≤ (((m / 2 ^ 16) : Nat) : Int)) = True from eq_true (by omega)]
        refine ⟨(u8_in _).2, ?_⟩
        rw [show (24 : Int) = ((24 : Nat) : Int) from rfl, lenFin (m := m) (by decide +kernel) 24 ((m / 2 ^ 16) / 2 ^ 8) (by omega) (by simp only [Nat.div_div_eq_div_mul, ← Nat.pow_add]) (by omega) (by omega)]
        exact hK
      · refine callE_of_T (P := Try.prog) hti (nt := 25) (rs := [.tmp 2]) rfl rfl Try.call75 Try.func75 rfl _ (by simp only [go_sem, and_self]) (Nat.le_of_ble_eq_true rfl) _ fun hok => ?_
        simp only [go_sem, Nat.reduceLT, Int.reduceLE, Int.reduceLT, Int.reduceNeg, Int.reduceAdd, S32, S16, S8, show ((4294967296 : Int) ≤ ((m : Nat) : Int)) = False from eq_false (by omega), show ((65536 : Int) ≤ ((m : Nat) : Int)) = True from eq_true (by omega), show ((256 : Int) ≤ (((m / 2 ^ 16) : Nat) : Int)) = False from eq_false (by omega)]
        refine ⟨(u8_in _).2, ?_⟩
        rw [show (16 : Int) = ((16 : Nat) : Int) from rfl, lenFin (m := m) (by decide +kernel) 16 (m / 2 ^ 16) (by omega) (rfl) (by omega) (by omega)]
        exact hK
    · by_cases h3 : 256 ≤ m
      · refine callE_of_T (P := Try.prog) hti (nt := 25) (rs := [.tmp 2]) rfl rfl Try.call75 Try.func75 rfl _ (by simp only [go_sem, and_self]) (Nat.le_of_ble_eq_true rfl) _ fun hok => ?_
        simp only [go_sem, Nat.reduceLT, Int.reduceLE, Int.reduceLT, Int.reduceNeg, Int.reduceAdd, S32, S16, S8, show ((4294967296 : Int) ≤ ((m : Nat) : Int)) = False from eq_false (by omega), show ((65536 : Int) ≤ ((m : Nat) : Int)) = False from eq_false (by omega), show ((256 : Int) ≤ ((m : Nat) : Int)) = True from eq_true (by omega)]
        refine ⟨(u8_in _).2, ?_⟩
        rw [show (8 : Int) = ((8 : Nat) : Int) from rfl, lenFin (m := m) (by decide +kernel) 8 (m / 2 ^ 8) (by omega) (rfl) (by omega) (by omega)]
        exact hK
      · refine callE_of_T (P := Try.prog) hti (nt := 25) (rs := [.tmp 2]) rfl rfl Try.call75 Try.func75 rfl _ (by simp only [go_sem, and_self]) (Nat.le_of_ble_eq_true rfl) _ fun hok => ?_
        simp only [go_sem, Nat.reduceLT, S32, S16, S8, show ((4294967296 : Int) ≤ ((m : Nat) : Int)) = False from eq_false (by omega), show ((65536 : Int) ≤ ((m : Nat) : Int)) = False from eq_false (by omega), show ((256 : Int) ≤ ((m : Nat) : Int)) = False from eq_false (by omega)]
        refine ⟨(u8_in _).2, ?_⟩
        rw [show (0 : Int) = ((0 : Nat) : Int) from rfl, lenFin (m := m) (by decide +kernel) 0 m (by omega) (by rw [Nat.pow_zero, Nat.div_one]) (by omega) (by omega)]
        exact hK
theorem lenx_E (m : Nat) (hm : m < 18446744073709551616) (K : HK) (hK : K (.int .i64 ((bitsLen m : Nat) : Int)) h n) : CallE Try.prog cx 63 [.int .u64 m] h n K := by
  refine callE_of_T (P := Try.prog) hti (nt := 8) (rs := [.tmp 2]) rfl rfl Try.call63 Try.func63 rfl _ (by simp only [go_sem, and_self]) (Nat.le_of_ble_eq_true rfl) _ fun hok => ?_
  simp only [go_sem, Nat.reduceLT]
  refine callA_false (len64x_E _ _ _ m hm _ ?_)
  simp only [go_sem, Nat.reduceLT]
  exact hK
end
end Go.Proofs.Ytddnnodkkdjniaa.V

/- Patterns broken among spots. -/
namespace Go.Proofs.Ytddnnodkkdjniaa.V
open Go.Sort (bitsLen bitsLen_le_iff xorNext xorNextN xorNext_toNat xorNextN_lt breakPatterns breakStep swp two_pow_bitsLen_le)
theorem xor_nat {a b : Nat} (ha : a < 18446744073709551616) (hb : b < 18446744073709551616) : bitsI .xor .u64 (a : Int) (b : Int) = ((a ^^^ b : Nat) : Int) := by
  have hx : a ^^^ b < 2 ^ 64 := Nat.xor_lt_two_pow (by omega) (by omega)
  show IntKind.u64.wrap (((BitVec.ofInt 64 (a : Int) ^^^ BitVec.ofInt 64 (b : Int)).toNat : Nat) : Int) = _
  rw [BitVec.toNat_xor, BitVec.ofInt_natCast, BitVec.ofInt_natCast, BitVec.toNat_ofNat, BitVec.toNat_ofNat, Nat.mod_eq_of_lt (by omega), Nat.mod_eq_of_lt (by omega), IntKind.wrap_u64]
  omega
theorem and_nat {a b : Nat} (ha : a < 18446744073709551616) (hb : b < 18446744073709551616) : bitsI .and .u64 (a : Int) (b : Int) = ((a &&& b : Nat) : Int) := by
  have hx : a &&& b ≤ a := Nat.and_le_left
  show IntKind.u64.wrap (((BitVec.ofInt 64 (a : Int) &&& BitVec.ofInt 64 (b : Int)).toNat : Nat) : Int) = _
  rw [BitVec.toNat_and, BitVec.ofInt_natCast, BitVec.ofInt_natCast, BitVec.toNat_ofNat, BitVec.toNat_ofNat, Nat.mod_eq_of_lt (by omega), Nat.mod_eq_of_lt (by omega), IntKind.wrap_u64]
  omega
theorem shl_nat (x k : Nat) (hk : k ≤ 63) : shlI .u64 (x : Int) (k : Int) = ((x * 2 ^ k % 18446744073709551616 : Nat) : Int) := by
  unfold shlI
  have e : min ((k : Int)).toNat IntKind.u64.bits = k := by rw [Int.toNat_natCast]; simp [IntKind.bits]; omega
  rw [e, show (2 : Int) ^ k = ((2 ^ k : Nat) : Int) from (Int.natCast_pow 2 k).symm, IntKind.wrap_u64, ← Int.natCast_mul]
  omega
def bpR (a L M i0 : Nat) : Nat → UInt64 × Array (Int × Int) → Array (Int × Int)
  | 0, st => st.2
  | k + 1, st => bpR a L M i0 k (breakStep a L M st (i0 + (2 - k)))
section
variable (cx : Cx) (h : List (Nat × Seg)) (n : Nat)
set_option maxRecDepth 100000 in
theorem next64_E (rb X : Nat) (hX : X < 18446744073709551616) (hs : hget h rb = some ⟨1, cl [.int .u64 (X : Int)], true, none⟩) (hr : rb < n) (K : HK)
    (hK : K (.int .u64 ((xorNextN X : Nat) : Int)) (hset h rb ⟨1, cl [.int .u64 ((xorNextN X : Nat) : Int)], true, none⟩) n) :
    CallE Try.prog cx 79 [.ptr rb 0] h n K := by
  refine CallE.to _ _ (by simp only [go_sem]) (fun hok => hok_set hok fun k hk => cl_flat (l := [_]) (by simp [SV.flat]) hk) hK ?_
  have hgi : ∀ t, hget (hset h rb t) rb = some t := hget_hset_self hs
  have L13 : ∀ x : Nat, shlI .u64 (x : Int) 13 = ((x * 8192 % 18446744073709551616 : Nat) : Int) := fun x => shl_nat x 13 (by omega)
  have L17 : ∀ x : Nat, shlI .u64 (x : Int) 17 = ((x * 131072 % 18446744073709551616 : Nat) : Int) := fun x => shl_nat x 17 (by omega)
  have R7 : ∀ x : Nat, shrI .u64 (x : Int) 7 = ((x / 128 : Nat) : Int) := fun x => shr_nat x 7 (by omega)
  obtain ⟨A, hA⟩ : ∃ A, X ^^^ (X * 8192 % 18446744073709551616) = A := ⟨_, rfl⟩
  obtain ⟨B, hB⟩ : ∃ B, A ^^^ (A / 128) = B := ⟨_, rfl⟩
  have hA2 : A < 18446744073709551616 := by
    have : A < 2 ^ 64 := by rw [← hA]; exact Nat.xor_lt_two_pow (by omega) (by omega)
    omega
  have hB2 : B < 18446744073709551616 := by
    have : B < 2 ^ 64 := by rw [← hB]; exact Nat.xor_lt_two_pow (by omega) (by omega)
    omega
  have hN : xorNextN X = B ^^^ (B * 131072 % 18446744073709551616) := by unfold xorNextN; simp only [hA, hB]
  have x1 := xor_nat (a := X) (b := X * 8192 % 18446744073709551616) hX (by omega)
  have x2 := xor_nat (a := A) (b := A / 128) hA2 (by omega)
  have x3 := xor_nat (a := B) (b := B * 131072 % 18446744073709551616) hB2 (by omega)
  rw [hA] at x1
  rw [hB] at x2
  rw [← hN] at x3
  refine callE_of_T (P := Try.prog) hti (nt := 33) (rs := [.tmp 2]) rfl rfl Try.call79 Try.func79 rfl _ (by simp only [go_sem, and_self]) (Nat.le_of_ble_eq_true rfl) _ fun hok => ?_
  simp only [go_sem, Nat.reduceLT]
  refine T_drawG hti 10 [9] (.b 0 0 (.b 0 1 (.b 0 2 (.b 0 3 (.b 0 4 (.b 0 5 (.b 0 6 (.b 0 7 (.b 0 8 (.b 4 9 (.f) .o) .o) .o) .o) .o) .o) .o) .o) .o) .o) _ _ (by kernel_rfl) (by kernel_rfl) ?_
  simp only [go_sem, Nat.reduceLT, reduceIte, Int.reduceLE, hs, hr, L13, x1]
  refine T_drawG hti 10 [9] (.b 0 0 (.b 0 1 (.b 0 2 (.b 0 3 (.b 0 4 (.b 0 5 (.b 0 6 (.b 0 7 (.b 0 8 (.b 4 9 (.f) .o) .o) .o) .o) .o) .o) .o) .o) .o) .o) _ _ (by kernel_rfl) (by kernel_rfl) ?_
  simp only [go_sem, Nat.reduceLT, reduceIte, Int.reduceLE, hgi, hr, R7, x2]
  refine T_drawG hti 10 [9] (.b 0 0 (.b 0 1 (.b 0 2 (.b 0 3 (.b 0 4 (.b 0 5 (.b 0 6 (.b 0 7 (.b 0 8 (.b 4 9 (.f) .o) .o) .o) .o) .o) .o) .o) .o) .o) .o) _ _ (by kernel_rfl) (by kernel_rfl) ?_
  simp only [go_sem, Nat.reduceLT, reduceIte, Int.reduceLE, hgi, hr, L17, x3, hset_hset]
theorem pow2_E (m : Nat) (hm : m < 4611686018427387904) (K : HK) (hK : K (.int .u64 ((1 <<< bitsLen m : Nat) : Int)) h n) : CallE Try.prog cx 78 [.int .i64 m] h n K := by
  have hb : bitsLen m ≤ 62 := (bitsLen_le_iff m 62).2 (by omega)
  have hp := Nat.pow_le_pow_right (n := 2) (by omega) hb
  have L := shl_nat 1 (bitsLen m) (by omega)
  rw [Nat.one_mul, Nat.mod_eq_of_lt (by omega), ← Nat.one_shiftLeft] at L
  have L' : shlI .u64 1 ((bitsLen m : Nat) : Int) = ((1 <<< bitsLen m : Nat) : Int) := L
  refine callE_of_T (P := Try.prog) hti (nt := 7) (rs := [.tmp 2]) rfl rfl Try.call78 Try.func78 rfl _ (by simp only [go_sem, and_self]) (Nat.le_of_ble_eq_true rfl) _ fun hok => ?_
  simp only [go_sem, Nat.reduceLT, show IntKind.u64.wrap (m : Int) = (m : Int) by rw [IntKind.wrap_u64]; omega]
  refine callA_false (lenx_E _ _ _ m (by omega) _ ?_)
  simp only [go_sem, Nat.reduceLT, L', show ((0 : Int) ≤ ((bitsLen m : Nat) : Int)) = True from eq_true (by omega)]
  exact hK
set_option maxRecDepth 100000 in
set_option maxHeartbeats 1600000 in
theorem breakPat_E (i cap : Nat) (d : Array (Int × Int)) (own : Option (Nat × Nat)) (a b : Nat) (f p q : Nat) (G F : Nat → SV) (cI : Int × Int → Int × Int → Int) (lt : Int × Int → Int × Int → Bool) (hlt : ∀ x y, decide (cI x y < 0) = lt x y)
    (hs : hget h i = some ⟨d.size * 2, spotsC d.toList, true, own⟩) (hi0 : i < n) (hb : b ≤ d.size) (h2 : a + 2 ≤ b) (hm9 : d.size ≤ 1000000000) (hF : (SV.fn f p G q F).lt n) (hcmp : Cmps cx h n i f p q G F cI) (K : HK)
    (hK : K (.tup 0 (cl [])) (hset h i ⟨d.size * 2, spotsC (breakPatterns d a b).toList, true, own⟩) n) :
    CallE Try.prog cx 68 [.sl i 0 d.size cap, .int .i64 a, .int .i64 b, .fn f p G q F] h n K := by
  refine CallE.to _ _ (by simp only [go_sem]) (fun hok => hok_set hok fun k hk => spotsC_flat _ _) hK ?_
  have hgi : ∀ t, hget (hset h i t) i = some t := hget_hset_self hs
  have hFl : (SV.fn f p G q F).lt n = True := eq_true hF
  have b6 : (2 = d.size * 2) = False := eq_false (by omega)
  have ca0 : a < d.size := by omega
  refine callE_of_T (P := Try.prog) hti (nt := 67) (rs := []) rfl rfl Try.call68 Try.func68 rfl _ (by simp only [go_sem, and_self]) (Nat.le_of_ble_eq_true rfl) _ fun hok => ?_
  have W0 := w64N (a := (b : Int) - (a : Int)) (k := b - a) (by omega) (by omega)
  by_cases h8 : b - a ≥ 8
  rotate_left
  · have e : breakPatterns d a b = d := by unfold breakPatterns; simp only []; rw [if_neg h8]
    rw [e]
    simp only [go_sem, Nat.reduceLT, W0, show ((8 : Int) ≤ ((b - a : Nat) : Int)) = False from eq_false (by omega), hset_self hs]
  obtain ⟨L, hL⟩ : ∃ L, b - a = L := ⟨_, rfl⟩
  obtain ⟨M, hM⟩ : ∃ M, 1 <<< bitsLen L = M := ⟨_, rfl⟩
  obtain ⟨Q, hQ⟩ : ∃ Q, L / 4 = Q := ⟨_, rfl⟩
  have hM2 : 1 ≤ M ∧ M ≤ 2 * L := by
    rw [← hM, Nat.one_shiftLeft]
    exact ⟨Nat.two_pow_pos _, two_pow_bitsLen_le (by omega)⟩
  have hbp : breakPatterns d a b = bpR a L M (a + Q * 2 - 1) 3 (UInt64.ofNat L, d) := by
    unfold breakPatterns
    simp only [hL, hM, hQ]
    rw [if_pos (by omega)]
    rfl
  rw [hL] at W0 h8
  have W1 : IntKind.i64.wrap (((L : Nat) : Int).tdiv 4) = (Q : Int) := by rw [Int.tdiv_eq_ediv_of_nonneg (by omega)]; exact w64N (by omega) (by omega)
  have W2 := w64N (a := (Q : Int) * 2) (k := Q * 2) (by omega) (by omega)
  have W3 := w64N (a := (a : Int) + ((Q * 2 : Nat) : Int)) (k := a + Q * 2) (by omega) (by omega)
  have W4 := w64N (a := ((a + Q * 2 : Nat) : Int) - 1) (k := a + Q * 2 - 1) (by omega) (by omega)
  have W5 := w64N (a := ((a + Q * 2 : Nat) : Int) + 1) (k := a + Q * 2 + 1) (by omega) (by omega)
  have U0 : IntKind.u64.wrap (L : Int) = (L : Int) := by rw [IntKind.wrap_u64]; omega
  have U1 : IntKind.u64.wrap ((M : Int) - 1) = ((M - 1 : Nat) : Int) := by rw [IntKind.wrap_u64]; omega
  have hLu : (UInt64.ofNat L).toNat = L := by rw [UInt64.toNat_ofNat']; omega
  simp only [go_sem, Nat.reduceLT, Nat.reduceEqDiff, reduceIte, W0, U0, show ((8 : Int) ≤ ((L : Nat) : Int)) = True from eq_true (by omega)]
  refine callA_false (pow2_E _ _ _ L (by omega) _ ?_)
  rw [hM]
  simp only [go_sem, Nat.reduceLT, Int.reduceEq, W0, W1, W2, W3, W4]
  rw [hbp]
  refine T_lp (ι := { w : Nat × UInt64 × Array (Int × Int) // w.1 ≤ 3 ∧ w.2.2.size = d.size ∧ bpR a L M (a + Q * 2 - 1) w.1 w.2 = bpR a L M (a + Q * 2 - 1) 3 (UInt64.ofNat L, d) })
    (fun w => ([(0, .sl i 0 d.size cap), (1, .int .i64 a), (8, .int .i64 L), (9, .ptr n 0), (10, .int .u64 M), (11, .int .i64 ((a + Q * 2 - 1 + (3 - w.1.1) : Nat) : Int))], (n, ⟨1, cl [.int .u64 ((w.1.2.1.toNat : Nat) : Int)], true, none⟩) :: hset h i ⟨d.size * 2, spotsC w.1.2.2.toList, true, own⟩, n + 1)) (fun w => w.1.1) ⟨(3, UInt64.ofNat L, d), Nat.le_refl _, rfl, rfl⟩ ?_ ?_
  · refine Imp.id (by simp) ?_ ?_
    · simp only [go_sem, Nat.reduceLT, hi0, Nat.sub_self]
      (try (repeat' apply And.intro) <;> first | omega | rfl | trivial | assumption | skip)
    · refine impH.cons0 (s := ⟨1, cl [.int .u64 (L : Int)], true, none⟩) (by first | (simp only [go_sem]; done) | (simp only [go_sem, Nat.reduceBEq, Nat.reduceLT, Nat.reduceLeDiff, Nat.reduceAdd, Nat.reduceMul, Nat.reduceSub, Nat.reduceMod, Nat.reduceDiv, Nat.reduceEqDiff, Int.reduceToNat, reduceIte, reduceCtorEq, Int.reduceLE, Int.reduceLT, Int.reduceEq, Int.reduceNeg, Int.reduceAdd, Int.reduceSub, Int.reduceMul]; rfl)) (by simp) (SegLe.flat (Nat.le_refl _) id (.inr rfl) fun k hk => ⟨by rw [hLu], cl_flat (l := [_]) (by simp [SV.flat]) hk⟩) ?_
      rw [hset_self hs]
      exact impH.base0 hok (by simp) (by simp only [go_sem, HExt_cons])
  · rintro ⟨⟨k, r, D⟩, hk, hD, hR⟩
    simp only at hk hD hR
    have hrl := r.toNat_lt
    cases k with
    | zero =>
      rw [bpR] at hR
      have hR' : D = bpR a L M (a + Q * 2 - 1) 3 (UInt64.ofNat L, d) := hR
      simp only [go_sem, Nat.reduceLT, Nat.reduceSub, Int.reduceEq, W1, W2, W3, W5, show (((a + Q * 2 - 1 + (3 - 0) : Nat) : Int) ≤ ((a + Q * 2 + 1 : Nat) : Int)) = False from eq_false (by omega)]
      rw [hR']
      (try simp only [go_sem, HExt_cons])
    | succ k =>
      obtain ⟨o0, ho0⟩ : ∃ o, xorNextN r.toNat &&& (M - 1) = o := ⟨_, rfl⟩
      have ho1 : o0 ≤ M - 1 := by rw [← ho0]; exact Nat.and_le_right
      obtain ⟨o, ho⟩ : ∃ o, (if o0 ≥ L then o0 - L else o0) = o := ⟨_, rfl⟩
      have hoL : o < L := by rw [← ho]; split <;> omega
      have hbs : breakStep a L M (r, D) (a + Q * 2 - 1 + (2 - k)) = (xorNext r, swp D (a + Q * 2 - 1 + (2 - k)) (a + o)) := by
        unfold breakStep
        simp only [xorNext_toNat, ho0, ho]
      rw [bpR, hbs] at hR
      have e3 : a + Q * 2 - 1 + (3 - (k + 1)) = a + Q * 2 - 1 + (2 - k) := by omega
      have hxl := xorNextN_lt r.toNat (by omega)
      have a1 := and_nat (a := xorNextN r.toNat) (b := M - 1) (by omega) (by omega)
      rw [ho0] at a1
      have cX : a + Q * 2 - 1 + (2 - k) < d.size := by omega
      have cO : a + o < d.size := by omega
      have W6 := w64N (a := (o0 : Int)) (k := o0) rfl (by omega)
      have W7 := w64N (a := (a : Int) + (o : Int)) (k := a + o) (by omega) (by omega)
      have hgn : ∀ t u, hget ((n, u) :: hset h i t) i = some t := fun t u => (hget_miss _ _ _ _ (by simp; omega)).trans (hgi t)
      rw [e3]
      simp only [go_sem, Nat.reduceLT, Int.reduceEq, W1, W2, W3, W5, show (((a + Q * 2 - 1 + (2 - k) : Nat) : Int) ≤ ((a + Q * 2 + 1 : Nat) : Int)) = True from eq_true (by omega)]
      refine callA_false (next64_E _ _ _ n r.toNat (by omega) (hget_hit _ _ _) (by omega) _ ?_)
      by_cases hoo : o0 ≥ L
      · rw [if_pos hoo] at ho
        simp only [go_sem, Nat.reduceLT, U1, a1, W6, show ((L : Int) ≤ (o0 : Int)) = True from eq_true (by omega), w64N (a := (o0 : Int) - (L : Int)) (k := o) (by omega) (by omega)]
        refine T_drawG hti 20 [17, 19] (.b 0 0 (.b 0 1 (.b 0 2 (.b 0 3 (.b 0 4 (.b 0 5 (.b 0 6 (.b 0 7 (.b 0 8 (.b 0 9 (.b 0 10 (.b 0 11 (.b 0 12 (.b 0 13 (.b 0 14 (.b 0 15 (.b 0 16 (.b 4 17 (.b 0 18 (.b 4 19 (.f) .o) .o) .o) .o) .o) .o) .o) .o) .o) .o) .o) .o) .o) .o) .o) .o) .o) .o) .o) .o) _ _ (by kernel_rfl) (by kernel_rfl) ?_
        simp only [go_sem, Nat.reduceLT, hgi, hi0, W7, ix_r cX, ix_r cO, ix_b cX, ix_b cO, ix_c cX, ix_c cO, spotsC_x, spotsC_y, b6, and_false, if_false, hset_hset]
        rw [swap_fn D (a := (a + Q * 2 - 1 + (2 - k))) (b := (a + o)) (by omega) (by omega)]
        refine ⟨⟨(k, xorNext r, swp D (a + Q * 2 - 1 + (2 - k)) (a + o)), by show k ≤ 3; omega, (swp_size _ _ _).trans hD, hR⟩, by show k < k + 1; omega, ?_⟩
        refine Imp.id (by simp) ?_ ?_
        · simp only [go_sem, Nat.reduceLT, hi0, w64N (a := ((a + Q * 2 - 1 + (2 - k) : Nat) : Int) + 1) (k := a + Q * 2 - 1 + (3 - k)) (by omega) (by omega)]
          (try (repeat' apply And.intro) <;> first | omega | rfl | trivial | assumption | skip)
        · exact impH.cons0 (hget_hit _ _ _) (by simp) (SegLe.flat (Nat.le_refl _) id (.inr rfl) fun k hk => ⟨by rw [xorNext_toNat], cl_flat (l := [_]) (by simp [SV.flat]) hk⟩) (impH.base0 (hok_set hok fun k hk => spotsC_flat _ _) (by omega) (by simp only [go_sem, HExt_cons]))
      · rw [if_neg hoo] at ho
        subst ho
        simp only [go_sem, Nat.reduceLT, U1, a1, W6, show ((L : Int) ≤ (o0 : Int)) = False from eq_false (by omega)]
        refine T_drawG hti 20 [17, 19] (.b 0 0 (.b 0 1 (.b 0 2 (.b 0 3 (.b 0 4 (.b 0 5 (.b 0 6 (.b 0 7 (.b 0 8 (.b 0 9 (.b 0 10 (.b 0 11 (.b 0 12 (.b 0 13 (.b 0 14 (.b 0 15 (.b 0 16 (.b 4 17 (.b 0 18 (.b 4 19 (.f) .o) .o) .o) .o) .o) .o) .o) .o) .o) .o) .o) .o) .o) .o) .o) .o) .o) .o) .o) .o) _ _ (by kernel_rfl) (by kernel_rfl) ?_
        simp only [go_sem, Nat.reduceLT, hgi, hi0, W7, ix_r cX, ix_r cO, ix_b cX, ix_b cO, ix_c cX, ix_c cO, spotsC_x, spotsC_y, b6, and_false, if_false, hset_hset]
        rw [swap_fn D (a := (a + Q * 2 - 1 + (2 - k))) (b := (a + o0)) (by omega) (by omega)]
        refine ⟨⟨(k, xorNext r, swp D (a + Q * 2 - 1 + (2 - k)) (a + o0)), by show k ≤ 3; omega, (swp_size _ _ _).trans hD, hR⟩, by show k < k + 1; omega, ?_⟩
        refine Imp.id (by simp) ?_ ?_
        · simp only [go_sem, Nat.reduceLT, hi0, w64N (a := ((a + Q * 2 - 1 + (2 - k) : Nat) : Int) + 1) (k := a + Q * 2 - 1 + (3 - k)) (by omega) (by omega)]
          (try (repeat' apply And.intro) <;> first | omega | rfl | trivial | assumption | skip)
        · exact impH.cons0 (hget_hit _ _ _) (by simp) (SegLe.flat (Nat.le_refl _) id (.inr rfl) fun k hk => ⟨by rw [xorNext_toNat], cl_flat (l := [_]) (by simp [SV.flat]) hk⟩) (impH.base0 (hok_set hok fun k hk => spotsC_flat _ _) (by omega) (by simp only [go_sem, HExt_cons]))
end
end Go.Proofs.Ytddnnodkkdjniaa.V

/- The library's sort of spots. -/
namespace Go.Proofs.Ytddnnodkkdjniaa.V
open Go.Sort (bitsLen swp insertionSort heapSort breakPatterns choosePivot reverseRange partialInsertionSort partition partitionEqual pdq rd Hint hintCode SWO Below rd_facts rd_c rd_true rd_false rd_dec rd_not rd_pi_yes rd_pi_no rd_lim_le round_part round_eq pdq_small pdq_heap pdq_done pdq_eq pdq_left pdq_right insertionSort_holds heapSort_holds partialInsertionSort_holds partition_holds partitionEqual_holds reverseRange_holds pdq_sorts)
section
variable (cx : Cx) (h : List (Nat × Seg)) (n : Nat)
theorem insSort_M (i cap : Nat) (d : Array (Int × Int)) (m : Nat) (hm : d.size = m) (own : Option (Nat × Nat)) (a b : Nat) (f p q : Nat) (G F : Nat → SV) (cI : Int × Int → Int × Int → Int) (lt : Int × Int → Int × Int → Bool) (hlt : ∀ x y, decide (cI x y < 0) = lt x y)
    (hs : hget h i = some ⟨m * 2, spotsC d.toList, true, own⟩) (hi0 : i < n) (hb : b ≤ m) (hab : a ≤ b) (hm9 : m ≤ 1000000000) (hF : (SV.fn f p G q F).lt n) (hcmp : CmpA cx n f p q G F cI) (K : HK)
    (hK : K (.tup 0 (cl [])) (hset h i ⟨m * 2, spotsC (insertionSort lt d a b).toList, true, own⟩) n) :
    CallE Try.prog cx 66 [.sl i 0 m cap, .int .i64 a, .int .i64 b, .fn f p G q F] h n K := by
  subst hm
  exact insSort_E cx h n i cap d own a b f p q G F cI lt hlt hs hi0 hb hab hm9 hF (hcmp.cmps h i) K hK
theorem heapSort_M (i cap : Nat) (d : Array (Int × Int)) (m : Nat) (hm : d.size = m) (own : Option (Nat × Nat)) (a b : Nat) (f p q : Nat) (G F : Nat → SV) (cI : Int × Int → Int × Int → Int) (lt : Int × Int → Int × Int → Bool) (hlt : ∀ x y, decide (cI x y < 0) = lt x y)
    (hs : hget h i = some ⟨m * 2, spotsC d.toList, true, own⟩) (hi0 : i < n) (hb : b ≤ m) (h2 : a + 2 ≤ b) (hm9 : m ≤ 1000000000) (hF : (SV.fn f p G q F).lt n) (hcmp : CmpA cx n f p q G F cI) (K : HK)
    (hK : K (.tup 0 (cl [])) (hset h i ⟨m * 2, spotsC (heapSort lt d a b).toList, true, own⟩) n) :
    CallE Try.prog cx 67 [.sl i 0 m cap, .int .i64 a, .int .i64 b, .fn f p G q F] h n K := by
  subst hm
  exact heapSort_E cx h n i cap d own a b f p q G F cI lt hlt hs hi0 hb h2 hm9 hF (hcmp.cmps h i) K hK
theorem breakPat_M (i cap : Nat) (d : Array (Int × Int)) (m : Nat) (hm : d.size = m) (own : Option (Nat × Nat)) (a b : Nat) (f p q : Nat) (G F : Nat → SV) (cI : Int × Int → Int × Int → Int) (lt : Int × Int → Int × Int → Bool) (hlt : ∀ x y, decide (cI x y < 0) = lt x y)
    (hs : hget h i = some ⟨m * 2, spotsC d.toList, true, own⟩) (hi0 : i < n) (hb : b ≤ m) (h2 : a + 2 ≤ b) (hm9 : m ≤ 1000000000) (hF : (SV.fn f p G q F).lt n) (hcmp : CmpA cx n f p q G F cI) (K : HK)
    (hK : K (.tup 0 (cl [])) (hset h i ⟨m * 2, spotsC (breakPatterns d a b).toList, true, own⟩) n) :
    CallE Try.prog cx 68 [.sl i 0 m cap, .int .i64 a, .int .i64 b, .fn f p G q F] h n K := by
  subst hm
  exact breakPat_E cx h n i cap d own a b f p q G F cI lt hlt hs hi0 hb h2 hm9 hF (hcmp.cmps h i) K hK
theorem reverseRange_M (i cap : Nat) (d : Array (Int × Int)) (m : Nat) (hm : d.size = m) (own : Option (Nat × Nat)) (a b : Nat) (f p q : Nat) (G F : Nat → SV) (cI : Int × Int → Int × Int → Int) (lt : Int × Int → Int × Int → Bool) (hlt : ∀ x y, decide (cI x y < 0) = lt x y)
    (hs : hget h i = some ⟨m * 2, spotsC d.toList, true, own⟩) (hi0 : i < n) (hb : b ≤ m) (h2 : a + 2 ≤ b) (hm9 : m ≤ 1000000000) (hF : (SV.fn f p G q F).lt n) (hcmp : CmpA cx n f p q G F cI) (K : HK)
    (hK : K (.tup 0 (cl [])) (hset h i ⟨m * 2, spotsC (reverseRange d a b).toList, true, own⟩) n) :
    CallE Try.prog cx 70 [.sl i 0 m cap, .int .i64 a, .int .i64 b, .fn f p G q F] h n K := by
  subst hm
  exact reverseRange_E cx h n i cap d own a b f p q G F cI lt hlt hs hi0 hb h2 hm9 hF (hcmp.cmps h i) K hK
theorem partialIns_M (i cap : Nat) (d : Array (Int × Int)) (m : Nat) (hm : d.size = m) (own : Option (Nat × Nat)) (a b : Nat) (f p q : Nat) (G F : Nat → SV) (cI : Int × Int → Int × Int → Int) (lt : Int × Int → Int × Int → Bool) (hlt : ∀ x y, decide (cI x y < 0) = lt x y)
    (hs : hget h i = some ⟨m * 2, spotsC d.toList, true, own⟩) (hi0 : i < n) (hb : b ≤ m) (h2 : a + 2 ≤ b) (hm9 : m ≤ 1000000000) (hF : (SV.fn f p G q F).lt n) (hcmp : CmpA cx n f p q G F cI) (K : HK)
    (hK : K (.bool (partialInsertionSort lt d a b).2) (hset h i ⟨m * 2, spotsC (partialInsertionSort lt d a b).1.toList, true, own⟩) n) :
    CallE Try.prog cx 71 [.sl i 0 m cap, .int .i64 a, .int .i64 b, .fn f p G q F] h n K := by
  subst hm
  exact partialIns_E cx h n i cap d own a b f p q G F cI lt hlt hs hi0 hb h2 hm9 hF (hcmp.cmps h i) K hK
theorem choosePivot_M (i cap : Nat) (d : Array (Int × Int)) (m : Nat) (hm : d.size = m) (own : Option (Nat × Nat)) (a b : Nat) (f p q : Nat) (G F : Nat → SV) (cI : Int × Int → Int × Int → Int) (lt : Int × Int → Int × Int → Bool) (hlt : ∀ x y, decide (cI x y < 0) = lt x y)
    (hs : hget h i = some ⟨m * 2, spotsC d.toList, true, own⟩) (hi0 : i < n) (hb : b ≤ m) (hab : a < b) (hm9 : m ≤ 1000000000) (hF : (SV.fn f p G q F).lt n) (hcmp : CmpA cx n f p q G F cI) (K : HK)
    (hK : K (.tup 2 (cl [.int .i64 ((choosePivot lt d a b).1 : Nat), .int .i64 (hintCode (choosePivot lt d a b).2)])) h n) :
    CallE Try.prog cx 69 [.sl i 0 m cap, .int .i64 a, .int .i64 b, .fn f p G q F] h n K := by
  subst hm
  exact choosePivot_E cx h n i cap d own f p q G F cI lt hlt hs hi0 hm9 hF hcmp a b hab hb K hK
theorem partition_M (i cap : Nat) (d : Array (Int × Int)) (m : Nat) (hm : d.size = m) (own : Option (Nat × Nat)) (a b pivot : Nat) (f p q : Nat) (G F : Nat → SV) (cI : Int × Int → Int × Int → Int) (lt : Int × Int → Int × Int → Bool) (hlt : ∀ x y, decide (cI x y < 0) = lt x y)
    (hs : hget h i = some ⟨m * 2, spotsC d.toList, true, own⟩) (hi0 : i < n) (hap : a ≤ pivot) (hpb : pivot < b) (hb : b ≤ m) (h2 : a + 2 ≤ b) (hm9 : m ≤ 1000000000) (hF : (SV.fn f p G q F).lt n) (hcmp : CmpA cx n f p q G F cI) (K : HK)
    (hK : K (.tup 2 (cl [.int .i64 ((partition lt d a b pivot).1 : Nat), .bool (partition lt d a b pivot).2.1])) (hset h i ⟨m * 2, spotsC (partition lt d a b pivot).2.2.toList, true, own⟩) n) :
    CallE Try.prog cx 73 [.sl i 0 m cap, .int .i64 a, .int .i64 b, .int .i64 pivot, .fn f p G q F] h n K := by
  subst hm
  exact partition_E cx h n i cap d own a b pivot f p q G F cI lt hlt hs hi0 hap hpb hb h2 hm9 hF (hcmp.cmps h i) K hK
theorem partitionEq_M (i cap : Nat) (d : Array (Int × Int)) (m : Nat) (hm : d.size = m) (own : Option (Nat × Nat)) (a b pivot : Nat) (f p q : Nat) (G F : Nat → SV) (cI : Int × Int → Int × Int → Int) (lt : Int × Int → Int × Int → Bool) (hlt : ∀ x y, decide (cI x y < 0) = lt x y)
    (hs : hget h i = some ⟨m * 2, spotsC d.toList, true, own⟩) (hi0 : i < n) (hap : a ≤ pivot) (hpb : pivot < b) (hb : b ≤ m) (h2 : a + 2 ≤ b) (hm9 : m ≤ 1000000000) (hF : (SV.fn f p G q F).lt n) (hcmp : CmpA cx n f p q G F cI) (K : HK)
    (hK : K (.int .i64 ((partitionEqual lt d a b pivot).1 : Nat)) (hset h i ⟨m * 2, spotsC (partitionEqual lt d a b pivot).2.toList, true, own⟩) n) :
    CallE Try.prog cx 72 [.sl i 0 m cap, .int .i64 a, .int .i64 b, .int .i64 pivot, .fn f p G q F] h n K := by
  subst hm
  exact partitionEqual_E cx h n i cap d own a b pivot f p q G F cI lt hlt hs hi0 hap hpb hb h2 hm9 hF (hcmp.cmps h i) K hK
theorem hint_2 {x : Hint} : (hintCode x = 2) = (x = .decreasing) := by cases x <;> simp [hintCode]
theorem hint_1 {x : Hint} : (hintCode x = 1) = (x = .increasing) := by cases x <;> simp [hintCode]
set_option maxRecDepth 100000 in
set_option maxHeartbeats 3200000 in
theorem pdq_E (f p q : Nat) (G F : Nat → SV) (cI : Int × Int → Int × Int → Int) (lt : Int × Int → Int × Int → Bool) (hlt : ∀ x y, decide (cI x y < 0) = lt x y) (swo : SWO lt) : ∀ (N : Nat) (cx : Cx) (h : List (Nat × Seg)) (n i cap : Nat) (d : Array (Int × Int)) (m : Nat) (hm : d.size = m) (own : Option (Nat × Nat)) (a b limit : Nat) (hN : b - a < N)
    (hs : hget h i = some ⟨m * 2, spotsC d.toList, true, own⟩) (hi0 : i < n) (hab : a ≤ b) (hb : b ≤ m) (hm9 : m ≤ 1000000000) (hlim : limit ≤ 1000) (hBel : Below lt a b d) (hF : (SV.fn f p G q F).lt n) (hcmp : CmpA cx n f p q G F cI) (K : HK)
    (hK : K (.tup 0 (cl [])) (hset h i ⟨m * 2, spotsC (pdq lt d a b limit true true).toList, true, own⟩) n),
    CallE Try.prog cx 62 [.sl i 0 m cap, .int .i64 a, .int .i64 b, .int .i64 limit, .fn f p G q F] h n K := by
  intro N
  induction N with
  | zero => intro _ _ _ _ _ _ _ _ _ a b _ hN; exact absurd hN (Nat.not_lt_zero _)
  | succ N ih =>
    intro cx h n i cap d m hm own a b limit hN hs hi0 hab hb hm9 hlim hBel hF hcmp K hK
    refine CallE.to _ _ (by simp only [go_sem]) (fun hok => hok_set hok fun k hk => spotsC_flat _ _) hK ?_
    have hgi : ∀ t, hget (hset h i t) i = some t := hget_hset_self hs
    have hFl : (SV.fn f p G q F).lt n = True := eq_true hF
    refine callE_of_SW (P := Try.prog) hti (nt := 148) (rs := []) rfl rfl Try.call62 Try.func62 rfl _ (by simp only [go_sem, and_self]) (Nat.le_of_ble_eq_true rfl) _ fun hok => ?_
    refine SW_seq (SW_run hti trivial ?_)
    simp only [go_sem, Nat.reduceLT]
    refine SW_seq (SW_run hti trivial ?_)
    simp only [go_sem, Nat.reduceLT]
    refine SW_block (SW_lp (ι := { w : (Nat × Nat × Nat) × (Bool × Bool) × Array (Int × Int) // (w.1.1 ≤ w.1.2.1 ∧ w.1.2.1 ≤ m ∧ w.1.2.1 - w.1.1 ≤ b - a ∧ w.1.2.2 ≤ limit) ∧ w.2.2.size = m ∧ Below lt w.1.1 w.1.2.1 w.2.2 ∧ pdq lt w.2.2 w.1.1 w.1.2.1 w.1.2.2 w.2.1.1 w.2.1.2 = pdq lt d a b limit true true })
      (fun w => ([(0, .sl i 0 m cap), (1, .int .i64 ((w.1.1.1 : Nat) : Int)), (2, .int .i64 ((w.1.1.2.1 : Nat) : Int)), (3, .int .i64 ((w.1.1.2.2 : Nat) : Int)), (4, .fn f p G q F), (10, .bool w.1.2.1.1), (11, .bool w.1.2.1.2)], hset h i ⟨m * 2, spotsC w.1.2.2.toList, true, own⟩, n)) (fun w => w.1.1.2.1 - w.1.1.1) ⟨((a, b, limit), (true, true), d), ⟨hab, hb, Nat.le_refl _, Nat.le_refl _⟩, hm, hBel, rfl⟩ ?_ ?_)
    · refine Imp.id (by simp) ?_ ?_
      · simp only [go_sem, Nat.reduceLT, hFl, hi0]
        (try (repeat' apply And.intro) <;> first | omega | rfl | trivial | assumption | skip)
      · rw [hset_self hs]; exact impH.base0 hok (by simp) HExt.rfl
    rintro ⟨⟨⟨a', b', lim⟩, ⟨wb, wp⟩, D⟩, ⟨g1, g2, g3, g4⟩, hD, hB, hR⟩
    simp only at g1 g2 g3 g4 hD hB hR
    have W0 := w64N (a := (b' : Int) - (a' : Int)) (k := b' - a') (by omega) (by omega)
    refine SW_block (SW_seq (SW_run hti trivial ?_))
    simp only [go_sem, Nat.reduceLT, W0]
    refine SW_seq (SW_run hti trivial ?_)
    by_cases h12 : b' - a' ≤ 12
    · simp only [go_sem, Nat.reduceLT, show (((b' - a' : Nat) : Int) ≤ 12) = True from eq_true (by omega)]
      refine callA_false (insSort_M _ _ _ i cap D m hD own a' b' f p q G F cI lt hlt (hgi _) hi0 g2 g1 hm9 hF (hcmp.nt _ _) _ ?_)
      rw [← hR, pdq_small h12]
      simp only [go_sem, hset_hset]
    simp only [go_sem, Nat.reduceLT, show (((b' - a' : Nat) : Int) ≤ 12) = False from eq_false (by omega)]
    refine SW_seq (SW_run hti trivial ?_)
    by_cases hl0 : lim = 0
    · subst hl0
      simp only [go_sem, Nat.reduceLT, show (((0 : Nat) : Int) = 0) = True from eq_true rfl]
      refine callA_false (heapSort_M _ _ _ i cap D m hD own a' b' f p q G F cI lt hlt (hgi _) hi0 g2 (by omega) hm9 hF (hcmp.nt _ _) _ ?_)
      rw [← hR, pdq_heap h12 rfl]
      simp only [go_sem, hset_hset]
    simp only [go_sem, Nat.reduceLT, show ((lim : Int) = 0) = False from eq_false (by omega)]
    obtain ⟨s1, B1, hc1, s2, B2, hpv, s3, B3⟩ := rd_facts (limit := lim) (wb := wb) (wp := wp) swo partialInsertionSort_holds reverseRange_holds (show a' < b' by omega) (show b' ≤ D.size by omega) hB
    have hlm : (rd lt D a' b' lim wb wp).lim ≤ lim := rd_lim_le
    obtain ⟨r, hrd⟩ : ∃ r, rd lt D a' b' lim wb wp = r := ⟨_, rfl⟩
    refine SW_seq (SW_cut hti (ι := Unit) (fun _ => ([(0, .sl i 0 m cap), (1, .int .i64 ((a' : Nat) : Int)), (2, .int .i64 ((b' : Nat) : Int)), (3, .int .i64 (((rd lt D a' b' lim wb wp).lim : Nat) : Int)), (4, .fn f p G q F), (10, .bool wb), (11, .bool wp), (12, .int .i64 ((b' - a' : Nat) : Int))], hset h i ⟨m * 2, spotsC (rd lt D a' b' lim wb wp).d1.toList, true, own⟩, n)) trivial ?_ ?_)
    · cases wb
      · simp only [go_sem, Nat.reduceLT]
        refine callA_false (breakPat_M _ _ _ i cap D m hD own a' b' f p q G F cI lt hlt (hgi _) hi0 g2 (by omega) hm9 hF (hcmp.nt _ _) _ ?_)
        simp only [go_sem, Nat.reduceLT, hset_hset, w64N (a := (lim : Int) - 1) (k := lim - 1) (by omega) (by omega)]
        refine ⟨(), Imp.id (by simp) ?_ (impH.base0 (hok_set hok fun k hk => spotsC_flat _ _) (by simp) HExt.rfl)⟩
        simp only [go_sem, Nat.reduceLT, hFl, hi0, (rd_false (lt := lt) (d := D) (a := a') (b := b') (limit := lim) (wp := wp)).2]
        (try (repeat' apply And.intro) <;> first | omega | rfl | trivial | assumption | skip)
      · simp only [go_sem, Nat.reduceLT]
        refine ⟨(), Imp.id (by simp) ?_ (impH.base0 (hok_set hok fun k hk => spotsC_flat _ _) (by simp) HExt.rfl)⟩
        simp only [go_sem, Nat.reduceLT, hFl, hi0, (rd_true (lt := lt) (d := D) (a := a') (b := b') (limit := lim) (wp := wp)).2]
        (try (repeat' apply And.intro) <;> first | omega | rfl | trivial | assumption | skip)
    intro _
    refine SW_seq (SW_run hti trivial ?_)
    simp only [go_sem, Nat.reduceLT]
    refine callA_false (choosePivot_M _ _ _ i cap (rd lt D a' b' lim wb wp).d1 m (s1.trans hD) own a' b' f p q G F cI lt hlt (hgi _) hi0 g2 (by omega) hm9 hF (hcmp.nt _ _) _ ?_)
    rw [← rd_c]
    simp only [go_sem, Nat.reduceLT]
    refine SW_seq (SW_cut hti (ι := Unit) (fun _ => ([(0, .sl i 0 m cap), (1, .int .i64 ((a' : Nat) : Int)), (2, .int .i64 ((b' : Nat) : Int)), (3, .int .i64 (((rd lt D a' b' lim wb wp).lim : Nat) : Int)), (4, .fn f p G q F), (10, .bool wb), (11, .bool wp), (12, .int .i64 ((b' - a' : Nat) : Int)), (13, .int .i64 (((rd lt D a' b' lim wb wp).pivot : Nat) : Int)), (14, .int .i64 (hintCode (rd lt D a' b' lim wb wp).hint))], hset h i ⟨m * 2, spotsC (rd lt D a' b' lim wb wp).d2.toList, true, own⟩, n)) trivial ?_ ?_)
    · by_cases hh : (rd lt D a' b' lim wb wp).c.2 = .decreasing
      · obtain ⟨e2, epv, eht⟩ := rd_dec hh
        simp only [go_sem, Nat.reduceLT, show (hintCode (rd lt D a' b' lim wb wp).c.2 = 2) = True from eq_true (by rw [hh]; rfl)]
        refine callA_false (reverseRange_M _ _ _ i cap (rd lt D a' b' lim wb wp).d1 m (s1.trans hD) own a' b' f p q G F cI lt hlt (hgi _) hi0 g2 (by omega) hm9 hF (hcmp.nt _ _) _ ?_)
        rw [← e2]
        simp only [go_sem, Nat.reduceLT, hset_hset, w64N (a := (b' : Int) - 1) (k := b' - 1) (by omega) (by omega), w64N (a := (((rd lt D a' b' lim wb wp).c.1 : Nat) : Int) - (a' : Int)) (k := (rd lt D a' b' lim wb wp).c.1 - a') (by omega) (by omega), w64N (a := ((b' - 1 : Nat) : Int) - (((rd lt D a' b' lim wb wp).c.1 - a' : Nat) : Int)) (k := b' - 1 - ((rd lt D a' b' lim wb wp).c.1 - a')) (by omega) (by omega)]
        refine ⟨(), Imp.id (by simp) ?_ (impH.base0 (hok_set hok fun k hk => spotsC_flat _ _) (by simp) HExt.rfl)⟩
        simp only [go_sem, Nat.reduceLT, hFl, hi0, epv, eht, hintCode]
        (try (repeat' apply And.intro) <;> first | omega | rfl | trivial | assumption | skip)
      · obtain ⟨e2, epv, eht⟩ := rd_not hh
        simp only [go_sem, Nat.reduceLT, show (hintCode (rd lt D a' b' lim wb wp).c.2 = 2) = False from by rw [hint_2]; exact eq_false hh]
        refine ⟨(), Imp.id (by simp) ?_ (by rw [e2]; exact (impH.base0 (hok_set hok fun k hk => spotsC_flat _ _) (by simp) HExt.rfl))⟩
        simp only [go_sem, Nat.reduceLT, hFl, hi0, epv, eht]
        (try (repeat' apply And.intro) <;> first | omega | rfl | trivial | assumption | skip)
    intro _
    refine SW_seq (SW_cut hti (ι := { u : Unit // (rd lt D a' b' lim wb wp).pi.2 = false }) (fun _ => ([(0, .sl i 0 m cap), (1, .int .i64 ((a' : Nat) : Int)), (2, .int .i64 ((b' : Nat) : Int)), (3, .int .i64 (((rd lt D a' b' lim wb wp).lim : Nat) : Int)), (4, .fn f p G q F), (10, .bool wb), (11, .bool wp), (12, .int .i64 ((b' - a' : Nat) : Int)), (13, .int .i64 (((rd lt D a' b' lim wb wp).pivot : Nat) : Int))], hset h i ⟨m * 2, spotsC (rd lt D a' b' lim wb wp).pi.1.toList, true, own⟩, n)) trivial ?_ ?_)
    · by_cases hw : (wb && wp && decide ((rd lt D a' b' lim wb wp).hint = .increasing)) = true
      · have epi := rd_pi_yes hw
        rw [Bool.and_eq_true, Bool.and_eq_true, decide_eq_true_eq] at hw
        obtain ⟨⟨hwb, hwp⟩, hwh⟩ := hw
        subst hwb hwp
        simp only [go_sem, Nat.reduceLT, show (hintCode (rd lt D a' b' lim true true).hint = 1) = True from eq_true (by rw [hwh]; rfl)]
        refine callA_false (partialIns_M _ _ _ i cap (rd lt D a' b' lim true true).d2 m (s2.trans hD) own a' b' f p q G F cI lt hlt (hgi _) hi0 g2 (by omega) hm9 hF (hcmp.nt _ _) _ ?_)
        rw [← epi]
        by_cases hp2 : (rd lt D a' b' lim true true).pi.2 = true
        · simp only [go_sem, hp2]
          rw [← hR, pdq_done h12 hl0 hp2]
          simp only [go_sem, hset_hset]
        · have hp2 : (rd lt D a' b' lim true true).pi.2 = false := by simpa using hp2
          simp only [go_sem, hp2, hset_hset]
          refine ⟨⟨(), hp2⟩, Imp.id (by simp) ?_ (impH.base0 (hok_set hok fun k hk => spotsC_flat _ _) (by simp) HExt.rfl)⟩
          simp only [go_sem, Nat.reduceLT, hFl, hi0]
          (try (repeat' apply And.intro) <;> first | omega | rfl | trivial | assumption | skip)
      · have hw : (wb && wp && decide ((rd lt D a' b' lim wb wp).hint = .increasing)) = false := by simpa using hw
        have epi := rd_pi_no hw
        have hp2 : (rd lt D a' b' lim wb wp).pi.2 = false := by rw [epi]
        have fin : ∀ (l : List (Nat × SV)), impL l (sig []) n [(0, .sl i 0 m cap), (1, .int .i64 ((a' : Nat) : Int)), (2, .int .i64 ((b' : Nat) : Int)), (3, .int .i64 (((rd lt D a' b' lim wb wp).lim : Nat) : Int)), (4, .fn f p G q F), (10, .bool wb), (11, .bool wp), (12, .int .i64 ((b' - a' : Nat) : Int)), (13, .int .i64 (((rd lt D a' b' lim wb wp).pivot : Nat) : Int))] → ∃ j : { u : Unit // (rd lt D a' b' lim wb wp).pi.2 = false }, Imp ⟨cx.w0, cx.W, 148, n⟩ l (hset h i ⟨m * 2, spotsC (rd lt D a' b' lim wb wp).d2.toList, true, own⟩) n [(0, .sl i 0 m cap), (1, .int .i64 ((a' : Nat) : Int)), (2, .int .i64 ((b' : Nat) : Int)), (3, .int .i64 (((rd lt D a' b' lim wb wp).lim : Nat) : Int)), (4, .fn f p G q F), (10, .bool wb), (11, .bool wp), (12, .int .i64 ((b' - a' : Nat) : Int)), (13, .int .i64 (((rd lt D a' b' lim wb wp).pivot : Nat) : Int))] (hset h i ⟨m * 2, spotsC (rd lt D a' b' lim wb wp).pi.1.toList, true, own⟩) n := fun l hl => ⟨⟨(), hp2⟩, Imp.id (by simp) hl (by rw [epi]; exact (impH.base0 (hok_set hok fun k hk => spotsC_flat _ _) (by simp) HExt.rfl))⟩
        cases wb
        · simp only [go_sem, Nat.reduceLT]
          refine fin _ ?_
          simp only [go_sem, Nat.reduceLT, hFl, hi0]
          (try (repeat' apply And.intro) <;> first | omega | rfl | trivial | assumption | skip)
        · cases wp
          · simp only [go_sem, Nat.reduceLT]
            refine fin _ ?_
            simp only [go_sem, Nat.reduceLT, hFl, hi0]
            (try (repeat' apply And.intro) <;> first | omega | rfl | trivial | assumption | skip)
          · have hwh : ¬ (rd lt D a' b' lim true true).hint = .increasing := by simpa using hw
            simp only [go_sem, Nat.reduceLT, show (hintCode (rd lt D a' b' lim true true).hint = 1) = False from by rw [hint_1]; exact eq_false hwh]
            refine fin _ ?_
            simp only [go_sem, Nat.reduceLT, hFl, hi0]
            (try (repeat' apply And.intro) <;> first | omega | rfl | trivial | assumption | skip)
    rintro ⟨_, hp2⟩
    have s3' : (rd lt D a' b' lim wb wp).pi.1.size = m := s3.trans hD
    obtain ⟨E, hE⟩ : ∃ E, (rd lt D a' b' lim wb wp).pi.1 = E := ⟨_, rfl⟩
    obtain ⟨pv, hpve⟩ : ∃ x, (rd lt D a' b' lim wb wp).pivot = x := ⟨_, rfl⟩
    obtain ⟨lm, hlme⟩ : ∃ x, (rd lt D a' b' lim wb wp).lim = x := ⟨_, rfl⟩
    have cP : pv < m := by omega
    have h87e : (decide (a' > 0) && !lt (rd lt D a' b' lim wb wp).pi.1[a' - 1]! (rd lt D a' b' lim wb wp).pi.1[(rd lt D a' b' lim wb wp).pivot]!) = (decide (a' > 0) && !lt E[a' - 1]! E[pv]!) := by rw [hE, hpve]
    refine SW_seq (SW_cut hti (ι := { u : Unit // (decide (a' > 0) && !lt (rd lt D a' b' lim wb wp).pi.1[a' - 1]! (rd lt D a' b' lim wb wp).pi.1[(rd lt D a' b' lim wb wp).pivot]!) = false }) (fun _ => ([(0, .sl i 0 m cap), (1, .int .i64 ((a' : Nat) : Int)), (2, .int .i64 ((b' : Nat) : Int)), (3, .int .i64 (((rd lt D a' b' lim wb wp).lim : Nat) : Int)), (4, .fn f p G q F), (10, .bool wb), (11, .bool wp), (12, .int .i64 ((b' - a' : Nat) : Int)), (13, .int .i64 (((rd lt D a' b' lim wb wp).pivot : Nat) : Int))], hset h i ⟨m * 2, spotsC (rd lt D a' b' lim wb wp).pi.1.toList, true, own⟩, n)) trivial ?_ ?_)
    · rw [hE, hpve, hlme]
      simp only [go_sem]
      by_cases ha0 : a' = 0
      · subst ha0
        refine T_draw hti _ _ (by kernel_rfl) (by kernel_rfl) ?_
        simp only [go_sem, Nat.reduceLT, Nat.reduceSub, Int.reduceLT, show ((0 : Int) < ((0 : Nat) : Int)) = False from eq_false (by omega)]
        refine ⟨⟨(), by simp⟩, Imp.id (by simp) ?_ (impH.base0 (hok_set hok fun k hk => spotsC_flat _ _) (by simp) HExt.rfl)⟩
        simp only [go_sem, Nat.reduceLT, hFl, hi0]
        (try (repeat' apply And.intro) <;> first | omega | rfl | trivial | assumption | skip)
      have cA : a' - 1 < m := by omega
      refine T_draw hti _ _ (by kernel_rfl) (by kernel_rfl) ?_
      simp only [go_sem, Nat.reduceLT, hgi, hi0, show ((0 : Int) < (a' : Int)) = True from eq_true (by omega), w64N (a := (a' : Int) - 1) (k := a' - 1) (by omega) (by omega), ix_r cA, ix_b cA, ix_c cA, ix_r cP, ix_b cP, ix_c cP, spotsC_x, spotsC_y]
      refine (hcmp (E.toList.getD (a' - 1) (0, 0)) (E.toList.getD pv (0, 0)) _ _ _ _ (Nat.le_refl n)).A ?_
      have hl := hlt (E.toList.getD (a' - 1) (0, 0)) (E.toList.getD pv (0, 0))
      by_cases hc : cI (E.toList.getD (a' - 1) (0, 0)) (E.toList.getD pv (0, 0)) < 0
      · simp only [go_sem, Nat.reduceLT, hc]
        refine ⟨⟨(), by rw [bangL, bangL, ← hl, decide_eq_true hc]; simp⟩, Imp.id (by simp) ?_ (impH.base0 (hok_set hok fun k hk => spotsC_flat _ _) (by simp) HExt.rfl)⟩
        simp only [go_sem, Nat.reduceLT, hFl, hi0]
        (try (repeat' apply And.intro) <;> first | omega | rfl | trivial | assumption | skip)
      · have hnl : lt E[a' - 1]! E[pv]! = false := by rw [bangL, bangL, ← hl, decide_eq_false hc]
        have h87 : (decide (a' > 0) && !lt (rd lt D a' b' lim wb wp).pi.1[a' - 1]! (rd lt D a' b' lim wb wp).pi.1[(rd lt D a' b' lim wb wp).pivot]!) = true := by rw [h87e, hnl, decide_eq_true (by omega)]; rfl
        simp only [go_sem, Nat.reduceLT, hc]
        refine callA_false (partitionEq_M _ _ _ i cap E m (by rw [← hE]; exact s3') own a' b' pv f p q G F cI lt hlt (hgi _) hi0 (by omega) (by omega) g2 (by omega) hm9 hF (hcmp.nt _ _) _ ?_)
        obtain ⟨⟨mid, d4⟩, hx⟩ : ∃ z, partitionEqual lt E a' b' pv = z := ⟨_, rfl⟩
        obtain ⟨r1, r2, r3, r4, _⟩ := round_eq swo (partitionEqual_holds lt) (show 0 < a' by omega) (show a' ≤ pv by omega) (show pv < b' by omega) (show b' ≤ E.size by rw [← hE]; omega) (by rw [← hE]; exact B3) hnl hx
        rw [hx]
        simp only [go_sem, Nat.reduceLT, hset_hset]
        refine ⟨⟨((mid, b', lm), (wb, wp), d4), ⟨r2, g2, by show b' - mid ≤ b - a; omega, by show lm ≤ limit; omega⟩, r3.trans (by rw [← hE]; exact s3'), r4, ?_⟩, by show b' - mid < b' - a'; omega, ?_⟩
        · show pdq lt d4 mid b' lm wb wp = _
          rw [← hR, pdq_eq h12 hl0 hp2 h87 (by rw [hE, hpve, hx]; exact ⟨r1, r2⟩), hE, hpve, hlme, hx]
        · refine Imp.id (by simp) ?_ (impH.base0 (hok_set hok fun k hk => spotsC_flat _ _) (by simp) HExt.rfl)
          simp only [go_sem, Nat.reduceLT, hFl, hi0]
          (try (repeat' apply And.intro) <;> first | omega | rfl | trivial | assumption | skip)
    rintro ⟨_, h87⟩
    refine SW_of_T hti trivial ?_
    rw [hE, hpve, hlme]
    simp only [go_sem, Nat.reduceLT]
    refine callA_false (partition_M _ _ _ i cap E m (by rw [← hE]; exact s3') own a' b' pv f p q G F cI lt hlt (hgi _) hi0 (by omega) (by omega) g2 (by omega) hm9 hF (hcmp.nt _ _) _ ?_)
    obtain ⟨⟨mid, ap, d4⟩, hx⟩ : ∃ z, partition lt E a' b' pv = z := ⟨_, rfl⟩
    obtain ⟨r1, r2, r3, r4, r5, r6, r7⟩ := round_part swo (partition_holds lt) (show a' ≤ pv by omega) (show pv < b' by omega) (show b' ≤ E.size by rw [← hE]; omega) (by rw [← hE]; exact B3) hx
    have hd4 : d4.size = m := r3.trans (by rw [← hE]; exact s3')
    rw [hx]
    have W1 := w64N (a := (mid : Int) - (a' : Int)) (k := mid - a') (by omega) (by omega)
    have W2 := w64N (a := (b' : Int) - (mid : Int)) (k := b' - mid) (by omega) (by omega)
    have W3 : IntKind.i64.wrap (((b' - a' : Nat) : Int).tdiv 8) = (((b' - a') / 8 : Nat) : Int) := by rw [Int.tdiv_eq_ediv_of_nonneg (by omega)]; exact w64N (by omega) (by omega)
    have W4 := w64N (a := (mid : Int) + 1) (k := mid + 1) (by omega) (by omega)
    by_cases h4 : mid - a' < b' - mid
    · simp only [go_sem, Nat.reduceLT, Int.reduceEq, hset_hset, W1, W2, W3, show (((mid - a' : Nat) : Int) < ((b' - mid : Nat) : Int)) = True from eq_true (by omega)]
      refine callA_false (ih _ _ _ i cap d4 m hd4 own a' mid lm (by omega) (hgi _) hi0 r1 (by omega) hm9 (by omega) r4 hF (hcmp.nt _ _) _ ?_)
      obtain ⟨pL, sL⟩ := pdq_sorts lt swo d4 a' mid lm true true r1 (by omega) r4
      simp only [go_sem, Nat.reduceLT, hset_hset, W4]
      refine ⟨⟨((mid + 1, b', lm), (decide (mid - a' ≥ (b' - a') / 8), ap), pdq lt d4 a' mid lm true true), ⟨by show mid + 1 ≤ b'; omega, g2, by show b' - (mid + 1) ≤ b - a; omega, by show lm ≤ limit; omega⟩, pL.1.trans hd4, (r6 _ pL sL).1, ?_⟩, by show b' - (mid + 1) < b' - a'; omega, ?_⟩
      · show pdq lt (pdq lt d4 a' mid lm true true) (mid + 1) b' lm (decide (mid - a' ≥ (b' - a') / 8)) ap = _
        rw [← hR, pdq_left h12 hl0 hp2 h87 (by rw [hE, hpve, hx]; exact ⟨r1, r2⟩) (by rw [hE, hpve, hx]; exact h4), hE, hpve, hlme, hx]
      · refine Imp.id (by simp) ?_ (impH.base0 (hok_set hok fun k hk => spotsC_flat _ _) (by simp) HExt.rfl)
        simp only [go_sem, Nat.reduceLT, hFl, hi0, Int.ofNat_le, ge_iff_le]
        (try (repeat' apply And.intro) <;> first | omega | rfl | trivial | assumption | skip)
    · simp only [go_sem, Nat.reduceLT, Int.reduceEq, hset_hset, W1, W2, W3, W4, show (((mid - a' : Nat) : Int) < ((b' - mid : Nat) : Int)) = False from eq_false (by omega)]
      refine callA_false (ih _ _ _ i cap d4 m hd4 own (mid + 1) b' lm (by omega) (hgi _) hi0 (by omega) (by omega) hm9 (by omega) r5 hF (hcmp.nt _ _) _ ?_)
      obtain ⟨pL, sL⟩ := pdq_sorts lt swo d4 (mid + 1) b' lm true true (by omega) (by omega) r5
      simp only [go_sem, Nat.reduceLT, hset_hset]
      refine ⟨⟨((a', mid, lm), (decide (b' - mid ≥ (b' - a') / 8), ap), pdq lt d4 (mid + 1) b' lm true true), ⟨r1, by show mid ≤ m; omega, by show mid - a' ≤ b - a; omega, by show lm ≤ limit; omega⟩, pL.1.trans hd4, (r7 _ pL sL).1, ?_⟩, by show mid - a' < b' - a'; omega, ?_⟩
      · show pdq lt (pdq lt d4 (mid + 1) b' lm true true) a' mid lm (decide (b' - mid ≥ (b' - a') / 8)) ap = _
        rw [← hR, pdq_right h12 hl0 hp2 h87 (by rw [hE, hpve, hx]; exact ⟨r1, r2⟩) (by rw [hE, hpve, hx]; exact h4), hE, hpve, hlme, hx]
      · refine Imp.id (by simp) ?_ (impH.base0 (hok_set hok fun k hk => spotsC_flat _ _) (by simp) HExt.rfl)
        simp only [go_sem, Nat.reduceLT, hFl, hi0, Int.ofNat_le, ge_iff_le]
        (try (repeat' apply And.intro) <;> first | omega | rfl | trivial | assumption | skip)
end
end Go.Proofs.Ytddnnodkkdjniaa.V

/- Sorted lists of spots made compact; sets of spots, of whatever length. -/
namespace Go.Proofs.Ytddnnodkkdjniaa.V
section
variable (cx : Cx) (h : List (Nat × Seg)) (n : Nat)
end
end Go.Proofs.Ytddnnodkkdjniaa.V

/- The library's sort of spots, of whatever length; sets of spots. -/
namespace Go.Proofs.Ytddnnodkkdjniaa.V
open Go.Sort (pdq pdq_sorts PermIn SortedIn SWO bitsLen bitsLen_le_iff)
theorem pdq_srtS (L : List (Int × Int)) (lim : Nat) : (pdq ltSp L.toArray 0 L.length lim true true).toList = srtS L := by
  have h := pdq_sorts ltSp ltSp_swo L.toArray 0 L.length lim true true (Nat.zero_le _) (by simp) (.inl rfl)
  have := sorted_srtS (d := L.toArray) (d' := pdq ltSp L.toArray 0 L.length lim true true) (by simpa using h.1) (by simpa using h.2)
  simpa using this
theorem bitsLen_64 {m : Nat} (h : m ≤ 1000000000) : bitsLen m ≤ 1000 := by
  refine Nat.le_trans ((bitsLen_le_iff m 64).2 ?_) (by decide)
  exact Nat.lt_of_le_of_lt h (by decide)
section
variable (cx : Cx) (h : List (Nat × Seg)) (n : Nat)
/-- The library's sort of spots. -/
theorem sortFuncA_E (i cap : Nat) (L : List (Int × Int)) (own : Option (Nat × Nat)) (f p q : Nat) (G F : Nat → SV) (cI : Int × Int → Int × Int → Int) (hlt : ∀ x y, decide (cI x y < 0) = ltSp x y)
    (hs : hget h i = some ⟨L.length * 2, spotsC L, true, own⟩) (hi : i < n) (hm : L.length ≤ 1000000000) (hF : (SV.fn f p G q F).lt n) (hcmp : CmpA cx n f p q G F cI) (K : HK)
    (hK : K (.tup 0 (cl [])) (hset h i ⟨L.length * 2, spotsC (srtS L), true, own⟩) n) :
    CallE Try.prog cx 58 [.sl i 0 L.length cap, .fn f p G q F] h n K := by
  refine CallE.to _ _ (by simp only [go_sem]) (fun hok => hok_set hok fun k hk => spotsC_flat _ _) hK ?_
  refine callE_of_T (P := Try.prog) hti (nt := 14) (rs := []) rfl rfl Try.call58 Try.func58 rfl _ (by simp only [go_sem, and_self]) (Nat.le_of_ble_eq_true rfl) _ fun hok => ?_
  have hw : IntKind.u64.wrap ((L.length : Nat) : Int) = ((L.length : Nat) : Int) := by
    unfold IntKind.wrap; simp [IntKind.signed, IntKind.bits]; omega
  simp only [go_sem, Nat.reduceLT, hw]
  refine callA_false (lenx_E _ _ _ L.length (by omega) _ ?_)
  simp only [go_sem, Nat.reduceLT]
  refine callA_false (pdq_E f p q G F cI ltSp hlt ltSp_swo (L.length + 1) _ _ _ i cap L.toArray L.length (by simp) own 0 L.length (bitsLen L.length) (by omega) hs hi (Nat.zero_le _) (Nat.le_refl _) hm (bitsLen_64 hm) (.inl rfl) hF (by intro a b nt n0 h' n' hn; exact hcmp a b nt n0 h' n' hn) _ ?_)
  rw [pdq_srtS]
  simp only [go_sem]
  (try exact HExt.rfl)
end
section
variable (cx : Cx) (h : List (Nat × Seg)) (n : Nat)
end
end Go.Proofs.Ytddnnodkkdjniaa.V

/- Lists of cells: the program's own walk. -/
namespace Go.Proofs.Ytddnnodkkdjniaa.V
/-- A list of spots in memory. -/
def Sp (h : List (Nat × Seg)) (lo n : Nat) (V : SV) (L : List (Int × Int)) : Prop :=
  ∃ i cap s, V = .sl i 0 L.length cap ∧ lo ≤ i ∧ i < n ∧ hget h i = some s ∧ s.rw = true ∧ s.n = L.length * 2 ∧ L.length ≤ cap ∧ ∀ k, k < L.length * 2 → s.c k = spotsC L k
theorem Sp.out {h : List (Nat × Seg)} {lo n : Nat} {V : SV} {L : List (Int × Int)} (hA : Sp h lo n V L) : SpsOut h lo n V L := by
  obtain ⟨i, cap, s, h1, h2, h3, h4, h5, h6, h7, h8⟩ := hA
  exact .inr ⟨i, cap, s, h1, h2, h3, h4, h5, h6, h8⟩
theorem Sp.ok {h : List (Nat × Seg)} {lo n : Nat} {V : SV} {L : List (Int × Int)} (hA : Sp h lo n V L) : V.ok = True := hA.out.ok
theorem Sp.ext {h h' : List (Nat × Seg)} {lo n n' : Nat} {V : SV} {L : List (Int × Int)} (hA : Sp h lo n V L) (hn : n ≤ n') (hx : HExt n h h') : Sp h' lo n' V L := by
  obtain ⟨i, cap, s, h1, h2, h3, h4, h5⟩ := hA
  exact ⟨i, cap, s, h1, h2, by omega, hx i h3 s h4, h5⟩
theorem Sp.lo {h : List (Nat × Seg)} {lo lo' n : Nat} {V : SV} {L : List (Int × Int)} (hA : Sp h lo n V L) (hl : lo' ≤ lo) : Sp h lo' n V L := by
  obtain ⟨i, cap, s, h1, h2, h3⟩ := hA
  exact ⟨i, cap, s, h1, by omega, h3⟩
theorem Sp.lt {h : List (Nat × Seg)} {lo n : Nat} {V : SV} {L : List (Int × Int)} (hA : Sp h lo n V L) : V.lt n := by
  obtain ⟨i, cap, s, rfl, h2, h3, _⟩ := hA
  exact h3
theorem HOk.consF {n : Nat} {h : List (Nat × Seg)} {s : Seg} (hok : HOk n h) (hs : ∀ k, k < s.n → (s.c k).flat) : HOk (n + 1) ((n, s) :: h) := fun i t hi => by
  simp only [hget] at hi
  by_cases e : n = i
  · rw [if_pos e] at hi; cases hi
    exact ⟨by omega, fun k hk => (hs k hk).below _⟩
  · rw [if_neg e] at hi
    obtain ⟨g1, g2⟩ := hok i t hi
    exact ⟨by omega, fun k hk => SV.lt_mono (by omega) _ (g2 k hk)⟩
theorem HOk.hdel {n j : Nat} {h : List (Nat × Seg)} (hok : HOk n h) : HOk n (hdel h j) := fun i t hi => by
  rw [hget_hdel] at hi
  split at hi
  · cases hi
  · exact hok i t hi
theorem any_fst4 (p : Int → Int → Bool) (L : List (Int × Int)) : decide (0 ≤ fst4 p L) = L.any fun a => p a.1 a.2 := by
  by_cases h : fst4 p L = -1
  · have := fst4_none h
    rw [h]
    refine Eq.symm (List.any_eq_false.2 fun a ha => ?_)
    obtain ⟨j, hj, rfl⟩ := List.mem_iff_getElem.1 ha
    have := this j hj
    rw [List.getD_eq_getElem?_getD, List.getElem?_eq_getElem hj, Option.getD_some] at this
    rw [this]; decide
  · obtain ⟨h0, h1, h2, _⟩ := fst4_some h
    rw [decide_eq_true h0]
    refine Eq.symm (List.any_eq_true.2 ⟨_, ?_, h2⟩)
    rw [List.getD_eq_getElem?_getD, List.getElem?_eq_getElem (show (fst4 p L).toNat < L.length by omega)]
    exact List.getElem_mem _
theorem spots_at {L : List (Int × Int)} {j : Nat} (hj : j < L.length) : L.getD j (0, 0) ∈ L := by
  rw [List.getD_eq_getElem?_getD, List.getElem?_eq_getElem hj]; exact List.getElem_mem hj
section
variable (cx : Cx) (h : List (Nat × Seg)) (n : Nat)
end
end Go.Proofs.Ytddnnodkkdjniaa.V

/- Lists of cells: the program's own walk, on. -/
namespace Go.Proofs.Ytddnnodkkdjniaa.V
def eqP (a : Int × Int) : Int → Int → Bool := fun x y => decide (a.1 = x) && decide (a.2 = y)
theorem eqP_iff {a b : Int × Int} : eqP a b.1 b.2 = true ↔ a = b := by simp [eqP, Prod.ext_iff]
theorem any_eqP (a : Int × Int) (L : List (Int × Int)) : (L.any fun b => eqP a b.1 b.2) = decide (a ∈ L) := by
  rw [Bool.eq_iff_iff, List.any_eq_true, decide_eq_true_eq]
  exact ⟨fun ⟨b, hb, e⟩ => (eqP_iff.1 e) ▸ hb, fun h => ⟨a, h, eqP_iff.2 rfl⟩⟩
section
variable (cx : Cx) (h : List (Nat × Seg)) (n : Nat)
theorem indexSp_Q (i m cap : Nat) (L : List (Int × Int)) (s : Seg) (a : Int × Int) (r : Int)
    (hs : hget h i = some s) (hi : i < n) (hm : L.length = m) (hm9 : m ≤ 1000000000) (hn : m * 2 ≤ s.n) (hc : ∀ k, k < m * 2 → s.c k = spotsC L k)
    (hr0 : r = -1 → ∀ j, j < m → eqP a (L.getD j (0, 0)).1 (L.getD j (0, 0)).2 = false) (hr1 : r ≠ -1 → 0 ≤ r ∧ r < m ∧ eqP a (L.getD r.toNat (0, 0)).1 (L.getD r.toNat (0, 0)).2 = true ∧ ∀ j : Nat, (j : Int) < r → eqP a (L.getD j (0, 0)).1 (L.getD j (0, 0)).2 = false) :
    CallQ Try.prog cx 61 [.sl i 0 m cap, spot a.1 a.2] h n (.int .i64 r) := by
  have hni : n ≠ i := by omega
  refine callQ_of_T (P := Try.prog) hti (nt := 19) (rs := [.tmp 4]) rfl rfl Try.call61 Try.func61 rfl _ (by simp only [go_sem, and_self]) (Nat.le_of_ble_eq_true rfl) _ (by first | exact trivial | (refine lt_flat rfl ?_; simp [SV.flat]; done) | simp only [go_sem]) fun hok => ?_
  simp only [go_sem, Nat.reduceLT, Int.reduceNeg]
  refine T_lp (ι := { j : Nat // j ≤ m ∧ ∀ k, k < j → eqP a (L.getD k (0, 0)).1 (L.getD k (0, 0)).2 = false })
    (fun j => ([(0, .sl i 0 m cap), (3, .ptr n 0), (7, .int .i64 m), (8, .int .i64 j.1)], (n, ⟨2, cl [.int .i8 a.1, .int .i8 a.2], true, none⟩) :: h, n + 1)) (fun j => m - j.1) ⟨0, by simp⟩ ?_ ?_
  · refine Imp.id (by simp) ?_ (impH.base0 (hok.consF fun k hk => pair_flat _ _ hk) (Nat.le_refl _) HExt.rfl)
    simp only [go_sem, Nat.reduceLT]
    (try (repeat' apply And.intro) <;> first | omega | rfl | trivial | assumption | skip)
  · rintro ⟨j, hj, hall⟩
    simp only [go_sem, Nat.reduceLT, Int.reduceNeg, decide_eq_true_eq, decide_eq_false_iff_not]
    refine ⟨fun h1 => ?_, fun h1 => ?_⟩
    · have r1 : (0 : Int) ≤ j ∧ (j : Int) < m := ⟨by omega, by omega⟩
      have b1 : j * 2 ≤ s.n - 2 := by omega
      have b2 : 2 ≤ s.n := by omega
      have b3 : j * 2 + 2 ≤ s.n := by omega
      refine T_draw hti _ _ (by kernel_rfl) (by kernel_rfl) ?_
      simp only [go_sem, Nat.reduceLT, Nat.reduceLeDiff, Nat.reduceMod, Int.reduceNeg, hs, hi, hni, r1, b1, b2, b3, hc (j * 2) (by omega), hc (j * 2 + 1) (by omega), spotsC_x, spotsC_y]
      refine ⟨fun h2 => ?_, fun h2 => ⟨⟨j + 1, by omega, fun k hk => ?_⟩, by show m - (j + 1) < m - j; omega, ?_⟩⟩
      · rcases (by omega : r = -1 ∨ r ≠ -1) with hr | hr
        · have := hr0 hr j (by omega)
          rw [eqP, h2] at this; cases this
        · obtain ⟨r0, r1, r2, r3⟩ := hr1 hr
          rcases (by omega : (j : Int) < r ∨ r < j ∨ r = j) with h | h | h
          · have := r3 j h
            rw [eqP, h2] at this; cases this
          · have := hall r.toNat (by omega)
            rw [r2] at this; cases this
          · rw [h]
      · rcases (by omega : k < j ∨ k = j) with h | rfl
        · exact hall k h
        · exact h2
      · refine Imp.id (by simp) ?_ (impH.base0 (hok.consF fun k hk => pair_flat _ _ hk) (Nat.le_refl _) HExt.rfl)
        simp only [go_sem, Nat.reduceLT, w64N (a := (j : Int) + 1) (k := j + 1) (by omega) (by omega)]
        (try (repeat' apply And.intro) <;> first | omega | rfl | trivial | assumption | skip)
    · rcases (by omega : r = -1 ∨ r ≠ -1) with hr | hr
      · rw [hr]
      · obtain ⟨r0, r1, r2, r3⟩ := hr1 hr
        have := hall r.toNat (by omega)
        rw [r2] at this; cases this
theorem containsSp_Q (V : SV) (L : List (Int × Int)) (lo : Nat) (a : Int × Int) (hV : Sp h lo n V L) (hm9 : L.length ≤ 1000000000) :
    CallQ Try.prog cx 57 [V, spot a.1 a.2] h n (.bool (decide (a ∈ L))) := by
  obtain ⟨j, cap, t, rfl, h2, h3, h4, h5, h6, h7, h8⟩ := hV
  have hnj : n ≠ j := by omega
  refine callQ_of_T (P := Try.prog) hti (nt := 9) (rs := [.tmp 4]) rfl rfl Try.call57 Try.func57 rfl _ (by simp only [go_sem, and_self]) (Nat.le_of_ble_eq_true rfl) _ (by first | exact trivial | (refine lt_flat rfl ?_; simp [SV.flat]; done) | simp only [go_sem]) fun hok => ?_
  simp only [go_sem, Nat.reduceLT]
  refine (indexSp_Q _ _ _ j L.length cap L t a (fst4 (eqP a) L) (by simp only [go_sem, h4, h3]) (by omega) rfl (by omega) (by omega) h8 (fun h => fst4_none h) (fun h => fst4_some h)).A ?_
  simp only [go_sem, Nat.reduceLT, ge_iff_le, any_fst4, any_eqP, HExt_cons]
end
end Go.Proofs.Ytddnnodkkdjniaa.V

/- Spreads: the program's own walk. -/
namespace Go.Proofs.Ytddnnodkkdjniaa.V
/-- A list to which one may append. -/
def SpO (h : List (Nat × Seg)) (lo n : Nat) (V : SV) (L : List (Int × Int)) : Prop :=
  ∃ j cap s, V = .sl j 0 L.length cap ∧ lo ≤ j ∧ j < n ∧ hget h j = some s ∧ s.own = some (50, cap * 2) ∧ s.rw = true ∧ s.n = L.length * 2 ∧ L.length ≤ cap ∧ cap ≤ maxLen ∧ ∀ k, k < L.length * 2 → s.c k = spotsC L k
theorem SpO.sp {h : List (Nat × Seg)} {lo n : Nat} {V : SV} {L : List (Int × Int)} (hA : SpO h lo n V L) : Sp h lo n V L := by
  obtain ⟨i, cap, s, h1, h2, h3, h4, h5, h6, h7, h8, h9, h10⟩ := hA
  exact ⟨i, cap, s, h1, h2, h3, h4, h6, h7, h8, h10⟩
theorem both_sp (A B : List (Int × Int)) {c d : Nat → SV} {o : Nat} (hc : ∀ k, k < A.length * 2 → c k = spotsC A k) (hd : ∀ k, k < B.length * 2 → d (o + k) = spotsC B k) {k : Nat} (hk : k < (A ++ B).length * 2) : both (A.length * 2) c (news d o) k = spotsC (A ++ B) k := by
  rw [List.length_append] at hk
  unfold both news
  split
  · rename_i h; rw [hc k h, spotsC_take (b := B) h]
  · rename_i h
    rw [hd _ (by omega)]
    unfold spotsC
    have e : (A ++ B).getD (k / 2) (0, 0) = B.getD ((k - A.length * 2) / 2) (0, 0) := by
      rw [List.getD_eq_getElem?_getD, List.getD_eq_getElem?_getD, List.getElem?_append_right (by omega)]
      congr 2; omega
    rw [e, show (k - A.length * 2) % 2 = k % 2 by omega]
section
variable (cx : Cx) (h : List (Nat × Seg)) (n : Nat)
end
end Go.Proofs.Ytddnnodkkdjniaa.V

/- Lists of lists of spots: made, compared, marked, looked at again. -/
namespace Go.Proofs.Ytddnnodkkdjniaa.V
abbrev LSp := List (Int × Int)
/-- A row of spots. -/
structure RowAt (h : List (Nat × Seg)) (i : Nat) (L : LSp) : Prop where
  row : ∃ s, hget h i = some s ∧ s.rw = true ∧ s.n = L.length * 2 ∧ ∀ k, k < L.length * 2 → s.c k = spotsC L k
/-- A list of lists of spots: the outer row at j, the inner rows at names r k. -/
structure Lss (h : List (Nat × Seg)) (lo n j cap : Nat) (sc : Nat → SV) (r cp : Nat → Nat) (LL : List LSp) : Prop where
  jlo : lo ≤ j
  lt : j < n
  seg : hget h j = some ⟨LL.length, sc, true, some (46, cap)⟩
  le : LL.length ≤ cap
  cap : cap ≤ maxLen
  rlo : ∀ k, k < LL.length → lo ≤ r k
  rlt : ∀ k, k < LL.length → r k < n
  rj : ∀ k, k < LL.length → r k ≠ j
  cell : ∀ k, k < LL.length → sc k = .sl (r k) 0 (LL.getD k []).length (cp k)
  row : ∀ k, k < LL.length → RowAt h (r k) (LL.getD k [])
  dis : ∀ k k', k < k' → k' < LL.length → r k < r k'
theorem Lss.mono {h h' : List (Nat × Seg)} {lo n n' j cap : Nat} {sc : Nat → SV} {r cp : Nat → Nat} {LL : List LSp} (S : Lss h lo n j cap sc r cp LL) (hn : n ≤ n') (hx : ∀ i, lo ≤ i → i < n → ∀ t, hget h i = some t → hget h' i = some t) : Lss h' lo n' j cap sc r cp LL :=
  ⟨S.jlo, by have := S.lt; omega, hx _ S.jlo S.lt _ S.seg, S.le, S.cap, S.rlo, fun k hk => by have := S.rlt k hk; omega, S.rj, S.cell, fun k hk => by
    obtain ⟨s, a1, a2⟩ := (S.row k hk).row
    exact ⟨s, hx _ (S.rlo k hk) (S.rlt k hk) _ a1, a2⟩, S.dis⟩
theorem Lss.mlo {h : List (Nat × Seg)} {lo lo' n j cap : Nat} {sc : Nat → SV} {r cp : Nat → Nat} {LL : List LSp} (S : Lss h lo n j cap sc r cp LL) (hl : lo' ≤ lo) : Lss h lo' n j cap sc r cp LL :=
  ⟨by have := S.jlo; omega, S.lt, S.seg, S.le, S.cap, fun k hk => by have := S.rlo k hk; omega, S.rlt, S.rj, S.cell, S.row, S.dis⟩
theorem Lss.sps {h : List (Nat × Seg)} {lo n j cap : Nat} {sc : Nat → SV} {r cp : Nat → Nat} {LL : List LSp} (S : Lss h lo n j cap sc r cp LL) {k : Nat} (hk : k < LL.length) : SpsOut h lo n (sc k) (LL.getD k []) := by
  obtain ⟨s, a1, a2, a3, a4⟩ := (S.row k hk).row
  exact .inr ⟨r k, cp k, s, S.cell k hk, S.rlo k hk, S.rlt k hk, a1, a2, a3, a4⟩
/-- A list of lists of spots that a call has made. -/
def LssOut (h : List (Nat × Seg)) (lo n : Nat) (V : SV) (LL : List LSp) : Prop :=
  (V = .nils ∧ LL = []) ∨ ∃ (j cap : Nat) (sc : Nat → SV) (r cp : Nat → Nat), V = .sl j 0 LL.length cap ∧ Lss h lo n j cap sc r cp LL
theorem LssOut.ok {h : List (Nat × Seg)} {lo n : Nat} {V : SV} {LL : List LSp} (hA : LssOut h lo n V LL) : V.ok = True := by
  rcases hA with ⟨rfl, rfl⟩ | ⟨j, cap, sc, r, cp, rfl, _⟩ <;> rfl
theorem LssOut.ext {h h' : List (Nat × Seg)} {lo n n' : Nat} {V : SV} {LL : List LSp} (hA : LssOut h lo n V LL) (hn : n ≤ n') (hx : HExt n h h') : LssOut h' lo n' V LL := by
  rcases hA with h1 | ⟨j, cap, sc, r, cp, e, S⟩
  · exact .inl h1
  · exact .inr ⟨j, cap, sc, r, cp, e, S.mono hn fun i _ hi => hx i hi⟩
theorem LssOut.mono {h h' : List (Nat × Seg)} {lo n n' : Nat} {V : SV} {LL : List LSp} (hA : LssOut h lo n V LL) (hn : n ≤ n') (hx : ∀ i, lo ≤ i → i < n → ∀ t, hget h i = some t → hget h' i = some t) : LssOut h' lo n' V LL := by
  rcases hA with h1 | ⟨j, cap, sc, r, cp, e, S⟩
  · exact .inl h1
  · exact .inr ⟨j, cap, sc, r, cp, e, S.mono hn hx⟩
theorem LssOut.mlo {h : List (Nat × Seg)} {lo lo' n : Nat} {V : SV} {LL : List LSp} (hA : LssOut h lo n V LL) (hl : lo' ≤ lo) : LssOut h lo' n V LL := by
  rcases hA with h1 | ⟨j, cap, sc, r, cp, e, S⟩
  · exact .inl h1
  · exact .inr ⟨j, cap, sc, r, cp, e, S.mlo hl⟩
/-- How many spots the first lists have. -/
def totN (LL : List LSp) : Nat → Nat
  | 0 => 0
  | q + 1 => totN LL q + (LL.getD q []).length
theorem totN_le {LL : List LSp} (h : ∀ k, (LL.getD k []).length ≤ 64) (q : Nat) : totN LL q ≤ 64 * q := by
  induction q with
  | zero => exact Nat.le_refl _
  | succ q ih => have := h q; unfold totN; omega
/-- A row whose cells bear marks from a number on. -/
def HeldAt (h : List (Nat × Seg)) (i len : Nat) (b : Int) : Prop :=
  ∃ s, hget h i = some s ∧ s.n = len * 2 ∧ ∀ k : Nat, k < len → s.c (k * 2) = .int .i8 (IntKind.i8.wrap (b + 2 * (k : Int))) ∧ s.c (k * 2 + 1) = .int .i8 (IntKind.i8.wrap (b + 2 * (k : Int) + 1))
/-- Lists of lists that were marked. -/
def LssHeld (h : List (Nat × Seg)) (lo n : Nat) (V : SV) (LL : List LSp) : Prop :=
  (V = .nils ∧ LL = []) ∨ ∃ (j cap : Nat) (sc : Nat → SV) (r cp : Nat → Nat) (sr : Bool) (so : Option (Nat × Nat)), V = .sl j 0 LL.length cap ∧ lo ≤ j ∧ j < n ∧ hget h j = some ⟨LL.length, sc, sr, so⟩ ∧ (∀ k, k < LL.length → lo ≤ r k) ∧ (∀ k, k < LL.length → r k < n) ∧ (∀ k, k < LL.length → sc k = .sl (r k) 0 (LL.getD k []).length (cp k)) ∧
    ∀ k, k < LL.length → HeldAt h (r k) (LL.getD k []).length (1 + 2 * (totN LL k : Int))
theorem LssHeld.ext {h h' : List (Nat × Seg)} {lo n n' : Nat} {V : SV} {LL : List LSp} (hA : LssHeld h lo n V LL) (hn : n ≤ n') (hx : HExt n h h') : LssHeld h' lo n' V LL := by
  rcases hA with h1 | ⟨j, cap, sc, r, cp, sr, so, e, a1, a2, a3, a4, a5, a6, a7⟩
  · exact .inl h1
  · refine .inr ⟨j, cap, sc, r, cp, sr, so, e, a1, by omega, hx _ a2 _ a3, a4, fun k hk => by have := a5 k hk; omega, a6, fun k hk => ?_⟩
    obtain ⟨s, b1, b2⟩ := a7 k hk
    exact ⟨s, hx _ (a5 k hk) _ b1, b2⟩
section
variable (cx : Cx) (h : List (Nat × Seg)) (n : Nat)
theorem eqSpotSS_Q (V V' : SV) (LL : List LSp) (lo lo' : Nat) (hA : LssOut h lo n V LL) (hA' : LssOut h lo' n V' LL) (hm9 : LL.length ≤ 64) (hm8 : ∀ k, (LL.getD k []).length ≤ 64) :
    CallQ Try.prog cx 8 [V, V'] h n (.bool true) := by
  rcases hA with ⟨rfl, rfl⟩ | ⟨j, cap, sc, r, cp, rfl, S⟩ <;> rcases hA' with ⟨rfl, hL⟩ | ⟨j', cap', sc', r', cp', rfl, S'⟩
  · refine callQ_of_T (P := Try.prog) hti (nt := 27) (rs := [.tmp 4]) rfl rfl Try.call8 Try.func8 rfl _ (by simp only [go_sem, and_self]) (Nat.le_of_ble_eq_true rfl) _ (by first | exact trivial | (refine lt_flat rfl ?_; simp [SV.flat]; done) | simp only [go_sem]) fun hok => ?_
    simp only [go_sem, Nat.reduceLT]
    refine T_unroll 0 ?_
    simp only [go_sem, Nat.reduceLT, Int.reduceLT]
  · refine callQ_of_T (P := Try.prog) hti (nt := 27) (rs := [.tmp 4]) rfl rfl Try.call8 Try.func8 rfl _ (by simp only [go_sem, and_self]) (Nat.le_of_ble_eq_true rfl) _ (by first | exact trivial | (refine lt_flat rfl ?_; simp [SV.flat]; done) | simp only [go_sem]) fun hok => ?_
    simp only [go_sem, Nat.reduceLT]
    refine T_unroll 0 ?_
    simp only [go_sem, Nat.reduceLT, Int.reduceLT]
  · subst hL
    refine callQ_of_T (P := Try.prog) hti (nt := 27) (rs := [.tmp 4]) rfl rfl Try.call8 Try.func8 rfl _ (by simp only [go_sem, and_self]) (Nat.le_of_ble_eq_true rfl) _ (by first | exact trivial | (refine lt_flat rfl ?_; simp [SV.flat]; done) | simp only [go_sem]) fun hok => ?_
    simp only [go_sem, Nat.reduceLT]
    refine T_unroll 0 ?_
    simp only [go_sem, Nat.reduceLT, Int.reduceLT]
  · have hj := S.lt
    have hs := S.seg
    have hj' := S'.lt
    have hs' := S'.seg
    refine callQ_of_T (P := Try.prog) hti (nt := 27) (rs := [.tmp 4]) rfl rfl Try.call8 Try.func8 rfl _ (by simp only [go_sem, and_self]) (Nat.le_of_ble_eq_true rfl) _ (by first | exact trivial | (refine lt_flat rfl ?_; simp [SV.flat]; done) | simp only [go_sem]) fun hok => ?_
    simp only [go_sem, Nat.reduceLT]
    refine T_lp (ι := { q : Nat // q ≤ LL.length }) (fun q => ([(0, .sl j 0 LL.length cap), (1, .sl j' 0 LL.length cap'), (5, .int .i64 q.1)], h, n)) (fun q => LL.length - q.1) ⟨0, by omega⟩ ?_ ?_
    · refine Imp.id (by simp) ?_ (impH.base0 hok (by simp) HExt.rfl)
      simp only [go_sem, Nat.reduceLT]
      exact ⟨hj, hj'⟩
    · rintro ⟨q, hq⟩
      simp only [go_sem, Nat.reduceLT, decide_eq_true_eq, decide_eq_false_iff_not]
      refine ⟨fun h1 => ?_, fun h1 => ?_⟩
      · have r1 : (0 : Int) ≤ q ∧ (q : Int) < LL.length := ⟨by omega, by omega⟩
        have hqL : q < LL.length := by omega
        have b1 : q ≤ LL.length - 1 := by omega
        have b2 : 1 ≤ LL.length := by omega
        have b3 : q + 1 ≤ LL.length := by omega
        have e1 := S.cell q hqL
        have e2 := S'.cell q hqL
        have I1 := S.sps hqL
        have I2 := S'.sps hqL
        rw [e1] at I1
        rw [e2] at I2
        refine T_draw hti _ _ (by kernel_rfl) (by kernel_rfl) ?_
        simp only [go_sem, Nat.reduceLT, hs, hj, hs', hj', r1, b1, b2, b3, e1, e2, Nat.mul_one]
        refine (eqSpots_Q _ _ _ _ _ _ _ _ I1 I2 (by have := hm8 q; omega)).A ?_
        simp only [go_sem, Nat.reduceLT]
        refine ⟨⟨q + 1, by omega⟩, by show LL.length - (q + 1) < LL.length - q; omega, ?_⟩
        refine Imp.id (by simp) ?_ (impH.base0 hok (by simp) HExt.rfl)
        simp only [go_sem, Nat.reduceLT, w64N (a := (q : Int) + 1) (k := q + 1) (by omega) (by omega)]
        exact ⟨hj, hj'⟩
      · simp only [go_sem]
theorem markB_E (i cap : Nat) (L : LSp) (b : Int) (hb : 0 ≤ b ∧ b ≤ 1000000) (s : Seg) (hs : hget h i = some s) (hi : i < n) (hrw : s.rw = true) (hn : s.n = L.length * 2) (hc : ∀ k, k < L.length * 2 → s.c k = spotsC L k) (hm9 : L.length ≤ 1000000) (K : HK)
    (hK : ∀ h', HOk n h' → (∀ z, z ≠ i → hget h' z = hget h z) → HeldAt h' i L.length b → K (.int .i64 (b + 2 * L.length)) h' n) :
    CallE Try.prog cx 25 [.sl i 0 L.length cap, .int .i64 b] h n K := by
  refine CallE.hokE ?_
  have hfl0 : ∀ k, k < s.n → (s.c k).flat := fun k hk => by rw [hc k (by omega)]; exact spotsC_flat _ _
  refine callE_of_T (P := Try.prog) hti (nt := 29) (rs := [.tmp 4]) rfl rfl Try.call25 Try.func25 rfl _ (by simp only [go_sem, and_self]) (Nat.le_of_ble_eq_true rfl) _ fun hok => ?_
  simp only [go_sem, Nat.reduceLT]
  refine T_lp (ι := { w : Nat × (Nat → SV) // w.1 ≤ L.length ∧ (∀ k, k < s.n → (w.2 k).flat) ∧ ∀ k : Nat, k < w.1 → w.2 (k * 2) = .int .i8 (IntKind.i8.wrap (b + 2 * (k : Int))) ∧ w.2 (k * 2 + 1) = .int .i8 (IntKind.i8.wrap (b + 2 * (k : Int) + 1)) })
    (fun w => ([(0, .sl i 0 L.length cap), (1, .int .i64 (b + 2 * w.1.1)), (5, .int .i64 w.1.1)], hset h i ⟨s.n, w.1.2, true, s.own⟩, n)) (fun w => L.length - w.1.1) ⟨(0, s.c), by simp, hfl0, fun k hk => absurd hk (Nat.not_lt_zero k)⟩ ?_ ?_
  · refine Imp.id (by simp) ?_ ?_
    · simp only [go_sem, Nat.reduceLT, Int.mul_zero, Int.add_zero]
      exact hi
    · have e : hset h i ⟨s.n, s.c, true, s.own⟩ = hset h i s := by rw [← hrw]
      rw [e]
      exact impH.set0 hok (Nat.le_refl _) hs (fun j hj hji t ht => ht) hs (SegLe.flat (Nat.le_refl _) id (.inr rfl) fun k hk => ⟨rfl, hfl0 k hk⟩)
  · rintro ⟨⟨q, c⟩, hq, hfl, hmk⟩
    simp only at hq hfl hmk
    simp only [go_sem, Nat.reduceLT, reduceCtorEq, decide_eq_true_eq, decide_eq_false_iff_not]
    refine ⟨fun h1 => ?_, fun h1 => ?_⟩
    · have r1 : (0 : Int) ≤ q ∧ (q : Int) < L.length := ⟨by omega, by omega⟩
      have b1 : q * 2 ≤ s.n - 2 := by omega
      have b2 : q * 2 ≤ s.n - 1 := by omega
      have b3 : q * 2 + 1 ≤ s.n - 1 := by omega
      have b4 : q * 2 + 2 ≤ s.n := by omega
      have b5 : 2 ≤ s.n := by omega
      have b6 : 1 ≤ s.n := by omega
      have hg : ∀ c, hget (hset h i ⟨s.n, c, true, s.own⟩) i = some ⟨s.n, c, true, s.own⟩ := fun c => hget_hset_self hs _
      simp only [go_sem, Nat.reduceLT, reduceIte, reduceCtorEq, hg, hi, r1, b1, b2, b3, b4, b5, b6, w64 (n := b + 2 * (q : Int) + 1) (by omega)]
      have hf1 := wr_flat (N := s.n) (o := q * 2) (v := .int .i8 (IntKind.i8.wrap (b + 2 * (q : Int)))) trivial hfl
      have hf2 : ∀ k, k < s.n → ((upd (if q * 2 = 0 ∧ 1 = s.n then cl [.int .i8 (IntKind.i8.wrap (b + 2 * (q : Int)))] else upd c (q * 2) (.int .i8 (IntKind.i8.wrap (b + 2 * (q : Int))))) (q * 2 + 1) (.int .i8 (IntKind.i8.wrap (b + 2 * (q : Int) + 1)))) k).flat := fun k hk => by
        unfold upd; split
        · trivial
        · exact hf1 k hk
      refine ⟨by omega, ⟨(q + 1, _), by show q + 1 ≤ L.length; omega, hf2, fun k hk => ?_⟩, by show L.length - (q + 1) < L.length - q; omega, ?_⟩
      · obtain ⟨u1, u2, u3⟩ := upd2_at (N := s.n) (q := q) c (.int .i8 (IntKind.i8.wrap (b + 2 * (q : Int)))) (.int .i8 (IntKind.i8.wrap (b + 2 * (q : Int) + 1))) b5
        by_cases hkq : k = q
        · subst hkq; exact ⟨u1, u2⟩
        · have hk' : k < q := by have : k < q + 1 := hk; omega
          exact ⟨(u3 _ (by omega) (by omega)).trans (hmk k hk').1, (u3 _ (by omega) (by omega)).trans (hmk k hk').2⟩
      refine Imp.id (by simp) ?_ (impH.base0 (hok_set hok hf2) (by simp) HExt.rfl)
      simp only [go_sem, Nat.reduceLT, w64 (n := (q : Int) + 1) (by omega), w64 (n := b + 2 * (q : Int) + 1 + 1) (by omega), Int.natCast_add, Int.natCast_one]
      exact ⟨hi, by rw [show (b + 2 * (q : Int) + 1 + 1) = b + 2 * ((q : Int) + 1) by omega]⟩
    · have hq' : q = L.length := by omega
      subst hq'
      refine fun hok' => hK _ hok' (fun z hz => ?_) ⟨_, hget_hset_self hs _, hn, hmk⟩
      rw [hget_hset, if_neg (Ne.symm hz)]
theorem heldB_Q (i cap len : Nat) (b : Int) (hb : 0 ≤ b ∧ b ≤ 1000000) (hA : HeldAt h i len b) (hi : i < n) (hm9 : len ≤ 1000000) :
    CallQ Try.prog cx 26 [.sl i 0 len cap, .int .i64 b] h n (.int .i64 (b + 2 * len)) := by
  obtain ⟨s, hs, hn, hc⟩ := hA
  refine callQ_of_T (P := Try.prog) hti (nt := 33) (rs := [.tmp 4]) rfl rfl Try.call26 Try.func26 rfl _ (by simp only [go_sem, and_self]) (Nat.le_of_ble_eq_true rfl) _ (by first | exact trivial | (refine lt_flat rfl ?_; simp [SV.flat]; done) | simp only [go_sem]) fun hok => ?_
  simp only [go_sem, Nat.reduceLT, Int.reduceNeg]
  refine T_lp (ι := { q : Nat // q ≤ len }) (fun q => ([(0, .sl i 0 len cap), (1, .int .i64 (b + 2 * q.1)), (5, .int .i64 q.1)], h, n)) (fun q => len - q.1) ⟨0, by omega⟩ ?_ ?_
  · refine Imp.id (by simp) ?_ (impH.base0 hok (by simp) HExt.rfl)
    simp only [go_sem, Nat.reduceLT, Int.mul_zero, Int.add_zero]
    exact hi
  · rintro ⟨q, hq⟩
    simp only [go_sem, Nat.reduceLT, reduceCtorEq, Int.reduceNeg, decide_eq_true_eq, decide_eq_false_iff_not]
    refine ⟨fun h1 => ?_, fun h1 => ?_⟩
    · have r1 : (0 : Int) ≤ q ∧ (q : Int) < len := ⟨by omega, by omega⟩
      have b1 : q * 2 ≤ s.n - 2 := by omega
      have b2 : q * 2 ≤ s.n - 1 := by omega
      have b3 : q * 2 + 1 ≤ s.n - 1 := by omega
      have b5 : 2 ≤ s.n := by omega
      have b6 : 1 ≤ s.n := by omega
      obtain ⟨e1, e2⟩ := hc q (by omega)
      simp only [go_sem, Nat.reduceLT, reduceCtorEq, Int.reduceNeg, hs, hi, r1, b1, b2, b3, b5, b6, e1, e2, w64 (n := b + 2 * (q : Int) + 1) (by omega)]
      refine ⟨by omega, by omega, ⟨q + 1, by omega⟩, by show len - (q + 1) < len - q; omega, ?_⟩
      refine Imp.id (by simp) ?_ (impH.base0 hok (by simp) HExt.rfl)
      simp only [go_sem, Nat.reduceLT, w64 (n := (q : Int) + 1) (by omega), w64 (n := b + 2 * (q : Int) + 1 + 1) (by omega), Int.natCast_add, Int.natCast_one]
      exact ⟨hi, by rw [show (b + 2 * (q : Int) + 1 + 1) = b + 2 * ((q : Int) + 1) by omega]⟩
    · have hq' : q = len := by omega
      subst hq'
      simp only [go_sem]
theorem markSS_E (V : SV) (LL : List LSp) (lo : Nat) (hA : LssOut h lo n V LL) (hm9 : LL.length ≤ 64) (hm8 : ∀ k, (LL.getD k []).length ≤ 64) (K : HK)
    (hK : ∀ h', HOk n h' → (∀ m h0, m ≤ lo → HExt m h0 h → HExt m h0 h') → LssHeld h' lo n V LL → K (.int .i64 (1 + 2 * totN LL LL.length)) h' n) :
    CallE Try.prog cx 9 [V, .int .i64 1] h n K := by
  refine CallE.hokE ?_
  rcases hA with ⟨rfl, rfl⟩ | ⟨j, cap, sc, r, cp, rfl, S⟩
  · refine callE_of_T (P := Try.prog) hti (nt := 19) (rs := [.tmp 4]) rfl rfl Try.call9 Try.func9 rfl _ (by simp only [go_sem, and_self]) (Nat.le_of_ble_eq_true rfl) _ fun hok => ?_
    simp only [go_sem, Nat.reduceLT]
    refine T_unroll 0 ?_
    simp only [go_sem, Nat.reduceLT, Int.reduceLT]
    exact fun hok' => hK h hok' (fun m h0 _ hx => hx) (.inl ⟨rfl, rfl⟩)
  · have hj := S.lt
    have hlo := S.jlo
    refine callE_of_T (P := Try.prog) hti (nt := 19) (rs := [.tmp 4]) rfl rfl Try.call9 Try.func9 rfl _ (by simp only [go_sem, and_self]) (Nat.le_of_ble_eq_true rfl) _ fun hok => ?_
    simp only [go_sem, Nat.reduceLT]
    refine T_lp (ι := { w : Nat × List (Nat × Seg) // w.1 ≤ LL.length ∧ HOk n w.2 ∧ (∀ z, (∀ k, k < w.1 → z ≠ r k) → hget w.2 z = hget h z) ∧ ∀ k, k < w.1 → HeldAt w.2 (r k) (LL.getD k []).length (1 + 2 * (totN LL k : Int)) })
      (fun w => ([(0, .sl j 0 LL.length cap), (1, .int .i64 (1 + 2 * (totN LL w.1.1 : Int))), (5, .int .i64 w.1.1)], w.1.2, n)) (fun w => LL.length - w.1.1) ⟨(0, h), Nat.zero_le _, hok, fun z _ => rfl, fun k hk => absurd hk (Nat.not_lt_zero k)⟩ ?_ ?_
    · refine Imp.id (by simp) ?_ (impH.base0 hok (by simp) HExt.rfl)
      simp only [go_sem, Nat.reduceLT, Int.reduceAdd, Int.reduceMul, totN]
      exact hj
    rintro ⟨⟨q, hq⟩, I1, I2, I3, I4⟩
    simp only at I1 I2 I3 I4
    simp only [go_sem, Nat.reduceLT, decide_eq_true_eq, decide_eq_false_iff_not]
    refine ⟨fun h1 => ?_, fun h1 => ?_⟩
    · have r1 : (0 : Int) ≤ q ∧ (q : Int) < LL.length := ⟨by omega, by omega⟩
      have hqL : q < LL.length := by omega
      have b1 : q ≤ LL.length - 1 := by omega
      have b2 : 1 ≤ LL.length := by omega
      have b3 : q + 1 ≤ LL.length := by omega
      have e1 := S.cell q hqL
      have hs : hget hq j = some ⟨LL.length, sc, true, some (46, cap)⟩ := by rw [I3 j (fun k hk e => S.rj k (by omega) e.symm)]; exact S.seg
      obtain ⟨s, a1, a2, a3, a4⟩ := (S.row q hqL).row
      have a1' : hget hq (r q) = some s := by rw [I3 (r q) (fun k hk e => by have := S.dis k q hk hqL; omega)]; exact a1
      have ht := totN_le hm8 q
      have hlq := hm8 q
      simp only [go_sem, Nat.reduceLT, hs, hj, r1, b1, b2, b3, e1, Nat.mul_one]
      refine callA_false (markB_E _ _ _ (r q) (cp q) (LL.getD q []) (1 + 2 * (totN LL q : Int)) (by omega) s a1' (S.rlt q hqL) a2 a3 a4 (by omega) _ fun h' ok' keep' held' => ?_)
      simp only [go_sem, Nat.reduceLT]
      refine ⟨⟨(q + 1, h'), hqL, ok', fun z hz => ?_, fun k hk => ?_⟩, by show LL.length - (q + 1) < LL.length - q; omega, ?_⟩
      · rw [keep' z (hz q (Nat.lt_succ_self q))]
        exact I3 z fun k hk => hz k (Nat.lt_succ_of_lt hk)
      · by_cases hkq : k = q
        · subst hkq; exact held'
        · have hk' : k < q := by have : k < q + 1 := hk; omega
          obtain ⟨t, c1, c2⟩ := I4 k hk'
          exact ⟨t, by rw [keep' _ (by have := S.dis k q hk' hqL; omega)]; exact c1, c2⟩
      refine Imp.id (by simp) ?_ (impH.base0 ok' (by simp) HExt.rfl)
      simp only [go_sem, Nat.reduceLT, w64N (a := (q : Int) + 1) (k := q + 1) (by omega) (by omega)]
      exact ⟨hj, by rw [show ((totN LL (q + 1) : Nat) : Int) = (totN LL q : Int) + ((LL.getD q []).length : Int) by rw [totN]; omega, show (1 + 2 * (totN LL q : Int) + 2 * ((LL.getD q []).length : Int)) = 1 + 2 * ((totN LL q : Int) + ((LL.getD q []).length : Int)) by omega]⟩
    · have hq' : q = LL.length := by omega
      subst hq'
      refine fun hok' => hK _ hok' (fun m h0 hm hx z hz t ht => ?_) (.inr ⟨j, cap, sc, r, cp, true, some (46, cap), rfl, hlo, hj, ?_, S.rlo, S.rlt, S.cell, I4⟩)
      · rw [I3 z fun k hk e => by have := S.rlo k hk; omega]; exact hx z hz t ht
      · rw [I3 j (fun k hk e => S.rj k hk e.symm)]; exact S.seg
theorem heldSS_Q (V : SV) (LL : List LSp) (lo : Nat) (hA : LssHeld h lo n V LL) (hm9 : LL.length ≤ 64) (hm8 : ∀ k, (LL.getD k []).length ≤ 64) :
    CallQ Try.prog cx 10 [V, .int .i64 1] h n (.int .i64 (1 + 2 * totN LL LL.length)) := by
  rcases hA with ⟨rfl, rfl⟩ | ⟨j, cap, sc, r, cp, sr, so, rfl, hlo, hj, hs, a4, a5, a6, a7⟩
  · refine callQ_of_T (P := Try.prog) hti (nt := 21) (rs := [.tmp 4]) rfl rfl Try.call10 Try.func10 rfl _ (by simp only [go_sem, and_self]) (Nat.le_of_ble_eq_true rfl) _ (by first | exact trivial | (refine lt_flat rfl ?_; simp [SV.flat]; done) | simp only [go_sem]) fun hok => ?_
    simp only [go_sem, Nat.reduceLT, Int.reduceNeg]
    refine T_unroll 0 ?_
    simp only [go_sem, Nat.reduceLT, Int.reduceLT, Int.reduceNeg]
    rfl
  · refine callQ_of_T (P := Try.prog) hti (nt := 21) (rs := [.tmp 4]) rfl rfl Try.call10 Try.func10 rfl _ (by simp only [go_sem, and_self]) (Nat.le_of_ble_eq_true rfl) _ (by first | exact trivial | (refine lt_flat rfl ?_; simp [SV.flat]; done) | simp only [go_sem]) fun hok => ?_
    simp only [go_sem, Nat.reduceLT, Int.reduceNeg]
    refine T_lp (ι := { q : Nat // q ≤ LL.length }) (fun q => ([(0, .sl j 0 LL.length cap), (1, .int .i64 (1 + 2 * (totN LL q.1 : Int))), (5, .int .i64 q.1)], h, n)) (fun q => LL.length - q.1) ⟨0, by omega⟩ ?_ ?_
    · refine Imp.id (by simp) ?_ (impH.base0 hok (by simp) HExt.rfl)
      simp only [go_sem, Nat.reduceLT, Int.reduceAdd, Int.reduceMul, totN]
      exact hj
    rintro ⟨q, hq⟩
    simp only [go_sem, Nat.reduceLT, Int.reduceNeg, decide_eq_true_eq, decide_eq_false_iff_not]
    refine ⟨fun h1 => ?_, fun h1 => ?_⟩
    · have r1 : (0 : Int) ≤ q ∧ (q : Int) < LL.length := ⟨by omega, by omega⟩
      have hqL : q < LL.length := by omega
      have b1 : q ≤ LL.length - 1 := by omega
      have b2 : 1 ≤ LL.length := by omega
      have b3 : q + 1 ≤ LL.length := by omega
      have e1 := a6 q hqL
      have ht := totN_le hm8 q
      have hlq := hm8 q
      have pos : ¬ (1 + 2 * (totN LL q : Int) + 2 * ((LL.getD q []).length : Int) < 0) := by omega
      simp only [go_sem, Nat.reduceLT, Int.reduceNeg, hs, hj, r1, b1, b2, b3, e1, Nat.mul_one]
      refine (heldB_Q _ _ _ (r q) (cp q) (LL.getD q []).length (1 + 2 * (totN LL q : Int)) (by omega) (a7 q hqL) (a5 q hqL) (by omega)).A ?_
      simp only [go_sem, Nat.reduceLT, Int.reduceNeg, pos]
      refine ⟨⟨q + 1, by omega⟩, by show LL.length - (q + 1) < LL.length - q; omega, ?_⟩
      refine Imp.id (by simp) ?_ (impH.base0 hok (by simp) HExt.rfl)
      simp only [go_sem, Nat.reduceLT, w64N (a := (q : Int) + 1) (k := q + 1) (by omega) (by omega)]
      exact ⟨hj, by rw [show ((totN LL (q + 1) : Nat) : Int) = (totN LL q : Int) + ((LL.getD q []).length : Int) by rw [totN]; omega, show (1 + 2 * (totN LL q : Int) + 2 * ((LL.getD q []).length : Int)) = 1 + 2 * ((totN LL q : Int) + ((LL.getD q []).length : Int)) by omega]⟩
    · have hq' : q = LL.length := by omega
      subst hq'
      simp only [go_sem]
end
end Go.Proofs.Ytddnnodkkdjniaa.V

/- Sets of cells: the reference's walk. -/
namespace Go.Proofs.Ytddnnodkkdjniaa.V
@[go_sem] theorem zz_mk : zz_a010c9 = mkC [] := by funext j; simp [mkC, zz_a010c9]
@[go_sem] theorem ones_mk (L : List (Int × Int)) : ones (.agg 64 (mkC L)) = True := eq_true fun j hj => trivial
@[go_sem] theorem okc_mk (L : List (Int × Int)) : (SV.agg 64 (mkC L)).okc = True := eq_true trivial
@[go_sem] theorem mkS_eq (L : List (Int × Int)) : mkS L = ⟨64, mkC L, true, none⟩ := rfl
@[go_sem] theorem lt_mk (m : Nat) (L : List (Int × Int)) : (SV.agg 64 (mkC L)).lt m = True := eq_true fun j hj => trivial
section
variable (cx : Cx) (h : List (Nat × Seg)) (n : Nat)
end
end Go.Proofs.Ytddnnodkkdjniaa.V

/- Sets of cells: the reference's lists and spreads. -/
namespace Go.Proofs.Ytddnnodkkdjniaa.V
/-- One spot appended. -/
theorem app1 {h hq : List (Nat × Seg)} {n nq jv cap : Nat} {A : List (Int × Int)} {a : Int × Int} {sc c1 : Nat → SV} {w : Option (Nat × Nat)} (I1 : n ≤ nq) (I2 : HOk nq hq) (I3 : HExt n h hq) (v1 : n ≤ jv) (c10 : c1 0 = .int .i8 a.1) (c11 : c1 1 = .int .i8 a.2)
    (v9 : ∀ k, k < A.length * 2 → sc k = spotsC A k) (m1 : A.length + 1 ≤ cap) (m2 : cap ≤ maxLen) :
    HOk (nq + 2) ((nq + 1, ⟨(A.length + 1) * 2, both (A.length * 2) sc (news c1 0), true, some (50, cap * 2)⟩) :: (nq, ⟨2, c1, true, w⟩) :: hdel hq jv) ∧
    HExt n h ((nq + 1, ⟨(A.length + 1) * 2, both (A.length * 2) sc (news c1 0), true, some (50, cap * 2)⟩) :: (nq, ⟨2, c1, true, w⟩) :: hdel hq jv) ∧
    SpO ((nq + 1, ⟨(A.length + 1) * 2, both (A.length * 2) sc (news c1 0), true, some (50, cap * 2)⟩) :: (nq, ⟨2, c1, true, w⟩) :: hdel hq jv) n (nq + 2) (.sl (nq + 1) 0 (A.length + 1) cap) (A ++ [a]) := by
  have hB : ∀ k, k < ([a] : List (Int × Int)).length * 2 → c1 (0 + k) = spotsC [a] k := fun k hk => by
    simp at hk
    rcases (by omega : k = 0 ∨ k = 1) with rfl | rfl
    · exact c10
    · exact c11
  have hbo : ∀ k, k < (A.length + 1) * 2 → both (A.length * 2) sc (news c1 0) k = spotsC (A ++ [a]) k := fun k hk =>
    both_sp A [a] v9 hB (by rw [List.length_append]; exact hk)
  refine ⟨(I2.hdel.consF fun k hk => ?_).consF fun k hk => ?_, fun z hz t ht => ?_, nq + 1, cap, _, by rw [List.length_append]; rfl, by omega, by omega, hget_hit _ _ _, rfl, rfl, by rw [List.length_append]; rfl, by rw [List.length_append]; exact m1, m2, fun k hk => hbo k (by rw [List.length_append] at hk; exact hk)⟩
  · have hk : k < 2 := hk
    have := hB k (by simpa using hk)
    rw [Nat.zero_add] at this
    show (c1 k).flat
    rw [this]; exact spotsC_flat _ _
  · show (both (A.length * 2) sc (news c1 0) k).flat
    rw [hbo k hk]; exact spotsC_flat _ _
  · simp only [hget]
    rw [if_neg (by omega), if_neg (by omega), hget_hdel, if_neg (by omega)]
    exact I3 z hz t ht
structure LsI (L : List (Int × Int)) (h : List (Nat × Seg)) (n k : Nat) (hq : List (Nat × Seg)) (nq : Nat) (V : SV) : Prop where
  hn : n ≤ nq
  ok : HOk nq hq
  ex : HExt n h hq
  out : SpO hq n nq V (upM L k)
theorem cellK_at {y x : Nat} (hx : x < 8) : cellK (y * 8 + x) = ((x : Int), (y : Int)) := by
  unfold cellK; rw [show (y * 8 + x) % 8 = x by omega, show (y * 8 + x) / 8 = y by omega]
section
variable (cx : Cx) (h : List (Nat × Seg)) (n : Nat)
set_option maxHeartbeats 1600000 in
theorem list_E (g : Nat) (L : List (Int × Int)) (hg : hget h g = some (mkS L)) (hgn : g < n) (K : HK)
    (hK : ∀ V h' n', n ≤ n' → HExt n h h' → HOk n' h' → Sp h' n n' V (upM L 64) → K V h' n') :
    CallE Try.prog cx 17 [.ptr g 0] h n K := by
  refine CallE.hokE ?_
  refine callE_of_T (P := Try.prog) hti (nt := 29) (rs := [.tmp 2]) rfl rfl Try.call17 Try.func17 rfl _ (by simp only [go_sem, and_self]) (Nat.le_of_ble_eq_true rfl) _ fun hok => ?_
  simp only [go_sem, Nat.reduceLT, Nat.reduceMul]
  have ok1 : HOk (n + 1) ((n, ⟨0, zrow (ti 50), true, some (50, 0)⟩) :: h) := hok.consF fun k hk => absurd hk (Nat.not_lt_zero k)
  have I0 : LsI L h n 0 ((n, ⟨0, zrow (ti 50), true, some (50, 0)⟩) :: h) (n + 1) (.sl n 0 0 0) :=
    ⟨by omega, ok1, by simp only [go_sem, HExt_cons], n, 0, _, rfl, Nat.le_refl _, by omega, hget_hit _ _ _, rfl, rfl, rfl, Nat.le_refl _, Nat.zero_le _, fun k hk => absurd hk (Nat.not_lt_zero k)⟩
  refine T_lp (ι := { q : Nat × List (Nat × Seg) × Nat × SV // q.1 ≤ 8 ∧ LsI L h n (q.1 * 8) q.2.1 q.2.2.1 q.2.2.2 })
    (fun q => ([(0, .ptr g 0), (3, q.1.2.2.2), (4, .int .i8 ((q.1.1 : Nat) : Int))], q.1.2.1, q.1.2.2.1)) (fun q => 8 - q.1.1) ⟨(0, _, _, _), by omega, I0⟩ ?_ ?_
  · refine Imp.id (by show n ≤ n + 1; omega) ?_ (impH.base0 ok1 (Nat.le_refl _) HExt.rfl)
    simp only [go_sem, Nat.reduceLT]
    (try (repeat' apply And.intro) <;> first | omega | rfl | trivial | assumption | skip)
  rintro ⟨⟨y, hy, ny, Vy⟩, hy8, J1, J2, J3, J4⟩
  simp only at hy8 J1 J2 J3 J4
  have Vyo := J4.sp.ok
  simp only [go_sem, Nat.reduceLT, Vyo, decide_eq_true_eq, decide_eq_false_iff_not]
  refine ⟨fun h1 => ?_, fun h1 => ?_⟩
  rotate_left
  · have hy88 : y = 8 := by omega
    subst hy88
    exact fun hok' => hK Vy hy ny J1 J3 hok' J4.sp
  refine T_lp (ι := { q : Nat × List (Nat × Seg) × Nat × SV // q.1 ≤ 8 ∧ LsI L h n (y * 8 + q.1) q.2.1 q.2.2.1 q.2.2.2 })
    (fun q => ([(0, .ptr g 0), (3, q.1.2.2.2), (4, .int .i8 ((y : Nat) : Int)), (5, .int .i8 ((q.1.1 : Nat) : Int))], q.1.2.1, q.1.2.2.1)) (fun q => 8 - q.1.1) ⟨(0, hy, ny, Vy), by omega, J1, J2, J3, J4⟩ ?_ ?_
  · refine Imp.id (by show n ≤ ny; omega) ?_ (impH.base0 J2 (Nat.le_refl _) HExt.rfl)
    simp only [go_sem, Nat.reduceLT, Vyo, J4.sp.lt]
    (try omega)
  rintro ⟨⟨x, hq, nq, V⟩, hx8, I1, I2, I3, I4⟩
  simp only at hx8 I1 I2 I3 I4
  have Vo := I4.sp.ok
  have hul := upM_len L (y * 8 + x)
  have hgq : hget hq g = some (mkS L) := I3 g hgn _ hg
  have hgnq : g < nq := by omega
  simp only [go_sem, Nat.reduceLT, Vo, decide_eq_true_eq, decide_eq_false_iff_not]
  refine ⟨fun h2 => ?_, fun h2 => ?_⟩
  rotate_left
  · have hx88 : x = 8 := by omega
    subst hx88
    simp only [go_sem, Int.reduceLT, Vo]
    refine ⟨⟨(y + 1, hq, nq, V), by show y + 1 ≤ 8; omega, I1, I2, I3, by rw [show (y + 1) * 8 = y * 8 + 8 by omega]; exact I4⟩, by show 8 - (y + 1) < 8 - y; omega, ?_⟩
    refine Imp.id (by show n ≤ nq; omega) ?_ (impH.base0 I2 (Nat.le_refl _) HExt.rfl)
    simp only [go_sem, Nat.reduceLT, Vo, I4.sp.lt, w8 (n := (y : Int) + 1) (by omega), Int.natCast_add, Int.natCast_one]
    (try (repeat' apply And.intro) <;> first | omega | rfl | trivial | assumption | skip)
  have hyx : y * 8 + x ≤ 63 := by omega
  have hm := mkC_at L (y := (y : Int)) (x := (x : Int)) (by omega) (by omega) (by omega)
  rw [Int.toNat_natCast, Int.toNat_natCast] at hm
  have hsucc := upM_succ L (y * 8 + x)
  rw [cellK_at (by omega)] at hsucc
  have I4c := I4
  obtain ⟨jv, capV, sV, e, v1, v2, v3, v4, v5, v6, v7, v8, v9⟩ := I4
  subst e
  simp only [go_sem, Nat.reduceLT, Nat.reduceLeDiff, Nat.reduceMul, hgq, hgnq, hm, hyx, show ((0 : Int) ≤ (y : Int) ∧ (y : Int) < 8) from ⟨by omega, by omega⟩, show ((0 : Int) ≤ (x : Int) ∧ (x : Int) < 8) from ⟨by omega, by omega⟩]
  by_cases hin : ((x : Int), (y : Int)) ∈ L
  rotate_left
  · rw [if_neg hin, List.append_nil] at hsucc
    simp only [go_sem, hin]
    refine ⟨⟨(x + 1, hq, nq, .sl jv 0 (upM L (y * 8 + x)).length capV), by show x + 1 ≤ 8; omega, I1, I2, I3, by rw [show y * 8 + (x + 1) = y * 8 + x + 1 by omega, hsucc]; exact I4c⟩, by show 8 - (x + 1) < 8 - x; omega, ?_⟩
    refine Imp.id (by show n ≤ nq; omega) ?_ (impH.base0 I2 (Nat.le_refl _) HExt.rfl)
    simp only [go_sem, Nat.reduceLT, v2, w8 (n := (x : Int) + 1) (by omega), Int.natCast_add, Int.natCast_one]
    (try (repeat' apply And.intro) <;> first | omega | rfl | trivial | assumption | skip)
  · rw [if_pos hin] at hsucc
    obtain ⟨sn, sc, sr, so⟩ := sV
    simp only at v4 v5 v6 v9
    subst v4 v5 v6
    have hjv1 : nq ≠ jv := by omega
    simp only [go_sem, Nat.reduceLT, Nat.reduceLeDiff, Nat.reduceMul, Nat.reduceSub, Nat.reduceMod, reduceIte, reduceCtorEq, hin, v3, v2, hjv1, ↓I2.del (Nat.le_refl nq)]
    generalize hAA : upM L (y * 8 + x) = A at *
    refine ⟨⟨v7, v8, by omega⟩, fun cap' m1 m2 => ?_⟩
    obtain ⟨okM, exM, spM⟩ := app1 (a := ((x : Int), (y : Int))) (w := some (50, 2)) (c1 := fun j => if j < 2 then cl [SV.int IntKind.i8 x, SV.int IntKind.i8 y] (j - 0) else cl [SV.int IntKind.i8 0, SV.int IntKind.i8 0] (j % 2)) I1 I2 I3 v1 rfl rfl v9 m1 m2
    refine ⟨⟨(x + 1, _, nq + 2, .sl (nq + 1) 0 (A.length + 1) cap'), by show x + 1 ≤ 8; omega, by show n ≤ nq + 2; omega, okM, exM, by rw [show y * 8 + (x + 1) = y * 8 + x + 1 by omega, hsucc]; exact spM⟩, by show 8 - (x + 1) < 8 - x; omega, ?_⟩
    refine Imp.id (by show n ≤ nq + 2; omega) ?_ (impH.base0 okM (Nat.le_refl _) HExt.rfl)
    simp only [go_sem, Nat.reduceLT, w8 (n := (x : Int) + 1) (by omega), Int.natCast_add, Int.natCast_one]
    (try (repeat' apply And.intro) <;> first | omega | rfl | trivial | assumption | skip)
end
end Go.Proofs.Ytddnnodkkdjniaa.V

/- The cells to which one can go: the program's own walk. -/
namespace Go.Proofs.Ytddnnodkkdjniaa.V
def isB (S : Sh) (p : Int → Int → Bool) : Int → Int → Bool := fun x y => hasB S x y && p x y
theorem isB_8 {S : Sh} (hS : Small S) (p : Int → Int → Bool) : ∀ x y, isB S p x y = true → In8 (x, y) := fun x y h => by
  unfold isB at h; rw [Bool.and_eq_true] at h
  have := hasB_in hS h.1
  exact ⟨⟨this.1, this.2.1⟩, this.2.2⟩
theorem srtS_nd {L : List (Int × Int)} (h : L.Nodup) : srtS L = setL L := (setL_nodup h).symm
section
variable (cx : Cx) (h : List (Nat × Seg)) (n : Nat)
set_option maxHeartbeats 3200000 in
theorem reach_E (i : Nat) (S : Sh) (a : Int × Int) (hs : hget h i = some (shS S)) (hi : i < n) (hR : ShR S) (hsm : Small S) (ha8 : In8 a) (f e b : Nat) (G F : Nat → SV) (hfl : (SV.fn f e G b F).lt n) (p : Int → Int → Bool)
    (hp : ∀ x y, hasB S x y = true → Asks cx h n f e b G F x y (p x y)) (K : HK)
    (hK : ∀ V h' n', n ≤ n' → HExt n h h' → HOk n' h' → Sp h' n n' V (reachL (isB S p) a) → K V h' n') :
    CallE Try.prog cx 42 [.ptr i 0, spot a.1 a.2, .fn f e G b F] h n K := by
  have his := isB_8 hsm p
  have hFl : (SV.fn f e G b F).lt n = True := eq_true hfl
  refine CallE.hokE ?_
  refine callE_of_T (P := Try.prog) hti (nt := 51) (rs := [.tmp 6]) rfl rfl Try.call42 Try.func42 rfl _ (by simp only [go_sem, and_self]) (Nat.le_of_ble_eq_true rfl) _ fun hok => ?_
  simp only [go_sem, Nat.reduceLT, Nat.reduceLeDiff, Nat.reduceMul]
  have e1 : ∀ k, k < 2 → (fun j => if j < 2 then cl [SV.int .i8 a.1, SV.int .i8 a.2] (j - 0) else cl [SV.int .i8 0, SV.int .i8 0] (j % 2)) k = spotsC [a] k := fun k hk => by
    rcases (by omega : k = 0 ∨ k = 1) with rfl | rfl <;> rfl
  generalize hc0 : (fun j => if j < 2 then cl [SV.int .i8 a.1, SV.int .i8 a.2] (j - 0) else cl [SV.int .i8 0, SV.int .i8 0] (j % 2)) = c0 at *
  have ok1 : HOk (n + 2) ((n + 1, ⟨2, c0, true, some (50, 2)⟩) :: (n, ⟨2, cl [SV.int .i8 a.1, SV.int .i8 a.2], true, none⟩) :: h) :=
    (hok.consF fun k hk => pair_flat _ _ hk).consF fun k hk => by rw [show Seg.c _ k = c0 k from rfl, e1 k hk]; exact spotsC_flat _ _
  obtain ⟨R, hRR⟩ : ∃ R, bfs (isB S p) 65 [a] 0 = R := ⟨_, rfl⟩
  refine T_lp (ι := { q : Nat × List (Int × Int) × List (Nat × Seg) × Nat × SV // (q.1 ≤ q.2.1.length ∧ BOk q.2.1 ∧ bfs (isB S p) (65 - q.1) q.2.1 q.1 = R) ∧ n ≤ q.2.2.2.1 ∧ HOk q.2.2.2.1 q.2.2.1 ∧ HExt n h q.2.2.1 ∧ SpO q.2.2.1 n q.2.2.2.1 q.2.2.2.2 q.2.1 })
    (fun q => ([(0, .ptr i 0), (2, .fn f e G b F), (7, q.1.2.2.2.2), (8, .int .i64 ((q.1.1 : Nat) : Int))], q.1.2.2.1, q.1.2.2.2.1)) (fun q => 65 - q.1.1) ⟨(0, [a], _, n + 2, .sl (n + 1) 0 1 1), ⟨Nat.zero_le _, BOk.one ha8, hRR⟩, by show n ≤ n + 2; omega, ok1, by show HExt n h _; simp only [go_sem, HExt_cons], n + 1, 1, _, rfl, by show n ≤ n + 1; omega, by show n + 1 < n + 2; omega, hget_hit _ _ _, rfl, rfl, rfl, Nat.le_refl _, by decide, e1⟩ ?_ ?_
  · refine Imp.id (by show n ≤ n + 2; omega) ?_ (impH.base0 ok1 (Nat.le_refl _) HExt.rfl)
    simp only [go_sem, Nat.reduceLT, hFl, SV.lt_mono (show n ≤ n + 2 by omega) _ hfl]
    (try (repeat' apply And.intro) <;> first | omega | rfl | trivial | assumption | skip)
  rintro ⟨⟨q, out, hq, nq, V⟩, ⟨hql, hB, hF⟩, I2, I3, I4, I5⟩
  simp only at hql hB hF I2 I3 I4 I5
  have Vo := I5.sp.ok
  have hl64 := hB.len
  have hI5 := I5
  obtain ⟨jv, capV, sV, e, v1, v2, v3, v4, v5, v6, v7, v8, v9⟩ := I5
  subst e
  simp only [go_sem, Nat.reduceLT, decide_eq_true_eq, decide_eq_false_iff_not]
  refine ⟨fun h1 => ?_, fun h1 => ?_⟩
  rotate_left
  · have hqo : ¬ q < out.length := by omega
    rw [bfs_stop hqo] at hF
    have hfin : reachL (isB S p) a = setL out := by unfold reachL; rw [hRR, ← hF]
    rw [hfin, ← srtS_nd hB.nd] at hK
    obtain ⟨sn, sc, sr, so⟩ := sV
    simp only at v4 v5 v6 v9
    subst v4 v5 v6
    have key := fun K hK => sortFuncA_E ⟨cx.w0, cx.W, 51, n⟩ (hset hq jv ⟨out.length * 2, spotsC out, true, some (50, capV * 2)⟩) nq jv capV out (some (50, capV * 2)) 59 0 0 (cl []) (cl []) cmpSp cmpSp_lt (hget_hset_self v3 _) v2 (by omega) (fn_lt (xs := []) (ys := []) (fun v hv => by cases hv) (fun v hv => by cases hv)) (by intro a b nt n0 h' n' hn; exact inOrder_Q _ h' n' a b) K hK
    have hw : impH hq (sig []) nq (hset hq jv ⟨out.length * 2, spotsC out, true, some (50, capV * 2)⟩) := impH.set0 I3 (Nat.le_refl _) v3 (fun j hj hji t ht => ht) v3 (SegLe.flat (Nat.le_refl _) id (.inr rfl) fun k hk => ⟨v9 k hk, spotsC_flat _ _⟩)
    refine callA_false (CallE.weak hw (key _ ?_))
    simp only [go_sem, Nat.reduceLT, hset_hset]
    have gfin := hget_hset_self v3 ⟨out.length * 2, spotsC (srtS out), true, some (50, capV * 2)⟩
    refine fun hok' => hK _ _ _ I2 (fun z hz t ht => by rw [hget_hset, if_neg (by omega)]; exact I4 z hz t ht) hok' ⟨jv, capV, _, by rw [srtS_len], v1, v2, gfin, rfl, by show out.length * 2 = _; rw [srtS_len], by rw [srtS_len]; exact v7, fun _ _ => rfl⟩
  have r1 : (0 : Int) ≤ q ∧ (q : Int) < out.length := ⟨by omega, by omega⟩
  have hqo : q < out.length := by omega
  have b1 : q * 2 ≤ sV.n - 2 := by omega
  have b2 : 2 ≤ sV.n := by omega
  have b3 : q * 2 + 2 ≤ sV.n := by omega
  have a8 := hB.in8 _ (spots_at hqo)
  rw [bfs_go hqo hl64] at hF
  simp only [go_sem, Nat.reduceLT, v3, v2, r1, b1, b2, b3, v9 (q * 2) (by omega), v9 (q * 2 + 1) (by omega), spotsC_x, spotsC_y]
  refine callA_false (beside_E _ _ _ _ _ _ ?_)
  obtain ⟨c, hcc⟩ : ∃ c, out.getD q (0, 0) = c := ⟨_, rfl⟩
  rw [hcc] at hF a8
  simp only [hcc]
  have okB : HOk (nq + 1) ((nq, ⟨8, spotsC (besideL c.1 c.2), true, some (50, 8)⟩) :: hq) := I3.consF fun k hk => spotsC_flat _ _
  simp only [go_sem, Nat.reduceLT]
  refine T_lp (ι := { r : Nat × List (Nat × Seg) × Nat × SV // (r.1 ≤ 4 ∧ nq + 1 ≤ r.2.2.1) ∧ HOk r.2.2.1 r.2.1 ∧ HExt n h r.2.1 ∧ hget r.2.1 nq = some ⟨8, spotsC (besideL c.1 c.2), true, some (50, 8)⟩ ∧ SpO r.2.1 n r.2.2.1 r.2.2.2 (stepK (isB S p) out c r.1) ∧ ∀ o l cp, r.2.2.2 ≠ .sl nq o l cp })
    (fun r => ([(0, .ptr i 0), (2, .fn f e G b F), (7, r.1.2.2.2), (8, .int .i64 ((q : Nat) : Int)), (23, .sl nq 0 4 4), (24, .int .i64 4), (25, .int .i64 ((r.1.1 : Nat) : Int))], r.1.2.1, r.1.2.2.1)) (fun r => 4 - r.1.1)
    ⟨(0, _, nq + 1, .sl jv 0 out.length capV), ⟨Nat.zero_le _, Nat.le_refl _⟩, okB, by show HExt n h _; exact fun z hz t ht => by simp only [hget]; rw [if_neg (by omega)]; exact I4 z hz t ht, hget_hit _ _ _, ⟨jv, capV, sV, rfl, v1, by show jv < nq + 1; omega, by show hget (_ :: _) jv = _; simp only [hget]; rw [if_neg (by omega)]; exact v3, v4, v5, v6, v7, v8, v9⟩, by intro o l cp e; cases e; omega⟩ ?_ ?_
  · refine Imp.id (by show n ≤ nq + 1; omega) ?_ (impH.base0 okB (Nat.le_refl _) HExt.rfl)
    simp only [go_sem, Nat.reduceLT, hFl, SV.lt_mono (show n ≤ nq + 1 by omega) _ hfl]
    (try (repeat' apply And.intro) <;> first | omega | rfl | trivial | assumption | skip)
  rintro ⟨⟨k, hr, nr, Vr⟩, ⟨hk4, hrn⟩, J2, J3, J4, J5, J6⟩
  simp only at hk4 hrn J2 J3 J4 J5 J6
  have Vro := J5.sp.ok
  have hBk := hB.stepK his c k hk4
  have hl64k := hBk.len
  simp only [go_sem, Nat.reduceLT, Vro, decide_eq_true_eq, decide_eq_false_iff_not]
  refine ⟨fun k1 => ?_, fun k1 => ?_⟩
  rotate_left
  · have hk44 : k = 4 := by omega
    subst hk44
    refine ⟨⟨(q + 1, stepK (isB S p) out c 4, hr, nr, Vr), ⟨by show q + 1 ≤ (stepK (isB S p) out c 4).length; have := (stepK_get (is := isB S p) (p := c) (k := 4) (Nat.le_refl 4) hqo).2; omega, hBk, hF⟩, by show n ≤ nr; omega, J2, J3, J5⟩, by show 65 - (q + 1) < 65 - q; omega, ?_⟩
    refine Imp.id (by show n ≤ nr; omega) ?_ (impH.base0 J2 (Nat.le_refl _) HExt.rfl)
    simp only [go_sem, Nat.reduceLT, Vro, hFl, J5.sp.lt, SV.lt_mono (show n ≤ nr by omega) _ hfl, w64N (a := (q : Int) + 1) (k := q + 1) (by omega) (by omega)]
    (try (repeat' apply And.intro) <;> first | omega | rfl | trivial | assumption | skip)
  have k4 : k < 4 := by omega
  have hsuc := stepK_succ (isB S p) out c k4
  have q1 : (0 : Int) ≤ k ∧ (k : Int) < 4 := ⟨by omega, by omega⟩
  have d1 : k * 2 ≤ 6 := by omega
  have d3 : k * 2 + 2 ≤ 8 := by omega
  have c2 : nq < nr := by omega
  obtain ⟨d, hdd⟩ : ∃ d, (besideL c.1 c.2).getD k (0, 0) = d := ⟨_, rfl⟩
  rw [hdd] at hsuc
  have hir : hget hr i = some (shS S) := J3 i hi _ hs
  have hin : i < nr := by omega
  obtain ⟨X, hX⟩ : ∃ X, stepK (isB S p) out c k = X := ⟨_, rfl⟩
  rw [hX] at J5 hsuc hBk hl64k
  simp only [go_sem, Nat.reduceLT, Nat.reduceEqDiff, reduceIte, Vro, J4, c2, q1, d1, d3, spotsC_x, spotsC_y, hdd]
  refine (has_Q _ _ _ i 0 (shS S) S d.1 d.2 (by first | (simp only [go_sem, hir, hin]; done) | (simp only [go_sem, Nat.reduceBEq, Nat.reduceLT, Nat.reduceLeDiff, Nat.reduceAdd, Nat.reduceMul, Nat.reduceSub, Nat.reduceMod, Nat.reduceDiv, Nat.reduceEqDiff, Int.reduceToNat, reduceIte, reduceCtorEq, Int.reduceLE, Int.reduceLT, Int.reduceEq, Int.reduceNeg, Int.reduceAdd, Int.reduceSub, Int.reduceMul, hir, hin]; rfl)) (by omega) (shAt_shC hR)).A ?_
  have okC : HOk (nr + 1) ((nr, ⟨2, cl [SV.int .i8 d.1, SV.int .i8 d.2], true, none⟩) :: hr) := J2.consF fun k hk => pair_flat _ _ hk
  have exC : HExt nr hr ((nr, ⟨2, cl [SV.int .i8 d.1, SV.int .i8 d.2], true, none⟩) :: hr) := by simp only [go_sem, HExt_cons]
  have J3C : HExt n h ((nr, ⟨2, cl [SV.int .i8 d.1, SV.int .i8 d.2], true, none⟩) :: hr) := J3.tr exC (by omega)
  have J4C : hget ((nr, ⟨2, cl [SV.int .i8 d.1, SV.int .i8 d.2], true, none⟩) :: hr) nq = some ⟨8, spotsC (besideL c.1 c.2), true, some (50, 8)⟩ := exC nq c2 _ J4
  obtain ⟨ju, capU, sU, eU, w1, w2, w3, w4, w5, w6, w7, w8, w9⟩ := J5
  subst eU
  obtain ⟨un, uc, ur, uo⟩ := sU
  simp only at w4 w5 w6 w9
  subst w4 w5 w6
  have hju : ju ≠ nq := fun e => J6 _ _ _ (by rw [e])
  have w3C : hget ((nr, ⟨2, cl [SV.int .i8 d.1, SV.int .i8 d.2], true, none⟩) :: hr) ju = some ⟨X.length * 2, uc, true, some (50, capU * 2)⟩ := exC ju w2 _ w3
  have J5C : SpO ((nr, ⟨2, cl [SV.int .i8 d.1, SV.int .i8 d.2], true, none⟩) :: hr) n (nr + 1) (.sl ju 0 X.length capU) X := ⟨ju, capU, _, rfl, w1, by omega, w3C, rfl, rfl, rfl, w7, w8, w9⟩
  have old : addB (isB S p) X d = X → ∃ j : { r : Nat × List (Nat × Seg) × Nat × SV // (r.1 ≤ 4 ∧ nq + 1 ≤ r.2.2.1) ∧ HOk r.2.2.1 r.2.1 ∧ HExt n h r.2.1 ∧ hget r.2.1 nq = some ⟨8, spotsC (besideL c.1 c.2), true, some (50, 8)⟩ ∧ SpO r.2.1 n r.2.2.1 r.2.2.2 (stepK (isB S p) out c r.1) ∧ ∀ o l cp, r.2.2.2 ≠ .sl nq o l cp },
      j.1 = (k + 1, (nr, ⟨2, cl [SV.int .i8 d.1, SV.int .i8 d.2], true, none⟩) :: hr, nr + 1, .sl ju 0 X.length capU) := fun e =>
    ⟨⟨(k + 1, _, nr + 1, .sl ju 0 X.length capU), ⟨by show k + 1 ≤ 4; omega, by show nq + 1 ≤ nr + 1; omega⟩, okC, J3C, J4C, by rw [hsuc, e]; exact J5C, J6⟩, rfl⟩
  have nr1 : nr ≠ ju := by omega
  have nr2 : nr ≠ nq := by omega
  cases hb : hasB S d.1 d.2
  · have e : addB (isB S p) X d = X := addB_old (by rintro ⟨h1, _⟩; unfold isB at h1; rw [hb] at h1; cases h1)
    obtain ⟨⟨v, Iv⟩, rfl⟩ := old e
    simp only [go_sem, Nat.reduceLT, hb]
    refine ⟨⟨_, Iv⟩, by show 4 - (k + 1) < 4 - k; omega, ?_⟩
    refine Imp.id (by show n ≤ nr + 1; omega) ?_ (impH.base0 okC (Nat.le_refl _) HExt.rfl)
    simp only [go_sem, Nat.reduceLT, hFl, SV.lt_mono (show n ≤ nr + 1 by omega) _ hfl, w64N (a := (k : Int) + 1) (k := k + 1) (by omega) (by omega)]
    (try (repeat' apply And.intro) <;> first | omega | rfl | trivial | assumption | skip)
  simp only [go_sem, Nat.reduceLT, hb]
  refine CallQ.A (hp d.1 d.2 hb _ _ _ _ (by omega) J3C) ?_
  cases hpd : p d.1 d.2
  · have e : addB (isB S p) X d = X := addB_old (by rintro ⟨h1, _⟩; unfold isB at h1; rw [hb, hpd] at h1; cases h1)
    obtain ⟨⟨v, Iv⟩, rfl⟩ := old e
    simp only [go_sem, Nat.reduceLT, hpd]
    refine ⟨⟨_, Iv⟩, by show 4 - (k + 1) < 4 - k; omega, ?_⟩
    refine Imp.id (by show n ≤ nr + 1; omega) ?_ (impH.base0 okC (Nat.le_refl _) HExt.rfl)
    simp only [go_sem, Nat.reduceLT, hFl, SV.lt_mono (show n ≤ nr + 1 by omega) _ hfl, w64N (a := (k : Int) + 1) (k := k + 1) (by omega) (by omega)]
    (try (repeat' apply And.intro) <;> first | omega | rfl | trivial | assumption | skip)
  simp only [go_sem, Nat.reduceLT, hpd]
  refine (containsSp_Q _ _ _ (.sl ju 0 X.length capU) X _ d J5C.sp (by omega)).A ?_
  by_cases hdX : d ∈ X
  · have e : addB (isB S p) X d = X := addB_old (fun h => h.2 hdX)
    obtain ⟨⟨v, Iv⟩, rfl⟩ := old e
    simp only [go_sem, Nat.reduceLT, hdX]
    refine ⟨⟨_, Iv⟩, by show 4 - (k + 1) < 4 - k; omega, ?_⟩
    refine Imp.id (by show n ≤ nr + 1; omega) ?_ (impH.base0 okC (Nat.le_refl _) HExt.rfl)
    simp only [go_sem, Nat.reduceLT, hFl, SV.lt_mono (show n ≤ nr + 1 by omega) _ hfl, w64N (a := (k : Int) + 1) (k := k + 1) (by omega) (by omega)]
    (try (repeat' apply And.intro) <;> first | omega | rfl | trivial | assumption | skip)
  have enew : addB (isB S p) X d = X ++ [d] := addB_new (by unfold isB; rw [hb, hpd]; rfl) hdX
  rw [enew] at hsuc
  simp only [go_sem, Nat.reduceLT, Nat.reduceLeDiff, Nat.reduceMul, Nat.reduceSub, Nat.reduceMod, reduceIte, hdX, w3, w2, nr1]
  refine ⟨⟨w7, w8, by omega⟩, fun cap' m1 m2 => ?_⟩
  have hdl : hdel ((nr, (⟨2, cl [SV.int .i8 d.1, SV.int .i8 d.2], true, none⟩ : Seg)) :: hr) ju = (nr, ⟨2, cl [SV.int .i8 d.1, SV.int .i8 d.2], true, none⟩) :: hdel hr ju := by rw [hdel, if_neg nr1]
  obtain ⟨okM, exM, spM⟩ := app1 (a := d) (nq := nr + 1) (jv := ju) (w := some (50, 2)) (c1 := fun j => if j < 2 then cl [SV.int IntKind.i8 d.1, SV.int IntKind.i8 d.2] (j - 0) else cl [SV.int IntKind.i8 0, SV.int IntKind.i8 0] (j % 2)) (by omega) okC J3C w1 rfl rfl w9 m1 m2
  rw [hdl] at okM exM spM
  refine ⟨⟨(k + 1, _, nr + 3, .sl (nr + 2) 0 (X.length + 1) cap'), ⟨by show k + 1 ≤ 4; omega, by show nq + 1 ≤ nr + 3; omega⟩, okM, exM, by
    show hget (_ :: _ :: _ :: hdel hr ju) nq = _
    simp only [hget]; rw [if_neg (by omega), if_neg (by omega), if_neg (by omega), hget_hdel, if_neg hju]; exact J4, by rw [hsuc]; exact spM, by intro o l cp e; cases e; omega⟩, by show 4 - (k + 1) < 4 - k; omega, ?_⟩
  refine Imp.id (by show n ≤ nr + 3; omega) ?_ (impH.base0 okM (Nat.le_refl _) HExt.rfl)
  simp only [go_sem, Nat.reduceLT, hFl, SV.lt_mono (show n ≤ nr + 3 by omega) _ hfl, w64N (a := (k : Int) + 1) (k := k + 1) (by omega) (by omega)]
  (try (repeat' apply And.intro) <;> first | omega | rfl | trivial | assumption | skip)
end
end Go.Proofs.Ytddnnodkkdjniaa.V

/- Sets of cells: the program's answers. -/
namespace Go.Proofs.Ytddnnodkkdjniaa.V
theorem codeI_0 {S : Sh} {b : Bool} (h : codeI S b = 0) : Valid S ∧ b = true := by
  by_cases hV : Valid S
  · rw [codeI_ok hV] at h
    cases b
    · cases h
    · exact ⟨hV, rfl⟩
  · rw [codeI_bad hV] at h; cases h
section
variable (cx : Cx) (h : List (Nat × Seg)) (n : Nat)
end
end Go.Proofs.Ytddnnodkkdjniaa.V

/- Spreads, inner cells: the reference's walk. -/
namespace Go.Proofs.Ytddnnodkkdjniaa.V
structure SI (h : List (Nat × Seg)) (n : Nat) (hq : List (Nat × Seg)) (nq : Nat) (V : SV) (Lst M : List (Int × Int)) : Prop where
  hn : n + 2 ≤ nq
  ok : HOk nq hq
  ex : HExt n h hq
  g0 : hget hq n = some (mkS [])
  g1 : hget hq (n + 1) = some (mkS M)
  ls : Sp hq (n + 2) nq V Lst
theorem SI.ext {h hq h' : List (Nat × Seg)} {n nq n' : Nat} {V : SV} {Lst M : List (Int × Int)} (I : SI h n hq nq V Lst M) (hx : HExt nq hq h') (hn : nq ≤ n') (ok : HOk n' h') : SI h n h' n' V Lst M :=
  ⟨Nat.le_trans I.hn hn, ok, I.ex.tr hx (by have := I.hn; omega), hx n (by have := I.hn; omega) _ I.g0, hx (n + 1) (by have := I.hn; omega) _ I.g1, I.ls.ext hn hx⟩
theorem Sp.hset {h : List (Nat × Seg)} {lo n g : Nat} {V : SV} {L : List (Int × Int)} {t : Seg} (hA : Sp h lo n V L) (hg : g < lo) : Sp (hset h g t) lo n V L := by
  obtain ⟨i, cap, s, h1, h2, h3, h4, h5⟩ := hA
  exact ⟨i, cap, s, h1, h2, h3, by rw [hget_hset, if_neg (by omega)]; exact h4, h5⟩
theorem SI.set {h hq : List (Nat × Seg)} {n nq : Nat} {V : SV} {Lst M : List (Int × Int)} (I : SI h n hq nq V Lst M) (M' : List (Int × Int)) : SI h n (hset hq (n + 1) (mkS M')) nq V Lst M' :=
  ⟨I.hn, I.ok.hset fun k hk => (mkC_flat M' k).below _, fun z hz t ht => by rw [hget_hset, if_neg (by omega)]; exact I.ex z hz t ht, by rw [hget_hset, if_neg (by omega)]; exact I.g0, hget_hset_self I.g1 _, I.ls.hset (by omega)⟩
section
variable (cx : Cx) (h : List (Nat × Seg)) (n : Nat)
end
end Go.Proofs.Ytddnnodkkdjniaa.V

/- The blot of a cell: the reference's walk. -/
namespace Go.Proofs.Ytddnnodkkdjniaa.V
theorem SpO.hset {h : List (Nat × Seg)} {lo n g : Nat} {V : SV} {L : List (Int × Int)} {t : Seg} (hA : SpO h lo n V L) (hg : g < lo) : SpO (hset h g t) lo n V L := by
  obtain ⟨i, cap, s, h1, h2, h3, h4, h5⟩ := hA
  exact ⟨i, cap, s, h1, h2, h3, by rw [hget_hset, if_neg (by omega)]; exact h4, h5⟩
theorem SpO.ext {h h' : List (Nat × Seg)} {lo n n' : Nat} {V : SV} {L : List (Int × Int)} (hA : SpO h lo n V L) (hn : n ≤ n') (hx : HExt n h h') : SpO h' lo n' V L := by
  obtain ⟨i, cap, s, h1, h2, h3, h4, h5⟩ := hA
  exact ⟨i, cap, s, h1, h2, by omega, hx i h3 s h4, h5⟩
/-- The state of a round. -/
structure MkI (h : List (Nat × Seg)) (n : Nat) (hq : List (Nat × Seg)) (nq : Nat) (V : SV) (M : List (Int × Int)) : Prop where
  hn : n + 3 ≤ nq
  ok : HOk nq hq
  ex : HExt n h hq
  g0 : hget hq (n + 1) = some (mkS [])
  g1 : hget hq (n + 2) = some (mkS M)
  ls : SpO hq (n + 3) nq V M
theorem MkI.ext {h hq h' : List (Nat × Seg)} {n nq n' : Nat} {V : SV} {M : List (Int × Int)} (I : MkI h n hq nq V M) (hx : HExt nq hq h') (hn : nq ≤ n') (ok : HOk n' h') : MkI h n h' n' V M :=
  ⟨Nat.le_trans I.hn hn, ok, I.ex.tr hx (by have := I.hn; omega), hx _ (by have := I.hn; omega) _ I.g0, hx _ (by have := I.hn; omega) _ I.g1, I.ls.ext hn hx⟩
section
variable (cx : Cx) (h : List (Nat × Seg)) (n : Nat)
end
end Go.Proofs.Ytddnnodkkdjniaa.V

/- BlotAt: both codes. -/
namespace Go.Proofs.Ytddnnodkkdjniaa.V
section
variable (cx : Cx) (h : List (Nat × Seg)) (n : Nat)
end
end Go.Proofs.Ytddnnodkkdjniaa.V
