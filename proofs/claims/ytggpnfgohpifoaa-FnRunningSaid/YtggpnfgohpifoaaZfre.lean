/- Part 5 of the texts that this proof stands on: a symbolic walk over the program, what its functions and the reference's do, plain laws. -/
import Derived.Test.YtggpnfgohpifoaaZfrc
import Derived.Test.YtggpnfgohpifoaaV19
import Derived.Sort.LotD4
import Derived.Sort.LotD5
import Derived.Test.YtggpnfgohpifoaaZfra
import Derived.Test.YtggpnfgohpifoaaZfrd
set_option linter.all false

/- The library's partitions of spots. -/
namespace Go.Proofs.Ytggpnfgohpifoaa.V
open Go.Sort (swp scanUp scanDown partLoop partition partEqLoop partitionEqual round_facts partLoop_eq partEqLoop_eq)
section
variable (cx : Cx) (h : List (Nat × Seg)) (n : Nat)
end
end Go.Proofs.Ytggpnfgohpifoaa.V

/- The library's partition of spots by equality. -/
namespace Go.Proofs.Ytggpnfgohpifoaa.V
open Go.Sort (swp scanUp scanDown partEqLoop partitionEqual round_facts partEqLoop_eq)
section
variable (cx : Cx) (h : List (Nat × Seg)) (n : Nat)
end
end Go.Proofs.Ytggpnfgohpifoaa.V

/- The library's reversal and its partial insertion sort of spots. -/
namespace Go.Proofs.Ytggpnfgohpifoaa.V
open Go.Sort (swp scanSorted shiftDown shiftUp partialIns partialInsertionSort reverseLoop reverseRange fixDown fixUp partialIns_succ)
section
variable (cx : Cx) (h : List (Nat × Seg)) (n : Nat)
end
end Go.Proofs.Ytggpnfgohpifoaa.V

/- The library's choice of a pivot among spots. -/
namespace Go.Proofs.Ytggpnfgohpifoaa.V
open Go.Sort (order2 median medianAdjacent choosePivot rawPivot hintOf hintCode order2_mem median_mem medianAdjacent_mem median_count medianAdjacent_count order2_count choosePivot_eq)
/-- A function that compares spots and looks at no memory. -/
def CmpA (cx : Cx) (n f p q : Nat) (G F : Nat → SV) (cI : Int × Int → Int × Int → Int) : Prop :=
  ∀ (a b : Int × Int) nt n0 h' n', n ≤ n' → CallQ Try.prog ⟨cx.w0, cx.W, nt, n0⟩ f (lst p G ++ [spot a.1 a.2, spot b.1 b.2] ++ lst q F) h' n' (.int .i64 (cI a b))
theorem CmpA.nt {cx : Cx} {n f p q : Nat} {G F : Nat → SV} {cI : Int × Int → Int × Int → Int} (hc : CmpA cx n f p q G F cI) (t m : Nat) : CmpA ⟨cx.w0, cx.W, t, m⟩ n f p q G F cI := fun a b nt n0 h' n' hn => hc a b nt n0 h' n' hn
theorem CmpA.up {cx : Cx} {n f p q : Nat} {G F : Nat → SV} {cI : Int × Int → Int × Int → Int} (hc : CmpA cx n f p q G F cI) {m : Nat} (hm : n ≤ m) : CmpA cx m f p q G F cI := fun a b nt n0 h' n' hn => hc a b nt n0 h' n' (by omega)
section
variable (cx : Cx) (h : List (Nat × Seg)) (n : Nat)
end
end Go.Proofs.Ytggpnfgohpifoaa.V

/- Lengths of numbers in bits, exactly; patterns broken among spots. -/
namespace Go.Proofs.Ytggpnfgohpifoaa.V
open Go.Sort (bitsLen bitsLen_le_iff xorNext xorNextN xorNext_toNat xorNextN_lt breakPatterns breakStep swp)
section
variable (cx : Cx) (h : List (Nat × Seg)) (n : Nat)
end
end Go.Proofs.Ytggpnfgohpifoaa.V

/- Patterns broken among spots. -/
namespace Go.Proofs.Ytggpnfgohpifoaa.V
open Go.Sort (bitsLen bitsLen_le_iff xorNext xorNextN xorNext_toNat xorNextN_lt breakPatterns breakStep swp two_pow_bitsLen_le)
section
variable (cx : Cx) (h : List (Nat × Seg)) (n : Nat)
end
end Go.Proofs.Ytggpnfgohpifoaa.V

/- The library's sort of spots. -/
namespace Go.Proofs.Ytggpnfgohpifoaa.V
open Go.Sort (bitsLen swp insertionSort heapSort breakPatterns choosePivot reverseRange partialInsertionSort partition partitionEqual pdq rd Hint hintCode SWO Below rd_facts rd_c rd_true rd_false rd_dec rd_not rd_pi_yes rd_pi_no rd_lim_le round_part round_eq pdq_small pdq_heap pdq_done pdq_eq pdq_left pdq_right insertionSort_holds heapSort_holds partialInsertionSort_holds partition_holds partitionEqual_holds reverseRange_holds pdq_sorts)
section
variable (cx : Cx) (h : List (Nat × Seg)) (n : Nat)
end
end Go.Proofs.Ytggpnfgohpifoaa.V

/- Sorted lists of spots made compact; sets of spots, of whatever length. -/
namespace Go.Proofs.Ytggpnfgohpifoaa.V
section
variable (cx : Cx) (h : List (Nat × Seg)) (n : Nat)
end
end Go.Proofs.Ytggpnfgohpifoaa.V

/- The library's sort of spots, of whatever length; sets of spots. -/
namespace Go.Proofs.Ytggpnfgohpifoaa.V
open Go.Sort (pdq pdq_sorts PermIn SortedIn SWO bitsLen bitsLen_le_iff)
section
variable (cx : Cx) (h : List (Nat × Seg)) (n : Nat)
end
section
variable (cx : Cx) (h : List (Nat × Seg)) (n : Nat)
end
end Go.Proofs.Ytggpnfgohpifoaa.V

/- Lists of cells: the program's own walk. -/
namespace Go.Proofs.Ytggpnfgohpifoaa.V
/-- A list of spots in memory. -/
def Sp (h : List (Nat × Seg)) (lo n : Nat) (V : SV) (L : List (Int × Int)) : Prop :=
  ∃ i cap s, V = .sl i 0 L.length cap ∧ lo ≤ i ∧ i < n ∧ hget h i = some s ∧ s.rw = true ∧ s.n = L.length * 2 ∧ L.length ≤ cap ∧ ∀ k, k < L.length * 2 → s.c k = spotsC L k
theorem Sp.out {h : List (Nat × Seg)} {lo n : Nat} {V : SV} {L : List (Int × Int)} (hA : Sp h lo n V L) : SpsOut h lo n V L := by
  obtain ⟨i, cap, s, h1, h2, h3, h4, h5, h6, h7, h8⟩ := hA
  exact .inr ⟨i, cap, s, h1, h2, h3, h4, h5, h6, h8⟩
theorem Sp.ok {h : List (Nat × Seg)} {lo n : Nat} {V : SV} {L : List (Int × Int)} (hA : Sp h lo n V L) : V.ok = True := hA.out.ok
theorem Sp.ext {h h' : List (Nat × Seg)} {lo n n' : Nat} {V : SV} {L : List (Int × Int)} (hA : Sp h lo n V L) (hn : n ≤ n') (hx : HExt n h h') : Sp h' lo n' V L := by
  obtain ⟨i, cap, s, h1, h2, h3, h4, h5⟩ := hA
  exact ⟨i, cap, s, h1, h2, by omega, hx i h3 s h4, h5⟩
theorem Sp.lo {h : List (Nat × Seg)} {lo lo' n : Nat} {V : SV} {L : List (Int × Int)} (hA : Sp h lo n V L) (hl : lo' ≤ lo) : Sp h lo' n V L := by
  obtain ⟨i, cap, s, h1, h2, h3⟩ := hA
  exact ⟨i, cap, s, h1, by omega, h3⟩
theorem Sp.lt {h : List (Nat × Seg)} {lo n : Nat} {V : SV} {L : List (Int × Int)} (hA : Sp h lo n V L) : V.lt n := by
  obtain ⟨i, cap, s, rfl, h2, h3, _⟩ := hA
  exact h3
theorem HOk.consF {n : Nat} {h : List (Nat × Seg)} {s : Seg} (hok : HOk n h) (hs : ∀ k, k < s.n → (s.c k).flat) : HOk (n + 1) ((n, s) :: h) := fun i t hi => by
  simp only [hget] at hi
  by_cases e : n = i
  · rw [if_pos e] at hi; cases hi
    exact ⟨by omega, fun k hk => (hs k hk).below _⟩
  · rw [if_neg e] at hi
    obtain ⟨g1, g2⟩ := hok i t hi
    exact ⟨by omega, fun k hk => SV.lt_mono (by omega) _ (g2 k hk)⟩
theorem HOk.hdel {n j : Nat} {h : List (Nat × Seg)} (hok : HOk n h) : HOk n (hdel h j) := fun i t hi => by
  rw [hget_hdel] at hi
  split at hi
  · cases hi
  · exact hok i t hi
theorem any_fst4 (p : Int → Int → Bool) (L : List (Int × Int)) : decide (0 ≤ fst4 p L) = L.any fun a => p a.1 a.2 := by
  by_cases h : fst4 p L = -1
  · have := fst4_none h
    rw [h]
    refine Eq.symm (List.any_eq_false.2 fun a ha => ?_)
    obtain ⟨j, hj, rfl⟩ := List.mem_iff_getElem.1 ha
    have := this j hj
    rw [List.getD_eq_getElem?_getD, List.getElem?_eq_getElem hj, Option.getD_some] at this
    rw [this]; decide
  · obtain ⟨h0, h1, h2, _⟩ := fst4_some h
    rw [decide_eq_true h0]
    refine Eq.symm (List.any_eq_true.2 ⟨_, ?_, h2⟩)
    rw [List.getD_eq_getElem?_getD, List.getElem?_eq_getElem (show (fst4 p L).toNat < L.length by omega)]
    exact List.getElem_mem _
section
variable (cx : Cx) (h : List (Nat × Seg)) (n : Nat)
end
end Go.Proofs.Ytggpnfgohpifoaa.V

/- Lists of cells: the program's own walk, on. -/
namespace Go.Proofs.Ytggpnfgohpifoaa.V
def eqP (a : Int × Int) : Int → Int → Bool := fun x y => decide (a.1 = x) && decide (a.2 = y)
theorem eqP_iff {a b : Int × Int} : eqP a b.1 b.2 = true ↔ a = b := by simp [eqP, Prod.ext_iff]
theorem any_eqP (a : Int × Int) (L : List (Int × Int)) : (L.any fun b => eqP a b.1 b.2) = decide (a ∈ L) := by
  rw [Bool.eq_iff_iff, List.any_eq_true, decide_eq_true_eq]
  exact ⟨fun ⟨b, hb, e⟩ => (eqP_iff.1 e) ▸ hb, fun h => ⟨a, h, eqP_iff.2 rfl⟩⟩
section
variable (cx : Cx) (h : List (Nat × Seg)) (n : Nat)
theorem indexSp_Q (i m cap : Nat) (L : List (Int × Int)) (s : Seg) (a : Int × Int) (r : Int)
    (hs : hget h i = some s) (hi : i < n) (hm : L.length = m) (hm9 : m ≤ 1000000000) (hn : m * 2 ≤ s.n) (hc : ∀ k, k < m * 2 → s.c k = spotsC L k)
    (hr0 : r = -1 → ∀ j, j < m → eqP a (L.getD j (0, 0)).1 (L.getD j (0, 0)).2 = false) (hr1 : r ≠ -1 → 0 ≤ r ∧ r < m ∧ eqP a (L.getD r.toNat (0, 0)).1 (L.getD r.toNat (0, 0)).2 = true ∧ ∀ j : Nat, (j : Int) < r → eqP a (L.getD j (0, 0)).1 (L.getD j (0, 0)).2 = false) :
    CallQ Try.prog cx 59 [.sl i 0 m cap, spot a.1 a.2] h n (.int .i64 r) := by
  have hni : n ≠ i := by omega
  refine callQ_of_T (P := Try.prog) hti (nt := 19) (rs := [.tmp 4]) rfl rfl Try.call59 Try.func59 rfl _ (by simp only [go_sem, and_self]) (Nat.le_of_ble_eq_true rfl) _ (by first | exact trivial | (refine lt_flat rfl ?_; simp [SV.flat]; done) | simp only [go_sem]) fun hok => ?_
  simp only [go_sem, Nat.reduceLT, Int.reduceNeg]
  refine T_lp (ι := { j : Nat // j ≤ m ∧ ∀ k, k < j → eqP a (L.getD k (0, 0)).1 (L.getD k (0, 0)).2 = false })
    (fun j => ([(0, .sl i 0 m cap), (3, .ptr n 0), (7, .int .i64 m), (8, .int .i64 j.1)], (n, ⟨2, cl [.int .i8 a.1, .int .i8 a.2], true, none⟩) :: h, n + 1)) (fun j => m - j.1) ⟨0, by simp⟩ ?_ ?_
  · refine Imp.id (by simp) ?_ (impH.base0 (hok.consF fun k hk => pair_flat _ _ hk) (Nat.le_refl _) HExt.rfl)
    simp only [go_sem, Nat.reduceLT]
    (try (repeat' apply And.intro) <;> first | omega | rfl | trivial | assumption | skip)
  · rintro ⟨j, hj, hall⟩
    simp only [go_sem, Nat.reduceLT, Int.reduceNeg, decide_eq_true_eq, decide_eq_false_iff_not]
    refine ⟨fun h1 => ?_, fun h1 => ?_⟩
    · have r1 : (0 : Int) ≤ j ∧ (j : Int) < m := ⟨by omega, by omega⟩
      have b1 : j * 2 ≤ s.n - 2 := by omega
      have b2 : 2 ≤ s.n := by omega
      have b3 : j * 2 + 2 ≤ s.n := by omega
      refine T_draw hti _ _ (by kernel_rfl) (by kernel_rfl) ?_
      simp only [go_sem, Nat.reduceLT, Nat.reduceLeDiff, Nat.reduceMod, Int.reduceNeg, hs, hi, hni, r1, b1, b2, b3, hc (j * 2) (by omega), hc (j * 2 + 1) (by omega), spotsC_x, spotsC_y]
      refine ⟨fun h2 => ?_, fun h2 => ⟨⟨j + 1, by omega, fun k hk => ?_⟩, by show m - (j + 1) < m - j; omega, ?_⟩⟩
      · rcases (by omega : r = -1 ∨ r ≠ -1) with hr | hr
        · have := hr0 hr j (by omega)
          rw [eqP, h2] at this; cases this
        · obtain ⟨r0, r1, r2, r3⟩ := hr1 hr
          rcases (by omega : (j : Int) < r ∨ r < j ∨ r = j) with h | h | h
          · have := r3 j h
            rw [eqP, h2] at this; cases this
          · have := hall r.toNat (by omega)
            rw [r2] at this; cases this
          · rw [h]
      · rcases (by omega : k < j ∨ k = j) with h | rfl
        · exact hall k h
        · exact h2
      · refine Imp.id (by simp) ?_ (impH.base0 (hok.consF fun k hk => pair_flat _ _ hk) (Nat.le_refl _) HExt.rfl)
        simp only [go_sem, Nat.reduceLT, w64N (a := (j : Int) + 1) (k := j + 1) (by omega) (by omega)]
        (try (repeat' apply And.intro) <;> first | omega | rfl | trivial | assumption | skip)
    · rcases (by omega : r = -1 ∨ r ≠ -1) with hr | hr
      · rw [hr]
      · obtain ⟨r0, r1, r2, r3⟩ := hr1 hr
        have := hall r.toNat (by omega)
        rw [r2] at this; cases this
end
end Go.Proofs.Ytggpnfgohpifoaa.V

/- GiveUnit of both codes; the neighbours of a cell. -/
namespace Go.Proofs.Ytggpnfgohpifoaa.V
theorem besideL_ne {x y : Int} (hx : 0 ≤ x ∧ x < 8) (hy : 0 ≤ y ∧ y < 8) : ∀ p ∈ besideL x y, ¬ (p.2 = y ∧ p.1 = x) := by
  intro p hp
  unfold besideL at hp
  simp only [List.mem_cons, List.not_mem_nil, or_false] at hp
  have e1 : IntKind.i8.wrap (x + 1) = x + 1 := w8 (by omega)
  have e2 : IntKind.i8.wrap (x - 1) = x - 1 := w8 (by omega)
  have e3 : IntKind.i8.wrap (y + 1) = y + 1 := w8 (by omega)
  have e4 : IntKind.i8.wrap (y - 1) = y - 1 := w8 (by omega)
  rcases hp with rfl | rfl | rfl | rfl <;> simp only [e1, e2, e3, e4] <;> omega
section
variable (cx : Cx) (h : List (Nat × Seg)) (n : Nat)
theorem containsO_Q (j cap : Nat) (L : List (Int × Int)) (t : Seg) (a : Int × Int) (hs : hget h j = some t) (hj : j < n) (hn : L.length * 2 ≤ t.n) (hc : ∀ k, k < L.length * 2 → t.c k = spotsC L k) (hm9 : L.length ≤ 1000000000) :
    CallQ Try.prog cx 44 [.sl j 0 L.length cap, spot a.1 a.2] h n (.bool (decide (a ∈ L))) := by
  have hnj : n ≠ j := by omega
  refine callQ_of_T (P := Try.prog) hti (nt := 9) (rs := [.tmp 4]) rfl rfl Try.call44 Try.func44 rfl _ (by simp only [go_sem, and_self]) (Nat.le_of_ble_eq_true rfl) _ (by first | exact trivial | (refine lt_flat rfl ?_; simp [SV.flat]; done) | simp only [go_sem]) fun hok => ?_
  simp only [go_sem, Nat.reduceLT]
  refine (indexSp_Q _ _ _ j L.length cap L t a (fst4 (eqP a) L) (by first | exact hs | simp only [go_sem, hs, hj]) (by omega) rfl (by omega) (by omega) hc (fun h => fst4_none h) (fun h => fst4_some h)).A ?_
  simp only [go_sem, Nat.reduceLT, ge_iff_le, any_fst4, any_eqP, HExt_cons]
theorem near_E (S : Sh) (x y : Int) (hR : ShR S) (hsm : Small S) (hx : -128 ≤ x ∧ x < 128) (hy : -128 ≤ y ∧ y < 128) (K : HK)
    (hK : ∀ cap h' n', n + 2 < n' → HExt n h h' → HOk n' h' → hget h' (n + 2) = some ⟨(nb S x y).length * 2, spotsC (nb S x y), true, none⟩ → K (.sl (n + 2) 0 (nb S x y).length cap) h' n') :
    CallE Try.prog cx 18 [.agg 266 (shC S), spot x y] h n K := by
  refine CallE.hokE ?_
  refine callE_of_T (P := Try.prog) hti (nt := 7) (rs := [.tmp 4]) rfl rfl Try.call18 Try.func18 rfl _ (by simp only [go_sem, and_self]) (Nat.le_of_ble_eq_true rfl) _ fun hok => ?_
  simp only [go_sem, Nat.reduceLT]
  refine callA_false (beside2_E _ _ _ n 0 _ S x y (by simp only [go_sem]) (by omega) (shAt_shC hR) hsm hx hy _ fun cap => ?_)
  simp only [go_sem, Nat.reduceLT]
  exact fun hok' => hK cap _ _ (by omega) (by simp only [go_sem, HExt_cons]) hok' (by simp only [go_sem])
theorem l02near_Q (i : Nat) (S : Sh) (ax ay bx by' : Int) (hs : hget h i = some (shS S)) (hi : i < n) (hR : ShR S) (hsm : Small S) (ha : hasB S ax ay = true) (hw : waxB S ax ay = false) (hb : (bx, by') ∈ nb S ax ay) :
    CallQ Try.prog cx 48 [.ptr i 0, spot ax ay, spot bx by'] h n (.bool true) := by
  obtain ⟨x0, x8, y0, y8⟩ := hasB_in hsm ha
  have hne : (n == i) = false := by simp; omega
  have hne1 : (n + 1 == i) = false := by simp; omega
  have hf : nbB S ax ay = false := by simp [nbB, ha, hw]
  have hl : (nb S ax ay).length ≤ 4 := nb_len S ax ay
  refine callQ_of_T (P := Try.prog) hti (nt := 28) (rs := [.tmp 6]) rfl rfl Try.call48 Try.func48 rfl _ (by simp only [go_sem, and_self]) (Nat.le_of_ble_eq_true rfl) _ (by first | exact trivial | (refine lt_flat rfl ?_; simp [SV.flat]; done) | simp only [go_sem]) fun hok => ?_
  simp only [go_sem, Nat.reduceLT]
  refine (free_Q _ _ _ i 0 _ S ax ay (by simp only [go_sem, hne, hne1, hs]) (by omega) (shAt_shC hR) hsm (by omega) (by omega)).A ?_
  simp only [go_sem, Nat.reduceLT, hf]
  refine callA_false (beside2_E _ _ _ i 0 _ S ax ay (by simp only [go_sem, hne, hne1, hs]) (by omega) (shAt_shC hR) hsm (by omega) (by omega) _ fun cap => ?_)
  obtain ⟨q0, hq0, e0⟩ := List.mem_iff_getElem.1 hb
  generalize nb S ax ay = L at *
  simp only [go_sem, Nat.reduceLT]
  have okM : HOk (n + 3) ((n + 2, ⟨L.length * 2, spotsC L, true, none⟩) :: (n + 1, ⟨2, cl [SV.int .i8 bx, SV.int .i8 by'], true, none⟩) :: (n, ⟨2, cl [SV.int .i8 ax, SV.int .i8 ay], true, none⟩) :: h) := ((hok.consF fun k hk => pair_flat _ _ hk).consF fun k hk => pair_flat _ _ hk).consF fun k hk => spotsC_flat _ _
  refine T_lp (ι := { q : Nat // q ≤ q0 })
    (fun q => ([(5, .ptr (n + 1) 0), (7, .sl (n + 2) 0 L.length cap), (8, .int .i64 q.1)], (n + 2, ⟨L.length * 2, spotsC L, true, none⟩) :: (n + 1, ⟨2, cl [SV.int .i8 bx, SV.int .i8 by'], true, none⟩) :: (n, ⟨2, cl [SV.int .i8 ax, SV.int .i8 ay], true, none⟩) :: h, n + 3)) (fun q => q0 - q.1) ⟨0, by omega⟩ ?_ ?_
  · refine Imp.id (by simp) ?_ (impH.base0 okM (Nat.le_refl _) HExt.rfl)
    simp only [go_sem, Nat.reduceLT]
    omega
  · rintro ⟨q, hq⟩
    have r1 : (0 : Int) ≤ q ∧ (q : Int) < L.length := by omega
    have r2 : (q : Int) < L.length := by omega
    have b1 : q * 2 ≤ L.length * 2 - 2 := by omega
    have b2 : 2 ≤ L.length * 2 := by omega
    simp only [go_sem, Nat.reduceLT, r2]
    refine T_draw hti _ _ (by kernel_rfl) (by kernel_rfl) ?_
    simp only [go_sem, Nat.reduceLT, Nat.reduceLeDiff, Nat.reduceMod, r1, b1, b2, spotsC_x, spotsC_y]
    refine ⟨by omega, fun _ => trivial, fun h1 => ?_⟩
    have hqq : q ≠ q0 := fun e => by
      subst e
      rw [List.getD_eq_getElem?_getD, List.getElem?_eq_getElem hq0, e0] at h1
      simp at h1
    refine ⟨⟨q + 1, by omega⟩, by show q0 - (q + 1) < q0 - q; omega, ?_⟩
    refine Imp.id (by simp) ?_ (impH.base0 okM (Nat.le_refl _) HExt.rfl)
    simp only [go_sem, Nat.reduceLT, w64 (n := (q : Int) + 1) (by omega), Int.natCast_add, Int.natCast_one]
    omega
theorem giveC_E (i : Nat) (S : Sh) (fx fy tx ty : Int) (hs : hget h i = some (shS S)) (hi : i < n) (hR : ShR S) (hw : S.wet fy fx ≠ 0)
    (hfx : 0 ≤ fx) (hfx8 : fx < 8) (hfy : 0 ≤ fy) (hfy8 : fy < 8) (htx : 0 ≤ tx) (htx8 : tx < 8) (hty : 0 ≤ ty) (hty8 : ty < 8) (K : HK)
    (hK : K (.tup 0 (cl [])) (hset h i (shS (giveS S fx fy tx ty))) n) : CallE Try.prog cx 46 [.ptr i 0, spot fx fy, spot tx ty] h n K := by
  refine (give_E cx h n i 0 (shS S) S fx fy tx ty hs hi rfl (shAt_shC hR) hw hfx hfx8 hfy hfy8 htx htx8 hty hty8 (fun r' h' n' => r' = .tup 0 (cl []) ∧ n' = n ∧ ∃ c', ShAt ⟨266, c', true, none⟩ 0 (giveS S fx fy tx ty) ∧ h' = hset h i ⟨266, c', true, none⟩) (fun c' hc' _ => ⟨rfl, rfl, c', hc', rfl⟩)).imp0 ?_
  rintro hok r' h1 n1 ⟨rfl, rfl, c', hS, rfl⟩
  have hF : ShF c' (giveS S fx fy tx ty) := by simpa using hS.2
  exact ⟨_, hset h i (shS (giveS S fx fy tx ty)), n1, Nat.le_refl _, by rw [ren_nil], (by simp only [go_sem]), impH.set0 hok (Nat.le_refl _) hs (HBut.set i n1 h _) (hget_hset_self hs _) (SegLe.flat (Nat.le_refl _) id (.inr rfl) fun k hk => ⟨hF.eqC hk, shC_flat _ k⟩), hK⟩
theorem giveC2_E (i : Nat) (S : Sh) (fx fy tx ty : Int) (hs : hget h i = some (shS S)) (hi : i < n) (hR : ShR S) (hG : Good S) (hw : 0 < S.wet fy fx) (hft : ¬ (ty = fy ∧ tx = fx))
    (hfx : 0 ≤ fx) (hfx8 : fx < 8) (hfy : 0 ≤ fy) (hfy8 : fy < 8) (htx : 0 ≤ tx) (htx8 : tx < 8) (hty : 0 ≤ ty) (hty8 : ty < 8) (K : HK)
    (hK : K (.tup 0 (cl [])) (hset h i (shS (giveS S fx fy tx ty))) n) : CallE Try.prog cx 50 [.ptr i 0, spot fx fy, spot tx ty] h n K := by
  refine (give2_E cx h n i 0 (shS S) S fx fy tx ty hs hi rfl (shAt_shC hR) hG hw hft hfx hfx8 hfy hfy8 htx htx8 hty hty8 (fun r' h' n' => r' = .tup 0 (cl []) ∧ n' = n ∧ ∃ c', ShAt ⟨266, c', true, none⟩ 0 (giveS S fx fy tx ty) ∧ h' = hset h i ⟨266, c', true, none⟩) (fun c' hc' _ => ⟨rfl, rfl, c', hc', rfl⟩)).imp0 ?_
  rintro hok r' h1 n1 ⟨rfl, rfl, c', hS, rfl⟩
  have hF : ShF c' (giveS S fx fy tx ty) := by simpa using hS.2
  exact ⟨_, hset h i (shS (giveS S fx fy tx ty)), n1, Nat.le_refl _, by rw [ren_nil], (by simp only [go_sem]), impH.set0 hok (Nat.le_refl _) hs (HBut.set i n1 h _) (hget_hset_self hs _) (SegLe.flat (Nat.le_refl _) id (.inr rfl) fun k hk => ⟨hF.eqC hk, shC_flat _ k⟩), hK⟩
/-- What GiveUnit gives between two neighbours. -/
def giveR (S : Sh) (ax ay bx by' : Int) : Sh × Int := if S.wet ay ax = 0 then (sh0, 4) else (giveS S ax ay bx by', 0)
section
variable (S : Sh) (ax ay bx by' : Int) (hR : ShR S) (hV : Valid S) (ha : hasB S ax ay = true) (hw : waxB S ax ay = false) (hb : (bx, by') ∈ nb S ax ay) (hb200 : S.wet by' bx < 200)
include hR hV ha hw hb hb200
theorem giveUnit_Q : CallQ Try.prog cx 21 [.agg 266 (shC S), spot ax ay, spot bx by'] h n (.tup 2 (cl [.agg 266 (shC (giveR S ax ay bx by').1), .int .i64 (giveR S ax ay bx by').2])) := by
  obtain ⟨x0, x8, y0, y8⟩ := hasB_in hV.1 ha
  obtain ⟨hb1, hb2⟩ := nb_free hb
  obtain ⟨u0, u8, v0, v8⟩ := hasB_in hV.1 hb1
  have hl : (nb S ax ay).length ≤ 4 := nb_len S ax ay
  have n200 : ¬ S.wet by' bx = 200 := by omega
  refine callQ_of_T (P := Try.prog) hti (nt := 46) (rs := [.cell 6 33, .tmp 7]) rfl rfl Try.call21 Try.func21 rfl _ (by simp only [go_sem, and_self]) (Nat.le_of_ble_eq_true rfl) _ (by first | exact trivial | (refine lt_flat rfl ?_; simp [SV.flat]; done) | simp only [go_sem]) fun hok => ?_
  simp only [go_sem, Nat.reduceLT]
  refine (has_Q _ _ _ n 0 _ S ax ay (by simp only [go_sem]) (by omega) (shAt_shC hR)).A ?_
  rw [ha]
  simp only [go_sem, Nat.reduceLT]
  refine (has_Q _ _ _ n 0 _ S bx by' (by simp only [go_sem]) (by omega) (shAt_shC hR)).A ?_
  rw [hb1]
  simp only [go_sem, Nat.reduceLT]
  refine (code_Q _ _ _ n 0 _ S true (by simp only [go_sem]) (by omega) (shAt_shC hR)).A ?_
  rw [codeI_ok hV]
  simp only [go_sem, Nat.reduceLT, if_true]
  refine T_drawG hti 15 [] (.b 0 0 (.b 2 1 (.b 0 2 (.b 0 3 (.b 0 5 (.b 2 4 (.b 2 6 (.b 0 7 (.b 0 8 (.b 0 9 (.b 0 10 (.b 2 11 (.b 0 12 (.b 0 13 (.b 0 14 (.f) .o) .o) .o) .o) .o) .o) .o) .o) .o) .o) .o) .o) .o) .o) .o) _ _ (by kernel_rfl) (by kernel_rfl) ?_
  simp only [go_sem, Nat.reduceLT]
  refine (waxed_Q _ _ _ n 0 _ S ax ay (by simp only [go_sem]) (by omega) (shAt_shC hR) x0 y0 y8).A ?_
  rw [hw]
  simp only [go_sem, Nat.reduceLT]
  refine callA_false (neighbours_E _ _ _ n 0 _ S ax ay (by simp only [go_sem]) (by omega) (shAt_shC hR) hV.1 _ fun cap => ?_)
  simp only [go_sem, Nat.reduceLT, Nat.reduceLeDiff, HExt_cons]
  refine (containsO_Q _ _ _ (n + 4) cap (nb S ax ay) ⟨(nb S ax ay).length * 2, spotsC (nb S ax ay), true, none⟩ (bx, by') (by simp only [go_sem]) (by omega) (Nat.le_refl _) (fun k hk => rfl) (by omega)).A ?_
  rw [decide_eq_true hb]
  simp only [go_sem, Nat.reduceLT]
  refine (wet_Q _ _ _ n 0 _ S ax ay (by simp only [go_sem]) (by omega) (shAt_shC hR) x0 x8 y0 y8).A ?_
  unfold giveR
  by_cases hz : S.wet ay ax = 0
  · simp only [go_sem, Nat.reduceLT, hz, if_true]
  simp only [go_sem, Nat.reduceLT, hz, if_false]
  refine (wet_Q _ _ _ n 0 _ S bx by' (by simp only [go_sem]) (by omega) (shAt_shC hR) u0 u8 v0 v8).A ?_
  simp only [go_sem, Nat.reduceLT, n200]
  refine callA_false (giveC_E _ _ _ n S ax ay bx by' (by simp only [go_sem]) (by omega) hR hz x0 x8 y0 y8 u0 u8 v0 v8 _ ?_)
  simp only [go_sem, Nat.reduceLT, reduceIte, HExt_cons]
theorem giveUnitR_Q : CallQ Try.prog cx 22 [.agg 266 (shC S), spot ax ay, spot bx by'] h n (.tup 2 (cl [.agg 266 (shC (giveR S ax ay bx by').1), .int .i64 (giveR S ax ay bx by').2])) := by
  obtain ⟨x0, x8, y0, y8⟩ := hasB_in hV.1 ha
  obtain ⟨hb1, hb2⟩ := nb_free hb
  obtain ⟨u0, u8, v0, v8⟩ := hasB_in hV.1 hb1
  have hG := hV.good
  have hwa := hG.wet ay ax y0 y8 x0 x8
  have n200 : ¬ S.wet by' bx = 200 := by omega
  have hne : ¬ (by' = ay ∧ bx = ax) := besideL_ne ⟨x0, x8⟩ ⟨y0, y8⟩ _ (List.mem_filter.1 hb).1
  refine callQ_of_T (P := Try.prog) hti (nt := 43) (rs := [.cell 6 33, .tmp 7]) rfl rfl Try.call22 Try.func22 rfl _ (by simp only [go_sem, and_self]) (Nat.le_of_ble_eq_true rfl) _ (by first | exact trivial | (refine lt_flat rfl ?_; simp [SV.flat]; done) | simp only [go_sem]) fun hok => ?_
  simp only [go_sem, Nat.reduceLT]
  refine (asked2_Q _ _ _ n S ax ay true (by simp only [go_sem]) (by omega) hR (by omega) (by omega)).A ?_
  rw [ha, codeI_ok hV]
  simp only [go_sem, Nat.reduceLT, Bool.and_self, if_true]
  refine (asked2_Q _ _ _ n S bx by' true (by simp only [go_sem]) (by omega) hR (by omega) (by omega)).A ?_
  rw [hb1, codeI_ok hV]
  simp only [go_sem, Nat.reduceLT, Bool.and_self, if_true]
  refine (l02near_Q _ _ _ n S ax ay bx by' (by simp only [go_sem]) (by omega) hR hV.1 ha hw hb).A ?_
  simp only [go_sem, Nat.reduceLT]
  refine (wet2_Q _ _ _ n 0 _ S ax ay (by simp only [go_sem]) (by omega) (shAt_shC hR) x0 x8 y0 y8).A ?_
  unfold giveR
  by_cases hz : S.wet ay ax = 0
  · simp only [go_sem, Nat.reduceLT, Int.reduceEq, hz, if_true]
  simp only [go_sem, Nat.reduceLT, hz, if_false]
  refine (wet2_Q _ _ _ n 0 _ S bx by' (by simp only [go_sem]) (by omega) (shAt_shC hR) u0 u8 v0 v8).A ?_
  simp only [go_sem, Nat.reduceLT, n200]
  refine callA_false (giveC2_E _ _ _ n S ax ay bx by' (by simp only [go_sem]) (by omega) hR hG (by omega) hne x0 x8 y0 y8 u0 u8 v0 v8 _ ?_)
  simp only [go_sem, Nat.reduceLT, reduceIte, HExt_cons]
end
end
end Go.Proofs.Ytggpnfgohpifoaa.V

/- Sets of cells: the reference's walk. -/
namespace Go.Proofs.Ytggpnfgohpifoaa.V
@[go_sem] theorem zz_mk : zz_a010c9 = mkC [] := by funext j; simp [mkC, zz_a010c9]
@[go_sem] theorem ones_mk (L : List (Int × Int)) : ones (.agg 64 (mkC L)) = True := eq_true fun j hj => trivial
@[go_sem] theorem okc_mk (L : List (Int × Int)) : (SV.agg 64 (mkC L)).okc = True := eq_true trivial
@[go_sem] theorem mkS_eq (L : List (Int × Int)) : mkS L = ⟨64, mkC L, true, none⟩ := rfl
@[go_sem] theorem lt_mk (m : Nat) (L : List (Int × Int)) : (SV.agg 64 (mkC L)).lt m = True := eq_true fun j hj => trivial
section
variable (cx : Cx) (h : List (Nat × Seg)) (n : Nat)
end
end Go.Proofs.Ytggpnfgohpifoaa.V

/- Spreads: the program's own walk. -/
namespace Go.Proofs.Ytggpnfgohpifoaa.V
/-- A list to which one may append. -/
def SpO (h : List (Nat × Seg)) (lo n : Nat) (V : SV) (L : List (Int × Int)) : Prop :=
  ∃ j cap s, V = .sl j 0 L.length cap ∧ lo ≤ j ∧ j < n ∧ hget h j = some s ∧ s.own = some (51, cap * 2) ∧ s.rw = true ∧ s.n = L.length * 2 ∧ L.length ≤ cap ∧ cap ≤ maxLen ∧ ∀ k, k < L.length * 2 → s.c k = spotsC L k
theorem SpO.sp {h : List (Nat × Seg)} {lo n : Nat} {V : SV} {L : List (Int × Int)} (hA : SpO h lo n V L) : Sp h lo n V L := by
  obtain ⟨i, cap, s, h1, h2, h3, h4, h5, h6, h7, h8, h9, h10⟩ := hA
  exact ⟨i, cap, s, h1, h2, h3, h4, h6, h7, h8, h10⟩
section
variable (cx : Cx) (h : List (Nat × Seg)) (n : Nat)
end
end Go.Proofs.Ytggpnfgohpifoaa.V

/- Sets of cells: the reference's lists and spreads. -/
namespace Go.Proofs.Ytggpnfgohpifoaa.V
section
variable (cx : Cx) (h : List (Nat × Seg)) (n : Nat)
end
end Go.Proofs.Ytggpnfgohpifoaa.V

/- Sets of cells: the program's answers. -/
namespace Go.Proofs.Ytggpnfgohpifoaa.V
section
variable (cx : Cx) (h : List (Nat × Seg)) (n : Nat)
end
end Go.Proofs.Ytggpnfgohpifoaa.V

/- Spreads, inner cells: the reference's walk. -/
namespace Go.Proofs.Ytggpnfgohpifoaa.V
structure SI (h : List (Nat × Seg)) (n : Nat) (hq : List (Nat × Seg)) (nq : Nat) (V : SV) (Lst M : List (Int × Int)) : Prop where
  hn : n + 2 ≤ nq
  ok : HOk nq hq
  ex : HExt n h hq
  g0 : hget hq n = some (mkS [])
  g1 : hget hq (n + 1) = some (mkS M)
  ls : Sp hq (n + 2) nq V Lst
theorem SI.ext {h hq h' : List (Nat × Seg)} {n nq n' : Nat} {V : SV} {Lst M : List (Int × Int)} (I : SI h n hq nq V Lst M) (hx : HExt nq hq h') (hn : nq ≤ n') (ok : HOk n' h') : SI h n h' n' V Lst M :=
  ⟨Nat.le_trans I.hn hn, ok, I.ex.tr hx (by have := I.hn; omega), hx n (by have := I.hn; omega) _ I.g0, hx (n + 1) (by have := I.hn; omega) _ I.g1, I.ls.ext hn hx⟩
theorem Sp.hset {h : List (Nat × Seg)} {lo n g : Nat} {V : SV} {L : List (Int × Int)} {t : Seg} (hA : Sp h lo n V L) (hg : g < lo) : Sp (hset h g t) lo n V L := by
  obtain ⟨i, cap, s, h1, h2, h3, h4, h5⟩ := hA
  exact ⟨i, cap, s, h1, h2, h3, by rw [hget_hset, if_neg (by omega)]; exact h4, h5⟩
theorem SI.set {h hq : List (Nat × Seg)} {n nq : Nat} {V : SV} {Lst M : List (Int × Int)} (I : SI h n hq nq V Lst M) (M' : List (Int × Int)) : SI h n (hset hq (n + 1) (mkS M')) nq V Lst M' :=
  ⟨I.hn, I.ok.hset fun k hk => (mkC_flat M' k).below _, fun z hz t ht => by rw [hget_hset, if_neg (by omega)]; exact I.ex z hz t ht, by rw [hget_hset, if_neg (by omega)]; exact I.g0, hget_hset_self I.g1 _, I.ls.hset (by omega)⟩
section
variable (cx : Cx) (h : List (Nat × Seg)) (n : Nat)
end
end Go.Proofs.Ytggpnfgohpifoaa.V

/- Forerunners: the program's answers. -/
namespace Go.Proofs.Ytggpnfgohpifoaa.V
section
variable (cx : Cx) (h : List (Nat × Seg)) (n : Nat)
end
end Go.Proofs.Ytggpnfgohpifoaa.V

/- Sets of cells: the reference's answers. -/
namespace Go.Proofs.Ytggpnfgohpifoaa.V
@[go_sem] theorem fitC_mk (A B : List (Int × Int)) (j k : Nat) : fitC .bool (mkC A j) (mkC B k) = True := rfl
section
variable (cx : Cx) (h : List (Nat × Seg)) (n : Nat)
end
end Go.Proofs.Ytggpnfgohpifoaa.V

/- Sets of cells: what the reference answers. -/
namespace Go.Proofs.Ytggpnfgohpifoaa.V
section
variable (cx : Cx) (h : List (Nat × Seg)) (n : Nat)
end
end Go.Proofs.Ytggpnfgohpifoaa.V

/- Drops that make a blot. -/
namespace Go.Proofs.Ytggpnfgohpifoaa.V
section
variable (cx : Cx) (h : List (Nat × Seg)) (n : Nat)
end
end Go.Proofs.Ytggpnfgohpifoaa.V

/- Drops that make a blot: the reference's walk; the codes. -/
namespace Go.Proofs.Ytggpnfgohpifoaa.V
section
variable (cx : Cx) (h : List (Nat × Seg)) (n : Nat)
end
end Go.Proofs.Ytggpnfgohpifoaa.V

/- LeastWater, LeastDye: both codes. -/
namespace Go.Proofs.Ytggpnfgohpifoaa.V
section
variable (cx : Cx) (h : List (Nat × Seg)) (n : Nat)
end
end Go.Proofs.Ytggpnfgohpifoaa.V

/- LeastWater, LeastDye: the answers of both codes. -/
namespace Go.Proofs.Ytggpnfgohpifoaa.V
section
variable (cx : Cx) (h : List (Nat × Seg)) (n : Nat)
end
end Go.Proofs.Ytggpnfgohpifoaa.V

/- OriginsOf: both codes. -/
namespace Go.Proofs.Ytggpnfgohpifoaa.V
section
variable (cx : Cx) (h : List (Nat × Seg)) (n : Nat)
end
end Go.Proofs.Ytggpnfgohpifoaa.V

/- Plain laws for FnOrigins. -/
namespace Go.Proofs.Ytggpnfgohpifoaa.V
section
variable {S : Sh} {x y ink amount water : Int} (hV : Valid S) (hB : Blank S S.wide.toNat S.high.toNat) (hd : dropB S x y ink amount water = true) (hwx : waxB S x y = false) (hw : water ≤ 30)
include hV hB hd hwx hw
end
end Go.Proofs.Ytggpnfgohpifoaa.V

/- The helpers of FnOrigins: clean, bytes, cells. -/
namespace Go.Proofs.Ytggpnfgohpifoaa.V
section
variable (cx : Cx) (h : List (Nat × Seg)) (n : Nat)
theorem long_Q (A B : SV) (la lb : Nat) (hA : A = .nils ∧ la = 0 ∨ ∃ j o cap, A = .sl j o la cap) (hB : B = .nils ∧ lb = 0 ∨ ∃ j o cap, B = .sl j o lb cap) :
    CallQ Try.prog cx 4 [A, B] h n (.bool (decide ((3000 : Int) < (la : Int)) || decide ((3000 : Int) < (lb : Int)))) := by
  have z0 : decide ((3000 : Int) < ((0 : Nat) : Int)) = false := rfl
  rcases hA with ⟨rfl, rfl⟩ | ⟨j, o, cap, rfl⟩ <;> rcases hB with ⟨rfl, rfl⟩ | ⟨j', o', cap', rfl⟩
  · rw [z0]
    refine callQ_of_T (P := Try.prog) hti (nt := 13) (rs := [.tmp 4]) rfl rfl Try.call4 Try.func4 rfl _ (by simp only [go_sem, and_self]) (Nat.le_of_ble_eq_true rfl) _ (by first | exact trivial | (refine lt_flat rfl ?_; simp [SV.flat]; done) | simp only [go_sem]) fun hok => ?_
    simp only [go_sem, Nat.reduceLT, Int.reduceLT, Bool.or_false]
  · rw [z0]
    refine callQ_of_T (P := Try.prog) hti (nt := 13) (rs := [.tmp 4]) rfl rfl Try.call4 Try.func4 rfl _ (by simp only [go_sem, and_self]) (Nat.le_of_ble_eq_true rfl) _ (by first | exact trivial | (refine lt_flat rfl ?_; simp [SV.flat]; done) | simp only [go_sem]) fun hok => ?_
    simp only [go_sem, Nat.reduceLT, Int.reduceLT, Bool.false_or]
  · rw [z0]
    refine callQ_of_T (P := Try.prog) hti (nt := 13) (rs := [.tmp 4]) rfl rfl Try.call4 Try.func4 rfl _ (by simp only [go_sem, and_self]) (Nat.le_of_ble_eq_true rfl) _ (by first | exact trivial | (refine lt_flat rfl ?_; simp [SV.flat]; done) | simp only [go_sem]) fun hok => ?_
    cases h1 : decide ((3000 : Int) < (la : Int)) <;> simp only [go_sem, Nat.reduceLT, Int.reduceLT, h1, Bool.or_false]
    all_goals simp
  · refine callQ_of_T (P := Try.prog) hti (nt := 13) (rs := [.tmp 4]) rfl rfl Try.call4 Try.func4 rfl _ (by simp only [go_sem, and_self]) (Nat.le_of_ble_eq_true rfl) _ (by first | exact trivial | (refine lt_flat rfl ?_; simp [SV.flat]; done) | simp only [go_sem]) fun hok => ?_
    cases h1 : decide ((3000 : Int) < (la : Int)) <;> simp only [go_sem, Nat.reduceLT, h1, Bool.false_or, Bool.true_or]
    all_goals simp
theorem at_Q (A : SV) (a m : Int) (hA : BySl h n n A) (ha : 0 ≤ a) (hm : 1 ≤ m) :
    ∃ v : Int, 0 ≤ v ∧ v < m ∧ CallQ Try.prog cx 6 [A, .int .i64 a, .int .i64 m] h n (.int .i64 v) := by
  rcases hA with rfl | ⟨j, o, len, cap, s, rfl, hj, hji, hg, hl, hl2, hv⟩
  · refine ⟨0, Int.le_refl _, by omega, ?_⟩
    refine callQ_of_T (P := Try.prog) hti (nt := 22) (rs := [.tmp 6]) rfl rfl Try.call6 Try.func6 rfl _ (by simp only [go_sem, and_self]) (Nat.le_of_ble_eq_true rfl) _ (by first | exact trivial | (refine lt_flat rfl ?_; simp [SV.flat]; done) | simp only [go_sem]) fun hok => ?_
    simp only [go_sem, Nat.reduceLT, ha]
  · by_cases h0 : a < (len : Int)
    · obtain ⟨v, hv1, hv2, hv3⟩ := hv a.toNat (by omega)
      refine ⟨v.tmod m, Int.tmod_nonneg _ hv2, Int.tmod_lt_of_pos _ (by omega), ?_⟩
      refine callQ_of_T (P := Try.prog) hti (nt := 22) (rs := [.tmp 6]) rfl rfl Try.call6 Try.func6 rfl _ (by simp only [go_sem, and_self]) (Nat.le_of_ble_eq_true rfl) _ (by first | exact trivial | (refine lt_flat rfl ?_; simp [SV.flat]; done) | simp only [go_sem]) fun hok => ?_
      have h1 : ¬ (len : Int) ≤ a := by omega
      have h2 : ¬ m < 1 := by omega
      simp only [go_sem, Nat.reduceLT, h1, h2, hg, hj, hv1]
      rw [w64 (n := v) (by omega)]
      exact ⟨⟨ha, h0⟩, by omega, by omega, rfl⟩
    · refine ⟨0, Int.le_refl _, by omega, ?_⟩
      have h1 : (len : Int) ≤ a := by omega
      refine callQ_of_T (P := Try.prog) hti (nt := 22) (rs := [.tmp 6]) rfl rfl Try.call6 Try.func6 rfl _ (by simp only [go_sem, and_self]) (Nat.le_of_ble_eq_true rfl) _ (by first | exact trivial | (refine lt_flat rfl ?_; simp [SV.flat]; done) | simp only [go_sem]) fun hok => ?_
      simp only [go_sem, Nat.reduceLT, h1]
end
end Go.Proofs.Ytggpnfgohpifoaa.V

/- The helpers of FnOrigins: cells in a list, equal lists, clean sheets. -/
namespace Go.Proofs.Ytggpnfgohpifoaa.V
section
variable (cx : Cx) (h : List (Nat × Seg)) (n : Nat)
theorem a2waxed_Q (S : Sh) (x y : Int) (hR : ShR S) (hx : 0 ≤ x) (hx8 : x < 8) (hy : 0 ≤ y) (hy8 : y < 8) :
    CallQ Try.prog cx 19 [.agg 266 (shC S), spot x y] h n (.bool (waxB S x y)) := by
  refine callQ_of_T (P := Try.prog) hti (nt := 7) (rs := [.tmp 4]) rfl rfl Try.call19 Try.func19 rfl _ (by simp only [go_sem, and_self]) (Nat.le_of_ble_eq_true rfl) _ (by first | exact trivial | (refine lt_flat rfl ?_; simp [SV.flat]; done) | simp only [go_sem]) fun hok => ?_
  simp only [go_sem, Nat.reduceLT]
  refine (waxed2_Q _ _ _ n 0 _ S x y (by simp only [go_sem]) (by omega) (shAt_shC hR) hx (by omega) hy hy8).A ?_
  simp only [go_sem, Nat.reduceLT]
end
end Go.Proofs.Ytggpnfgohpifoaa.V

/- Equal lists of cells. -/
namespace Go.Proofs.Ytggpnfgohpifoaa.V
section
variable (cx : Cx) (h : List (Nat × Seg)) (n : Nat)
end
end Go.Proofs.Ytggpnfgohpifoaa.V

/- A cell of a sheet; all cells. -/
namespace Go.Proofs.Ytggpnfgohpifoaa.V
theorem BySl.up {h h' : List (Nat × Seg)} {n n' i i' : Nat} {A : SV} (hA : BySl h n i A) (hn : n ≤ n') (hx : HExt n h h') (hi : n ≤ i') : BySl h' n' i' A := by
  rcases hA with rfl | ⟨j, o, len, cap, s, rfl, hj, hji, hg, hl, hl2, hv⟩
  · exact .inl rfl
  · exact .inr ⟨j, o, len, cap, s, rfl, by omega, by omega, hx j hj _ hg, hl, hl2, hv⟩
theorem BySl.hset {h : List (Nat × Seg)} {n i : Nat} {A : SV} (hA : BySl h n i A) (t : Seg) : BySl (hset h i t) n i A := by
  rcases hA with rfl | ⟨j, o, len, cap, s, rfl, hj, hji, hg, hl, hl2, hv⟩
  · exact .inl rfl
  · exact .inr ⟨j, o, len, cap, s, rfl, hj, hji, by rw [hget_hset, if_neg (Ne.symm hji)]; exact hg, hl, hl2, hv⟩
theorem BySl.arg {h : List (Nat × Seg)} {n i : Nat} {A : SV} (hA : BySl h n i A) : ∃ j o len cap, A = .sl j o len cap ∧ j < n ∨ A = .nils := by
  rcases hA with rfl | ⟨j, o, len, cap, s, rfl, hj, hji, hg, hl, hl2, hv⟩
  · exact ⟨0, 0, 0, 0, .inr rfl⟩
  · exact ⟨j, o, len, cap, .inl ⟨rfl, hj⟩⟩
end Go.Proofs.Ytggpnfgohpifoaa.V

/- A cell of a sheet. -/
namespace Go.Proofs.Ytggpnfgohpifoaa.V
section
variable (cx : Cx) (h : List (Nat × Seg)) (n : Nat)
theorem a2spot_E (A : SV) (S : Sh) (hA : BySl h n n A) (hR : ShR S) (hW : 0 ≤ S.wide ∧ S.wide ≤ 8) (hH : 0 ≤ S.high ∧ S.high ≤ 8) (K : HK)
    (hK : ∀ (x y : Int) h' n', n ≤ n' → HExt n h h' → HOk n' h' → 0 ≤ x → (x < S.wide ∨ x = 0) → 0 ≤ y → (y < S.high ∨ y = 0) → K (spot x y) h' n') :
    CallE Try.prog cx 20 [A, .agg 266 (shC S)] h n K := by
  refine CallE.hokE ?_
  have hA0 := hA
  rcases hA with rfl | ⟨j, o, len, cap, s, rfl, hj, hji, hg, hl, hl2, hv⟩
  · refine callE_of_T (P := Try.prog) hti (nt := 23) (rs := [.cell 4 51]) rfl rfl Try.call20 Try.func20 rfl _ (by simp only [go_sem, and_self]) (Nat.le_of_ble_eq_true rfl) _ fun hok => ?_
    have ok1 : HOk (n + 2) ((n + 1, ⟨2, cl [SV.int .i8 0, SV.int .i8 0], true, none⟩) :: (n, shS S) :: h) := (hok.consF fun k hk => shC_flat _ _).consF fun k hk => pair_flat _ _ hk
    have hx1 : HExt n h ((n + 1, ⟨2, cl [SV.int .i8 0, SV.int .i8 0], true, none⟩) :: (n, shS S) :: h) := by simp only [go_sem, HExt_cons]
    simp only [go_sem, Nat.reduceLT]
    have hA1 := hA0.up (n' := n + 2) (i' := n + 2) (by omega) hx1 (by omega)
    refine callA_false (from_E _ _ _ .nils hA1.arg _ ok1 ?_)
    simp only [go_sem, Nat.reduceLT, Nat.reduceLeDiff, reduceCtorEq, w64 (n := S.wide) (by omega)]
    have hA2 := hA0.up (h' := (n + 2, srcS .nils 0 0) :: (n + 1, ⟨2, cl [SV.int .i8 0, SV.int .i8 0], true, none⟩) :: (n, shS S) :: h) (n' := n + 3) (i' := n + 2) (by omega) (by simp only [go_sem, HExt_cons]) (by omega)
    refine callA_false (pick_E _ _ _ (n + 2) .nils 0 0 S.wide (by simp only [go_sem]) (by omega) hA2 (by omega) (by omega) _ fun x a' d' x0 x1 a0 a1 => ?_)
    have hwx : IntKind.i8.wrap x = x := w8 (by omega)
    simp only [go_sem, Nat.reduceLT, Nat.reduceLeDiff, reduceCtorEq, w64 (n := S.high) (by omega), hwx]
    refine callA_false (pick_E _ _ _ (n + 2) .nils a' d' S.high (by simp only [go_sem]) (by omega) (by first | exact hA2 | exact .inl rfl) (by omega) (by omega) _ fun y a'' d'' y0 y1 b0 b1 => ?_)
    have hwy : IntKind.i8.wrap y = y := w8 (by omega)
    simp only [go_sem, Nat.reduceLT, Nat.reduceLeDiff, reduceIte, hwy]
    exact fun hok' => hK x y _ _ (by omega) (by simp only [go_sem, HExt_cons]) hok' x0 x1 y0 y1
  · refine callE_of_T (P := Try.prog) hti (nt := 23) (rs := [.cell 4 51]) rfl rfl Try.call20 Try.func20 rfl _ (by simp only [go_sem, and_self]) (Nat.le_of_ble_eq_true rfl) _ fun hok => ?_
    have ok1 : HOk (n + 2) ((n + 1, ⟨2, cl [SV.int .i8 0, SV.int .i8 0], true, none⟩) :: (n, shS S) :: h) := (hok.consF fun k hk => shC_flat _ _).consF fun k hk => pair_flat _ _ hk
    have hx1 : HExt n h ((n + 1, ⟨2, cl [SV.int .i8 0, SV.int .i8 0], true, none⟩) :: (n, shS S) :: h) := by simp only [go_sem, HExt_cons]
    simp only [go_sem, Nat.reduceLT]
    have hA1 := hA0.up (n' := n + 2) (i' := n + 2) (by omega) hx1 (by omega)
    refine callA_false (from_E _ _ _ (.sl j o len cap) hA1.arg _ ok1 ?_)
    simp only [go_sem, Nat.reduceLT, Nat.reduceLeDiff, reduceCtorEq, w64 (n := S.wide) (by omega)]
    have hA2 := hA0.up (h' := (n + 2, srcS (.sl j o len cap) 0 0) :: (n + 1, ⟨2, cl [SV.int .i8 0, SV.int .i8 0], true, none⟩) :: (n, shS S) :: h) (n' := n + 3) (i' := n + 2) (by omega) (by simp only [go_sem, HExt_cons]) (by omega)
    refine callA_false (pick_E _ _ _ (n + 2) (.sl j o len cap) 0 0 S.wide (by simp only [go_sem]) (by omega) hA2 (by omega) (by omega) _ fun x a' d' x0 x1 a0 a1 => ?_)
    have hwx : IntKind.i8.wrap x = x := w8 (by omega)
    simp only [go_sem, Nat.reduceLT, Nat.reduceLeDiff, reduceCtorEq, w64 (n := S.high) (by omega), hwx]
    have hA3 := hA0.up (h' := (n + 2, srcS (.sl j o len cap) a' d') :: (n + 1, ⟨2, cl [SV.int .i8 0, SV.int .i8 0], true, none⟩) :: (n, shS S) :: h) (n' := n + 3) (i' := n + 2) (by omega) (by simp only [go_sem, HExt_cons]) (by omega)
    refine callA_false (pick_E _ _ _ (n + 2) (.sl j o len cap) a' d' S.high (by simp only [go_sem]) (by omega) hA3 (by omega) (by omega) _ fun y a'' d'' y0 y1 b0 b1 => ?_)
    have hwy : IntKind.i8.wrap y = y := w8 (by omega)
    simp only [go_sem, Nat.reduceLT, Nat.reduceLeDiff, reduceIte, hwy]
    exact fun hok' => hK x y _ _ (by omega) (by simp only [go_sem, HExt_cons]) hok' x0 x1 y0 y1
end
end Go.Proofs.Ytggpnfgohpifoaa.V

/- All cells of a sheet; a drawn sheet. -/
namespace Go.Proofs.Ytggpnfgohpifoaa.V
section
variable (cx : Cx) (h : List (Nat × Seg)) (n : Nat)
theorem a2spots_E (S : Sh) (W H : Nat) (hR : ShR S) (hW : S.wide = W) (hH : S.high = H) (hW8 : W ≤ 8) (hH8 : H ≤ 8) (K : HK)
    (hK : ∀ cap, H * W ≤ cap → cap ≤ maxLen → K (.sl (n + 1) 0 (H * W) cap) ((n + 1, ⟨H * W * 2, cellC W, true, some (51, cap * 2)⟩) :: (n, shS S) :: h) (n + 2)) :
    CallE Try.prog cx 17 [.agg 266 (shC S)] h n K := by
  refine callE_of_T (P := Try.prog) hti (nt := 4) (rs := [.tmp 2]) rfl rfl Try.call17 Try.func17 rfl _ (by simp only [go_sem, and_self]) (Nat.le_of_ble_eq_true rfl) _ fun hok => ?_
  simp only [go_sem, Nat.reduceLT]
  refine callA_false (spots_E _ _ _ n 0 _ S W H (by simp only [go_sem]) (by omega) (shAt_shC hR) hW hH hW8 hH8 _ fun cap h1 h2 => ?_)
  simp only [go_sem, Nat.reduceLT]
  exact hK cap h1 h2
end
end Go.Proofs.Ytggpnfgohpifoaa.V

/- A sheet that is being drawn: plain laws. -/
namespace Go.Proofs.Ytggpnfgohpifoaa.V
/-- The first q cells of a sheet are drawn. -/
structure DrawnI (W H q : Nat) (S : Sh) : Prop where
  R : ShR S
  wide : S.wide = W
  high : S.high = H
  wax : ∀ y x : Int, 0 ≤ y → y < 8 → 0 ≤ x → x < 8 → waxB S x y = true → hasB S x y = true
  wet : ∀ y x, 0 ≤ S.wet y x ∧ S.wet y x < 30
  dye : ∀ y x i, 0 ≤ S.dye y x i ∧ S.dye y x i < 40
  zero : ∀ y x : Int, 0 ≤ y → y < 8 → 0 ≤ x → x < 8 → hasB S x y = false ∨ waxB S x y = true → S.wet y x = 0 ∧ ∀ i, S.dye y x i = 0
  new : ∀ k, q ≤ k → k < H * W → waxB S ((k % W : Nat) : Int) ((k / W : Nat) : Int) = false ∧ S.wet ((k / W : Nat) : Int) ((k % W : Nat) : Int) = 0 ∧ ∀ i, S.dye ((k / W : Nat) : Int) ((k % W : Nat) : Int) i = 0
theorem hasB_setWet (S : Sh) (y x v a b : Int) : hasB (S.setWet y x v) a b = hasB S a b := rfl
theorem hasB_setDye (S : Sh) (y x i v a b : Int) : hasB (S.setDye y x i v) a b = hasB S a b := rfl
theorem hasB_setWax (S : Sh) (y v a b : Int) : hasB (S.setWax y v) a b = hasB S a b := rfl
theorem waxB_setWet (S : Sh) (y x v a b : Int) : waxB (S.setWet y x v) a b = waxB S a b := rfl
theorem waxB_setDye (S : Sh) (y x i v a b : Int) : waxB (S.setDye y x i v) a b = waxB S a b := rfl
theorem cell_neW {W H k q : Nat} (hk : k < H * W) (hq : q < H * W) (h : k ≠ q) : ¬ (((k / W : Nat) : Int) = ((q / W : Nat) : Int) ∧ ((k % W : Nat) : Int) = ((q % W : Nat) : Int)) := by
  rintro ⟨h1, h2⟩
  have e1 := Nat.div_add_mod k W
  have e2 := Nat.div_add_mod q W
  rw [show k / W = q / W by omega, show k % W = q % W by omega] at e1
  omega
theorem cell_hasW {W H q : Nat} {S : Sh} (hW : S.wide = W) (hH : S.high = H) (hq : q < H * W) : hasB S ((q % W : Nat) : Int) ((q / W : Nat) : Int) = true := by
  have hW0 : 0 < W := by
    rcases Nat.eq_zero_or_pos W with h0 | h0
    · rw [h0] at hq; omega
    · exact h0
  have h3 := Nat.mod_lt q hW0
  have h4 : q / W < H := (Nat.div_lt_iff_lt_mul hW0).2 hq
  generalize q % W = a at *
  generalize q / W = b at *
  simp only [hasB, Bool.and_eq_true, decide_eq_true_eq, hW, hH]
  omega
section
variable {W H q : Nat} {S : Sh}
theorem DrawnI.next (h : DrawnI W H q S) : DrawnI W H (q + 1) S := ⟨h.R, h.wide, h.high, h.wax, h.wet, h.dye, h.zero, fun k hk => h.new k (by omega)⟩
theorem DrawnI.setWet (h : DrawnI W H (q + 1) S) (hq : q < H * W) (hx : waxB S ((q % W : Nat) : Int) ((q / W : Nat) : Int) = false) {v : Int} (hv : 0 ≤ v ∧ v < 30) :
    DrawnI W H (q + 1) (S.setWet ((q / W : Nat) : Int) ((q % W : Nat) : Int) v) := by
  refine ⟨h.R.setWet (by omega), h.wide, h.high, h.wax, fun y x => ?_, h.dye, fun y x a b c d e => ?_, fun k hk hk2 => ?_⟩
  · simp only [Sh.setWet]; split
    · exact hv
    · exact h.wet y x
  · rw [hasB_setWet, waxB_setWet] at e
    refine ⟨?_, (h.zero y x a b c d e).2⟩
    simp only [Sh.setWet]
    rw [if_neg]
    · exact (h.zero y x a b c d e).1
    · rintro ⟨rfl, rfl⟩
      rw [hx, cell_hasW h.wide h.high hq] at e
      rcases e with e | e <;> cases e
  · obtain ⟨n1, n2, n3⟩ := h.new k hk hk2
    refine ⟨n1, ?_, n3⟩
    simp only [Sh.setWet]
    rw [if_neg (cell_neW hk2 hq (by omega))]; exact n2
theorem DrawnI.setDye (h : DrawnI W H (q + 1) S) (hq : q < H * W) (hx : waxB S ((q % W : Nat) : Int) ((q / W : Nat) : Int) = false) {i v : Int} (hv : 0 ≤ v ∧ v < 40) :
    DrawnI W H (q + 1) (S.setDye ((q / W : Nat) : Int) ((q % W : Nat) : Int) i v) := by
  refine ⟨h.R.setDye (by omega), h.wide, h.high, h.wax, h.wet, fun y x j => ?_, fun y x a b c d e => ?_, fun k hk hk2 => ?_⟩
  · simp only [Sh.setDye]; split
    · exact hv
    · exact h.dye y x j
  · rw [hasB_setDye, waxB_setDye] at e
    refine ⟨(h.zero y x a b c d e).1, fun j => ?_⟩
    simp only [Sh.setDye]
    rw [if_neg]
    · exact (h.zero y x a b c d e).2 j
    · rintro ⟨rfl, rfl, _⟩
      rw [hx, cell_hasW h.wide h.high hq] at e
      rcases e with e | e <;> cases e
  · obtain ⟨n1, n2, n3⟩ := h.new k hk hk2
    refine ⟨n1, n2, fun j => ?_⟩
    simp only [Sh.setDye]
    rw [if_neg fun e => cell_neW hk2 hq (by omega) ⟨e.1, e.2.1⟩]; exact n3 j
theorem or8 {v x : Int} (hv : 0 ≤ v ∧ v < 256) (hx : 0 ≤ x ∧ x < 8) : 0 ≤ bitsI .or .u8 v (shlI .u8 1 x) ∧ bitsI .or .u8 v (shlI .u8 1 x) < 256 := by
  obtain ⟨a, rfl⟩ := Int.eq_ofNat_of_zero_le hv.1
  obtain ⟨k, rfl⟩ := Int.eq_ofNat_of_zero_le hx.1
  obtain ⟨e, hl⟩ := wax_or (a := a) (k := k) (by omega) (by omega)
  rw [e]; omega
theorem waxB_or {x y x' y' : Int} (hR : ShR S) (hx : 0 ≤ x ∧ x < 8) (hx' : 0 ≤ x' ∧ x' < 8) : waxB (S.setWax y (bitsI .or .u8 (S.wax y) (shlI .u8 1 x))) x' y' = (decide (y' = y ∧ x' = x) || waxB S x' y') := by
  have key : ∀ w w' : Int, w = w' → decide (bitsI .and .u8 (shrI .u8 w x') 1 = 1) = decide (bitsI .and .u8 (shrI .u8 w' x') 1 = 1) := fun w w' e => by rw [e]
  by_cases hy : y' = y
  · subst hy
    have e : (S.setWax y' (bitsI .or .u8 (S.wax y') (shlI .u8 1 x))).wax y' = bitsI .or .u8 (S.wax y') (shlI .u8 1 x) := if_pos rfl
    unfold waxB
    rw [key _ _ e, wax_set (hR.wax _) hx hx']
    congr 1
    rw [decide_eq_decide]; simp
  · have e : (S.setWax y (bitsI .or .u8 (S.wax y) (shlI .u8 1 x))).wax y' = S.wax y' := if_neg hy
    unfold waxB
    have hd : decide (y' = y ∧ x' = x) = false := decide_eq_false (fun e' => hy e'.1)
    rw [key _ _ e, hd, Bool.false_or]
theorem DrawnI.setWax (h : DrawnI W H q S) (hS : Small S) (hq : q < H * W) :
    DrawnI W H (q + 1) (S.setWax ((q / W : Nat) : Int) (bitsI .or .u8 (S.wax ((q / W : Nat) : Int)) (shlI .u8 1 ((q % W : Nat) : Int)))) := by
  obtain ⟨x0, x8, y0, y8⟩ := cell_in hS h.wide h.high hq
  have hh := cell_hasW h.wide h.high hq
  have hn := h.new q (Nat.le_refl _) hq
  refine ⟨h.R.setWax (or8 (h.R.wax _) ⟨x0, x8⟩), h.wide, h.high, fun y x a b c d e => ?_, h.wet, h.dye, fun y x a b c d e => ?_, fun k hk hk2 => ?_⟩
  · rw [waxB_or h.R ⟨x0, x8⟩ ⟨c, d⟩, Bool.or_eq_true, decide_eq_true_eq] at e
    rw [hasB_setWax]
    rcases e with ⟨rfl, rfl⟩ | e
    · exact hh
    · exact h.wax y x a b c d e
  · rw [waxB_or h.R ⟨x0, x8⟩ ⟨c, d⟩, Bool.or_eq_true, decide_eq_true_eq, hasB_setWax] at e
    rcases e with e | ⟨rfl, rfl⟩ | e
    · exact h.zero y x a b c d (.inl e)
    · exact hn.2
    · exact h.zero y x a b c d (.inr e)
  · obtain ⟨n1, n2, n3⟩ := h.new k (by omega) hk2
    obtain ⟨kx0, kx8, ky0, ky8⟩ := cell_in hS h.wide h.high hk2
    refine ⟨?_, n2, n3⟩
    rw [waxB_or h.R ⟨x0, x8⟩ ⟨kx0, kx8⟩, n1, decide_eq_false (cell_neW hk2 hq (by omega))]; rfl
/-- A drawn sheet is valid. -/
theorem DrawnI.valid (h : DrawnI W H (H * W) S) (hS : Small S) : Valid S := ⟨hS, fun y x a b c d => ⟨h.wax y x a b c d, by have := h.wet y x; exact ⟨this.1, by omega⟩, fun i _ _ => by have := h.dye y x i; exact ⟨this.1, by omega⟩, by
  by_cases e : hasB S x y = true ∧ waxB S x y = false
  · exact .inl e
  · have := h.zero y x a b c d (by cases h1 : hasB S x y <;> cases h2 : waxB S x y <;> simp_all)
    exact .inr ⟨this.1, this.2 0, this.2 1, this.2 2⟩⟩⟩
theorem DrawnI.start {W H : Nat} (hW : W ≤ 8) (hH : H ≤ 8) : DrawnI W H 0 ⟨W, H, fun _ _ => 0, fun _ _ _ => 0, fun _ => 0⟩ := by
  have e : ∀ y x : Int, 0 ≤ x → x < 8 → waxB ⟨W, H, fun _ _ => 0, fun _ _ _ => 0, fun _ => 0⟩ x y = false := fun y x a b => wax_none ⟨a, b⟩
  refine ⟨⟨?_, ?_, fun _ _ => (show (-32768 : Int) ≤ 0 ∧ (0 : Int) < 32768 by decide), fun _ _ _ => (show (-32768 : Int) ≤ 0 ∧ (0 : Int) < 32768 by decide), fun _ => (show (0 : Int) ≤ 0 ∧ (0 : Int) < 256 by decide)⟩, rfl, rfl,
   fun y x a b c d h => ?_, fun _ _ => (show (0 : Int) ≤ 0 ∧ (0 : Int) < 30 by decide), fun _ _ _ => (show (0 : Int) ≤ 0 ∧ (0 : Int) < 40 by decide), fun _ _ _ _ _ _ _ => ⟨rfl, fun _ => rfl⟩, fun k _ hk => ⟨?_, rfl, fun _ => rfl⟩⟩
  · show -128 ≤ (W : Int) ∧ (W : Int) < 128
    omega
  · show -128 ≤ (H : Int) ∧ (H : Int) < 128
    omega
  · rw [e y x c d] at h; cases h
  · have hW0 : 0 < W := by
      rcases Nat.eq_zero_or_pos W with h0 | h0
      · rw [h0] at hk; omega
      · exact h0
    have := Nat.mod_lt k hW0
    exact e _ _ (Int.natCast_nonneg _) (by omega)
end
end Go.Proofs.Ytggpnfgohpifoaa.V

/- A drawn sheet: the walk. -/
namespace Go.Proofs.Ytggpnfgohpifoaa.V
/-- Memory as it was, but for one segment. -/
def HExtB (n i : Nat) (h h' : List (Nat × Seg)) : Prop := ∀ j, j < n → j ≠ i → ∀ t, hget h j = some t → hget h' j = some t
theorem HExtB.set {n i : Nat} {h h' : List (Nat × Seg)} (hx : HExtB n i h h') (s : Seg) : HExtB n i h (hset h' i s) := fun j hj hji t ht => by rw [hget_hset, if_neg (Ne.symm hji)]; exact hx j hj hji t ht
theorem HExtB.setN {n i k : Nat} {h h' : List (Nat × Seg)} (hx : HExtB n i h h') (hk : n ≤ k) (s : Seg) : HExtB n i h (hset h' k s) := fun j hj hji t ht => by rw [hget_hset, if_neg (by omega)]; exact hx j hj hji t ht
theorem HExtB.cons {n i k : Nat} {h h' : List (Nat × Seg)} (hx : HExtB n i h h') (hk : n ≤ k) (s : Seg) : HExtB n i h ((k, s) :: h') := fun j hj hji t ht => by simp only [hget]; rw [if_neg (by omega)]; exact hx j hj hji t ht
theorem HExtB.rfl {n i : Nat} {h : List (Nat × Seg)} : HExtB n i h h := fun j _ _ t ht => ht
theorem BySl.upB {h h' : List (Nat × Seg)} {n n' i : Nat} {A : SV} (hA : BySl h n i A) (hn : n ≤ n') (hx : HExtB n i h h') : BySl h' n' i A := by
  rcases hA with rfl | ⟨j, o, len, cap, s, rfl, hj, hji, hg, hl, hl2, hv⟩
  · exact .inl rfl
  · exact .inr ⟨j, o, len, cap, s, rfl, by omega, hji, hx j hj hji _ hg, hl, hl2, hv⟩
theorem BySl.lt {h : List (Nat × Seg)} {n i : Nat} {A : SV} (hA : BySl h n i A) : A.lt n := by
  rcases hA with rfl | ⟨j, o, len, cap, s, rfl, hj, _⟩
  · trivial
  · exact hj
theorem BySl.ok {h : List (Nat × Seg)} {n i : Nat} {A : SV} (hA : BySl h n i A) : A.ok = True := by
  rcases hA with rfl | ⟨j, o, len, cap, s, rfl, hj, _⟩ <;> rfl
theorem srcS_lt {A : SV} {a d : Int} {m : Nat} (hA : A.lt m) : ∀ k, k < (srcS A a d).n → ((srcS A a d).c k).lt m := fun k hk => by
  match k with
  | 0 => exact hA
  | 1 => trivial
  | 2 => trivial
  | k + 3 => exact absurd hk (by show ¬ k + 3 < 3; omega)
/-- A memory that a source of choices was used in: as it was, but for the source's segment. -/
structure SrcM (h : List (Nat × Seg)) (n i : Nat) (A : SV) (h1 : List (Nat × Seg)) (n1 : Nat) (a d : Int) : Prop where
  x : HExtB n i h h1
  le : n ≤ n1
  src : hget h1 i = some (srcS A a d)
  ok : HOk n1 h1
section
variable {h h1 : List (Nat × Seg)} {n i n1 k : Nat} {A : SV} {a d : Int} {s : Seg}
theorem SrcM.cons (hm : SrcM h n i A h1 n1 a d) (hi : i < n) (hs : ∀ k, k < s.n → (s.c k).lt n1) : SrcM h n i A ((n1, s) :: h1) (n1 + 1) a d :=
  ⟨hm.x.cons hm.le s, by have := hm.le; omega, by have := hm.le; simp only [hget]; rw [if_neg (by omega)]; exact hm.src, fun j t ht => by
    simp only [hget] at ht
    split at ht
    · rename_i e; cases ht; exact ⟨by omega, fun k hk => SV.lt_mono (by omega) _ (hs k hk)⟩
    · exact ⟨by have := (hm.ok j t ht).1; omega, fun k hk => SV.lt_mono (by omega) _ ((hm.ok j t ht).2 k hk)⟩⟩
theorem SrcM.setN (hm : SrcM h n i A h1 n1 a d) (hi : i < n) (hk : n ≤ k) (hs : ∀ k, k < s.n → (s.c k).lt n1) : SrcM h n i A (hset h1 k s) n1 a d :=
  ⟨hm.x.setN hk s, hm.le, by rw [hget_hset, if_neg (by omega)]; exact hm.src, HOk.hset hm.ok hs⟩
end
section
variable (cx : Cx)
theorem pick_M {h h1 : List (Nat × Seg)} {n i n1 : Nat} {A : SV} {a d : Int} (hm : SrcM h n i A h1 n1 a d) (hi : i < n) (hA : BySl h n i A) (m : Int) (ha : 0 ≤ a ∧ a ≤ 1048576) (hmm : 0 ≤ m ∧ m ≤ 200) (K : HK)
    (hK : ∀ v a' d' h2, 0 ≤ v → (v < m ∨ v = 0) → a ≤ a' → a' ≤ a + 1 → SrcM h n i A h2 n1 a' d' → (∀ j, j ≠ i → hget h2 j = hget h1 j) → K (.int .i64 v) h2 n1) :
    CallE Try.prog cx 43 [.ptr i 0, .int .i64 m] h1 n1 K :=
  pick_E cx h1 n1 i A a d m hm.src (by have := hm.le; omega) (hA.upB hm.le hm.x) ha hmm K fun v a' d' h0 h1' h2' h3 => hK v a' d' _ h0 h1' h2' h3
    ⟨hm.x.set _, hm.le, by rw [hget_hset, if_pos rfl, hm.src]; rfl, HOk.hset hm.ok (srcS_lt (SV.lt_mono hm.le _ hA.lt))⟩ (fun j hj => by rw [hget_hset, if_neg (Ne.symm hj)])
theorem one_M {h h1 : List (Nat × Seg)} {n i n1 : Nat} {A : SV} {a d : Int} (hm : SrcM h n i A h1 n1 a d) (hi : i < n) (hA : BySl h n i A) (m : Int) (ha : 0 ≤ a ∧ a ≤ 1048576) (hmm : 0 ≤ m ∧ m ≤ 200) (K : HK)
    (hK : ∀ (b : Bool) a' d' h2, a ≤ a' → a' ≤ a + 1 → SrcM h n i A h2 n1 a' d' → (∀ j, j ≠ i → hget h2 j = hget h1 j) → K (.bool b) h2 n1) :
    CallE Try.prog cx 51 [.ptr i 0, .int .i64 m] h1 n1 K :=
  one_E cx h1 n1 i A a d m hm.src (by have := hm.le; omega) (hA.upB hm.le hm.x) ha hmm K fun b a' d' h2' h3 => hK b a' d' _ h2' h3
    ⟨hm.x.set _, hm.le, by rw [hget_hset, if_pos rfl, hm.src]; rfl, HOk.hset hm.ok (srcS_lt (SV.lt_mono hm.le _ hA.lt))⟩ (fun j hj => by rw [hget_hset, if_neg (Ne.symm hj)])
end
section
variable (cx : Cx) (h : List (Nat × Seg)) (n : Nat)
set_option maxHeartbeats 3200000 in
theorem drawn_E (i : Nat) (A : SV) (a d : Int) (hs : hget h i = some (srcS A a d)) (hi : i < n) (hA : BySl h n i A) (ha : 0 ≤ a ∧ a ≤ 1000) (K : HK)
    (hK : ∀ (S : Sh) (W H : Nat) a' d' h' n', 1 ≤ W → W ≤ 5 → 1 ≤ H → H ≤ 5 → DrawnI W H (H * W) S → a ≤ a' → a' ≤ a + 700 → SrcM h n i A h' n' a' d' → K (.agg 266 (shC S)) h' n') :
    CallE Try.prog cx 23 [.ptr i 0] h n K := by
  refine CallE.hokE ?_
  refine callE_of_SW (P := Try.prog) hti (nt := 95) (rs := [.cell 2 33]) rfl rfl Try.call23 Try.func23 rfl _ (by simp only [go_sem, and_self]) (Nat.le_of_ble_eq_true rfl) _ fun hok => ?_
  refine SW_seq (SW_run hti trivial ?_)
  simp only [go_sem, Nat.reduceLT]
  refine SW_seq (SW_run hti trivial ?_)
  simp only [go_sem, Nat.reduceLT]
  have m1 : SrcM h n i A ((n, ⟨266, shC sh0, true, none⟩) :: h) (n + 1) a d := (SrcM.mk HExtB.rfl (Nat.le_refl _) hs hok).cons hi fun k hk => (shC_flat _ _).below _
  have r1 : hget ((n, ⟨266, shC sh0, true, none⟩) :: h) n = some ⟨266, shC sh0, true, none⟩ := by simp only [go_sem]
  generalize ((n, (⟨266, shC sh0, true, none⟩ : Seg)) :: h) = h1 at *
  refine callA_false (pick_M _ m1 hi hA 5 (by omega) (by omega) _ fun wv a2 d2 h2 w0 w1 q1 q2 m2 e2 => ?_)
  have r2 := (e2 n (by omega)).trans r1
  obtain ⟨W, hWv⟩ : ∃ W : Nat, 1 + wv = W := ⟨(1 + wv).toNat, by omega⟩
  have hW64 : IntKind.i64.wrap (1 + wv) = (W : Int) := by rw [w64 (by omega)]; exact hWv
  simp only [go_sem, Nat.reduceLT, Nat.reduceLeDiff, reduceIte, w8 (n := (W : Int)) (by omega), hW64]
  refine SW_seq (SW_run hti trivial ?_)
  simp only [go_sem, Nat.reduceLT]
  have m3 : SrcM h n i A ((n + 1, shS ⟨W, 0, fun _ _ => 0, fun _ _ _ => 0, fun _ => 0⟩) :: h2) (n + 2) a2 d2 := m2.cons hi fun k hk => (shC_flat _ _).below _
  have r3 : hget ((n + 1, shS ⟨W, 0, fun _ _ => 0, fun _ _ _ => 0, fun _ => 0⟩) :: h2) n = some ⟨266, shC sh0, true, none⟩ := by simp only [go_sem, r2]
  have o3 : hget ((n + 1, shS ⟨W, 0, fun _ _ => 0, fun _ _ _ => 0, fun _ => 0⟩) :: h2) (n + 1) = some (shS ⟨W, 0, fun _ _ => 0, fun _ _ _ => 0, fun _ => 0⟩) := by simp only [go_sem]
  refine callA_false (pick_M _ m3 hi hA 5 (by omega) (by omega) _ fun hv a4 d4 h4 v0 v1 q3 q4 m4 e4 => ?_)
  have r4 := (e4 n (by omega)).trans r3
  have o4 := (e4 (n + 1) (by omega)).trans o3
  obtain ⟨H, hHv⟩ : ∃ H : Nat, 1 + hv = H := ⟨(1 + hv).toNat, by omega⟩
  have hH64 : IntKind.i64.wrap (1 + hv) = (H : Int) := by rw [w64 (by omega)]; exact hHv
  have l4 : n + 1 < n + 2 := by omega
  simp only [go_sem, Nat.reduceLT, Nat.reduceLeDiff, Nat.reduceEqDiff, reduceIte, reduceCtorEq, w8 (n := (H : Int)) (by omega), hH64, o4, l4]
  refine SW_seq (SW_run hti trivial ?_)
  simp only [go_sem, Nat.reduceLT]
  have m5 : SrcM h n i A (hset h4 (n + 1) (shS ⟨W, H, fun _ _ => 0, fun _ _ _ => 0, fun _ => 0⟩)) (n + 2) a4 d4 := m4.setN hi (by omega) fun k hk => (shC_flat _ _).below _
  have r5 : hget (hset h4 (n + 1) (shS ⟨W, H, fun _ _ => 0, fun _ _ _ => 0, fun _ => 0⟩)) n = some ⟨266, shC sh0, true, none⟩ := by rw [hget_hset, if_neg (by omega)]; exact r4
  have o5 : hget (hset h4 (n + 1) (shS ⟨W, H, fun _ _ => 0, fun _ _ _ => 0, fun _ => 0⟩)) (n + 1) = some (shS ⟨W, H, fun _ _ => 0, fun _ _ _ => 0, fun _ => 0⟩) := hget_hset_self o4 _
  refine callA_false (pick_M _ m5 hi hA 4 (by omega) (by omega) _ fun mv a6 d6 h6 z0 z1 q5 q6 m6 e6 => ?_)
  have r6 := (e6 n (by omega)).trans r5
  have o6 := (e6 (n + 1) (by omega)).trans o5
  have M64 : IntKind.i64.wrap (1 + mv) = 1 + mv := w64 (by omega)
  simp only [go_sem, Nat.reduceLT, M64]
  refine SW_seq (SW_run hti trivial ?_)
  simp only [go_sem, Nat.reduceLT]
  refine callA_false (pick_M _ m6 hi hA 20 (by omega) (by omega) _ fun xv a7 d7 h7 z2 z3 q7 q8 m7 e7 => ?_)
  have r7 := (e7 n (by omega)).trans r6
  have o7 := (e7 (n + 1) (by omega)).trans o6
  have X64 : IntKind.i64.wrap (3 + xv) = 3 + xv := w64 (by omega)
  simp only [go_sem, Nat.reduceLT, X64]
  refine SW_seq (SW_run hti trivial ?_)
  simp only [go_sem, Nat.reduceLT]
  have hD0 : DrawnI W H 0 ⟨W, H, fun _ _ => 0, fun _ _ _ => 0, fun _ => 0⟩ := .start (by omega) (by omega)
  have hSm : ∀ {q S}, DrawnI W H q S → Small S := fun hd => by have := hd.wide; have := hd.high; unfold Small; omega
  refine callA_false (spots_E _ _ _ (n + 1) 0 _ ⟨W, H, fun _ _ => 0, fun _ _ _ => 0, fun _ => 0⟩ W H o7 (by omega) (shAt_shC hD0.R) rfl rfl (by omega) (by omega) _ fun cap hc1 hc2 => ?_)
  have hWH : H * W ≤ 25 := Nat.mul_le_mul (show H ≤ 5 by omega) (show W ≤ 5 by omega)
  simp only [go_sem, Nat.reduceLT]
  refine SW_seq (SW_seq (SW_run hti trivial ?_))
  simp only [go_sem, Nat.reduceLT]
  have m8 : SrcM h n i A ((n + 2, ⟨H * W * 2, cellC W, true, some (51, cap * 2)⟩) :: h7) (n + 3) a7 d7 := m7.cons hi fun k hk => (cellC_flat _ _).below _
  refine SW_block (SW_lp (ι := { w : Nat × List (Nat × Seg) × Nat × Sh × Int × Int // w.1 ≤ H * W ∧ SrcM h n i A w.2.1 w.2.2.1 w.2.2.2.2.1 w.2.2.2.2.2 ∧ n + 3 ≤ w.2.2.1 ∧ hget w.2.1 n = some ⟨266, shC sh0, true, none⟩ ∧ hget w.2.1 (n + 1) = some (shS w.2.2.2.1) ∧
      hget w.2.1 (n + 2) = some ⟨H * W * 2, cellC W, true, some (51, cap * 2)⟩ ∧ DrawnI W H w.1 w.2.2.2.1 ∧ a ≤ w.2.2.2.2.1 ∧ w.2.2.2.2.1 ≤ a + 20 + 10 * w.1 })
    (fun w => ([(0, .ptr i 0), (2, .ptr n 0), (3, .ptr (n + 1) 0), (4, .int .i64 (1 + mv)), (5, .int .i64 (3 + xv)), (6, .sl (n + 2) 0 (H * W) cap), (7, .int .i64 w.1.1)], w.1.2.1, w.1.2.2.1)) (fun w => H * W - w.1.1)
    ⟨(0, _, _, ⟨W, H, fun _ _ => 0, fun _ _ _ => 0, fun _ => 0⟩, _, _), Nat.zero_le _, m8, Nat.le_refl _, by simp only [hget]; rw [if_neg (by omega)]; exact r7, by simp only [hget]; rw [if_neg (by omega)]; exact o7, by simp only [hget, if_true], hD0, by show a ≤ a7; omega, by show a7 ≤ _; omega⟩ ?_ ?_)
  · refine Imp.id (by simp) ?_ (impH.base0 m8.ok (by simp) HExt.rfl)
    simp only [go_sem, Nat.reduceLT]
    omega
  rintro ⟨⟨q, hq, nq, S, aq, dq⟩, hqn, mq, hnq, rq, oq, cq, hD, ha1, ha2⟩
  simp only at hqn mq hnq rq oq cq hD ha1 ha2
  have ln : n < nq := by omega
  have ln1 : n + 1 < nq := by omega
  have ln2 : n + 2 < nq := by omega
  have nn1 : ¬ n = n + 1 := by omega
  refine SW_seq (SW_run hti trivial ?_)
  simp only [go_sem, Nat.reduceLT, decide_eq_true_eq, decide_eq_false_iff_not]
  refine ⟨fun h1 => ?_, fun h1 => ?_⟩
  rotate_left
  · have hqe : q = H * W := by omega
    subst hqe
    simp only [go_sem, Nat.reduceLT, reduceIte, oq, rq, ln, ln1]
    refine fun hok' => hK S W H aq dq _ nq (by omega) (by omega) (by omega) (by omega) hD ha1 (by omega) (mq.setN hi (Nat.le_refl _) fun k hk => (shC_flat _ _).below _)
  have hqlt : q < H * W := by omega
  have b1 : (0 : Int) ≤ q ∧ (q : Int) < ((H * W : Nat) : Int) := ⟨by omega, h1⟩
  have b2 : q * 2 ≤ H * W * 2 - 2 := by omega
  have b3 : 2 ≤ H * W * 2 := by omega
  have hS := hSm hD
  obtain ⟨x0, x8, y0, y8⟩ := cell_in hS hD.wide hD.high hqlt
  have hh := cell_hasW hD.wide hD.high hqlt
  have hn := hD.new q (Nat.le_refl _) hqlt
  refine SW_seq (SW_block ?_)
  refine SW_seq (SW_run hti trivial ?_)
  simp only [go_sem, Nat.reduceLT, reduceIte, b1, b2, b3, cq, ln2, cellC_x, cellC_y]
  refine ⟨by omega, ?_⟩
  have mr : SrcM h n i A ((nq, ⟨2, cl [SV.int .i8 ((q % W : Nat) : Int), SV.int .i8 ((q / W : Nat) : Int)], true, none⟩) :: hq) (nq + 1) aq dq := mq.cons hi fun k hk => (pair_flat _ _ hk).below _
  have rr : hget ((nq, ⟨2, cl [SV.int .i8 ((q % W : Nat) : Int), SV.int .i8 ((q / W : Nat) : Int)], true, none⟩) :: hq) n = some ⟨266, shC sh0, true, none⟩ := by simp only [hget]; rw [if_neg (by omega)]; exact rq
  have orr : hget ((nq, ⟨2, cl [SV.int .i8 ((q % W : Nat) : Int), SV.int .i8 ((q / W : Nat) : Int)], true, none⟩) :: hq) (n + 1) = some (shS S) := by simp only [hget]; rw [if_neg (by omega)]; exact oq
  have cr : hget ((nq, ⟨2, cl [SV.int .i8 ((q % W : Nat) : Int), SV.int .i8 ((q / W : Nat) : Int)], true, none⟩) :: hq) (n + 2) = some ⟨H * W * 2, cellC W, true, some (51, cap * 2)⟩ := by simp only [hget]; rw [if_neg (by omega)]; exact cq
  have ar : hget ((nq, ⟨2, cl [SV.int .i8 ((q % W : Nat) : Int), SV.int .i8 ((q / W : Nat) : Int)], true, none⟩) :: hq) nq = some ⟨2, cl [SV.int .i8 ((q % W : Nat) : Int), SV.int .i8 ((q / W : Nat) : Int)], true, none⟩ := by simp only [hget, if_true]
  generalize ((nq, (⟨2, cl [SV.int .i8 ((q % W : Nat) : Int), SV.int .i8 ((q / W : Nat) : Int)], true, none⟩ : Seg)) :: hq) = hr at *
  generalize hqx : ((q % W : Nat) : Int) = px at *
  generalize hqy : ((q / W : Nat) : Int) = py at *
  have lr0 : nq < nq + 1 := by omega
  have lr1 : n + 1 < nq + 1 := by omega
  refine SW_seq (SW_run hti trivial ?_)
  simp only [go_sem, Nat.reduceLT]
  refine callA_false (one_M _ mr hi hA (3 + xv) (by omega) (by omega) _ fun b a9 d9 h9 q9 q10 m9 e9 => ?_)
  have r9 := (e9 n (by omega)).trans rr
  have o9 := (e9 (n + 1) (by omega)).trans orr
  have c9 := (e9 (n + 2) (by omega)).trans cr
  have t9 := (e9 nq (by omega)).trans ar
  have U64 : IntKind.u64.wrap px = px := by simp [IntKind.wrap, IntKind.bits, IntKind.signed]; omega
  cases b
  rotate_left
  · simp only [go_sem]
    refine T_drawT hti 12 _ _ (by kernel_rfl) (by kernel_rfl) ?_
    simp only [go_sem, Nat.reduceLT, Nat.reduceLeDiff, Nat.reduceEqDiff, reduceIte, reduceCtorEq, o9, t9, lr0, lr1, x0, x8, y0, y8, U64]
    have hDn : DrawnI W H (q + 1) (S.setWax py (bitsI .or .u8 (S.wax py) (shlI .u8 1 px))) := by rw [← hqx, ← hqy]; exact hD.setWax hS hqlt
    have mw : SrcM h n i A (hset h9 (n + 1) (shS (S.setWax py (bitsI .or .u8 (S.wax py) (shlI .u8 1 px))))) (nq + 1) a9 d9 := m9.setN hi (by omega) fun k hk => (shC_flat _ _).below _
    refine ⟨⟨(q + 1, _, nq + 1, S.setWax py (bitsI .or .u8 (S.wax py) (shlI .u8 1 px)), a9, d9), by show q + 1 ≤ H * W; omega, mw, by show n + 3 ≤ nq + 1; omega, by rw [hget_hset, if_neg (by omega)]; exact r9, hget_hset_self o9 _, by rw [hget_hset, if_neg (by omega)]; exact c9, hDn, by show a ≤ a9; omega, by show a9 ≤ a + 20 + 10 * ((q + 1 : Nat) : Int); omega⟩, by show H * W - (q + 1) < H * W - q; omega, ?_⟩
    refine Imp.id (by show n ≤ nq + 1; omega) ?_ (impH.base0 mw.ok (Nat.le_refl _) HExt.rfl)
    simp only [go_sem, Nat.reduceLT, w64 (n := (q : Int) + 1) (by omega), Int.natCast_add, Int.natCast_one]
    omega
  simp only [go_sem]
  have hD0 := hD.next
  have hw0 := hn.1
  have M0 := m9
  have R0 := r9
  have O0 := o9
  have C0 := c9
  have T0 := t9
  obtain ⟨N0, hN0⟩ : ∃ N0, N0 = nq + 1 := ⟨_, rfl⟩
  rw [← hN0] at M0
  rw [← hN0]
  generalize hS0 : S = S0 at hD0 hw0 O0
  refine SW_seq (SW_cut hti (ι := { w : List (Nat × Seg) × Nat × Sh × Int × Int // SrcM h n i A w.1 w.2.1 w.2.2.2.1 w.2.2.2.2 ∧ nq + 1 ≤ w.2.1 ∧ hget w.1 n = some ⟨266, shC sh0, true, none⟩ ∧ hget w.1 (n + 1) = some (shS w.2.2.1) ∧
      hget w.1 (n + 2) = some ⟨H * W * 2, cellC W, true, some (51, cap * 2)⟩ ∧ hget w.1 nq = some ⟨2, cl [.int .i8 px, .int .i8 py], true, none⟩ ∧ DrawnI W H (q + 1) w.2.2.1 ∧ waxB w.2.2.1 px py = false ∧ a ≤ w.2.2.2.1 ∧ w.2.2.2.1 ≤ a + 20 + 10 * q + 3 })
    (fun w => ([(0, .ptr i 0), (2, .ptr n 0), (3, .ptr (n + 1) 0), (4, .int .i64 (1 + mv)), (5, .int .i64 (3 + xv)), (6, .sl (n + 2) 0 (H * W) cap), (7, .int .i64 q), (8, .ptr nq 0)], w.1.1, w.1.2.1)) trivial ?_ ?_)
  · simp only [go_sem, Nat.reduceLT]
    refine callA_false (one_M _ M0 hi hA 2 (by omega) (by omega) _ fun b a1 d1 g1 b1 b2 mm1 ee1 => ?_)
    have ra := (ee1 n (by omega)).trans R0
    have oa := (ee1 (n + 1) (by omega)).trans O0
    have ca := (ee1 (n + 2) (by omega)).trans C0
    have ta := (ee1 nq (by omega)).trans T0
    cases b
    · simp only [go_sem]
      refine ⟨⟨(g1, N0, S0, a1, d1), mm1, by show nq + 1 ≤ N0; omega, ra, oa, ca, ta, hD0, hw0, by show a ≤ a1; omega, by show a1 ≤ _; omega⟩, ?_⟩
      refine Imp.id (by show n ≤ N0; omega) ?_ (impH.base0 mm1.ok (Nat.le_refl _) HExt.rfl)
      simp only [go_sem, Nat.reduceLT]
      (repeat' apply And.intro) <;> first | omega | rfl | trivial | assumption | skip
    have lm0 : nq < N0 := by omega
    have lm1 : n + 1 < N0 := by omega
    simp only [go_sem]
    refine T_drawG hti 11 [1, 3, 5, 10] (.b 0 0 (.b 0 2 (.b 0 4 (.b 0 7 (.b 4 1 (.b 0 8 (.b 4 3 (.b 4 5 (.b 0 6 (.b 0 9 (.b 4 10 (.f) .o) .o) .o) .o) (.b 4 5 (.b 0 6 (.b 4 3 (.b 0 9 (.b 4 10 (.f) .o) .o) .o) .o) .o)) .o) (.b 4 3 (.b 4 1 (.b 0 8 (.b 4 5 (.b 0 6 (.b 0 9 (.b 4 10 (.f) .o) .o) .o) .o) .o) (.b 4 5 (.b 0 6 (.b 4 1 (.b 0 8 (.b 0 9 (.b 4 10 (.f) .o) .o) .o) .o) .o) .o)) (.b 4 5 (.b 0 6 (.b 4 1 (.b 0 8 (.b 4 3 (.b 0 9 (.b 4 10 (.f) .o) .o) .o) .o) (.b 4 3 (.b 4 1 (.b 0 8 (.b 0 9 (.b 4 10 (.f) .o) .o) .o) .o) .o)) .o) .o))) .o) .o) .o) .o) _ _ (by kernel_rfl) (by kernel_rfl) ?_
    simp only [go_sem, Nat.reduceLT, Nat.reduceLeDiff, reduceCtorEq, oa, ta, lm0, lm1, x0, x8, y0, y8]
    (repeat' (with_reducible refine And.intro ?_ ?_))
    all_goals
      refine callA_false (pick_M _ mm1 hi hA 30 (by omega) (by omega) _ fun v a2 d2 g2 v0 v1 b3 b4 mm2 ee2 => ?_)
      have rb := (ee2 n (by omega)).trans ra
      have ob := (ee2 (n + 1) (by omega)).trans oa
      have cb := (ee2 (n + 2) (by omega)).trans ca
      have tb := (ee2 nq (by omega)).trans ta
      have v16 : IntKind.i16.wrap v = v := w16 (by omega)
      simp only [go_sem, Nat.reduceLT, Nat.reduceLeDiff, Nat.reduceEqDiff, reduceIte, ob, tb, lm0, lm1, x0, x8, y0, y8, v16]
      have hDn : DrawnI W H (q + 1) (S0.setWet py px v) := by rw [← hqx, ← hqy]; exact hD0.setWet hqlt (by rw [hqx, hqy]; exact hw0) (by omega)
      have mmn : SrcM h n i A (hset g2 (n + 1) (shS (S0.setWet py px v))) N0 a2 d2 := mm2.setN hi (by omega) (fun k hk => (shC_flat _ _).below _)
      (repeat' (with_reducible refine And.intro ?_ ?_))
    all_goals
      refine ⟨⟨(hset g2 (n + 1) (shS (S0.setWet py px v)), N0, S0.setWet py px v, a2, d2), mmn, by show nq + 1 ≤ N0; omega, by rw [hget_hset, if_neg (by omega)]; exact rb, hget_hset_self ob _, by rw [hget_hset, if_neg (by omega)]; exact cb, by rw [hget_hset, if_neg (by omega)]; exact tb, hDn, hw0, by show a ≤ a2; omega, by show a2 ≤ _; omega⟩, ?_⟩
      refine Imp.id (by show n ≤ N0; omega) ?_ (impH.base0 mmn.ok (Nat.le_refl _) HExt.rfl)
      simp only [go_sem, Nat.reduceLT]
      (repeat' apply And.intro) <;> first | omega | rfl | trivial | assumption | skip
  rintro ⟨⟨H1, N1, S1, A1, D1⟩, M1, hN1, R1, O1, C1, T1, hD1, hw1, hA1, hB1⟩
  simp only at M1 hN1 R1 O1 C1 T1 hD1 hw1 hA1 hB1
  refine SW_seq (SW_cut hti (ι := { w : List (Nat × Seg) × Nat × Sh × Int × Int // SrcM h n i A w.1 w.2.1 w.2.2.2.1 w.2.2.2.2 ∧ nq + 1 ≤ w.2.1 ∧ hget w.1 n = some ⟨266, shC sh0, true, none⟩ ∧ hget w.1 (n + 1) = some (shS w.2.2.1) ∧
      hget w.1 (n + 2) = some ⟨H * W * 2, cellC W, true, some (51, cap * 2)⟩ ∧ hget w.1 nq = some ⟨2, cl [.int .i8 px, .int .i8 py], true, none⟩ ∧ DrawnI W H (q + 1) w.2.2.1 ∧ waxB w.2.2.1 px py = false ∧ a ≤ w.2.2.2.1 ∧ w.2.2.2.1 ≤ a + 20 + 10 * q + 6 })
    (fun w => ([(0, .ptr i 0), (2, .ptr n 0), (3, .ptr (n + 1) 0), (4, .int .i64 (1 + mv)), (5, .int .i64 (3 + xv)), (6, .sl (n + 2) 0 (H * W) cap), (7, .int .i64 q), (8, .ptr nq 0)], w.1.1, w.1.2.1)) trivial ?_ ?_)
  · simp only [go_sem, Nat.reduceLT]
    refine callA_false (one_M _ M1 hi hA (1 + mv) (by omega) (by omega) _ fun b a1 d1 g1 b1 b2 mm1 ee1 => ?_)
    have ra := (ee1 n (by omega)).trans R1
    have oa := (ee1 (n + 1) (by omega)).trans O1
    have ca := (ee1 (n + 2) (by omega)).trans C1
    have ta := (ee1 nq (by omega)).trans T1
    cases b
    · simp only [go_sem]
      refine ⟨⟨(g1, N1, S1, a1, d1), mm1, by show nq + 1 ≤ N1; omega, ra, oa, ca, ta, hD1, hw1, by show a ≤ a1; omega, by show a1 ≤ _; omega⟩, ?_⟩
      refine Imp.id (by show n ≤ N1; omega) ?_ (impH.base0 mm1.ok (Nat.le_refl _) HExt.rfl)
      simp only [go_sem, Nat.reduceLT]
      (repeat' apply And.intro) <;> first | omega | rfl | trivial | assumption | skip
    have lm0 : nq < N1 := by omega
    have lm1 : n + 1 < N1 := by omega
    simp only [go_sem]
    refine T_drawG hti 14 [1, 3, 5, 7, 13] (.b 0 0 (.b 0 2 (.b 0 4 (.b 0 6 (.b 0 9 (.b 4 1 (.b 0 10 (.b 4 3 (.b 0 11 (.b 4 5 (.b 4 7 (.b 0 8 (.b 0 12 (.b 4 13 (.f) .o) .o) .o) .o) .o) .o) (.b 4 5 (.b 4 3 (.b 0 11 (.b 4 7 (.b 0 8 (.b 0 12 (.b 4 13 (.f) .o) .o) .o) .o) .o) (.b 4 7 (.b 0 8 (.b 4 3 (.b 0 11 (.b 0 12 (.b 4 13 (.f) .o) .o) .o) .o) .o) .o)) .o)) .o) (.b 4 3 (.b 4 1 (.b 0 10 (.b 0 11 (.b 4 5 (.b 4 7 (.b 0 8 (.b 0 12 (.b 4 13 (.f) .o) .o) .o) .o) .o) .o) .o) (.b 4 5 (.b 4 1 (.b 0 10 (.b 0 11 (.b 4 7 (.b 0 8 (.b 0 12 (.b 4 13 (.f) .o) .o) .o) .o) .o) .o) (.b 4 7 (.b 0 8 (.b 4 1 (.b 0 10 (.b 0 11 (.b 0 12 (.b 4 13 (.f) .o) .o) .o) .o) .o) .o) .o)) .o)) (.b 4 5 (.b 4 1 (.b 0 10 (.b 4 3 (.b 0 11 (.b 4 7 (.b 0 8 (.b 0 12 (.b 4 13 (.f) .o) .o) .o) .o) .o) (.b 4 7 (.b 0 8 (.b 4 3 (.b 0 11 (.b 0 12 (.b 4 13 (.f) .o) .o) .o) .o) .o) .o)) .o) (.b 4 3 (.b 4 1 (.b 0 10 (.b 0 11 (.b 4 7 (.b 0 8 (.b 0 12 (.b 4 13 (.f) .o) .o) .o) .o) .o) .o) (.b 4 7 (.b 0 8 (.b 4 1 (.b 0 10 (.b 0 11 (.b 0 12 (.b 4 13 (.f) .o) .o) .o) .o) .o) .o) .o)) (.b 4 7 (.b 0 8 (.b 4 1 (.b 0 10 (.b 4 3 (.b 0 11 (.b 0 12 (.b 4 13 (.f) .o) .o) .o) .o) .o) (.b 4 3 (.b 4 1 (.b 0 10 (.b 0 11 (.b 0 12 (.b 4 13 (.f) .o) .o) .o) .o) .o) .o)) .o) .o))) .o))) .o) .o) .o) .o) .o) _ _ (by kernel_rfl) (by kernel_rfl) ?_
    simp only [go_sem, Nat.reduceLT, Nat.reduceLeDiff, reduceCtorEq, oa, ta, lm0, lm1, x0, x8, y0, y8]
    (repeat' (with_reducible refine And.intro ?_ ?_))
    all_goals
      refine callA_false (pick_M _ mm1 hi hA 3 (by omega) (by omega) _ fun u a2 d2 g2 u0 u1 b3 b4 mm2 ee2 => ?_)
      have rb := (ee2 n (by omega)).trans ra
      have ob := (ee2 (n + 1) (by omega)).trans oa
      have cb := (ee2 (n + 2) (by omega)).trans ca
      have tb := (ee2 nq (by omega)).trans ta
      have u3 : u < 3 := by omega
      simp only [go_sem, Nat.reduceLT, Nat.reduceLeDiff, ob, tb, lm0, lm1, x0, x8, y0, y8, u0, u3]
      (repeat' (with_reducible refine And.intro ?_ ?_))
    all_goals
      refine callA_false (pick_M _ mm2 hi hA 40 (by omega) (by omega) _ fun v a3 d3 g3 v0 v1 b5 b6 mm3 ee3 => ?_)
      have rc := (ee3 n (by omega)).trans rb
      have oc := (ee3 (n + 1) (by omega)).trans ob
      have cc := (ee3 (n + 2) (by omega)).trans cb
      have tc := (ee3 nq (by omega)).trans tb
      have v16 : IntKind.i16.wrap v = v := w16 (by omega)
      simp only [go_sem, Nat.reduceLT, Nat.reduceLeDiff, Nat.reduceEqDiff, reduceIte, oc, tc, lm0, lm1, x0, x8, y0, y8, u0, u3, v16]
      have hDn : DrawnI W H (q + 1) (S1.setDye py px u v) := by rw [← hqx, ← hqy]; exact hD1.setDye hqlt (by rw [hqx, hqy]; exact hw1) (by omega)
      have mmn : SrcM h n i A (hset g3 (n + 1) (shS (S1.setDye py px u v))) N1 a3 d3 := mm3.setN hi (by omega) (fun k hk => (shC_flat _ _).below _)
      (repeat' (with_reducible refine And.intro ?_ ?_))
    all_goals
      refine ⟨⟨(hset g3 (n + 1) (shS (S1.setDye py px u v)), N1, S1.setDye py px u v, a3, d3), mmn, by show nq + 1 ≤ N1; omega, by rw [hget_hset, if_neg (by omega)]; exact rc, hget_hset_self oc _, by rw [hget_hset, if_neg (by omega)]; exact cc, by rw [hget_hset, if_neg (by omega)]; exact tc, hDn, hw1, by show a ≤ a3; omega, by show a3 ≤ _; omega⟩, ?_⟩
      refine Imp.id (by show n ≤ N1; omega) ?_ (impH.base0 mmn.ok (Nat.le_refl _) HExt.rfl)
      simp only [go_sem, Nat.reduceLT]
      (repeat' apply And.intro) <;> first | omega | rfl | trivial | assumption | skip
  rintro ⟨⟨H2, N2, S2, A2, D2⟩, M2, hN2, R2, O2, C2, T2, hD2, hw2, hA2, hB2⟩
  simp only at M2 hN2 R2 O2 C2 T2 hD2 hw2 hA2 hB2
  refine SW_cut hti (ι := { w : List (Nat × Seg) × Nat × Sh × Int × Int // SrcM h n i A w.1 w.2.1 w.2.2.2.1 w.2.2.2.2 ∧ nq + 1 ≤ w.2.1 ∧ hget w.1 n = some ⟨266, shC sh0, true, none⟩ ∧ hget w.1 (n + 1) = some (shS w.2.2.1) ∧
      hget w.1 (n + 2) = some ⟨H * W * 2, cellC W, true, some (51, cap * 2)⟩ ∧ hget w.1 nq = some ⟨2, cl [.int .i8 px, .int .i8 py], true, none⟩ ∧ DrawnI W H (q + 1) w.2.2.1 ∧ waxB w.2.2.1 px py = false ∧ a ≤ w.2.2.2.1 ∧ w.2.2.2.1 ≤ a + 20 + 10 * q + 9 })
    (fun w => ([(0, .ptr i 0), (2, .ptr n 0), (3, .ptr (n + 1) 0), (4, .int .i64 (1 + mv)), (5, .int .i64 (3 + xv)), (6, .sl (n + 2) 0 (H * W) cap), (7, .int .i64 q), (8, .ptr nq 0)], w.1.1, w.1.2.1)) trivial ?_ ?_
  · simp only [go_sem, Nat.reduceLT]
    refine callA_false (one_M _ M2 hi hA 4 (by omega) (by omega) _ fun b a1 d1 g1 b1 b2 mm1 ee1 => ?_)
    have ra := (ee1 n (by omega)).trans R2
    have oa := (ee1 (n + 1) (by omega)).trans O2
    have ca := (ee1 (n + 2) (by omega)).trans C2
    have ta := (ee1 nq (by omega)).trans T2
    cases b
    · simp only [go_sem]
      refine ⟨⟨(g1, N2, S2, a1, d1), mm1, by show nq + 1 ≤ N2; omega, ra, oa, ca, ta, hD2, hw2, by show a ≤ a1; omega, by show a1 ≤ _; omega⟩, ?_⟩
      refine Imp.id (by show n ≤ N2; omega) ?_ (impH.base0 mm1.ok (Nat.le_refl _) HExt.rfl)
      simp only [go_sem, Nat.reduceLT]
      (repeat' apply And.intro) <;> first | omega | rfl | trivial | assumption | skip
    have lm0 : nq < N2 := by omega
    have lm1 : n + 1 < N2 := by omega
    simp only [go_sem]
    refine T_drawG hti 14 [1, 3, 5, 7, 13] (.b 0 0 (.b 0 2 (.b 0 4 (.b 0 6 (.b 0 9 (.b 4 1 (.b 0 10 (.b 4 3 (.b 0 11 (.b 4 5 (.b 4 7 (.b 0 8 (.b 0 12 (.b 4 13 (.f) .o) .o) .o) .o) .o) .o) (.b 4 5 (.b 4 3 (.b 0 11 (.b 4 7 (.b 0 8 (.b 0 12 (.b 4 13 (.f) .o) .o) .o) .o) .o) (.b 4 7 (.b 0 8 (.b 4 3 (.b 0 11 (.b 0 12 (.b 4 13 (.f) .o) .o) .o) .o) .o) .o)) .o)) .o) (.b 4 3 (.b 4 1 (.b 0 10 (.b 0 11 (.b 4 5 (.b 4 7 (.b 0 8 (.b 0 12 (.b 4 13 (.f) .o) .o) .o) .o) .o) .o) .o) (.b 4 5 (.b 4 1 (.b 0 10 (.b 0 11 (.b 4 7 (.b 0 8 (.b 0 12 (.b 4 13 (.f) .o) .o) .o) .o) .o) .o) (.b 4 7 (.b 0 8 (.b 4 1 (.b 0 10 (.b 0 11 (.b 0 12 (.b 4 13 (.f) .o) .o) .o) .o) .o) .o) .o)) .o)) (.b 4 5 (.b 4 1 (.b 0 10 (.b 4 3 (.b 0 11 (.b 4 7 (.b 0 8 (.b 0 12 (.b 4 13 (.f) .o) .o) .o) .o) .o) (.b 4 7 (.b 0 8 (.b 4 3 (.b 0 11 (.b 0 12 (.b 4 13 (.f) .o) .o) .o) .o) .o) .o)) .o) (.b 4 3 (.b 4 1 (.b 0 10 (.b 0 11 (.b 4 7 (.b 0 8 (.b 0 12 (.b 4 13 (.f) .o) .o) .o) .o) .o) .o) (.b 4 7 (.b 0 8 (.b 4 1 (.b 0 10 (.b 0 11 (.b 0 12 (.b 4 13 (.f) .o) .o) .o) .o) .o) .o) .o)) (.b 4 7 (.b 0 8 (.b 4 1 (.b 0 10 (.b 4 3 (.b 0 11 (.b 0 12 (.b 4 13 (.f) .o) .o) .o) .o) .o) (.b 4 3 (.b 4 1 (.b 0 10 (.b 0 11 (.b 0 12 (.b 4 13 (.f) .o) .o) .o) .o) .o) .o)) .o) .o))) .o))) .o) .o) .o) .o) .o) _ _ (by kernel_rfl) (by kernel_rfl) ?_
    simp only [go_sem, Nat.reduceLT, Nat.reduceLeDiff, reduceCtorEq, oa, ta, lm0, lm1, x0, x8, y0, y8]
    (repeat' (with_reducible refine And.intro ?_ ?_))
    all_goals
      refine callA_false (pick_M _ mm1 hi hA 3 (by omega) (by omega) _ fun u a2 d2 g2 u0 u1 b3 b4 mm2 ee2 => ?_)
      have rb := (ee2 n (by omega)).trans ra
      have ob := (ee2 (n + 1) (by omega)).trans oa
      have cb := (ee2 (n + 2) (by omega)).trans ca
      have tb := (ee2 nq (by omega)).trans ta
      have u3 : u < 3 := by omega
      simp only [go_sem, Nat.reduceLT, Nat.reduceLeDiff, ob, tb, lm0, lm1, x0, x8, y0, y8, u0, u3]
      (repeat' (with_reducible refine And.intro ?_ ?_))
    all_goals
      refine callA_false (pick_M _ mm2 hi hA 12 (by omega) (by omega) _ fun v a3 d3 g3 v0 v1 b5 b6 mm3 ee3 => ?_)
      have rc := (ee3 n (by omega)).trans rb
      have oc := (ee3 (n + 1) (by omega)).trans ob
      have cc := (ee3 (n + 2) (by omega)).trans cb
      have tc := (ee3 nq (by omega)).trans tb
      have v16 : IntKind.i16.wrap v = v := w16 (by omega)
      simp only [go_sem, Nat.reduceLT, Nat.reduceLeDiff, Nat.reduceEqDiff, reduceIte, oc, tc, lm0, lm1, x0, x8, y0, y8, u0, u3, v16]
      have hDn : DrawnI W H (q + 1) (S2.setDye py px u v) := by rw [← hqx, ← hqy]; exact hD2.setDye hqlt (by rw [hqx, hqy]; exact hw2) (by omega)
      have mmn : SrcM h n i A (hset g3 (n + 1) (shS (S2.setDye py px u v))) N2 a3 d3 := mm3.setN hi (by omega) (fun k hk => (shC_flat _ _).below _)
      (repeat' (with_reducible refine And.intro ?_ ?_))
    all_goals
      refine ⟨⟨(hset g3 (n + 1) (shS (S2.setDye py px u v)), N2, S2.setDye py px u v, a3, d3), mmn, by show nq + 1 ≤ N2; omega, by rw [hget_hset, if_neg (by omega)]; exact rc, hget_hset_self oc _, by rw [hget_hset, if_neg (by omega)]; exact cc, by rw [hget_hset, if_neg (by omega)]; exact tc, hDn, hw2, by show a ≤ a3; omega, by show a3 ≤ _; omega⟩, ?_⟩
      refine Imp.id (by show n ≤ N2; omega) ?_ (impH.base0 mmn.ok (Nat.le_refl _) HExt.rfl)
      simp only [go_sem, Nat.reduceLT]
      (repeat' apply And.intro) <;> first | omega | rfl | trivial | assumption | skip
  rintro ⟨⟨H3, N3, S3, A3, D3⟩, M3, hN3, R3, O3, C3, T3, hD3, hw3, hA3, hB3⟩
  simp only at M3 hN3 R3 O3 C3 T3 hD3 hw3 hA3 hB3
  refine SW_inBlock (SW_run hti trivial ?_)
  simp only [go_sem, Nat.reduceLT]
  refine SW_inv ?_
  refine ⟨⟨(q + 1, H3, N3, S3, A3, D3), by show q + 1 ≤ H * W; omega, M3, by show n + 3 ≤ N3; omega, R3, O3, C3, hD3, by show a ≤ A3; omega, by show A3 ≤ a + 20 + 10 * ((q + 1 : Nat) : Int); omega⟩, by show H * W - (q + 1) < H * W - q; omega, ?_⟩
  refine Imp.id (by show n ≤ N3; omega) ?_ (impH.base0 M3.ok (Nat.le_refl _) HExt.rfl)
  simp only [go_sem, Nat.reduceLT, w64 (n := (q : Int) + 1) (by omega), Int.natCast_add, Int.natCast_one]
  omega
end
end Go.Proofs.Ytggpnfgohpifoaa.V

/- A sheet drawn from bytes, and a clean one. -/
namespace Go.Proofs.Ytggpnfgohpifoaa.V
theorem ByArg.long {h : List (Nat × Seg)} {n : Nat} {A : SV} {len : Nat} (hA : ByArg h n A len) : A = .nils ∧ len = 0 ∨ ∃ j o cap, A = .sl j o len cap := by
  rcases hA with h1 | ⟨j, cap, s, rfl, _⟩
  · exact .inl h1
  · exact .inr ⟨j, 0, cap, rfl⟩
theorem ByArg.sl {h : List (Nat × Seg)} {n i : Nat} {A : SV} {len : Nat} (hA : ByArg h n A len) (hi : n ≤ i) (hl : len ≤ 1048576) : BySl h n i A := by
  rcases hA with ⟨rfl, _⟩ | ⟨j, cap, s, rfl, hj, hg, hn, hv⟩
  · exact .inl rfl
  · exact .inr ⟨j, 0, len, cap, s, rfl, hj, by omega, hg, by omega, hl, fun k hk => by rw [Nat.zero_add]; exact hv k hk⟩
theorem ByArg.ok {h : List (Nat × Seg)} {n : Nat} {A : SV} {len : Nat} (hA : ByArg h n A len) : A.ok = True := by
  rcases hA with ⟨rfl, _⟩ | ⟨j, cap, s, rfl, _⟩ <;> rfl
theorem DrawnI.small {W H q : Nat} {S : Sh} (h : DrawnI W H q S) (h1 : 1 ≤ W) (h2 : W ≤ 5) (h3 : 1 ≤ H) (h4 : H ≤ 5) : Small S := by
  have := h.wide; have := h.high; unfold Small; omega
section
variable (cx : Cx) (h : List (Nat × Seg)) (n : Nat)
theorem a2sheet_E (A : SV) (hA : BySl h n n A) (K : HK)
    (hK : ∀ (S : Sh) (W H : Nat) h' n', 1 ≤ W → W ≤ 5 → 1 ≤ H → H ≤ 5 → DrawnI W H (H * W) S → n ≤ n' → HExt n h h' → HOk n' h' → K (.agg 266 (shC S)) h' n') :
    CallE Try.prog cx 5 [A] h n K := by
  have hAo := hA.ok
  refine callE_of_T (P := Try.prog) hti (nt := 6) (rs := [.cell 2 33]) rfl rfl Try.call5 Try.func5 rfl _ (by first | (simp only [go_sem, hAo]; done) | (simp only [go_sem, hAo, hBo]; done)) (Nat.le_of_ble_eq_true rfl) _ fun hok => ?_
  simp only [go_sem, Nat.reduceLT, hAo]
  have ok1 : HOk (n + 1) ((n, ⟨266, shC sh0, true, none⟩) :: h) := hok.consF fun k hk => shC_flat _ _
  have x1 : HExt n h ((n, ⟨266, shC sh0, true, none⟩) :: h) := by simp only [go_sem, HExt_cons]
  have hA1 := hA.up (n' := n + 1) (i' := n + 1) (by omega) x1 (by omega)
  refine callA_false (from_E _ _ _ A hA1.arg _ ok1 ?_)
  simp only [go_sem, Nat.reduceLT]
  refine callA_false (drawn_E _ _ _ (n + 1) A 0 0 (by simp only [go_sem]) (by omega) (hA.up (by omega) (by simp only [go_sem, HExt_cons]) (by omega)) (by omega) _ fun S W H a' d' h' n' w1 w2 w3 w4 hD a1 a2 hm => ?_)
  have hn' := hm.le
  have g0 : hget h' n = some ⟨266, shC sh0, true, none⟩ := hm.x n (by omega) (by omega) _ (by simp only [go_sem])
  have l0 : n < n' := by omega
  simp only [go_sem, Nat.reduceLT, reduceIte, g0, l0]
  refine hK S W H _ n' w1 w2 w3 w4 hD (by omega) ?_ (HOk.hset hm.ok fun k hk => (shC_flat _ _).below _)
  intro j hj t ht
  rw [hget_hset, if_neg (by omega)]
  exact hm.x j (by omega) (by omega) t (by simp only [hget]; rw [if_neg (by omega), if_neg (by omega)]; exact ht)
end
end Go.Proofs.Ytggpnfgohpifoaa.V

/- FnRunning: the walk. -/
namespace Go.Proofs.Ytggpnfgohpifoaa.V
theorem sh0_bad : ¬ Valid sh0 := fun h => by have := h.1.1; exact absurd this (by decide)
theorem sh0_R : ShR sh0 := ⟨by decide, by decide, fun _ _ => (show (-32768 : Int) ≤ 0 ∧ (0 : Int) < 32768 by decide), fun _ _ _ => (show (-32768 : Int) ≤ 0 ∧ (0 : Int) < 32768 by decide), fun _ => (show (0 : Int) ≤ 0 ∧ (0 : Int) < 256 by decide)⟩
section
variable (cx : Cx) (h : List (Nat × Seg)) (n : Nat)
theorem dyeIn0_Q : CallQ Try.prog cx 11 [.agg 266 (shC sh0)] h n (.tup 2 (cl [.agg 3 (cl [.int .i64 0, .int .i64 0, .int .i64 0]), .int .i64 1])) := by
  refine callQ_of_T (P := Try.prog) hti (nt := 11) (rs := [.cell 2 39, .tmp 3]) rfl rfl Try.call11 Try.func11 rfl _ (by simp only [go_sem, and_self]) (Nat.le_of_ble_eq_true rfl) _ (by first | exact trivial | (refine lt_flat rfl ?_; simp [SV.flat]; done) | simp only [go_sem]) fun hok => ?_
  simp only [go_sem, Nat.reduceLT]
  refine (code_Q _ _ _ n 0 _ sh0 true (by simp only [go_sem]) (by omega) (shAt_shC sh0_R)).A ?_
  rw [codeI_bad sh0_bad]
  simp only [go_sem, Nat.reduceLT, reduceIte, Int.reduceEq]
set_option maxRecDepth 100000 in
set_option maxHeartbeats 3200000 in
theorem lawFR_Q (A B : SV) (la lb : Nat) (hA : ByArg h n A la) (hB : ByArg h n B lb) :
    CallQ Try.prog cx 3 [A, B] h n (.bool true) := by
  have hAo := hA.ok
  have hBo := hB.ok
  refine callQ_of_T (P := Try.prog) hti (nt := 440) (rs := [.tmp 4]) rfl rfl Try.call3 Try.func3 rfl _ (by first | (simp only [go_sem, hAo]; done) | (simp only [go_sem, hAo, hBo]; done)) (Nat.le_of_ble_eq_true rfl) _ (by trivial) fun hok => ?_
  simp only [go_sem, Nat.reduceLT, hAo, hBo]
  refine (long_Q _ _ _ A B la lb hA.long hB.long).A ?_
  by_cases hbig : (3000 : Int) < (la : Int) ∨ (3000 : Int) < (lb : Int)
  · have e : (decide ((3000 : Int) < (la : Int)) || decide ((3000 : Int) < (lb : Int))) = true := by simpa using hbig
    rw [e]
    simp only [go_sem, Nat.reduceLT]
  have e : (decide ((3000 : Int) < (la : Int)) || decide ((3000 : Int) < (lb : Int))) = false := by simpa using hbig
  rw [e]
  have hAs : ∀ i, n ≤ i → BySl h n i A := fun i hi => hA.sl hi (by omega)
  have hBs : ∀ i, n ≤ i → BySl h n i B := fun i hi => hB.sl hi (by omega)
  simp only [go_sem, Nat.reduceLT, hAo, hBo]
  refine callA_false (a2sheet_E _ _ _ A (hAs n (Nat.le_refl _)) _ fun S W H h1 n1 w1 w2 w3 w4 hD hn1 hx1 ok1 => ?_)
  have hS0 := hD.small w1 w2 w3 w4
  have hV : Valid S := hD.valid hS0
  have hR : ShR S := hD.R
  have hW : S.wide = W := hD.wide
  have hH : S.high = H := hD.high
  have hwet := hD.wet
  clear hD
  simp only [go_sem, Nat.reduceLT, reduceIte, hAo, hBo]
  have ok2 : HOk (n1 + 1) ((n1, shS S) :: h1) := ok1.consF fun k hk => shC_flat _ _
  have X2 : HExt n h ((n1, shS S) :: h1) := hx1.cons (by omega)
  have hB2 := (hBs n (Nat.le_refl _)).up (n' := n1 + 1) (i' := n1 + 1) (by omega) X2 (by omega)
  obtain ⟨ki, k0, k1, hq1⟩ := at_Q ⟨cx.w0, cx.W, 440, n⟩ _ _ B 0 7 hB2 (by omega) (by omega)
  refine hq1.A ?_
  obtain ⟨k, rfl⟩ := Int.eq_ofNat_of_zero_le k0
  simp only [go_sem, Nat.reduceLT, hAo, hBo]
  refine (rounds_Q _ _ _ S W H hV hR hW hH k (by omega)).A ?_
  simp only [go_sem, Nat.reduceLT, reduceIte, hAo, hBo]
  refine (roundsR_Q _ _ _ S W H hV hR hW hH k (by omega)).A ?_
  simp only [go_sem, Nat.reduceLT, reduceIte, hAo, hBo]
  refine (until_Q _ _ _ S W H hV hR hW hH).A ?_
  simp only [go_sem, Nat.reduceLT, reduceIte, hAo, hBo]
  refine (untilR_Q _ _ _ S W H hV hR hW hH).A ?_
  obtain ⟨hK1, hs0, hs1⟩ := rndN_K hV hR hW hH k
  have eK : rndN W H S k = rndN W H S k := rfl
  have hc : (untR W H S).2.2 = 0 ∨ (untR W H S).2.2 = 7 := by unfold untR; split; exact .inl rfl; exact .inr rfl
  have hU : (untR W H S).2.2 = 0 → RunK S (untR W H S).1 ∧ (runS (untR W H S).1 W H).2 = 0 ∧ 0 ≤ (untR W H S).2.1 ∧ (untR W H S).2.1 ≤ 500 := by
    unfold untR
    split
    · rename_i hu
      intro _
      obtain ⟨u1, u2⟩ := untilN_K 500 0 S hV hR hW hH
      obtain ⟨u3, u4, u5⟩ := untilN_good 500 0 S hV.good hW hH
      exact ⟨u1, u2 hu, Int.natCast_nonneg _, by show (((untilN W H 500 0 S).2.1 : Nat) : Int) ≤ 500; omega⟩
    · intro h; cases h
  generalize hUU : untR W H S = UU at *
  obtain ⟨U, cnt, c⟩ := UU
  simp only at hc hU
  have hc' : c = 0 ∨ ¬ c = 0 ∧ c = 7 := by omega
  have gd : ∀ T : Sh × Int, T = rndN W H S k → (decide (¬ T.2 = T.2)) = false := fun T _ => by simp
  have d0 : dyeSum (rndN W H S k).1 W H 0 = dyeSum S W H 0 := hK1.dyes hV hW hH (by omega) (by omega)
  have d1 : dyeSum (rndN W H S k).1 W H 1 = dyeSum S W H 1 := hK1.dyes hV hW hH (by omega) (by omega)
  have d2 : dyeSum (rndN W H S k).1 W H 2 = dyeSum S W H 2 := hK1.dyes hV hW hH (by omega) (by omega)
  have dw : water (rndN W H S k).1 W H = water S W H := hK1.water hV hW hH
  have TW := hK1.al.wide.trans hW
  have TH := hK1.al.high.trans hH
  have hR2 : ∀ j, (rndN W H S (j + 1)) = ((runS (rndN W H S j).1 W H).1, (rndN W H S j).2 + (runS (rndN W H S j).1 W H).2) := fun j => rfl
  have hs0' : ¬ (rndN W H S k).2 < 0 := by omega
  rcases hc with rfl | rfl
  · simp only [go_sem, Nat.reduceLT, reduceIte, hAo, hBo, shEq_self, Bool.not_true, hs0']
    refine (dyeIn_Q _ _ _ S W H hV hR hW hH).A ?_
    simp only [go_sem, Nat.reduceLT, reduceIte, hAo, hBo, shEq_self, Bool.not_true, hs0']
    refine (dyeIn_Q _ _ _ (rndN W H S k).1 W H hK1.V hK1.R TW TH).A ?_
    rw [d0, d1, d2]
    simp only [go_sem, Nat.reduceLT, reduceIte, hAo, hBo, shEq_self, Bool.not_true, hs0']
    refine (waterIn_Q _ _ _ S W H hV hR hW hH).A ?_
    simp only [go_sem, Nat.reduceLT, hAo, hBo, shEq_self, Bool.not_true, hs0']
    refine (waterIn_Q _ _ _ (rndN W H S k).1 W H hK1.V hK1.R TW TH).A ?_
    rw [dw]
    generalize hE0 : dyeSum S W H 0 = E0 at *
    generalize hE1 : dyeSum S W H 1 = E1 at *
    generalize hE2 : dyeSum S W H 2 = E2 at *
    simp only [go_sem, Nat.reduceLT, Nat.reduceMod, hAo, hBo, shEq_self, Bool.not_true, hs0', decide_eq_true_eq, decide_true, Bool.and_self, Bool.and_true]
    refine (valid_Q _ _ _ _ (rndN W H S k).1 (shF_shC hK1.R)).A ?_
    rw [validB_true hK1.V]
    simp only [go_sem, Nat.reduceLT, reduceIte, hAo, hBo, shEq_self, Bool.not_true, hs0']
    have okb : HOk (n1 + 7) ((n1 + 6, ⟨3, cl [SV.int .i64 E0, SV.int .i64 E1, SV.int .i64 E2], true, none⟩) :: (n1 + 5, ⟨3, cl [SV.int .i64 E0, SV.int .i64 E1, SV.int .i64 E2], true, none⟩) :: (n1 + 4, ⟨266, shC U, true, none⟩) :: (n1 + 3, ⟨266, shC U, true, none⟩) :: (n1 + 2, ⟨266, shC (rndN W H S k).1, true, none⟩) :: (n1 + 1, ⟨266, shC (rndN W H S k).1, true, none⟩) :: (n1, ⟨266, shC S, true, none⟩) :: h1) := ((((((ok2.consF fun k hk => shC_flat _ _).consF fun k hk => shC_flat _ _).consF fun k hk => shC_flat _ _).consF fun k hk => shC_flat _ _).consF fun k hk => cl_flat (l := [_, _, _]) (by simp [SV.flat]) hk).consF fun k hk => cl_flat (l := [_, _, _]) (by simp [SV.flat]) hk)
    have gS : hget ((n1 + 6, ⟨3, cl [SV.int .i64 E0, SV.int .i64 E1, SV.int .i64 E2], true, none⟩) :: (n1 + 5, ⟨3, cl [SV.int .i64 E0, SV.int .i64 E1, SV.int .i64 E2], true, none⟩) :: (n1 + 4, ⟨266, shC U, true, none⟩) :: (n1 + 3, ⟨266, shC U, true, none⟩) :: (n1 + 2, ⟨266, shC (rndN W H S k).1, true, none⟩) :: (n1 + 1, ⟨266, shC (rndN W H S k).1, true, none⟩) :: (n1, ⟨266, shC S, true, none⟩) :: h1) n1 = some ⟨266, shC S, true, none⟩ := by simp only [go_sem]
    have gT : hget ((n1 + 6, ⟨3, cl [SV.int .i64 E0, SV.int .i64 E1, SV.int .i64 E2], true, none⟩) :: (n1 + 5, ⟨3, cl [SV.int .i64 E0, SV.int .i64 E1, SV.int .i64 E2], true, none⟩) :: (n1 + 4, ⟨266, shC U, true, none⟩) :: (n1 + 3, ⟨266, shC U, true, none⟩) :: (n1 + 2, ⟨266, shC (rndN W H S k).1, true, none⟩) :: (n1 + 1, ⟨266, shC (rndN W H S k).1, true, none⟩) :: (n1, ⟨266, shC S, true, none⟩) :: h1) (n1 + 2) = some ⟨266, shC (rndN W H S k).1, true, none⟩ := by simp only [go_sem, Nat.reduceLT]
    have gU : hget ((n1 + 6, ⟨3, cl [SV.int .i64 E0, SV.int .i64 E1, SV.int .i64 E2], true, none⟩) :: (n1 + 5, ⟨3, cl [SV.int .i64 E0, SV.int .i64 E1, SV.int .i64 E2], true, none⟩) :: (n1 + 4, ⟨266, shC U, true, none⟩) :: (n1 + 3, ⟨266, shC U, true, none⟩) :: (n1 + 2, ⟨266, shC (rndN W H S k).1, true, none⟩) :: (n1 + 1, ⟨266, shC (rndN W H S k).1, true, none⟩) :: (n1, ⟨266, shC S, true, none⟩) :: h1) (n1 + 4) = some ⟨266, shC U, true, none⟩ := by simp only [go_sem, Nat.reduceLT]
    have gD : hget ((n1 + 6, ⟨3, cl [SV.int .i64 E0, SV.int .i64 E1, SV.int .i64 E2], true, none⟩) :: (n1 + 5, ⟨3, cl [SV.int .i64 E0, SV.int .i64 E1, SV.int .i64 E2], true, none⟩) :: (n1 + 4, ⟨266, shC U, true, none⟩) :: (n1 + 3, ⟨266, shC U, true, none⟩) :: (n1 + 2, ⟨266, shC (rndN W H S k).1, true, none⟩) :: (n1 + 1, ⟨266, shC (rndN W H S k).1, true, none⟩) :: (n1, ⟨266, shC S, true, none⟩) :: h1) (n1 + 5) = some ⟨3, cl [SV.int .i64 E0, SV.int .i64 E1, SV.int .i64 E2], true, none⟩ := by simp only [go_sem, Nat.reduceLT]
    have Xb : HExt n h ((n1 + 6, ⟨3, cl [SV.int .i64 E0, SV.int .i64 E1, SV.int .i64 E2], true, none⟩) :: (n1 + 5, ⟨3, cl [SV.int .i64 E0, SV.int .i64 E1, SV.int .i64 E2], true, none⟩) :: (n1 + 4, ⟨266, shC U, true, none⟩) :: (n1 + 3, ⟨266, shC U, true, none⟩) :: (n1 + 2, ⟨266, shC (rndN W H S k).1, true, none⟩) :: (n1 + 1, ⟨266, shC (rndN W H S k).1, true, none⟩) :: (n1, ⟨266, shC S, true, none⟩) :: h1) := (((((X2.cons (by omega)).cons (by omega)).cons (by omega)).cons (by omega)).cons (by omega)).cons (by omega)
    generalize ((n1 + 6, ⟨3, cl [SV.int .i64 E0, SV.int .i64 E1, SV.int .i64 E2], true, none⟩) :: (n1 + 5, ⟨3, cl [SV.int .i64 E0, SV.int .i64 E1, SV.int .i64 E2], true, none⟩) :: (n1 + 4, ⟨266, shC U, true, none⟩) :: (n1 + 3, ⟨266, shC U, true, none⟩) :: (n1 + 2, ⟨266, shC (rndN W H S k).1, true, none⟩) :: (n1 + 1, ⟨266, shC (rndN W H S k).1, true, none⟩) :: (n1, ⟨266, shC S, true, none⟩) :: h1) = hb at *
    have cS : n1 < n1 + 7 := by omega
    have cT : n1 + 2 < n1 + 7 := by omega
    have cU : n1 + 4 < n1 + 7 := by omega
    have cD : n1 + 5 < n1 + 7 := by omega
    have okj : ∀ T, HOk (n1 + 8) ((n1 + 7, ⟨266, shC T, true, none⟩) :: hb) := fun T => okb.consF fun k hk => shC_flat _ _
    have Bl : B.lt (n1 + 8) := SV.lt_mono (by omega) _ hB.lt
    refine T_lp (ι := { j : Nat // j ≤ k })
      (fun j => ([(1, B), (5, .ptr n1 0), (6, .int .i64 k), (10, .ptr (n1 + 2) 0), (11, .int .i64 (rndN W H S k).2), (15, .int .i64 0), (16, .ptr (n1 + 4) 0), (17, .int .i64 cnt), (19, .ptr (n1 + 5) 0), (27, .ptr (n1 + 7) 0), (28, .int .i64 (rndN W H S j.1).2), (29, .int .i64 j.1)], (n1 + 7, ⟨266, shC (rndN W H S j.1).1, true, none⟩) :: hb, n1 + 8)) (fun j => k - j.1) ⟨0, by omega⟩ ?_ ?_
    · refine Imp.id (by show n ≤ n1 + 8; omega) ?_ (impH.base0 (okj S) (Nat.le_refl _) HExt.rfl)
      simp only [go_sem, Nat.reduceLT, hBo, Bl, rndN]
      (repeat' apply And.intro) <;> first | omega | rfl | trivial | assumption | skip
    rintro ⟨j, hj⟩
    obtain ⟨j1, j2, j3⟩ := rndN_K hV hR hW hH j
    have JW := j1.al.wide.trans hW
    have JH := j1.al.high.trans hH
    obtain ⟨g1, g2, g3, g4⟩ := runS_good j1.V.good JW JH
    simp only [go_sem, Nat.reduceLT, decide_eq_true_eq, decide_eq_false_iff_not]
    refine ⟨fun hlt => ?_, fun hlt => ?_⟩
    · refine (once_Q _ _ _ (rndN W H S j).1 W H j1.V j1.R JW JH).A ?_
      simp only [go_sem, Nat.reduceLT, reduceIte]
      refine (onceR_Q _ _ _ (rndN W H S j).1 W H j1.V j1.R JW JH).A ?_
      simp only [go_sem, Nat.reduceLT, reduceIte]
      refine (calm_Q _ _ _ (rndN W H S j).1 W H j1.V j1.R JW JH).A ?_
      have wj : IntKind.i64.wrap ((rndN W H S j).2 + (runS (rndN W H S j).1 W H).2) = (rndN W H S (j + 1)).2 := by rw [w64 (by omega)]; rfl
      have ej : (runS (rndN W H S j).1 W H).1 = (rndN W H S (j + 1)).1 := rfl
      by_cases hz : (runS (rndN W H S j).1 W H).2 = 0
      · have est := runS_still hz
        have est2 : (rndN W H S (j + 1)).1 = (rndN W H S j).1 := est
        rw [hz] at wj
        simp only [go_sem, Nat.reduceLT, reduceIte, hz, est, shEq_self, Bool.not_true, decide_true, beq_self_eq_true, wj]
        refine ⟨⟨j + 1, by omega⟩, by show k - (j + 1) < k - j; omega, ?_⟩
        refine Imp.id (by show n ≤ n1 + 8; omega) ?_ ?_
        · simp only [go_sem, Nat.reduceLT, hBo, Bl, w64 (n := (j : Int) + 1) (by omega), Int.natCast_add, Int.natCast_one]
          (repeat' apply And.intro) <;> first | omega | rfl | trivial | assumption | skip
        · simp only [est2]
          exact impH.base0 (okj _) (by omega) (by simp only [go_sem, Nat.reduceLeDiff, HExt_cons])
      · simp only [go_sem, Nat.reduceLT, reduceIte, hz, shEq_self, Bool.not_true, decide_false, beq_self_eq_true, wj, ej]
        refine ⟨⟨j + 1, by omega⟩, by show k - (j + 1) < k - j; omega, ?_⟩
        refine Imp.id (by show n ≤ n1 + 8; omega) ?_ (impH.base0 (okj _) (by omega) (by simp only [go_sem, Nat.reduceLeDiff, HExt_cons]))
        simp only [go_sem, Nat.reduceLT, hBo, Bl, w64 (n := (j : Int) + 1) (by omega), Int.natCast_add, Int.natCast_one]
        (repeat' apply And.intro) <;> first | omega | rfl | trivial | assumption | skip
    have hjk : j = k := by omega
    subst hjk
    have cT8 : n1 + 2 < n1 + 8 := by omega
    simp only [go_sem, Nat.reduceLT, gT, cT8, shEq_self, Bool.not_true]
    obtain ⟨KU, rU, cn0, cn1⟩ := hU rfl
    have UW := KU.al.wide.trans hW
    have UH := KU.al.high.trans hH
    have du0 : dyeSum U W H 0 = E0 := (KU.dyes hV hW hH (by omega) (by omega)).trans hE0
    have du1 : dyeSum U W H 1 = E1 := (KU.dyes hV hW hH (by omega) (by omega)).trans hE1
    have du2 : dyeSum U W H 2 = E2 := (KU.dyes hV hW hH (by omega) (by omega)).trans hE2
    have cU8 : n1 + 4 < n1 + 8 := by omega
    have cD8 : n1 + 5 < n1 + 8 := by omega
    have cn0' : ¬ cnt < 0 := by omega
    have cn1' : ¬ 500 < cnt := by omega
    simp only [go_sem, Nat.reduceLT, gU, cU8]
    refine (calm_Q _ _ _ U W H KU.V KU.R UW UH).A ?_
    rw [rU]
    simp only [go_sem, Nat.reduceLT, gU, cU8]
    refine (dyeIn_Q _ _ _ U W H KU.V KU.R UW UH).A ?_
    rw [du0, du1, du2]
    simp only [go_sem, Nat.reduceLT, Nat.reduceMod, reduceIte, gU, gD, cU8, cD8, cn0', cn1', decide_true, Bool.not_true, Bool.and_self]
    refine callA_false (a2spots_E _ _ _ U W H KU.R UW UH (by omega) (by omega) _ fun cap hcap1 hcap2 => ?_)
    simp only [go_sem, Nat.reduceLT]
    have okM : HOk (n1 + 11) ((n1 + 10, ⟨H * W * 2, cellC W, true, some (51, cap * 2)⟩) :: (n1 + 9, ⟨266, shC U, true, none⟩) :: (n1 + 8, ⟨3, cl [SV.int .i64 E0, SV.int .i64 E1, SV.int .i64 E2], true, none⟩) :: (n1 + 7, ⟨266, shC (rndN W H S j).1, true, none⟩) :: hb) := (((okj _).consF fun k hk => cl_flat (l := [_, _, _]) (by simp [SV.flat]) hk).consF fun k hk => shC_flat _ _).consF fun k hk => cellC_flat _ _
    have xM : HExt (n1 + 7) hb ((n1 + 10, ⟨H * W * 2, cellC W, true, some (51, cap * 2)⟩) :: (n1 + 9, ⟨266, shC U, true, none⟩) :: (n1 + 8, ⟨3, cl [SV.int .i64 E0, SV.int .i64 E1, SV.int .i64 E2], true, none⟩) :: (n1 + 7, ⟨266, shC (rndN W H S j).1, true, none⟩) :: hb) := by simp only [go_sem, Nat.reduceLeDiff, HExt_cons]
    have gM : hget ((n1 + 10, ⟨H * W * 2, cellC W, true, some (51, cap * 2)⟩) :: (n1 + 9, ⟨266, shC U, true, none⟩) :: (n1 + 8, ⟨3, cl [SV.int .i64 E0, SV.int .i64 E1, SV.int .i64 E2], true, none⟩) :: (n1 + 7, ⟨266, shC (rndN W H S j).1, true, none⟩) :: hb) (n1 + 10) = some ⟨H * W * 2, cellC W, true, some (51, cap * 2)⟩ := by simp only [go_sem]
    generalize ((n1 + 10, ⟨H * W * 2, cellC W, true, some (51, cap * 2)⟩) :: (n1 + 9, ⟨266, shC U, true, none⟩) :: (n1 + 8, ⟨3, cl [SV.int .i64 E0, SV.int .i64 E1, SV.int .i64 E2], true, none⟩) :: (n1 + 7, ⟨266, shC (rndN W H S j).1, true, none⟩) :: hb) = M at *
    have hWH : H * W ≤ 25 := Nat.mul_le_mul (show H ≤ 5 by omega) (show W ≤ 5 by omega)
    have Bl1 : B.lt (n1 + 11) := SV.lt_mono (by omega) _ hB.lt
    refine T_lp (ι := { w : Nat × List (Nat × Seg) × Nat // w.1 ≤ H * W ∧ HExt (n1 + 11) M w.2.1 ∧ n1 + 11 ≤ w.2.2 ∧ HOk w.2.2 w.2.1 })
      (fun w => ([(1, B), (5, .ptr n1 0), (16, .ptr (n1 + 4) 0), (19, .ptr (n1 + 5) 0), (42, .sl (n1 + 10) 0 (H * W) cap), (43, .int .i64 w.1.1)], w.1.2.1, w.1.2.2)) (fun w => H * W - w.1.1) ⟨(0, M, n1 + 11), Nat.zero_le _, HExt.rfl, Nat.le_refl _, okM⟩ ?_ ?_
    · refine Imp.id (by show n ≤ n1 + 11; omega) ?_ (impH.base0 okM (Nat.le_refl _) HExt.rfl)
      simp only [go_sem, Nat.reduceLT, hBo, Bl1]
      (repeat' apply And.intro) <;> first | omega | rfl | trivial | assumption | skip
    rintro ⟨⟨q, hq, nq⟩, hqn, hxq, hnq, okq⟩
    simp only at hqn hxq hnq okq
    have gq : hget hq (n1 + 10) = some ⟨H * W * 2, cellC W, true, some (51, cap * 2)⟩ := hxq (n1 + 10) (by omega) _ gM
    have xq7 : HExt (n1 + 7) hb hq := xM.tr hxq (by omega)
    have gqU : hget hq (n1 + 4) = some ⟨266, shC U, true, none⟩ := xq7 _ (by omega) _ gU
    have cq1 : n1 + 4 < nq := by omega
    have cq3 : n1 + 10 < nq := by omega
    simp only [go_sem, Nat.reduceLT, decide_eq_true_eq, decide_eq_false_iff_not]
    refine ⟨fun hlt => ?_, fun hlt => ?_⟩
    · have hqlt : q < H * W := by omega
      have b1 : (0 : Int) ≤ q ∧ (q : Int) < ((H * W : Nat) : Int) := ⟨by omega, hlt⟩
      have b2 : q * 2 ≤ H * W * 2 - 2 := by omega
      have b3 : 2 ≤ H * W * 2 := by omega
      obtain ⟨u0, u8, v0, v8⟩ := cell_in KU.V.1 UW UH hqlt
      refine T_drawG hti 7 [] (.b 0 0 (.b 0 1 (.b 0 2 (.b 0 3 (.b 0 4 (.b 2 5 (.b 0 6 (.f) .o) .o) .o) .o) .o) .o) .o) _ _ (by kernel_rfl) (by kernel_rfl) ?_
      simp only [go_sem, Nat.reduceLT, gqU, gq, cq1, cq3, b1, b2, b3, cellC_x, cellC_y]
      refine ⟨by omega, ?_⟩
      refine callA_false (near_E _ _ _ U _ _ KU.R KU.V.1 (by omega) (by omega) _ fun cap2 h8 n8 hn8 hx8 ok8 gL => ?_)
      have hcalm : waxB U ((q % W : Nat) : Int) ((q / W : Nat) : Int) = false → ∀ p ∈ nb U ((q % W : Nat) : Int) ((q / W : Nat) : Int), U.wet ((q / W : Nat) : Int) ((q % W : Nat) : Int) - U.wet p.2 p.1 ≤ 1 := fun hw p hp => calm_of rU hqlt hw hp
      have hLin : ∀ r, r < (nb U ((q % W : Nat) : Int) ((q / W : Nat) : Int)).length → 0 ≤ ((nb U ((q % W : Nat) : Int) ((q / W : Nat) : Int)).getD r (0, 0)).1 ∧ ((nb U ((q % W : Nat) : Int) ((q / W : Nat) : Int)).getD r (0, 0)).1 < 8 ∧ 0 ≤ ((nb U ((q % W : Nat) : Int) ((q / W : Nat) : Int)).getD r (0, 0)).2 ∧ ((nb U ((q % W : Nat) : Int) ((q / W : Nat) : Int)).getD r (0, 0)).2 < 8 := fun r hr => (nb_mem KU.V.1 hr).2
      have hLl : (nb U ((q % W : Nat) : Int) ((q / W : Nat) : Int)).length ≤ 4 := nb_len _ _ _
      generalize nb U ((q % W : Nat) : Int) ((q / W : Nat) : Int) = L at *
      have e8x : cellC W (q * 2) = .int .i8 ((q % W : Nat) : Int) := cellC_x W q
      have e8y : cellC W (q * 2 + 1) = .int .i8 ((q / W : Nat) : Int) := cellC_y W q
      generalize hpx : ((q % W : Nat) : Int) = px at *
      generalize hpy : ((q / W : Nat) : Int) = py at *
      have g8U : hget h8 (n1 + 4) = some ⟨266, shC U, true, none⟩ := hx8 _ (by omega) _ gqU
      have g8c : hget h8 (n1 + 10) = some ⟨H * W * 2, cellC W, true, some (51, cap * 2)⟩ := hx8 _ (by omega) _ gq
      have c81 : n1 + 4 < n8 := by omega
      have c83 : n1 + 10 < n8 := by omega
      have c8L : nq + 2 < n8 := by omega
      have wetb := fun (y x : Int) (a : 0 ≤ y) (b : y < 8) (c : 0 ≤ x) (d : x < 8) => KU.V.good.wet y x a b c d
      simp only [go_sem]
      refine ⟨⟨by omega, hx8⟩, ?_⟩
      have Bl8 : B.lt n8 := SV.lt_mono (by omega) _ hB.lt
      refine T_lp (ι := { r : Nat // r ≤ L.length })
        (fun r => ([(1, B), (5, .ptr n1 0), (16, .ptr (n1 + 4) 0), (19, .ptr (n1 + 5) 0), (42, .sl (n1 + 10) 0 (H * W) cap), (43, .int .i64 q), (44, .sl (nq + 2) 0 L.length cap2), (45, .int .i64 r.1)], h8, n8)) (fun r => L.length - r.1) ⟨0, by omega⟩ ?_ ?_
      · refine Imp.id (by show n ≤ n8; omega) ?_ (impH.base0 ok8 (Nat.le_refl _) HExt.rfl)
        simp only [go_sem, Nat.reduceLT, hBo, Bl8]
        (repeat' apply And.intro) <;> first | omega | rfl | trivial | assumption | skip
      rintro ⟨r, hr⟩
      simp only [go_sem, Nat.reduceLT, decide_eq_true_eq, decide_eq_false_iff_not]
      refine ⟨fun hrl => ?_, fun hrl => ?_⟩
      · have hrlt : r < L.length := by omega
        have r1 : (0 : Int) ≤ r ∧ (r : Int) < (L.length : Int) := ⟨by omega, hrl⟩
        have r2 : r * 2 ≤ L.length * 2 - 2 := by omega
        have r3 : 2 ≤ L.length * 2 := by omega
        obtain ⟨a0, a8, b0, b8⟩ := hLin r hrlt
        have hmem : L.getD r (0, 0) ∈ L := getD_mem hrlt
        have m1 : r * 2 + 1 ≤ L.length * 2 - 1 := by omega
        have m2 : q * 2 + 1 ≤ H * W * 2 - 1 := by omega
        refine T_drawG hti 39 [] (.b 0 0 (.b 0 1 (.b 0 2 (.b 0 3 (.b 0 4 (.b 1 5 (.b 0 6 (.b 0 7 (.b 0 8 (.b 0 9 (.b 0 10 (.b 0 11 (.b 0 12 (.b 0 13 (.b 0 14 (.b 0 15 (.b 0 16 (.b 0 17 (.b 0 18 (.b 0 19 (.b 0 20 (.b 0 21 (.b 0 22 (.b 0 23 (.b 0 24 (.b 0 25 (.b 0 26 (.b 0 27 (.b 0 28 (.b 0 29 (.b 0 30 (.b 0 31 (.b 0 32 (.b 0 33 (.b 0 34 (.b 0 35 (.b 0 36 (.b 0 37 (.b 0 38 (.f) .o) .o) .o) .o) .o) .o) .o) .o) .o) .o) .o) .o) .o) .o) .o) .o) .o) .o) .o) .o) .o) .o) .o) .o) .o) .o) .o) .o) .o) .o) .o) .o) .o) .o) .o) .o) .o) .o) .o) _ _ (by kernel_rfl) (by kernel_rfl) ?_
        simp only [go_sem, Nat.reduceLT, g8U, g8c, c81, c83, b1, b2, b3, e8x, e8y]
        refine ⟨by omega, ?_⟩
        refine CallQ.F _ (fun h' n' hn' hx' => a2waxed_Q _ h' n' U px py KU.R u0 u8 v0 v8) ?_
        cases hwx : waxB U px py
        · have hd := hcalm hwx _ hmem
          have wa := wetb py px v0 v8 u0 u8
          have wb := wetb _ _ b0 b8 a0 a8
          have hnd : ¬ 1 < IntKind.i16.wrap (U.wet py px - U.wet (L.getD r (0, 0)).2 (L.getD r (0, 0)).1) := by rw [w16 (by omega)]; omega
          simp only [go_sem, Nat.reduceLT, Nat.reduceLeDiff, reduceCtorEq, g8U, g8c, gL, c81, c83, c8L, b1, b2, b3, e8x, e8y, r1, r2, r3, spotsC_x, spotsC_y, u0, u8, v0, v8, a0, a8, b0, b8, hnd]
          refine ⟨by omega, by omega, by omega, by omega, ⟨r + 1, by omega⟩, by show L.length - (r + 1) < L.length - r; omega, ?_⟩
          refine Imp.id (by show n ≤ n8; omega) ?_ (impH.base0 ok8 (Nat.le_refl _) HExt.rfl)
          simp only [go_sem, Nat.reduceLT, hBo, Bl8, w64 (n := (r : Int) + 1) (by omega), Int.natCast_add, Int.natCast_one]
          (repeat' apply And.intro) <;> first | omega | rfl | trivial | assumption | skip
        · simp only [go_sem, Nat.reduceLT, g8U, g8c, gL, c81, c83, c8L]
          refine ⟨⟨r + 1, by omega⟩, by show L.length - (r + 1) < L.length - r; omega, ?_⟩
          refine Imp.id (by show n ≤ n8; omega) ?_ (impH.base0 ok8 (Nat.le_refl _) HExt.rfl)
          simp only [go_sem, Nat.reduceLT, hBo, Bl8, w64 (n := (r : Int) + 1) (by omega), Int.natCast_add, Int.natCast_one]
          (repeat' apply And.intro) <;> first | omega | rfl | trivial | assumption | skip
      · refine ⟨⟨(q + 1, h8, n8), by show q + 1 ≤ H * W; omega, hxq.tr hx8 (by omega), by show n1 + 11 ≤ n8; omega, ok8⟩, by show H * W - (q + 1) < H * W - q; omega, ?_⟩
        refine Imp.id (by show n ≤ n8; omega) ?_ (impH.base0 ok8 (Nat.le_refl _) HExt.rfl)
        simp only [go_sem, Nat.reduceLT, hBo, Bl8, w64 (n := (q : Int) + 1) (by omega), Int.natCast_add, Int.natCast_one]
        (repeat' apply And.intro) <;> first | omega | rfl | trivial | assumption | skip
    have okz := okq
    have gSz : hget hq n1 = some ⟨266, shC S, true, none⟩ := xq7 _ (by omega) _ gS
    have gDz : hget hq (n1 + 5) = some ⟨3, cl [SV.int .i64 E0, SV.int .i64 E1, SV.int .i64 E2], true, none⟩ := xq7 _ (by omega) _ gD
    have Xz : HExt n h hq := Xb.tr xq7 (by omega)
    have hNz : n1 + 8 ≤ nq := by omega
    have hSz : n1 < nq := by omega
    have hDz : n1 + 5 < nq := by omega
    have hBz := (hBs n (Nat.le_refl _)).up (n' := nq) (i' := nq) (by omega) Xz (by omega)
    simp only [go_sem, Nat.reduceLT, hBo, gSz, hSz, gS]
    refine callA_false (a2spot_E _ _ _ B S hBz hR (by omega) (by omega) _ fun ax ay ha na hna hxa oka x0 x1 y0 y1 => ?_)
    have hh : hasB S ax ay = true := by simp only [hasB, Bool.and_eq_true, decide_eq_true_eq]; omega
    have x8 : ax < 8 := by omega
    have y8 : ay < 8 := by omega
    have gSa : hget ha n1 = some ⟨266, shC S, true, none⟩ := hxa _ (by omega) _ gSz
    have gDa : hget ha (n1 + 5) = some ⟨3, cl [SV.int .i64 E0, SV.int .i64 E1, SV.int .i64 E2], true, none⟩ := hxa _ (by omega) _ gDz
    have Xa := Xz.tr hxa (by omega)
    have cSa : n1 < na := by omega
    have nSa : ¬ na = n1 := by omega
    have oka1 : HOk (na + 1) ((na, ⟨2, cl [SV.int .i8 ax, SV.int .i8 ay], true, none⟩) :: ha) := oka.consF fun k hk => pair_flat _ _ hk
    have xa1 : HExt na ha ((na, ⟨2, cl [SV.int .i8 ax, SV.int .i8 ay], true, none⟩) :: ha) := by simp only [go_sem, HExt_cons]
    simp only [go_sem, Nat.reduceLT, reduceIte, hBo, gSa, cSa, nSa]
    refine callA_false (near_E _ _ _ S ax ay hR hV.1 (by omega) (by omega) _ fun cap3 h9 n9 hn9 hx9 ok9 gL => ?_)
    have x9 : HExt na ha h9 := xa1.tr hx9 (by omega)
    have gS9 : hget h9 n1 = some ⟨266, shC S, true, none⟩ := x9 _ (by omega) _ gSa
    have gD9 : hget h9 (n1 + 5) = some ⟨3, cl [SV.int .i64 E0, SV.int .i64 E1, SV.int .i64 E2], true, none⟩ := x9 _ (by omega) _ gDa
    have gA9 : hget h9 na = some ⟨2, cl [SV.int .i8 ax, SV.int .i8 ay], true, none⟩ := hx9 _ (by omega) _ (by simp only [go_sem])
    have X9 := Xa.tr x9 (by omega)
    have cS9 : n1 < n9 := by omega
    have cD9 : n1 + 5 < n9 := by omega
    have cA9 : na < n9 := by omega
    have cL9 : na + 1 + 2 < n9 := by omega
    have hLl : (nb S ax ay).length ≤ 4 := nb_len _ _ _
    by_cases hl0 : ((nb S ax ay).length : Int) = 0
    · simp only [go_sem, Nat.reduceLT, hl0]
      exact X9
    simp only [go_sem, Nat.reduceLT, hl0, gS9, gA9, cS9, cA9]
    refine (a2waxed_Q _ _ _ S ax ay hR x0 x8 y0 y8).A ?_
    cases hwx : waxB S ax ay
    rotate_left
    · simp only [go_sem, Nat.reduceLT]
      exact X9
    simp only [go_sem, Nat.reduceLT, hBo]
    have hB9 := (hBs n (Nat.le_refl _)).up (n' := n9) (i' := n9) (by omega) X9 (by omega)
    obtain ⟨bi, bi0, bi1, hqb⟩ := at_Q ⟨cx.w0, cx.W, 440, n⟩ _ _ B 1 ((nb S ax ay).length : Int) hB9 (by omega) (by omega)
    refine hqb.A ?_
    obtain ⟨r, rfl⟩ := Int.eq_ofNat_of_zero_le bi0
    have hr : r < (nb S ax ay).length := by omega
    have hmem : (nb S ax ay).getD r (0, 0) ∈ nb S ax ay := getD_mem hr
    obtain ⟨_, a0, a8, b0, b8⟩ := nb_mem hV.1 hr
    obtain ⟨hb1, hb2⟩ := nb_free hmem
    have hne : ¬ (((nb S ax ay).getD r (0, 0)).2 = ay ∧ ((nb S ax ay).getD r (0, 0)).1 = ax) := besideL_ne ⟨x0, x8⟩ ⟨y0, y8⟩ _ (List.mem_filter.1 hmem).1
    have r1 : (0 : Int) ≤ r ∧ (r : Int) < ((nb S ax ay).length : Int) := ⟨by omega, bi1⟩
    have r2 : r * 2 ≤ (nb S ax ay).length * 2 - 2 := by omega
    have r3 : 2 ≤ (nb S ax ay).length * 2 := by omega
    have ex := spotsC_x (nb S ax ay) r
    have ey := spotsC_y (nb S ax ay) r
    have hwb := hwet ((nb S ax ay).getD r (0, 0)).2 ((nb S ax ay).getD r (0, 0)).1
    have hwa := hwet ay ax
    have q1 := giveUnit_Q (S := S) (ax := ax) (ay := ay) (bx := ((nb S ax ay).getD r (0, 0)).1) (by' := ((nb S ax ay).getD r (0, 0)).2) (hR := hR) (hV := hV) (ha := hh) (hw := hwx) (hb := hmem) (hb200 := by omega)
    have q2 := giveUnitR_Q (S := S) (ax := ax) (ay := ay) (bx := ((nb S ax ay).getD r (0, 0)).1) (by' := ((nb S ax ay).getD r (0, 0)).2) (hR := hR) (hV := hV) (ha := hh) (hw := hwx) (hb := hmem) (hb200 := by omega)
    have gK : 0 < S.wet ay ax → RunK S (giveS S ax ay ((nb S ax ay).getD r (0, 0)).1 ((nb S ax ay).getD r (0, 0)).2) := fun hp => giveU_K hV.good x0 x8 y0 y8 a0 a8 b0 b8 hp (by omega) hne hV hR ⟨hh, hwx⟩ ⟨hb1, hb2⟩
    have gW : 0 < S.wet ay ax → (giveS S ax ay ((nb S ax ay).getD r (0, 0)).1 ((nb S ax ay).getD r (0, 0)).2).wet ay ax = S.wet ay ax - 1 := fun hp => by
      rw [giveU_wet hV.good x0 x8 y0 y8 a0 a8 b0 b8 hp (by omega) hne, if_neg (fun e => hne ⟨e.1.symm, e.2.symm⟩), if_pos ⟨rfl, rfl⟩]
    simp only [go_sem, Nat.reduceLT, reduceIte, gL, cL9, r1, r2, r3, ex, ey]
    generalize (nb S ax ay).getD r (0, 0) = P at *
    refine ⟨by omega, ?_⟩
    simp only [go_sem, Nat.reduceLT, gS9, gA9, cS9, cA9]
    refine (q1 _ _ _).A ?_
    simp only [go_sem, Nat.reduceLT, reduceIte, gS9, gA9, cS9, cA9]
    refine (q2 _ _ _).A ?_
    unfold giveR
    by_cases hz0 : S.wet ay ax = 0
    · simp only [go_sem, Nat.reduceLT, hz0, if_true]
      refine (dyeIn0_Q _ _ _).A ?_
      simp only [go_sem, Nat.reduceLT, reduceIte]
      refine T_drawG hti 56 [] (.b 0 0 (.b 0 1 (.b 0 2 (.b 0 3 (.b 0 4 (.b 0 5 (.b 0 6 (.b 0 7 (.b 0 8 (.b 0 9 (.b 0 10 (.b 0 11 (.b 0 12 (.b 0 13 (.b 0 14 (.b 0 15 (.b 0 16 (.b 0 17 (.b 0 18 (.b 0 19 (.b 0 20 (.b 0 21 (.b 0 22 (.b 0 23 (.b 0 24 (.b 0 25 (.b 0 26 (.b 0 27 (.b 0 28 (.b 0 29 (.b 0 30 (.b 0 31 (.b 0 32 (.b 0 33 (.b 0 34 (.b 0 35 (.b 0 36 (.b 0 37 (.b 0 38 (.b 0 39 (.b 0 40 (.b 0 41 (.b 0 42 (.b 0 43 (.b 0 44 (.b 0 45 (.b 0 46 (.b 0 47 (.b 0 48 (.b 0 49 (.b 0 50 (.b 0 51 (.b 0 52 (.b 0 53 (.b 0 54 (.b 0 55 (.f) .o) .o) .o) .o) .o) .o) .o) .o) .o) .o) .o) .o) .o) .o) .o) .o) .o) .o) .o) .o) .o) .o) .o) .o) .o) .o) .o) .o) .o) .o) .o) .o) .o) .o) .o) .o) .o) .o) .o) .o) .o) .o) .o) .o) .o) .o) .o) .o) .o) .o) .o) .o) .o) .o) .o) .o) _ _ (by kernel_rfl) (by kernel_rfl) ?_
      simp only [go_sem, Nat.reduceLT, Nat.reduceLeDiff, reduceCtorEq, Int.reduceLT, Int.reduceEq, gS9, gA9, gD9, cS9, cA9, cD9, x0, x8, y0, y8, shEq_self, hz0, beq_self_eq_true, Bool.true_eq_false, decide_true, Bool.and_self]
      exact (((X9.cons (by omega)).cons (by omega)).cons (by omega)).cons (by omega)
    have hp : 0 < S.wet ay ax := by omega
    have KG := gK hp
    have GW := KG.al.wide.trans hW
    have GH := KG.al.high.trans hH
    have dg0 : dyeSum (giveS S ax ay P.1 P.2) W H 0 = E0 := (KG.dyes hV hW hH (by omega) (by omega)).trans hE0
    have dg1 : dyeSum (giveS S ax ay P.1 P.2) W H 1 = E1 := (KG.dyes hV hW hH (by omega) (by omega)).trans hE1
    have dg2 : dyeSum (giveS S ax ay P.1 P.2) W H 2 = E2 := (KG.dyes hV hW hH (by omega) (by omega)).trans hE2
    have gw := gW hp
    have w1' : IntKind.i16.wrap (S.wet ay ax - 1) = S.wet ay ax - 1 := w16 (by omega)
    simp only [go_sem, Nat.reduceLT, reduceIte, hz0, if_false]
    refine (dyeIn_Q _ _ _ (giveS S ax ay P.1 P.2) W H KG.V KG.R GW GH).A ?_
    rw [dg0, dg1, dg2]
    simp only [go_sem, Nat.reduceLT, reduceIte]
    refine T_drawG hti 56 [] (.b 0 0 (.b 0 1 (.b 0 2 (.b 0 3 (.b 0 4 (.b 0 5 (.b 0 6 (.b 0 7 (.b 0 8 (.b 0 9 (.b 0 10 (.b 0 11 (.b 0 12 (.b 0 13 (.b 0 14 (.b 0 15 (.b 0 16 (.b 0 17 (.b 0 18 (.b 0 19 (.b 0 20 (.b 0 21 (.b 0 22 (.b 0 23 (.b 0 24 (.b 0 25 (.b 0 26 (.b 0 27 (.b 0 28 (.b 0 29 (.b 0 30 (.b 0 31 (.b 0 32 (.b 0 33 (.b 0 34 (.b 0 35 (.b 0 36 (.b 0 37 (.b 0 38 (.b 0 39 (.b 0 40 (.b 0 41 (.b 0 42 (.b 0 43 (.b 0 44 (.b 0 45 (.b 0 46 (.b 0 47 (.b 0 48 (.b 0 49 (.b 0 50 (.b 0 51 (.b 0 52 (.b 0 53 (.b 0 54 (.b 0 55 (.f) .o) .o) .o) .o) .o) .o) .o) .o) .o) .o) .o) .o) .o) .o) .o) .o) .o) .o) .o) .o) .o) .o) .o) .o) .o) .o) .o) .o) .o) .o) .o) .o) .o) .o) .o) .o) .o) .o) .o) .o) .o) .o) .o) .o) .o) .o) .o) .o) .o) .o) .o) .o) .o) .o) .o) .o) _ _ (by kernel_rfl) (by kernel_rfl) ?_
    simp only [go_sem, Nat.reduceLT, Nat.reduceLeDiff, Nat.reduceMod, reduceCtorEq, gS9, gA9, gD9, cS9, cA9, cD9, x0, x8, y0, y8, shEq_self, hp, gw, w1', beq_self_eq_true, Bool.true_eq_false, decide_true, Bool.and_self]
    exact (((X9.cons (by omega)).cons (by omega)).cons (by omega)).cons (by omega)
  · simp only [go_sem, Nat.reduceLT, reduceIte, Int.reduceEq, hAo, hBo, shEq_self, Bool.not_true, hs0']
    refine (dyeIn_Q _ _ _ S W H hV hR hW hH).A ?_
    simp only [go_sem, Nat.reduceLT, reduceIte, hAo, hBo, shEq_self, Bool.not_true, hs0']
    refine (dyeIn_Q _ _ _ (rndN W H S k).1 W H hK1.V hK1.R TW TH).A ?_
    rw [d0, d1, d2]
    simp only [go_sem, Nat.reduceLT, reduceIte, hAo, hBo, shEq_self, Bool.not_true, hs0']
    refine (waterIn_Q _ _ _ S W H hV hR hW hH).A ?_
    simp only [go_sem, Nat.reduceLT, hAo, hBo, shEq_self, Bool.not_true, hs0']
    refine (waterIn_Q _ _ _ (rndN W H S k).1 W H hK1.V hK1.R TW TH).A ?_
    rw [dw]
    generalize hE0 : dyeSum S W H 0 = E0 at *
    generalize hE1 : dyeSum S W H 1 = E1 at *
    generalize hE2 : dyeSum S W H 2 = E2 at *
    simp only [go_sem, Nat.reduceLT, Nat.reduceMod, hAo, hBo, shEq_self, Bool.not_true, hs0', decide_eq_true_eq, decide_true, Bool.and_self, Bool.and_true]
    refine (valid_Q _ _ _ _ (rndN W H S k).1 (shF_shC hK1.R)).A ?_
    rw [validB_true hK1.V]
    simp only [go_sem, Nat.reduceLT, reduceIte, hAo, hBo, shEq_self, Bool.not_true, hs0']
    have okb : HOk (n1 + 7) ((n1 + 6, ⟨3, cl [SV.int .i64 E0, SV.int .i64 E1, SV.int .i64 E2], true, none⟩) :: (n1 + 5, ⟨3, cl [SV.int .i64 E0, SV.int .i64 E1, SV.int .i64 E2], true, none⟩) :: (n1 + 4, ⟨266, shC U, true, none⟩) :: (n1 + 3, ⟨266, shC U, true, none⟩) :: (n1 + 2, ⟨266, shC (rndN W H S k).1, true, none⟩) :: (n1 + 1, ⟨266, shC (rndN W H S k).1, true, none⟩) :: (n1, ⟨266, shC S, true, none⟩) :: h1) := ((((((ok2.consF fun k hk => shC_flat _ _).consF fun k hk => shC_flat _ _).consF fun k hk => shC_flat _ _).consF fun k hk => shC_flat _ _).consF fun k hk => cl_flat (l := [_, _, _]) (by simp [SV.flat]) hk).consF fun k hk => cl_flat (l := [_, _, _]) (by simp [SV.flat]) hk)
    have gS : hget ((n1 + 6, ⟨3, cl [SV.int .i64 E0, SV.int .i64 E1, SV.int .i64 E2], true, none⟩) :: (n1 + 5, ⟨3, cl [SV.int .i64 E0, SV.int .i64 E1, SV.int .i64 E2], true, none⟩) :: (n1 + 4, ⟨266, shC U, true, none⟩) :: (n1 + 3, ⟨266, shC U, true, none⟩) :: (n1 + 2, ⟨266, shC (rndN W H S k).1, true, none⟩) :: (n1 + 1, ⟨266, shC (rndN W H S k).1, true, none⟩) :: (n1, ⟨266, shC S, true, none⟩) :: h1) n1 = some ⟨266, shC S, true, none⟩ := by simp only [go_sem]
    have gT : hget ((n1 + 6, ⟨3, cl [SV.int .i64 E0, SV.int .i64 E1, SV.int .i64 E2], true, none⟩) :: (n1 + 5, ⟨3, cl [SV.int .i64 E0, SV.int .i64 E1, SV.int .i64 E2], true, none⟩) :: (n1 + 4, ⟨266, shC U, true, none⟩) :: (n1 + 3, ⟨266, shC U, true, none⟩) :: (n1 + 2, ⟨266, shC (rndN W H S k).1, true, none⟩) :: (n1 + 1, ⟨266, shC (rndN W H S k).1, true, none⟩) :: (n1, ⟨266, shC S, true, none⟩) :: h1) (n1 + 2) = some ⟨266, shC (rndN W H S k).1, true, none⟩ := by simp only [go_sem, Nat.reduceLT]
    have gU : hget ((n1 + 6, ⟨3, cl [SV.int .i64 E0, SV.int .i64 E1, SV.int .i64 E2], true, none⟩) :: (n1 + 5, ⟨3, cl [SV.int .i64 E0, SV.int .i64 E1, SV.int .i64 E2], true, none⟩) :: (n1 + 4, ⟨266, shC U, true, none⟩) :: (n1 + 3, ⟨266, shC U, true, none⟩) :: (n1 + 2, ⟨266, shC (rndN W H S k).1, true, none⟩) :: (n1 + 1, ⟨266, shC (rndN W H S k).1, true, none⟩) :: (n1, ⟨266, shC S, true, none⟩) :: h1) (n1 + 4) = some ⟨266, shC U, true, none⟩ := by simp only [go_sem, Nat.reduceLT]
    have gD : hget ((n1 + 6, ⟨3, cl [SV.int .i64 E0, SV.int .i64 E1, SV.int .i64 E2], true, none⟩) :: (n1 + 5, ⟨3, cl [SV.int .i64 E0, SV.int .i64 E1, SV.int .i64 E2], true, none⟩) :: (n1 + 4, ⟨266, shC U, true, none⟩) :: (n1 + 3, ⟨266, shC U, true, none⟩) :: (n1 + 2, ⟨266, shC (rndN W H S k).1, true, none⟩) :: (n1 + 1, ⟨266, shC (rndN W H S k).1, true, none⟩) :: (n1, ⟨266, shC S, true, none⟩) :: h1) (n1 + 5) = some ⟨3, cl [SV.int .i64 E0, SV.int .i64 E1, SV.int .i64 E2], true, none⟩ := by simp only [go_sem, Nat.reduceLT]
    have Xb : HExt n h ((n1 + 6, ⟨3, cl [SV.int .i64 E0, SV.int .i64 E1, SV.int .i64 E2], true, none⟩) :: (n1 + 5, ⟨3, cl [SV.int .i64 E0, SV.int .i64 E1, SV.int .i64 E2], true, none⟩) :: (n1 + 4, ⟨266, shC U, true, none⟩) :: (n1 + 3, ⟨266, shC U, true, none⟩) :: (n1 + 2, ⟨266, shC (rndN W H S k).1, true, none⟩) :: (n1 + 1, ⟨266, shC (rndN W H S k).1, true, none⟩) :: (n1, ⟨266, shC S, true, none⟩) :: h1) := (((((X2.cons (by omega)).cons (by omega)).cons (by omega)).cons (by omega)).cons (by omega)).cons (by omega)
    generalize ((n1 + 6, ⟨3, cl [SV.int .i64 E0, SV.int .i64 E1, SV.int .i64 E2], true, none⟩) :: (n1 + 5, ⟨3, cl [SV.int .i64 E0, SV.int .i64 E1, SV.int .i64 E2], true, none⟩) :: (n1 + 4, ⟨266, shC U, true, none⟩) :: (n1 + 3, ⟨266, shC U, true, none⟩) :: (n1 + 2, ⟨266, shC (rndN W H S k).1, true, none⟩) :: (n1 + 1, ⟨266, shC (rndN W H S k).1, true, none⟩) :: (n1, ⟨266, shC S, true, none⟩) :: h1) = hb at *
    have cS : n1 < n1 + 7 := by omega
    have cT : n1 + 2 < n1 + 7 := by omega
    have cU : n1 + 4 < n1 + 7 := by omega
    have cD : n1 + 5 < n1 + 7 := by omega
    have okj : ∀ T, HOk (n1 + 8) ((n1 + 7, ⟨266, shC T, true, none⟩) :: hb) := fun T => okb.consF fun k hk => shC_flat _ _
    have Bl : B.lt (n1 + 8) := SV.lt_mono (by omega) _ hB.lt
    refine T_lp (ι := { j : Nat // j ≤ k })
      (fun j => ([(1, B), (5, .ptr n1 0), (6, .int .i64 k), (10, .ptr (n1 + 2) 0), (11, .int .i64 (rndN W H S k).2), (15, .int .i64 7), (16, .ptr (n1 + 4) 0), (17, .int .i64 cnt), (19, .ptr (n1 + 5) 0), (27, .ptr (n1 + 7) 0), (28, .int .i64 (rndN W H S j.1).2), (29, .int .i64 j.1)], (n1 + 7, ⟨266, shC (rndN W H S j.1).1, true, none⟩) :: hb, n1 + 8)) (fun j => k - j.1) ⟨0, by omega⟩ ?_ ?_
    · refine Imp.id (by show n ≤ n1 + 8; omega) ?_ (impH.base0 (okj S) (Nat.le_refl _) HExt.rfl)
      simp only [go_sem, Nat.reduceLT, hBo, Bl, rndN]
      (repeat' apply And.intro) <;> first | omega | rfl | trivial | assumption | skip
    rintro ⟨j, hj⟩
    obtain ⟨j1, j2, j3⟩ := rndN_K hV hR hW hH j
    have JW := j1.al.wide.trans hW
    have JH := j1.al.high.trans hH
    obtain ⟨g1, g2, g3, g4⟩ := runS_good j1.V.good JW JH
    simp only [go_sem, Nat.reduceLT, decide_eq_true_eq, decide_eq_false_iff_not]
    refine ⟨fun hlt => ?_, fun hlt => ?_⟩
    · refine (once_Q _ _ _ (rndN W H S j).1 W H j1.V j1.R JW JH).A ?_
      simp only [go_sem, Nat.reduceLT, reduceIte]
      refine (onceR_Q _ _ _ (rndN W H S j).1 W H j1.V j1.R JW JH).A ?_
      simp only [go_sem, Nat.reduceLT, reduceIte]
      refine (calm_Q _ _ _ (rndN W H S j).1 W H j1.V j1.R JW JH).A ?_
      have wj : IntKind.i64.wrap ((rndN W H S j).2 + (runS (rndN W H S j).1 W H).2) = (rndN W H S (j + 1)).2 := by rw [w64 (by omega)]; rfl
      have ej : (runS (rndN W H S j).1 W H).1 = (rndN W H S (j + 1)).1 := rfl
      by_cases hz : (runS (rndN W H S j).1 W H).2 = 0
      · have est := runS_still hz
        have est2 : (rndN W H S (j + 1)).1 = (rndN W H S j).1 := est
        rw [hz] at wj
        simp only [go_sem, Nat.reduceLT, reduceIte, hz, est, shEq_self, Bool.not_true, decide_true, beq_self_eq_true, wj]
        refine ⟨⟨j + 1, by omega⟩, by show k - (j + 1) < k - j; omega, ?_⟩
        refine Imp.id (by show n ≤ n1 + 8; omega) ?_ ?_
        · simp only [go_sem, Nat.reduceLT, hBo, Bl, w64 (n := (j : Int) + 1) (by omega), Int.natCast_add, Int.natCast_one]
          (repeat' apply And.intro) <;> first | omega | rfl | trivial | assumption | skip
        · simp only [est2]
          exact impH.base0 (okj _) (by omega) (by simp only [go_sem, Nat.reduceLeDiff, HExt_cons])
      · simp only [go_sem, Nat.reduceLT, reduceIte, hz, shEq_self, Bool.not_true, decide_false, beq_self_eq_true, wj, ej]
        refine ⟨⟨j + 1, by omega⟩, by show k - (j + 1) < k - j; omega, ?_⟩
        refine Imp.id (by show n ≤ n1 + 8; omega) ?_ (impH.base0 (okj _) (by omega) (by simp only [go_sem, Nat.reduceLeDiff, HExt_cons]))
        simp only [go_sem, Nat.reduceLT, hBo, Bl, w64 (n := (j : Int) + 1) (by omega), Int.natCast_add, Int.natCast_one]
        (repeat' apply And.intro) <;> first | omega | rfl | trivial | assumption | skip
    have hjk : j = k := by omega
    subst hjk
    have cT8 : n1 + 2 < n1 + 8 := by omega
    simp only [go_sem, Nat.reduceLT, Int.reduceEq, gT, cT8, shEq_self, Bool.not_true]
    have Xz : HExt n h ((n1 + 7, ⟨266, shC (rndN W H S j).1, true, none⟩) :: hb) := Xb.cons (by omega)
    have gSz : hget ((n1 + 7, ⟨266, shC (rndN W H S j).1, true, none⟩) :: hb) n1 = some ⟨266, shC S, true, none⟩ := by simp only [hget]; rw [if_neg (by omega)]; exact gS
    have gDz : hget ((n1 + 7, ⟨266, shC (rndN W H S j).1, true, none⟩) :: hb) (n1 + 5) = some ⟨3, cl [SV.int .i64 E0, SV.int .i64 E1, SV.int .i64 E2], true, none⟩ := by simp only [hget]; rw [if_neg (by omega)]; exact gD
    have okz := okj (rndN W H S j).1
    generalize ((n1 + 7, (⟨266, shC (rndN W H S j).1, true, none⟩ : Seg)) :: hb) = hz at *
    have hSz : n1 < (n1 + 8) := by omega
    have hDz : n1 + 5 < (n1 + 8) := by omega
    have hBz := (hBs n (Nat.le_refl _)).up (n' := (n1 + 8)) (i' := (n1 + 8)) (by omega) Xz (by omega)
    simp only [go_sem, Nat.reduceLT, hBo, gSz, hSz, gS]
    refine callA_false (a2spot_E _ _ _ B S hBz hR (by omega) (by omega) _ fun ax ay ha na hna hxa oka x0 x1 y0 y1 => ?_)
    have hh : hasB S ax ay = true := by simp only [hasB, Bool.and_eq_true, decide_eq_true_eq]; omega
    have x8 : ax < 8 := by omega
    have y8 : ay < 8 := by omega
    have gSa : hget ha n1 = some ⟨266, shC S, true, none⟩ := hxa _ (by omega) _ gSz
    have gDa : hget ha (n1 + 5) = some ⟨3, cl [SV.int .i64 E0, SV.int .i64 E1, SV.int .i64 E2], true, none⟩ := hxa _ (by omega) _ gDz
    have Xa := Xz.tr hxa (by omega)
    have cSa : n1 < na := by omega
    have nSa : ¬ na = n1 := by omega
    have oka1 : HOk (na + 1) ((na, ⟨2, cl [SV.int .i8 ax, SV.int .i8 ay], true, none⟩) :: ha) := oka.consF fun k hk => pair_flat _ _ hk
    have xa1 : HExt na ha ((na, ⟨2, cl [SV.int .i8 ax, SV.int .i8 ay], true, none⟩) :: ha) := by simp only [go_sem, HExt_cons]
    simp only [go_sem, Nat.reduceLT, reduceIte, hBo, gSa, cSa, nSa]
    refine callA_false (near_E _ _ _ S ax ay hR hV.1 (by omega) (by omega) _ fun cap3 h9 n9 hn9 hx9 ok9 gL => ?_)
    have x9 : HExt na ha h9 := xa1.tr hx9 (by omega)
    have gS9 : hget h9 n1 = some ⟨266, shC S, true, none⟩ := x9 _ (by omega) _ gSa
    have gD9 : hget h9 (n1 + 5) = some ⟨3, cl [SV.int .i64 E0, SV.int .i64 E1, SV.int .i64 E2], true, none⟩ := x9 _ (by omega) _ gDa
    have gA9 : hget h9 na = some ⟨2, cl [SV.int .i8 ax, SV.int .i8 ay], true, none⟩ := hx9 _ (by omega) _ (by simp only [go_sem])
    have X9 := Xa.tr x9 (by omega)
    have cS9 : n1 < n9 := by omega
    have cD9 : n1 + 5 < n9 := by omega
    have cA9 : na < n9 := by omega
    have cL9 : na + 1 + 2 < n9 := by omega
    have hLl : (nb S ax ay).length ≤ 4 := nb_len _ _ _
    by_cases hl0 : ((nb S ax ay).length : Int) = 0
    · simp only [go_sem, Nat.reduceLT, hl0]
      exact X9
    simp only [go_sem, Nat.reduceLT, hl0, gS9, gA9, cS9, cA9]
    refine (a2waxed_Q _ _ _ S ax ay hR x0 x8 y0 y8).A ?_
    cases hwx : waxB S ax ay
    rotate_left
    · simp only [go_sem, Nat.reduceLT]
      exact X9
    simp only [go_sem, Nat.reduceLT, hBo]
    have hB9 := (hBs n (Nat.le_refl _)).up (n' := n9) (i' := n9) (by omega) X9 (by omega)
    obtain ⟨bi, bi0, bi1, hqb⟩ := at_Q ⟨cx.w0, cx.W, 440, n⟩ _ _ B 1 ((nb S ax ay).length : Int) hB9 (by omega) (by omega)
    refine hqb.A ?_
    obtain ⟨r, rfl⟩ := Int.eq_ofNat_of_zero_le bi0
    have hr : r < (nb S ax ay).length := by omega
    have hmem : (nb S ax ay).getD r (0, 0) ∈ nb S ax ay := getD_mem hr
    obtain ⟨_, a0, a8, b0, b8⟩ := nb_mem hV.1 hr
    obtain ⟨hb1, hb2⟩ := nb_free hmem
    have hne : ¬ (((nb S ax ay).getD r (0, 0)).2 = ay ∧ ((nb S ax ay).getD r (0, 0)).1 = ax) := besideL_ne ⟨x0, x8⟩ ⟨y0, y8⟩ _ (List.mem_filter.1 hmem).1
    have r1 : (0 : Int) ≤ r ∧ (r : Int) < ((nb S ax ay).length : Int) := ⟨by omega, bi1⟩
    have r2 : r * 2 ≤ (nb S ax ay).length * 2 - 2 := by omega
    have r3 : 2 ≤ (nb S ax ay).length * 2 := by omega
    have ex := spotsC_x (nb S ax ay) r
    have ey := spotsC_y (nb S ax ay) r
    have hwb := hwet ((nb S ax ay).getD r (0, 0)).2 ((nb S ax ay).getD r (0, 0)).1
    have hwa := hwet ay ax
    have q1 := giveUnit_Q (S := S) (ax := ax) (ay := ay) (bx := ((nb S ax ay).getD r (0, 0)).1) (by' := ((nb S ax ay).getD r (0, 0)).2) (hR := hR) (hV := hV) (ha := hh) (hw := hwx) (hb := hmem) (hb200 := by omega)
    have q2 := giveUnitR_Q (S := S) (ax := ax) (ay := ay) (bx := ((nb S ax ay).getD r (0, 0)).1) (by' := ((nb S ax ay).getD r (0, 0)).2) (hR := hR) (hV := hV) (ha := hh) (hw := hwx) (hb := hmem) (hb200 := by omega)
    have gK : 0 < S.wet ay ax → RunK S (giveS S ax ay ((nb S ax ay).getD r (0, 0)).1 ((nb S ax ay).getD r (0, 0)).2) := fun hp => giveU_K hV.good x0 x8 y0 y8 a0 a8 b0 b8 hp (by omega) hne hV hR ⟨hh, hwx⟩ ⟨hb1, hb2⟩
    have gW : 0 < S.wet ay ax → (giveS S ax ay ((nb S ax ay).getD r (0, 0)).1 ((nb S ax ay).getD r (0, 0)).2).wet ay ax = S.wet ay ax - 1 := fun hp => by
      rw [giveU_wet hV.good x0 x8 y0 y8 a0 a8 b0 b8 hp (by omega) hne, if_neg (fun e => hne ⟨e.1.symm, e.2.symm⟩), if_pos ⟨rfl, rfl⟩]
    simp only [go_sem, Nat.reduceLT, reduceIte, gL, cL9, r1, r2, r3, ex, ey]
    generalize (nb S ax ay).getD r (0, 0) = P at *
    refine ⟨by omega, ?_⟩
    simp only [go_sem, Nat.reduceLT, gS9, gA9, cS9, cA9]
    refine (q1 _ _ _).A ?_
    simp only [go_sem, Nat.reduceLT, reduceIte, gS9, gA9, cS9, cA9]
    refine (q2 _ _ _).A ?_
    unfold giveR
    by_cases hz0 : S.wet ay ax = 0
    · simp only [go_sem, Nat.reduceLT, hz0, if_true]
      refine (dyeIn0_Q _ _ _).A ?_
      simp only [go_sem, Nat.reduceLT, reduceIte]
      refine T_drawG hti 56 [] (.b 0 0 (.b 0 1 (.b 0 2 (.b 0 3 (.b 0 4 (.b 0 5 (.b 0 6 (.b 0 7 (.b 0 8 (.b 0 9 (.b 0 10 (.b 0 11 (.b 0 12 (.b 0 13 (.b 0 14 (.b 0 15 (.b 0 16 (.b 0 17 (.b 0 18 (.b 0 19 (.b 0 20 (.b 0 21 (.b 0 22 (.b 0 23 (.b 0 24 (.b 0 25 (.b 0 26 (.b 0 27 (.b 0 28 (.b 0 29 (.b 0 30 (.b 0 31 (.b 0 32 (.b 0 33 (.b 0 34 (.b 0 35 (.b 0 36 (.b 0 37 (.b 0 38 (.b 0 39 (.b 0 40 (.b 0 41 (.b 0 42 (.b 0 43 (.b 0 44 (.b 0 45 (.b 0 46 (.b 0 47 (.b 0 48 (.b 0 49 (.b 0 50 (.b 0 51 (.b 0 52 (.b 0 53 (.b 0 54 (.b 0 55 (.f) .o) .o) .o) .o) .o) .o) .o) .o) .o) .o) .o) .o) .o) .o) .o) .o) .o) .o) .o) .o) .o) .o) .o) .o) .o) .o) .o) .o) .o) .o) .o) .o) .o) .o) .o) .o) .o) .o) .o) .o) .o) .o) .o) .o) .o) .o) .o) .o) .o) .o) .o) .o) .o) .o) .o) .o) _ _ (by kernel_rfl) (by kernel_rfl) ?_
      simp only [go_sem, Nat.reduceLT, Nat.reduceLeDiff, reduceCtorEq, Int.reduceLT, Int.reduceEq, gS9, gA9, gD9, cS9, cA9, cD9, x0, x8, y0, y8, shEq_self, hz0, beq_self_eq_true, Bool.true_eq_false, decide_true, Bool.and_self]
      exact (((X9.cons (by omega)).cons (by omega)).cons (by omega)).cons (by omega)
    have hp : 0 < S.wet ay ax := by omega
    have KG := gK hp
    have GW := KG.al.wide.trans hW
    have GH := KG.al.high.trans hH
    have dg0 : dyeSum (giveS S ax ay P.1 P.2) W H 0 = E0 := (KG.dyes hV hW hH (by omega) (by omega)).trans hE0
    have dg1 : dyeSum (giveS S ax ay P.1 P.2) W H 1 = E1 := (KG.dyes hV hW hH (by omega) (by omega)).trans hE1
    have dg2 : dyeSum (giveS S ax ay P.1 P.2) W H 2 = E2 := (KG.dyes hV hW hH (by omega) (by omega)).trans hE2
    have gw := gW hp
    have w1' : IntKind.i16.wrap (S.wet ay ax - 1) = S.wet ay ax - 1 := w16 (by omega)
    simp only [go_sem, Nat.reduceLT, reduceIte, hz0, if_false]
    refine (dyeIn_Q _ _ _ (giveS S ax ay P.1 P.2) W H KG.V KG.R GW GH).A ?_
    rw [dg0, dg1, dg2]
    simp only [go_sem, Nat.reduceLT, reduceIte]
    refine T_drawG hti 56 [] (.b 0 0 (.b 0 1 (.b 0 2 (.b 0 3 (.b 0 4 (.b 0 5 (.b 0 6 (.b 0 7 (.b 0 8 (.b 0 9 (.b 0 10 (.b 0 11 (.b 0 12 (.b 0 13 (.b 0 14 (.b 0 15 (.b 0 16 (.b 0 17 (.b 0 18 (.b 0 19 (.b 0 20 (.b 0 21 (.b 0 22 (.b 0 23 (.b 0 24 (.b 0 25 (.b 0 26 (.b 0 27 (.b 0 28 (.b 0 29 (.b 0 30 (.b 0 31 (.b 0 32 (.b 0 33 (.b 0 34 (.b 0 35 (.b 0 36 (.b 0 37 (.b 0 38 (.b 0 39 (.b 0 40 (.b 0 41 (.b 0 42 (.b 0 43 (.b 0 44 (.b 0 45 (.b 0 46 (.b 0 47 (.b 0 48 (.b 0 49 (.b 0 50 (.b 0 51 (.b 0 52 (.b 0 53 (.b 0 54 (.b 0 55 (.f) .o) .o) .o) .o) .o) .o) .o) .o) .o) .o) .o) .o) .o) .o) .o) .o) .o) .o) .o) .o) .o) .o) .o) .o) .o) .o) .o) .o) .o) .o) .o) .o) .o) .o) .o) .o) .o) .o) .o) .o) .o) .o) .o) .o) .o) .o) .o) .o) .o) .o) .o) .o) .o) .o) .o) .o) _ _ (by kernel_rfl) (by kernel_rfl) ?_
    simp only [go_sem, Nat.reduceLT, Nat.reduceLeDiff, Nat.reduceMod, reduceCtorEq, gS9, gA9, gD9, cS9, cA9, cD9, x0, x8, y0, y8, shEq_self, hp, gw, w1', beq_self_eq_true, Bool.true_eq_false, decide_true, Bool.and_self]
    exact (((X9.cons (by omega)).cons (by omega)).cons (by omega)).cons (by omega)
end
end Go.Proofs.Ytggpnfgohpifoaa.V
