/- Part 6 of the texts that this proof stands on: a symbolic walk over the program, what its functions and the reference's do, plain laws. -/
import Derived.Test.YtggpnfgohpifoaaGreatZfoe
import Derived.Test.YtggpnfgohpifoaaGreatZfoc
import Derived.Test.YtggpnfgohpifoaaGreatZfoa
import Derived.Test.YtggpnfgohpifoaaGreatV19
import Derived.Test.YtggpnfgohpifoaaGreatZfod
set_option linter.all false

/- Plain laws for FnOrigins. -/
namespace Go.Proofs.YtggpnfgohpifoaaGreat.V
theorem fstUp_spec {f : Nat → Bool} : ∀ (m k : Nat) {c : Nat}, k ≤ c → c < k + m → f c = true → ∃ r, fstUp f m k = some r ∧ k ≤ r ∧ r ≤ c ∧ f r = true ∧ ∀ j, k ≤ j → j < r → f j = false
  | 0, k, c, h1, h2, _ => by omega
  | m + 1, k, c, h1, h2, hc => by
    unfold fstUp
    by_cases h : f k = true
    · rw [if_pos h]; exact ⟨k, rfl, Nat.le_refl _, h1, h, fun j a b => by omega⟩
    · rw [if_neg h]
      have hne : k ≠ c := fun e => h (e ▸ hc)
      obtain ⟨r, a, b, c', d, e⟩ := fstUp_spec m (k + 1) (c := c) (by omega) (by omega) hc
      refine ⟨r, a, by omega, c', d, fun j j1 j2 => ?_⟩
      by_cases hj : j = k
      · subst hj; simpa using h
      · exact e j (by omega) j2
theorem mkB_iff {S : Sh} {x y ink amount water : Int} {O : List (Int × Int)} : mkB S x y ink amount water O = true ↔ (stainR S x y ink amount water).2 = 0 ∧ (stainR S x y ink amount water).1 = O := by
  unfold mkB; rw [decide_eq_true_eq]
theorem hasB_cells {S : Sh} {p : Int × Int} (h : p ∈ cellsL S.wide.toNat S.high.toNat) : hasB S p.1 p.2 = true := by
  unfold cellsL at h
  obtain ⟨k, hk, rfl⟩ := List.mem_map.1 h
  rw [List.mem_range] at hk
  have hW0 : 0 < S.wide.toNat := by
    rcases Nat.eq_zero_or_pos S.wide.toNat with h0 | h0
    · rw [h0] at hk; omega
    · exact h0
  have h3 := Nat.mod_lt k hW0
  have h4 : k / S.wide.toNat < S.high.toNat := (Nat.div_lt_iff_lt_mul hW0).2 hk
  generalize k % S.wide.toNat = a at *
  generalize k / S.wide.toNat = b at *
  simp only [hasB, Bool.and_eq_true, decide_eq_true_eq]
  refine ⟨⟨⟨?_, ?_⟩, ?_⟩, ?_⟩ <;> omega
theorem cells_hasB {S : Sh} {x y : Int} (h : hasB S x y = true) : (x, y) ∈ cellsL S.wide.toNat S.high.toNat := by
  simp only [hasB, Bool.and_eq_true, decide_eq_true_eq] at h
  obtain ⟨⟨⟨h1, h2⟩, h3⟩, h4⟩ := h
  unfold cellsL
  have hW0 : 0 < S.wide.toNat := by omega
  have hx : x.toNat < S.wide.toNat := by omega
  have hy : y.toNat < S.high.toNat := by omega
  have e1 : (y.toNat * S.wide.toNat + x.toNat) % S.wide.toNat = x.toNat := by rw [Nat.add_comm, Nat.add_mul_mod_self_right, Nat.mod_eq_of_lt hx]
  have e2 : (y.toNat * S.wide.toNat + x.toNat) / S.wide.toNat = y.toNat := by rw [Nat.add_comm, Nat.add_mul_div_right _ _ hW0, Nat.div_eq_of_lt hx, Nat.zero_add]
  refine List.mem_map.2 ⟨y.toNat * S.wide.toNat + x.toNat, List.mem_range.2 ((Nat.div_lt_iff_lt_mul hW0).1 (by rw [e2]; exact hy)), ?_⟩
  show ((_ : Int), (_ : Int)) = _
  rw [Prod.mk.injEq]
  constructor <;> simp only [e1, e2] <;> omega
theorem stainR_in (S : Sh) (x y ink amount water : Int) : allIn S (stainR S x y ink amount water).1 = true := by
  refine List.all_eq_true.2 fun p hp => ?_
  unfold stainR at hp
  split at hp
  · split at hp
    · split at hp
      · split at hp
        · exact hasB_cells ((List.mem_filter.1 hp).1)
        · cases hp
      · cases hp
    · cases hp
  · cases hp
theorem stainR_setL (S : Sh) (x y ink amount water : Int) : setL (stainR S x y ink amount water).1 = (stainR S x y ink amount water).1 := setL_eq (stainR_set S x y ink amount water).1 fun a => Iff.rfl
/-- A drop on a blank sheet is refused where there is wax, and only there. -/
theorem stain_code {S : Sh} (hV : Valid S) (hB : Blank S S.wide.toNat S.high.toNat) {x y ink amount water : Int} (hd : dropB S x y ink amount water = true) (hw : water ≤ 30) :
    (stainR S x y ink amount water).2 = if waxB S x y then 4 else 0 := by
  cases hx : waxB S x y
  · exact (stain_ok hV hB hd hx hw).1
  · rw [stainR_state hV hd (by rw [hx]; simp)]; rfl
section
variable {S : Sh} {x y ink amount water : Int} (hV : Valid S) (hB : Blank S S.wide.toNat S.high.toNat) (hd : dropB S x y ink amount water = true) (hwx : waxB S x y = false) (hw : water ≤ 30)
include hV hB hd hwx hw
theorem fo_mk : mkB S x y ink amount water (stainR S x y ink amount water).1 = true := mkB_iff.2 ⟨(stain_ok hV hB hd hwx hw).1, rfl⟩
theorem fo_org : orgR S (stainR S x y ink amount water).1 ink amount water = (orgL S ink amount water (stainR S x y ink amount water).1, 0) := by
  obtain ⟨hh, hk, ha, hwa⟩ := dropB_iff.1 hd
  have e : orgC S (stainR S x y ink amount water).1 ink amount water = 0 := by
    unfold orgC
    have e1 : (allIn S (stainR S x y ink amount water).1 && okD ink amount water) = true := by rw [stainR_in, okD]; simp [hk, ha, hwa]
    rw [e1, codeI_c hV, if_pos rfl, if_pos rfl, if_pos (blankB_t hB)]
  unfold orgR
  rw [if_pos e, stainR_setL]
theorem fo_at : (x, y) ∈ orgL S ink amount water (stainR S x y ink amount water).1 := by
  unfold orgL
  exact List.mem_filter.2 ⟨cells_hasB (dropB_iff.1 hd).1, fo_mk hV hB hd hwx hw⟩
theorem fo_atC {a w : Int} (ha : 0 ≤ a ∧ a ≤ 1000) (hw' : 0 ≤ w ∧ w ≤ 200) : atC S (stainR S x y ink amount water).1 x y ink a w = 0 := by
  obtain ⟨hh, hk, _, _⟩ := dropB_iff.1 hd
  unfold atC
  have e1 : (allIn S (stainR S x y ink amount water).1 && (hasB S x y && okD ink a w)) = true := by rw [stainR_in, hh, okD]; simp [hk, ha, hw']
  have e2 : (blankB S S.wide.toNat S.high.toNat && !waxB S x y) = true := by rw [blankB_t hB, hwx]; rfl
  rw [e1, codeI_c hV, if_pos rfl, if_pos rfl, if_pos e2]
theorem fo_low : ∃ low : Nat, lwR S x y ink amount (stainR S x y ink amount water).1 = ((low : Int), 0) ∧ (low : Int) ≤ water ∧ mkB S x y ink amount low (stainR S x y ink amount water).1 = true ∧
    ∀ j : Nat, j < low → mkB S x y ink amount j (stainR S x y ink amount water).1 = false := by
  obtain ⟨hh, hk, ha, hwa⟩ := dropB_iff.1 hd
  have hm := fo_mk hV hB hd hwx hw
  obtain ⟨r, h1, h2, h3, h4, h5⟩ := fstUp_spec (f := fun w => mkB S x y ink amount (w : Int) (stainR S x y ink amount water).1) 201 0 (c := water.toNat) (Nat.zero_le _) (by omega)
    (by show mkB S x y ink amount (water.toNat : Int) _ = true; rw [Int.toNat_of_nonneg hwa.1]; exact hm)
  refine ⟨r, ?_, by omega, h4, fun j hj => h5 j (Nat.zero_le _) hj⟩
  unfold lwR
  rw [if_pos (fo_atC hV hB hd hwx hw ha ⟨by omega, by omega⟩), stainR_setL, h1]; rfl
theorem fo_few (h1a : 1 ≤ amount) : ∃ few : Nat, ldR S x y ink water (stainR S x y ink amount water).1 = ((few : Int), 0) ∧ 1 ≤ few ∧ (few : Int) ≤ amount ∧ mkB S x y ink few water (stainR S x y ink amount water).1 = true ∧
    ∀ j : Nat, 1 ≤ j → j < few → mkB S x y ink j water (stainR S x y ink amount water).1 = false := by
  obtain ⟨hh, hk, ha, hwa⟩ := dropB_iff.1 hd
  have hm := fo_mk hV hB hd hwx hw
  obtain ⟨r, h1, h2, h3, h4, h5⟩ := fstUp_spec (f := fun a => mkB S x y ink (a : Int) water (stainR S x y ink amount water).1) (1001 - 1) 1 (c := amount.toNat) (by omega) (by omega)
    (by show mkB S x y ink (amount.toNat : Int) _ _ = true; rw [Int.toNat_of_nonneg ha.1]; exact hm)
  refine ⟨r, ?_, h2, by omega, h4, fun j hj hj2 => h5 j hj hj2⟩
  unfold ldR
  rw [if_pos (fo_atC hV hB hd hwx hw ⟨by omega, by omega⟩ hwa), stainR_setL, h1]; rfl
end
end Go.Proofs.YtggpnfgohpifoaaGreat.V

/- The helpers of FnOrigins: clean, bytes, cells. -/
namespace Go.Proofs.YtggpnfgohpifoaaGreat.V
def Sh.clean (S : Sh) : Sh := ⟨S.wide, S.high, fun _ _ => 0, fun _ _ _ => 0, S.wax⟩
section
variable (cx : Cx) (h : List (Nat × Seg)) (n : Nat)
theorem clean_Q (S : Sh) (hR : ShR S) : CallQ Tryz.prog cx 20 [.agg 266 (shC S)] h n (.agg 266 (shC S.clean)) := by
  have e : (fun j => if 66 ≤ j ∧ j < 258 then SV.int IntKind.i16 0 else if 2 ≤ j ∧ j < 66 then SV.int IntKind.i16 0 else shC S j) = shC S.clean := by
    funext j
    unfold shC Sh.clean
    by_cases h1 : j < 2
    · rw [if_neg (by omega), if_neg (by omega), if_pos h1, if_pos h1]
    · by_cases h2 : j < 66
      · rw [if_neg (by omega), if_pos (by omega), if_neg h1, if_pos (by omega), if_pos h2]
      · by_cases h3 : j < 258
        · rw [if_pos (by omega), if_neg h1, if_pos h3, if_neg h2]
        · rw [if_neg (by omega), if_neg (by omega), if_neg h1, if_neg h3, if_neg h1, if_neg h3]
  refine callQ_of_T (P := Tryz.prog) hti (nt := 8) (rs := [.cell 2 33]) rfl rfl Tryz.call20 Tryz.func20 rfl _ (by simp only [go_sem, and_self]) (Nat.le_of_ble_eq_true rfl) _ (by first | exact trivial | (refine lt_flat rfl ?_; simp [SV.flat]; done) | simp only [go_sem]) fun hok => ?_
  simp only [go_sem, Nat.reduceLT, Nat.reduceLeDiff, Nat.reduceAdd, Nat.reduceEqDiff, reduceIte, reduceCtorEq, e]
  exact ⟨fun j hj => trivial, fun j hj => trivial⟩
theorem long_Q (A B : SV) (la lb : Nat) (hA : A = .nils ∧ la = 0 ∨ ∃ j o cap, A = .sl j o la cap) (hB : B = .nils ∧ lb = 0 ∨ ∃ j o cap, B = .sl j o lb cap) :
    CallQ Tryz.prog cx 4 [A, B] h n (.bool (decide ((3000 : Int) < (la : Int)) || decide ((3000 : Int) < (lb : Int)))) := by
  have z0 : decide ((3000 : Int) < ((0 : Nat) : Int)) = false := rfl
  rcases hA with ⟨rfl, rfl⟩ | ⟨j, o, cap, rfl⟩ <;> rcases hB with ⟨rfl, rfl⟩ | ⟨j', o', cap', rfl⟩
  · rw [z0]
    refine callQ_of_T (P := Tryz.prog) hti (nt := 13) (rs := [.tmp 4]) rfl rfl Tryz.call4 Tryz.func4 rfl _ (by simp only [go_sem, and_self]) (Nat.le_of_ble_eq_true rfl) _ (by first | exact trivial | (refine lt_flat rfl ?_; simp [SV.flat]; done) | simp only [go_sem]) fun hok => ?_
    simp only [go_sem, Nat.reduceLT, Int.reduceLT, Bool.or_false]
  · rw [z0]
    refine callQ_of_T (P := Tryz.prog) hti (nt := 13) (rs := [.tmp 4]) rfl rfl Tryz.call4 Tryz.func4 rfl _ (by simp only [go_sem, and_self]) (Nat.le_of_ble_eq_true rfl) _ (by first | exact trivial | (refine lt_flat rfl ?_; simp [SV.flat]; done) | simp only [go_sem]) fun hok => ?_
    simp only [go_sem, Nat.reduceLT, Int.reduceLT, Bool.false_or]
  · rw [z0]
    refine callQ_of_T (P := Tryz.prog) hti (nt := 13) (rs := [.tmp 4]) rfl rfl Tryz.call4 Tryz.func4 rfl _ (by simp only [go_sem, and_self]) (Nat.le_of_ble_eq_true rfl) _ (by first | exact trivial | (refine lt_flat rfl ?_; simp [SV.flat]; done) | simp only [go_sem]) fun hok => ?_
    cases h1 : decide ((3000 : Int) < (la : Int)) <;> simp only [go_sem, Nat.reduceLT, Int.reduceLT, h1, Bool.or_false]
    all_goals simp
  · refine callQ_of_T (P := Tryz.prog) hti (nt := 13) (rs := [.tmp 4]) rfl rfl Tryz.call4 Tryz.func4 rfl _ (by simp only [go_sem, and_self]) (Nat.le_of_ble_eq_true rfl) _ (by first | exact trivial | (refine lt_flat rfl ?_; simp [SV.flat]; done) | simp only [go_sem]) fun hok => ?_
    cases h1 : decide ((3000 : Int) < (la : Int)) <;> simp only [go_sem, Nat.reduceLT, h1, Bool.false_or, Bool.true_or]
    all_goals simp
theorem at_Q (A : SV) (a m : Int) (hA : BySl h n n A) (ha : 0 ≤ a) (hm : 1 ≤ m) :
    ∃ v : Int, 0 ≤ v ∧ v < m ∧ CallQ Tryz.prog cx 7 [A, .int .i64 a, .int .i64 m] h n (.int .i64 v) := by
  rcases hA with rfl | ⟨j, o, len, cap, s, rfl, hj, hji, hg, hl, hl2, hv⟩
  · refine ⟨0, Int.le_refl _, by omega, ?_⟩
    refine callQ_of_T (P := Tryz.prog) hti (nt := 22) (rs := [.tmp 6]) rfl rfl Tryz.call7 Tryz.func7 rfl _ (by simp only [go_sem, and_self]) (Nat.le_of_ble_eq_true rfl) _ (by first | exact trivial | (refine lt_flat rfl ?_; simp [SV.flat]; done) | simp only [go_sem]) fun hok => ?_
    simp only [go_sem, Nat.reduceLT, ha]
  · by_cases h0 : a < (len : Int)
    · obtain ⟨v, hv1, hv2, hv3⟩ := hv a.toNat (by omega)
      refine ⟨v.tmod m, Int.tmod_nonneg _ hv2, Int.tmod_lt_of_pos _ (by omega), ?_⟩
      refine callQ_of_T (P := Tryz.prog) hti (nt := 22) (rs := [.tmp 6]) rfl rfl Tryz.call7 Tryz.func7 rfl _ (by simp only [go_sem, and_self]) (Nat.le_of_ble_eq_true rfl) _ (by first | exact trivial | (refine lt_flat rfl ?_; simp [SV.flat]; done) | simp only [go_sem]) fun hok => ?_
      have h1 : ¬ (len : Int) ≤ a := by omega
      have h2 : ¬ m < 1 := by omega
      simp only [go_sem, Nat.reduceLT, h1, h2, hg, hj, hv1]
      rw [w64 (n := v) (by omega)]
      exact ⟨⟨ha, h0⟩, by omega, by omega, rfl⟩
    · refine ⟨0, Int.le_refl _, by omega, ?_⟩
      have h1 : (len : Int) ≤ a := by omega
      refine callQ_of_T (P := Tryz.prog) hti (nt := 22) (rs := [.tmp 6]) rfl rfl Tryz.call7 Tryz.func7 rfl _ (by simp only [go_sem, and_self]) (Nat.le_of_ble_eq_true rfl) _ (by first | exact trivial | (refine lt_flat rfl ?_; simp [SV.flat]; done) | simp only [go_sem]) fun hok => ?_
      simp only [go_sem, Nat.reduceLT, h1]
end
end Go.Proofs.YtggpnfgohpifoaaGreat.V

/- The helpers of FnOrigins: cells in a list, equal lists, clean sheets. -/
namespace Go.Proofs.YtggpnfgohpifoaaGreat.V
theorem spotsC_x4 (L : List (Int × Int)) (q : Nat) : spotsC L (q * 2) = .int .i8 (L.getD q (0, 0)).1 := by
  simp [spotsC]
theorem spotsC_y4 (L : List (Int × Int)) (q : Nat) : spotsC L (q * 2 + 1) = .int .i8 (L.getD q (0, 0)).2 := by
  have h1 : (q * 2 + 1) / 2 = q := by omega
  have h2 : (q * 2 + 1) % 2 = 1 := by omega
  simp [spotsC, h1, h2]
section
variable (cx : Cx) (h : List (Nat × Seg)) (n : Nat)
theorem a2waxed_Q (S : Sh) (x y : Int) (hR : ShR S) (hx : 0 ≤ x) (hx8 : x < 8) (hy : 0 ≤ y) (hy8 : y < 8) :
    CallQ Tryz.prog cx 11 [.agg 266 (shC S), spot x y] h n (.bool (waxB S x y)) := by
  refine callQ_of_T (P := Tryz.prog) hti (nt := 7) (rs := [.tmp 4]) rfl rfl Tryz.call11 Tryz.func11 rfl _ (by simp only [go_sem, and_self]) (Nat.le_of_ble_eq_true rfl) _ (by first | exact trivial | (refine lt_flat rfl ?_; simp [SV.flat]; done) | simp only [go_sem]) fun hok => ?_
  simp only [go_sem, Nat.reduceLT]
  refine (waxed2_Q _ _ _ n 0 _ S x y (by simp only [go_sem]) (by omega) (shAt_shC hR) hx (by omega) hy hy8).A ?_
  simp only [go_sem, Nat.reduceLT]
theorem hasSpot_Q (A : SV) (L : List (Int × Int)) (lo : Nat) (hA : SpsOut h lo n A L) (hm9 : L.length ≤ 1048576) (x y : Int) :
    CallQ Tryz.prog cx 14 [A, spot x y] h n (.bool (decide ((x, y) ∈ L))) := by
  rcases hA with ⟨rfl, rfl⟩ | ⟨jA, capA, tA, rfl, hlo, hj, hg, hrw, htn, hc⟩
  · refine callQ_of_T (P := Tryz.prog) hti (nt := 18) (rs := [.tmp 4]) rfl rfl Tryz.call14 Tryz.func14 rfl _ (by simp only [go_sem, and_self]) (Nat.le_of_ble_eq_true rfl) _ (by first | exact trivial | (refine lt_flat rfl ?_; simp [SV.flat]; done) | simp only [go_sem]) fun hok => ?_
    have hok1 : HOk (n + 1) ((n, ⟨2, cl [SV.int .i8 x, SV.int .i8 y], true, none⟩) :: h) := hok.consF fun k hk => pair_flat _ _ hk
    have hnm : ¬ (x, y) ∈ ([] : List (Int × Int)) := by simp
    rw [decide_eq_false hnm]
    simp only [go_sem, Nat.reduceLT]
    refine T_lp (ι := Unit) (fun _ => ([(0, .nils), (3, .ptr n 0), (4, .bool false), (5, .int .i64 0)], (n, ⟨2, cl [SV.int .i8 x, SV.int .i8 y], true, none⟩) :: h, n + 1)) (fun _ => 0) () ?_ ?_
    · refine Imp.id (by simp) ?_ (impH.base0 hok1 (by simp) HExt.rfl)
      simp only [go_sem, Nat.reduceLT]
      omega
    · rintro ⟨⟩
      simp only [go_sem, Nat.reduceLT, Int.reduceLT]
  have hnj : n ≠ jA := by omega
  refine callQ_of_T (P := Tryz.prog) hti (nt := 18) (rs := [.tmp 4]) rfl rfl Tryz.call14 Tryz.func14 rfl _ (by simp only [go_sem, and_self]) (Nat.le_of_ble_eq_true rfl) _ (by first | exact trivial | (refine lt_flat rfl ?_; simp [SV.flat]; done) | simp only [go_sem]) fun hok => ?_
  have hok1 : HOk (n + 1) ((n, ⟨2, cl [SV.int .i8 x, SV.int .i8 y], true, none⟩) :: h) := hok.consF fun k hk => pair_flat _ _ hk
  simp only [go_sem, Nat.reduceLT]
  refine T_lp (ι := { q : Nat // q ≤ L.length ∧ ∀ k, k < q → L.getD k (0, 0) ≠ (x, y) })
    (fun q => ([(0, .sl jA 0 L.length capA), (3, .ptr n 0), (4, .bool false), (5, .int .i64 q.1)], (n, ⟨2, cl [SV.int .i8 x, SV.int .i8 y], true, none⟩) :: h, n + 1)) (fun q => L.length - q.1) ⟨0, by omega, fun k hk => by omega⟩ ?_ ?_
  · refine Imp.id (by simp) ?_ ?_
    · simp only [go_sem, Nat.reduceLT]
      omega
    · exact impH.base0 hok1 (by simp) HExt.rfl
  · rintro ⟨q, hq, hf⟩
    simp only [go_sem, Nat.reduceLT, decide_eq_true_eq, decide_eq_false_iff_not]
    refine ⟨fun h1 => ?_, fun h1 => ?_⟩
    · have hqL : q < L.length := by omega
      have e0 : tA.c (q * 2) = .int .i8 (L.getD q (0, 0)).1 := by rw [hc _ (by omega)]; exact spotsC_x4 L q
      have e1 : tA.c (q * 2 + 1) = .int .i8 (L.getD q (0, 0)).2 := by rw [hc _ (by omega)]; exact spotsC_y4 L q
      have hmem : L.getD q (0, 0) ∈ L := by rw [List.getD_eq_getElem?_getD, List.getElem?_eq_getElem hqL]; exact List.getElem_mem _
      refine T_draw hti _ _ (by kernel_rfl) (by kernel_rfl) ?_
      simp only [go_sem, Nat.reduceLT, Nat.reduceLeDiff, Nat.reduceMod, hg, hj, hnj, e0, e1]
      refine ⟨⟨by omega, h1⟩, by omega, fun he => ?_, fun he => ?_⟩
      · have e : L.getD q (0, 0) = (x, y) := by simpa [Prod.ext_iff] using he
        rw [e] at hmem
        rw [decide_eq_true hmem]
      · have e : L.getD q (0, 0) ≠ (x, y) := fun e => by rw [e] at he; simp at he
        refine ⟨⟨q + 1, by omega, fun k hk => ?_⟩, (by show L.length - (q + 1) < L.length - q; omega), ?_⟩
        · by_cases hkq : k = q
          · rw [hkq]; exact e
          · exact hf k (by omega)
        · refine Imp.id (by simp) ?_ (impH.base0 hok1 (Nat.le_refl _) HExt.rfl)
          simp only [go_sem, Nat.reduceLT, w64 (n := (q : Int) + 1) (by omega), Int.natCast_add, Int.natCast_one]
          (try omega)
    · have hn : ¬ (x, y) ∈ L := fun hm => by
        obtain ⟨k, hk, e⟩ := List.getElem_of_mem hm
        refine hf k (by omega) ?_
        rw [List.getD_eq_getElem?_getD, List.getElem?_eq_getElem hk]; exact e
      rw [decide_eq_false hn]
end
end Go.Proofs.YtggpnfgohpifoaaGreat.V

/- Equal lists of cells. -/
namespace Go.Proofs.YtggpnfgohpifoaaGreat.V
section
variable (cx : Cx) (h : List (Nat × Seg)) (n : Nat)
theorem sameSpots_Q (A B : SV) (L M : List (Int × Int)) (lo : Nat) (lo' : Nat) (hA : SpsOut h lo n A L) (hB : SpsOut h lo' n B M) (hm9 : L.length ≤ 1048576) :
    CallQ Tryz.prog cx 10 [A, B] h n (.bool (decide (L = M))) := by
  rcases hA with ⟨rfl, rfl⟩ | ⟨jA, capA, tA, rfl, hlo, hj, hg, hrw, htn, hc⟩ <;> rcases hB with ⟨rfl, rfl⟩ | ⟨jB, capB, tB, rfl, hlo', hj', hg', hrw', htn', hc'⟩
  · rw [decide_eq_true rfl]
    refine callQ_of_T (P := Tryz.prog) hti (nt := 26) (rs := [.tmp 4]) rfl rfl Tryz.call10 Tryz.func10 rfl _ (by simp only [go_sem, and_self]) (Nat.le_of_ble_eq_true rfl) _ (by first | exact trivial | (refine lt_flat rfl ?_; simp [SV.flat]; done) | simp only [go_sem]) fun hok => ?_
    simp only [go_sem, Nat.reduceLT]
    refine T_lp (ι := Unit) (fun _ => ([(0, .nils), (1, .nils), (4, .bool false), (5, .int .i64 0)], h, n)) (fun _ => 0) () ?_ ?_
    · refine Imp.id (by simp) ?_ (impH.base0 hok (by simp) HExt.rfl)
      simp only [go_sem, Nat.reduceLT]
    · rintro ⟨⟩
      simp only [go_sem, Nat.reduceLT, Int.reduceLT]
  · by_cases hl : M.length = 0
    · have hM : M = [] := List.length_eq_zero_iff.1 hl
      subst hM
      rw [decide_eq_true rfl]
      refine callQ_of_T (P := Tryz.prog) hti (nt := 26) (rs := [.tmp 4]) rfl rfl Tryz.call10 Tryz.func10 rfl _ (by simp only [go_sem, and_self]) (Nat.le_of_ble_eq_true rfl) _ (by first | exact trivial | (refine lt_flat rfl ?_; simp [SV.flat]; done) | simp only [go_sem]) fun hok => ?_
      simp only [go_sem, Nat.reduceLT, List.length_nil]
      refine T_lp (ι := Unit) (fun _ => ([(0, .nils), (1, .sl jB 0 0 capB), (4, .bool false), (5, .int .i64 0)], h, n)) (fun _ => 0) () ?_ ?_
      · refine Imp.id (by simp) ?_ (impH.base0 hok (by simp) HExt.rfl)
        simp only [go_sem, Nat.reduceLT, hj', and_self]
      · rintro ⟨⟩
        simp only [go_sem, Nat.reduceLT, Int.reduceLT]
    · have hne : ¬ [] = M := fun e => hl (by rw [← e]; rfl)
      have hl' : ¬ (0 : Int) = M.length := by omega
      rw [decide_eq_false hne]
      refine callQ_of_T (P := Tryz.prog) hti (nt := 26) (rs := [.tmp 4]) rfl rfl Tryz.call10 Tryz.func10 rfl _ (by simp only [go_sem, and_self]) (Nat.le_of_ble_eq_true rfl) _ (by first | exact trivial | (refine lt_flat rfl ?_; simp [SV.flat]; done) | simp only [go_sem]) fun hok => ?_
      simp only [go_sem, Nat.reduceLT, hl']
  · by_cases hl : L.length = 0
    · have hM : L = [] := List.length_eq_zero_iff.1 hl
      subst hM
      rw [decide_eq_true rfl]
      refine callQ_of_T (P := Tryz.prog) hti (nt := 26) (rs := [.tmp 4]) rfl rfl Tryz.call10 Tryz.func10 rfl _ (by simp only [go_sem, and_self]) (Nat.le_of_ble_eq_true rfl) _ (by first | exact trivial | (refine lt_flat rfl ?_; simp [SV.flat]; done) | simp only [go_sem]) fun hok => ?_
      simp only [go_sem, Nat.reduceLT, List.length_nil]
      refine T_lp (ι := Unit) (fun _ => ([(0, .sl jA 0 0 capA), (1, .nils), (4, .bool false), (5, .int .i64 0)], h, n)) (fun _ => 0) () ?_ ?_
      · refine Imp.id (by simp) ?_ (impH.base0 hok (by simp) HExt.rfl)
        simp only [go_sem, Nat.reduceLT, hj, and_self]
      · rintro ⟨⟩
        simp only [go_sem, Nat.reduceLT, Int.reduceLT]
    · have hne : ¬ L = [] := fun e => hl (by rw [e]; rfl)
      have hl' : ¬ (L.length : Int) = 0 := by omega
      rw [decide_eq_false hne]
      refine callQ_of_T (P := Tryz.prog) hti (nt := 26) (rs := [.tmp 4]) rfl rfl Tryz.call10 Tryz.func10 rfl _ (by simp only [go_sem, and_self]) (Nat.le_of_ble_eq_true rfl) _ (by first | exact trivial | (refine lt_flat rfl ?_; simp [SV.flat]; done) | simp only [go_sem]) fun hok => ?_
      simp only [go_sem, Nat.reduceLT, hl']
  refine callQ_of_T (P := Tryz.prog) hti (nt := 26) (rs := [.tmp 4]) rfl rfl Tryz.call10 Tryz.func10 rfl _ (by simp only [go_sem, and_self]) (Nat.le_of_ble_eq_true rfl) _ (by first | exact trivial | (refine lt_flat rfl ?_; simp [SV.flat]; done) | simp only [go_sem]) fun hok => ?_
  by_cases hl : L.length = M.length
  rotate_left
  · have hl' : ¬ (L.length : Int) = M.length := by omega
    have hne : ¬ L = M := fun e => hl (by rw [e])
    rw [decide_eq_false hne]
    simp only [go_sem, Nat.reduceLT, hl']
  rw [← hl]
  simp only [go_sem, Nat.reduceLT]
  refine T_lp (ι := { q : Nat // q ≤ L.length ∧ ∀ k, k < q → L.getD k (0, 0) = M.getD k (0, 0) })
    (fun q => ([(0, .sl jA 0 L.length capA), (1, .sl jB 0 L.length capB), (4, .bool false), (5, .int .i64 q.1)], h, n)) (fun q => L.length - q.1) ⟨0, by omega, fun k hk => by omega⟩ ?_ ?_
  · refine Imp.id (by simp) ?_ ?_
    · simp only [go_sem, Nat.reduceLT]
      omega
    · exact impH.base0 hok (by simp) HExt.rfl
  · rintro ⟨q, hq, hf⟩
    simp only [go_sem, Nat.reduceLT, decide_eq_true_eq, decide_eq_false_iff_not]
    refine ⟨fun h1 => ?_, fun h1 => ?_⟩
    · have hqL : q < L.length := by omega
      have e0 : tA.c (q * 2) = .int .i8 (L.getD q (0, 0)).1 := by rw [hc _ (by omega)]; exact spotsC_x4 L q
      have e1 : tA.c (q * 2 + 1) = .int .i8 (L.getD q (0, 0)).2 := by rw [hc _ (by omega)]; exact spotsC_y4 L q
      have e2 : tB.c (q * 2) = .int .i8 (M.getD q (0, 0)).1 := by rw [hc' _ (by omega)]; exact spotsC_x4 M q
      have e3 : tB.c (q * 2 + 1) = .int .i8 (M.getD q (0, 0)).2 := by rw [hc' _ (by omega)]; exact spotsC_y4 M q
      refine T_draw hti _ _ (by kernel_rfl) (by kernel_rfl) ?_
      simp only [go_sem, Nat.reduceLT, Nat.reduceLeDiff, Nat.reduceMod, hg, hj, hg', hj', e0, e1, e2, e3]
      refine ⟨⟨by omega, h1⟩, by omega, ⟨by omega, h1⟩, by omega, fun he => ?_, fun he => ?_⟩
      · have hne : ¬ L = M := fun e => by rw [e] at he; simp at he
        rw [decide_eq_false hne]
      · have e : L.getD q (0, 0) = M.getD q (0, 0) := by
          rw [Bool.not_eq_false', Bool.and_eq_true, decide_eq_true_eq, decide_eq_true_eq] at he
          exact Prod.ext he.1 he.2
        refine ⟨⟨q + 1, by omega, fun k hk => ?_⟩, (by show L.length - (q + 1) < L.length - q; omega), ?_⟩
        · by_cases hkq : k = q
          · rw [hkq]; exact e
          · exact hf k (by omega)
        · refine Imp.id (by simp) ?_ (impH.base0 hok (Nat.le_refl _) HExt.rfl)
          simp only [go_sem, Nat.reduceLT, w64 (n := (q : Int) + 1) (by omega), Int.natCast_add, Int.natCast_one]
          (try omega)
    · have he : L = M := by
        refine List.ext_getElem hl fun k hk hk' => ?_
        have := hf k (by omega)
        rw [List.getD_eq_getElem?_getD, List.getD_eq_getElem?_getD, List.getElem?_eq_getElem hk, List.getElem?_eq_getElem hk'] at this
        exact this
      rw [decide_eq_true he]
end
end Go.Proofs.YtggpnfgohpifoaaGreat.V

/- A cell of a sheet; all cells. -/
namespace Go.Proofs.YtggpnfgohpifoaaGreat.V
theorem BySl.up {h h' : List (Nat × Seg)} {n n' i i' : Nat} {A : SV} (hA : BySl h n i A) (hn : n ≤ n') (hx : HExt n h h') (hi : n ≤ i') : BySl h' n' i' A := by
  rcases hA with rfl | ⟨j, o, len, cap, s, rfl, hj, hji, hg, hl, hl2, hv⟩
  · exact .inl rfl
  · exact .inr ⟨j, o, len, cap, s, rfl, by omega, by omega, hx j hj _ hg, hl, hl2, hv⟩
theorem BySl.hset {h : List (Nat × Seg)} {n i : Nat} {A : SV} (hA : BySl h n i A) (t : Seg) : BySl (hset h i t) n i A := by
  rcases hA with rfl | ⟨j, o, len, cap, s, rfl, hj, hji, hg, hl, hl2, hv⟩
  · exact .inl rfl
  · exact .inr ⟨j, o, len, cap, s, rfl, hj, hji, by rw [hget_hset, if_neg (Ne.symm hji)]; exact hg, hl, hl2, hv⟩
theorem BySl.arg {h : List (Nat × Seg)} {n i : Nat} {A : SV} (hA : BySl h n i A) : ∃ j o len cap, A = .sl j o len cap ∧ j < n ∨ A = .nils := by
  rcases hA with rfl | ⟨j, o, len, cap, s, rfl, hj, hji, hg, hl, hl2, hv⟩
  · exact ⟨0, 0, 0, 0, .inr rfl⟩
  · exact ⟨j, o, len, cap, .inl ⟨rfl, hj⟩⟩
end Go.Proofs.YtggpnfgohpifoaaGreat.V

/- A cell of a sheet. -/
namespace Go.Proofs.YtggpnfgohpifoaaGreat.V
section
variable (cx : Cx) (h : List (Nat × Seg)) (n : Nat)
theorem a2spot_E (A : SV) (S : Sh) (hA : BySl h n n A) (hR : ShR S) (hW : 0 ≤ S.wide ∧ S.wide ≤ 8) (hH : 0 ≤ S.high ∧ S.high ≤ 8) (K : HK)
    (hK : ∀ (x y : Int) h' n', n ≤ n' → HExt n h h' → HOk n' h' → 0 ≤ x → (x < S.wide ∨ x = 0) → 0 ≤ y → (y < S.high ∨ y = 0) → K (spot x y) h' n') :
    CallE Tryz.prog cx 6 [A, .agg 266 (shC S)] h n K := by
  refine CallE.hokE ?_
  have hA0 := hA
  rcases hA with rfl | ⟨j, o, len, cap, s, rfl, hj, hji, hg, hl, hl2, hv⟩
  · refine callE_of_T (P := Tryz.prog) hti (nt := 23) (rs := [.cell 4 36]) rfl rfl Tryz.call6 Tryz.func6 rfl _ (by simp only [go_sem, and_self]) (Nat.le_of_ble_eq_true rfl) _ fun hok => ?_
    have ok1 : HOk (n + 2) ((n + 1, ⟨2, cl [SV.int .i8 0, SV.int .i8 0], true, none⟩) :: (n, shS S) :: h) := (hok.consF fun k hk => shC_flat _ _).consF fun k hk => pair_flat _ _ hk
    have hx1 : HExt n h ((n + 1, ⟨2, cl [SV.int .i8 0, SV.int .i8 0], true, none⟩) :: (n, shS S) :: h) := by simp only [go_sem, HExt_cons]
    simp only [go_sem, Nat.reduceLT]
    have hA1 := hA0.up (n' := n + 2) (i' := n + 2) (by omega) hx1 (by omega)
    refine callA_false (from_E _ _ _ .nils hA1.arg _ ok1 ?_)
    simp only [go_sem, Nat.reduceLT, Nat.reduceLeDiff, reduceCtorEq, w64 (n := S.wide) (by omega)]
    have hA2 := hA0.up (h' := (n + 2, srcS .nils 0 0) :: (n + 1, ⟨2, cl [SV.int .i8 0, SV.int .i8 0], true, none⟩) :: (n, shS S) :: h) (n' := n + 3) (i' := n + 2) (by omega) (by simp only [go_sem, HExt_cons]) (by omega)
    refine callA_false (pick_E _ _ _ (n + 2) .nils 0 0 S.wide (by simp only [go_sem]) (by omega) hA2 (by omega) (by omega) _ fun x a' d' x0 x1 a0 a1 => ?_)
    have hwx : IntKind.i8.wrap x = x := w8 (by omega)
    simp only [go_sem, Nat.reduceLT, Nat.reduceLeDiff, reduceCtorEq, w64 (n := S.high) (by omega), hwx]
    refine callA_false (pick_E _ _ _ (n + 2) .nils a' d' S.high (by simp only [go_sem]) (by omega) (by first | exact hA2 | exact .inl rfl) (by omega) (by omega) _ fun y a'' d'' y0 y1 b0 b1 => ?_)
    have hwy : IntKind.i8.wrap y = y := w8 (by omega)
    simp only [go_sem, Nat.reduceLT, Nat.reduceLeDiff, reduceIte, hwy]
    exact fun hok' => hK x y _ _ (by omega) (by simp only [go_sem, HExt_cons]) hok' x0 x1 y0 y1
  · refine callE_of_T (P := Tryz.prog) hti (nt := 23) (rs := [.cell 4 36]) rfl rfl Tryz.call6 Tryz.func6 rfl _ (by simp only [go_sem, and_self]) (Nat.le_of_ble_eq_true rfl) _ fun hok => ?_
    have ok1 : HOk (n + 2) ((n + 1, ⟨2, cl [SV.int .i8 0, SV.int .i8 0], true, none⟩) :: (n, shS S) :: h) := (hok.consF fun k hk => shC_flat _ _).consF fun k hk => pair_flat _ _ hk
    have hx1 : HExt n h ((n + 1, ⟨2, cl [SV.int .i8 0, SV.int .i8 0], true, none⟩) :: (n, shS S) :: h) := by simp only [go_sem, HExt_cons]
    simp only [go_sem, Nat.reduceLT]
    have hA1 := hA0.up (n' := n + 2) (i' := n + 2) (by omega) hx1 (by omega)
    refine callA_false (from_E _ _ _ (.sl j o len cap) hA1.arg _ ok1 ?_)
    simp only [go_sem, Nat.reduceLT, Nat.reduceLeDiff, reduceCtorEq, w64 (n := S.wide) (by omega)]
    have hA2 := hA0.up (h' := (n + 2, srcS (.sl j o len cap) 0 0) :: (n + 1, ⟨2, cl [SV.int .i8 0, SV.int .i8 0], true, none⟩) :: (n, shS S) :: h) (n' := n + 3) (i' := n + 2) (by omega) (by simp only [go_sem, HExt_cons]) (by omega)
    refine callA_false (pick_E _ _ _ (n + 2) (.sl j o len cap) 0 0 S.wide (by simp only [go_sem]) (by omega) hA2 (by omega) (by omega) _ fun x a' d' x0 x1 a0 a1 => ?_)
    have hwx : IntKind.i8.wrap x = x := w8 (by omega)
    simp only [go_sem, Nat.reduceLT, Nat.reduceLeDiff, reduceCtorEq, w64 (n := S.high) (by omega), hwx]
    have hA3 := hA0.up (h' := (n + 2, srcS (.sl j o len cap) a' d') :: (n + 1, ⟨2, cl [SV.int .i8 0, SV.int .i8 0], true, none⟩) :: (n, shS S) :: h) (n' := n + 3) (i' := n + 2) (by omega) (by simp only [go_sem, HExt_cons]) (by omega)
    refine callA_false (pick_E _ _ _ (n + 2) (.sl j o len cap) a' d' S.high (by simp only [go_sem]) (by omega) hA3 (by omega) (by omega) _ fun y a'' d'' y0 y1 b0 b1 => ?_)
    have hwy : IntKind.i8.wrap y = y := w8 (by omega)
    simp only [go_sem, Nat.reduceLT, Nat.reduceLeDiff, reduceIte, hwy]
    exact fun hok' => hK x y _ _ (by omega) (by simp only [go_sem, HExt_cons]) hok' x0 x1 y0 y1
end
end Go.Proofs.YtggpnfgohpifoaaGreat.V

/- All cells of a sheet; a drawn sheet. -/
namespace Go.Proofs.YtggpnfgohpifoaaGreat.V
theorem sumN_null {f : Nat → Int} : ∀ n : Nat, (∀ k, f k = 0) → sumN f n = 0
  | 0, _ => rfl
  | n + 1, h => by simp only [sumN]; rw [sumN_null n h, h n]; rfl
/-- A cleaned sheet is blank. -/
theorem clean_blank (S : Sh) : Blank S.clean S.clean.wide.toNat S.clean.high.toNat :=
  ⟨sumN_null _ fun _ => rfl, sumN_null _ fun _ => rfl, sumN_null _ fun _ => rfl, sumN_null _ fun _ => rfl⟩
/-- A cleaned sheet is valid, when wax lies on its cells only. -/
theorem clean_valid {S : Sh} (hS : Small S) (hw : ∀ y x : Int, 0 ≤ y → y < 8 → 0 ≤ x → x < 8 → waxB S x y = true → hasB S x y = true) : Valid S.clean :=
  ⟨hS, fun y x a b c d => ⟨hw y x a b c d, ⟨Int.le_refl _, (by show (0 : Int) ≤ 200; omega)⟩, fun i _ _ => ⟨Int.le_refl _, (by show (0 : Int) ≤ 1000; omega)⟩, .inr ⟨rfl, rfl, rfl, rfl⟩⟩⟩
theorem clean_R {S : Sh} (hR : ShR S) : ShR S.clean :=
  ⟨hR.wide, hR.high, fun _ _ => (show (-32768 : Int) ≤ 0 ∧ (0 : Int) < 32768 by decide), fun _ _ _ => (show (-32768 : Int) ≤ 0 ∧ (0 : Int) < 32768 by decide), hR.wax⟩
section
variable (cx : Cx) (h : List (Nat × Seg)) (n : Nat)
theorem a2spots_E (S : Sh) (W H : Nat) (hR : ShR S) (hW : S.wide = W) (hH : S.high = H) (hW8 : W ≤ 8) (hH8 : H ≤ 8) (K : HK)
    (hK : ∀ cap, H * W ≤ cap → cap ≤ maxLen → K (.sl (n + 1) 0 (H * W) cap) ((n + 1, ⟨H * W * 2, cellC W, true, some (36, cap * 2)⟩) :: (n, shS S) :: h) (n + 2)) :
    CallE Tryz.prog cx 15 [.agg 266 (shC S)] h n K := by
  refine callE_of_T (P := Tryz.prog) hti (nt := 4) (rs := [.tmp 2]) rfl rfl Tryz.call15 Tryz.func15 rfl _ (by simp only [go_sem, and_self]) (Nat.le_of_ble_eq_true rfl) _ fun hok => ?_
  simp only [go_sem, Nat.reduceLT]
  refine callA_false (spots_E _ _ _ n 0 _ S W H (by simp only [go_sem]) (by omega) (shAt_shC hR) hW hH hW8 hH8 _ fun cap h1 h2 => ?_)
  simp only [go_sem, Nat.reduceLT]
  exact hK cap h1 h2
end
end Go.Proofs.YtggpnfgohpifoaaGreat.V

/- A sheet that is being drawn: plain laws. -/
namespace Go.Proofs.YtggpnfgohpifoaaGreat.V
/-- The first q cells of a sheet are drawn. -/
structure DrawnI (W H q : Nat) (S : Sh) : Prop where
  R : ShR S
  wide : S.wide = W
  high : S.high = H
  wax : ∀ y x : Int, 0 ≤ y → y < 8 → 0 ≤ x → x < 8 → waxB S x y = true → hasB S x y = true
  wet : ∀ y x, 0 ≤ S.wet y x ∧ S.wet y x < 30
  dye : ∀ y x i, 0 ≤ S.dye y x i ∧ S.dye y x i < 40
  zero : ∀ y x : Int, 0 ≤ y → y < 8 → 0 ≤ x → x < 8 → hasB S x y = false ∨ waxB S x y = true → S.wet y x = 0 ∧ ∀ i, S.dye y x i = 0
  new : ∀ k, q ≤ k → k < H * W → waxB S ((k % W : Nat) : Int) ((k / W : Nat) : Int) = false ∧ S.wet ((k / W : Nat) : Int) ((k % W : Nat) : Int) = 0 ∧ ∀ i, S.dye ((k / W : Nat) : Int) ((k % W : Nat) : Int) i = 0
theorem hasB_setWet (S : Sh) (y x v a b : Int) : hasB (S.setWet y x v) a b = hasB S a b := rfl
theorem hasB_setDye (S : Sh) (y x i v a b : Int) : hasB (S.setDye y x i v) a b = hasB S a b := rfl
theorem hasB_setWax (S : Sh) (y v a b : Int) : hasB (S.setWax y v) a b = hasB S a b := rfl
theorem waxB_setWet (S : Sh) (y x v a b : Int) : waxB (S.setWet y x v) a b = waxB S a b := rfl
theorem waxB_setDye (S : Sh) (y x i v a b : Int) : waxB (S.setDye y x i v) a b = waxB S a b := rfl
theorem cell_neW {W H k q : Nat} (hk : k < H * W) (hq : q < H * W) (h : k ≠ q) : ¬ (((k / W : Nat) : Int) = ((q / W : Nat) : Int) ∧ ((k % W : Nat) : Int) = ((q % W : Nat) : Int)) := by
  rintro ⟨h1, h2⟩
  have e1 := Nat.div_add_mod k W
  have e2 := Nat.div_add_mod q W
  rw [show k / W = q / W by omega, show k % W = q % W by omega] at e1
  omega
theorem cell_hasW {W H q : Nat} {S : Sh} (hW : S.wide = W) (hH : S.high = H) (hq : q < H * W) : hasB S ((q % W : Nat) : Int) ((q / W : Nat) : Int) = true := by
  have hW0 : 0 < W := by
    rcases Nat.eq_zero_or_pos W with h0 | h0
    · rw [h0] at hq; omega
    · exact h0
  have h3 := Nat.mod_lt q hW0
  have h4 : q / W < H := (Nat.div_lt_iff_lt_mul hW0).2 hq
  generalize q % W = a at *
  generalize q / W = b at *
  simp only [hasB, Bool.and_eq_true, decide_eq_true_eq, hW, hH]
  omega
section
variable {W H q : Nat} {S : Sh}
theorem DrawnI.next (h : DrawnI W H q S) : DrawnI W H (q + 1) S := ⟨h.R, h.wide, h.high, h.wax, h.wet, h.dye, h.zero, fun k hk => h.new k (by omega)⟩
theorem DrawnI.setWet (h : DrawnI W H (q + 1) S) (hq : q < H * W) (hx : waxB S ((q % W : Nat) : Int) ((q / W : Nat) : Int) = false) {v : Int} (hv : 0 ≤ v ∧ v < 30) :
    DrawnI W H (q + 1) (S.setWet ((q / W : Nat) : Int) ((q % W : Nat) : Int) v) := by
  refine ⟨h.R.setWet (by omega), h.wide, h.high, h.wax, fun y x => ?_, h.dye, fun y x a b c d e => ?_, fun k hk hk2 => ?_⟩
  · simp only [Sh.setWet]; split
    · exact hv
    · exact h.wet y x
  · rw [hasB_setWet, waxB_setWet] at e
    refine ⟨?_, (h.zero y x a b c d e).2⟩
    simp only [Sh.setWet]
    rw [if_neg]
    · exact (h.zero y x a b c d e).1
    · rintro ⟨rfl, rfl⟩
      rw [hx, cell_hasW h.wide h.high hq] at e
      rcases e with e | e <;> cases e
  · obtain ⟨n1, n2, n3⟩ := h.new k hk hk2
    refine ⟨n1, ?_, n3⟩
    simp only [Sh.setWet]
    rw [if_neg (cell_neW hk2 hq (by omega))]; exact n2
theorem DrawnI.setDye (h : DrawnI W H (q + 1) S) (hq : q < H * W) (hx : waxB S ((q % W : Nat) : Int) ((q / W : Nat) : Int) = false) {i v : Int} (hv : 0 ≤ v ∧ v < 40) :
    DrawnI W H (q + 1) (S.setDye ((q / W : Nat) : Int) ((q % W : Nat) : Int) i v) := by
  refine ⟨h.R.setDye (by omega), h.wide, h.high, h.wax, h.wet, fun y x j => ?_, fun y x a b c d e => ?_, fun k hk hk2 => ?_⟩
  · simp only [Sh.setDye]; split
    · exact hv
    · exact h.dye y x j
  · rw [hasB_setDye, waxB_setDye] at e
    refine ⟨(h.zero y x a b c d e).1, fun j => ?_⟩
    simp only [Sh.setDye]
    rw [if_neg]
    · exact (h.zero y x a b c d e).2 j
    · rintro ⟨rfl, rfl, _⟩
      rw [hx, cell_hasW h.wide h.high hq] at e
      rcases e with e | e <;> cases e
  · obtain ⟨n1, n2, n3⟩ := h.new k hk hk2
    refine ⟨n1, n2, fun j => ?_⟩
    simp only [Sh.setDye]
    rw [if_neg fun e => cell_neW hk2 hq (by omega) ⟨e.1, e.2.1⟩]; exact n3 j
theorem or8 {v x : Int} (hv : 0 ≤ v ∧ v < 256) (hx : 0 ≤ x ∧ x < 8) : 0 ≤ bitsI .or .u8 v (shlI .u8 1 x) ∧ bitsI .or .u8 v (shlI .u8 1 x) < 256 := by
  obtain ⟨a, rfl⟩ := Int.eq_ofNat_of_zero_le hv.1
  obtain ⟨k, rfl⟩ := Int.eq_ofNat_of_zero_le hx.1
  obtain ⟨e, hl⟩ := wax_or (a := a) (k := k) (by omega) (by omega)
  rw [e]; omega
theorem waxB_or {x y x' y' : Int} (hR : ShR S) (hx : 0 ≤ x ∧ x < 8) (hx' : 0 ≤ x' ∧ x' < 8) : waxB (S.setWax y (bitsI .or .u8 (S.wax y) (shlI .u8 1 x))) x' y' = (decide (y' = y ∧ x' = x) || waxB S x' y') := by
  have key : ∀ w w' : Int, w = w' → decide (bitsI .and .u8 (shrI .u8 w x') 1 = 1) = decide (bitsI .and .u8 (shrI .u8 w' x') 1 = 1) := fun w w' e => by rw [e]
  by_cases hy : y' = y
  · subst hy
    have e : (S.setWax y' (bitsI .or .u8 (S.wax y') (shlI .u8 1 x))).wax y' = bitsI .or .u8 (S.wax y') (shlI .u8 1 x) := if_pos rfl
    unfold waxB
    rw [key _ _ e, wax_set (hR.wax _) hx hx']
    congr 1
    rw [decide_eq_decide]; simp
  · have e : (S.setWax y (bitsI .or .u8 (S.wax y) (shlI .u8 1 x))).wax y' = S.wax y' := if_neg hy
    unfold waxB
    have hd : decide (y' = y ∧ x' = x) = false := decide_eq_false (fun e' => hy e'.1)
    rw [key _ _ e, hd, Bool.false_or]
theorem DrawnI.setWax (h : DrawnI W H q S) (hS : Small S) (hq : q < H * W) :
    DrawnI W H (q + 1) (S.setWax ((q / W : Nat) : Int) (bitsI .or .u8 (S.wax ((q / W : Nat) : Int)) (shlI .u8 1 ((q % W : Nat) : Int)))) := by
  obtain ⟨x0, x8, y0, y8⟩ := cell_in hS h.wide h.high hq
  have hh := cell_hasW h.wide h.high hq
  have hn := h.new q (Nat.le_refl _) hq
  refine ⟨h.R.setWax (or8 (h.R.wax _) ⟨x0, x8⟩), h.wide, h.high, fun y x a b c d e => ?_, h.wet, h.dye, fun y x a b c d e => ?_, fun k hk hk2 => ?_⟩
  · rw [waxB_or h.R ⟨x0, x8⟩ ⟨c, d⟩, Bool.or_eq_true, decide_eq_true_eq] at e
    rw [hasB_setWax]
    rcases e with ⟨rfl, rfl⟩ | e
    · exact hh
    · exact h.wax y x a b c d e
  · rw [waxB_or h.R ⟨x0, x8⟩ ⟨c, d⟩, Bool.or_eq_true, decide_eq_true_eq, hasB_setWax] at e
    rcases e with e | ⟨rfl, rfl⟩ | e
    · exact h.zero y x a b c d (.inl e)
    · exact hn.2
    · exact h.zero y x a b c d (.inr e)
  · obtain ⟨n1, n2, n3⟩ := h.new k (by omega) hk2
    obtain ⟨kx0, kx8, ky0, ky8⟩ := cell_in hS h.wide h.high hk2
    refine ⟨?_, n2, n3⟩
    rw [waxB_or h.R ⟨x0, x8⟩ ⟨kx0, kx8⟩, n1, decide_eq_false (cell_neW hk2 hq (by omega))]; rfl
theorem DrawnI.start {W H : Nat} (hW : W ≤ 8) (hH : H ≤ 8) : DrawnI W H 0 ⟨W, H, fun _ _ => 0, fun _ _ _ => 0, fun _ => 0⟩ := by
  have e : ∀ y x : Int, 0 ≤ x → x < 8 → waxB ⟨W, H, fun _ _ => 0, fun _ _ _ => 0, fun _ => 0⟩ x y = false := fun y x a b => wax_none ⟨a, b⟩
  refine ⟨⟨?_, ?_, fun _ _ => (show (-32768 : Int) ≤ 0 ∧ (0 : Int) < 32768 by decide), fun _ _ _ => (show (-32768 : Int) ≤ 0 ∧ (0 : Int) < 32768 by decide), fun _ => (show (0 : Int) ≤ 0 ∧ (0 : Int) < 256 by decide)⟩, rfl, rfl,
   fun y x a b c d h => ?_, fun _ _ => (show (0 : Int) ≤ 0 ∧ (0 : Int) < 30 by decide), fun _ _ _ => (show (0 : Int) ≤ 0 ∧ (0 : Int) < 40 by decide), fun _ _ _ _ _ _ _ => ⟨rfl, fun _ => rfl⟩, fun k _ hk => ⟨?_, rfl, fun _ => rfl⟩⟩
  · show -128 ≤ (W : Int) ∧ (W : Int) < 128
    omega
  · show -128 ≤ (H : Int) ∧ (H : Int) < 128
    omega
  · rw [e y x c d] at h; cases h
  · have hW0 : 0 < W := by
      rcases Nat.eq_zero_or_pos W with h0 | h0
      · rw [h0] at hk; omega
      · exact h0
    have := Nat.mod_lt k hW0
    exact e _ _ (Int.natCast_nonneg _) (by omega)
end
end Go.Proofs.YtggpnfgohpifoaaGreat.V

/- A drawn sheet: the walk. -/
namespace Go.Proofs.YtggpnfgohpifoaaGreat.V
/-- Memory as it was, but for one segment. -/
def HExtB (n i : Nat) (h h' : List (Nat × Seg)) : Prop := ∀ j, j < n → j ≠ i → ∀ t, hget h j = some t → hget h' j = some t
theorem HExtB.set {n i : Nat} {h h' : List (Nat × Seg)} (hx : HExtB n i h h') (s : Seg) : HExtB n i h (hset h' i s) := fun j hj hji t ht => by rw [hget_hset, if_neg (Ne.symm hji)]; exact hx j hj hji t ht
theorem HExtB.setN {n i k : Nat} {h h' : List (Nat × Seg)} (hx : HExtB n i h h') (hk : n ≤ k) (s : Seg) : HExtB n i h (hset h' k s) := fun j hj hji t ht => by rw [hget_hset, if_neg (by omega)]; exact hx j hj hji t ht
theorem HExtB.cons {n i k : Nat} {h h' : List (Nat × Seg)} (hx : HExtB n i h h') (hk : n ≤ k) (s : Seg) : HExtB n i h ((k, s) :: h') := fun j hj hji t ht => by simp only [hget]; rw [if_neg (by omega)]; exact hx j hj hji t ht
theorem HExtB.rfl {n i : Nat} {h : List (Nat × Seg)} : HExtB n i h h := fun j _ _ t ht => ht
theorem BySl.upB {h h' : List (Nat × Seg)} {n n' i : Nat} {A : SV} (hA : BySl h n i A) (hn : n ≤ n') (hx : HExtB n i h h') : BySl h' n' i A := by
  rcases hA with rfl | ⟨j, o, len, cap, s, rfl, hj, hji, hg, hl, hl2, hv⟩
  · exact .inl rfl
  · exact .inr ⟨j, o, len, cap, s, rfl, by omega, hji, hx j hj hji _ hg, hl, hl2, hv⟩
theorem BySl.lt {h : List (Nat × Seg)} {n i : Nat} {A : SV} (hA : BySl h n i A) : A.lt n := by
  rcases hA with rfl | ⟨j, o, len, cap, s, rfl, hj, _⟩
  · trivial
  · exact hj
theorem BySl.ok {h : List (Nat × Seg)} {n i : Nat} {A : SV} (hA : BySl h n i A) : A.ok = True := by
  rcases hA with rfl | ⟨j, o, len, cap, s, rfl, hj, _⟩ <;> rfl
theorem srcS_lt {A : SV} {a d : Int} {m : Nat} (hA : A.lt m) : ∀ k, k < (srcS A a d).n → ((srcS A a d).c k).lt m := fun k hk => by
  match k with
  | 0 => exact hA
  | 1 => trivial
  | 2 => trivial
  | k + 3 => exact absurd hk (by show ¬ k + 3 < 3; omega)
/-- A memory that a source of choices was used in: as it was, but for the source's segment. -/
structure SrcM (h : List (Nat × Seg)) (n i : Nat) (A : SV) (h1 : List (Nat × Seg)) (n1 : Nat) (a d : Int) : Prop where
  x : HExtB n i h h1
  le : n ≤ n1
  src : hget h1 i = some (srcS A a d)
  ok : HOk n1 h1
section
variable {h h1 : List (Nat × Seg)} {n i n1 k : Nat} {A : SV} {a d : Int} {s : Seg}
theorem SrcM.cons (hm : SrcM h n i A h1 n1 a d) (hi : i < n) (hs : ∀ k, k < s.n → (s.c k).lt n1) : SrcM h n i A ((n1, s) :: h1) (n1 + 1) a d :=
  ⟨hm.x.cons hm.le s, by have := hm.le; omega, by have := hm.le; simp only [hget]; rw [if_neg (by omega)]; exact hm.src, fun j t ht => by
    simp only [hget] at ht
    split at ht
    · rename_i e; cases ht; exact ⟨by omega, fun k hk => SV.lt_mono (by omega) _ (hs k hk)⟩
    · exact ⟨by have := (hm.ok j t ht).1; omega, fun k hk => SV.lt_mono (by omega) _ ((hm.ok j t ht).2 k hk)⟩⟩
theorem SrcM.setN (hm : SrcM h n i A h1 n1 a d) (hi : i < n) (hk : n ≤ k) (hs : ∀ k, k < s.n → (s.c k).lt n1) : SrcM h n i A (hset h1 k s) n1 a d :=
  ⟨hm.x.setN hk s, hm.le, by rw [hget_hset, if_neg (by omega)]; exact hm.src, HOk.hset hm.ok hs⟩
end
section
variable (cx : Cx)
theorem pick_M {h h1 : List (Nat × Seg)} {n i n1 : Nat} {A : SV} {a d : Int} (hm : SrcM h n i A h1 n1 a d) (hi : i < n) (hA : BySl h n i A) (m : Int) (ha : 0 ≤ a ∧ a ≤ 1048576) (hmm : 0 ≤ m ∧ m ≤ 200) (K : HK)
    (hK : ∀ v a' d' h2, 0 ≤ v → (v < m ∨ v = 0) → a ≤ a' → a' ≤ a + 1 → SrcM h n i A h2 n1 a' d' → (∀ j, j ≠ i → hget h2 j = hget h1 j) → K (.int .i64 v) h2 n1) :
    CallE Tryz.prog cx 23 [.ptr i 0, .int .i64 m] h1 n1 K :=
  pick_E cx h1 n1 i A a d m hm.src (by have := hm.le; omega) (hA.upB hm.le hm.x) ha hmm K fun v a' d' h0 h1' h2' h3 => hK v a' d' _ h0 h1' h2' h3
    ⟨hm.x.set _, hm.le, by rw [hget_hset, if_pos rfl, hm.src]; rfl, HOk.hset hm.ok (srcS_lt (SV.lt_mono hm.le _ hA.lt))⟩ (fun j hj => by rw [hget_hset, if_neg (Ne.symm hj)])
theorem one_M {h h1 : List (Nat × Seg)} {n i n1 : Nat} {A : SV} {a d : Int} (hm : SrcM h n i A h1 n1 a d) (hi : i < n) (hA : BySl h n i A) (m : Int) (ha : 0 ≤ a ∧ a ≤ 1048576) (hmm : 0 ≤ m ∧ m ≤ 200) (K : HK)
    (hK : ∀ (b : Bool) a' d' h2, a ≤ a' → a' ≤ a + 1 → SrcM h n i A h2 n1 a' d' → (∀ j, j ≠ i → hget h2 j = hget h1 j) → K (.bool b) h2 n1) :
    CallE Tryz.prog cx 50 [.ptr i 0, .int .i64 m] h1 n1 K :=
  one_E cx h1 n1 i A a d m hm.src (by have := hm.le; omega) (hA.upB hm.le hm.x) ha hmm K fun b a' d' h2' h3 => hK b a' d' _ h2' h3
    ⟨hm.x.set _, hm.le, by rw [hget_hset, if_pos rfl, hm.src]; rfl, HOk.hset hm.ok (srcS_lt (SV.lt_mono hm.le _ hA.lt))⟩ (fun j hj => by rw [hget_hset, if_neg (Ne.symm hj)])
end
section
variable (cx : Cx) (h : List (Nat × Seg)) (n : Nat)
set_option maxHeartbeats 3200000 in
theorem drawn_E (i : Nat) (A : SV) (a d : Int) (hs : hget h i = some (srcS A a d)) (hi : i < n) (hA : BySl h n i A) (ha : 0 ≤ a ∧ a ≤ 1000) (K : HK)
    (hK : ∀ (S : Sh) (W H : Nat) a' d' h' n', 1 ≤ W → W ≤ 5 → 1 ≤ H → H ≤ 5 → DrawnI W H (H * W) S → a ≤ a' → a' ≤ a + 700 → SrcM h n i A h' n' a' d' → K (.agg 266 (shC S)) h' n') :
    CallE Tryz.prog cx 21 [.ptr i 0] h n K := by
  refine CallE.hokE ?_
  refine callE_of_SW (P := Tryz.prog) hti (nt := 95) (rs := [.cell 2 33]) rfl rfl Tryz.call21 Tryz.func21 rfl _ (by simp only [go_sem, and_self]) (Nat.le_of_ble_eq_true rfl) _ fun hok => ?_
  refine SW_seq (SW_run hti trivial ?_)
  simp only [go_sem, Nat.reduceLT]
  refine SW_seq (SW_run hti trivial ?_)
  simp only [go_sem, Nat.reduceLT]
  have m1 : SrcM h n i A ((n, ⟨266, shC sh0, true, none⟩) :: h) (n + 1) a d := (SrcM.mk HExtB.rfl (Nat.le_refl _) hs hok).cons hi fun k hk => (shC_flat _ _).below _
  have r1 : hget ((n, ⟨266, shC sh0, true, none⟩) :: h) n = some ⟨266, shC sh0, true, none⟩ := by simp only [go_sem]
  generalize ((n, (⟨266, shC sh0, true, none⟩ : Seg)) :: h) = h1 at *
  refine callA_false (pick_M _ m1 hi hA 5 (by omega) (by omega) _ fun wv a2 d2 h2 w0 w1 q1 q2 m2 e2 => ?_)
  have r2 := (e2 n (by omega)).trans r1
  obtain ⟨W, hWv⟩ : ∃ W : Nat, 1 + wv = W := ⟨(1 + wv).toNat, by omega⟩
  have hW64 : IntKind.i64.wrap (1 + wv) = (W : Int) := by rw [w64 (by omega)]; exact hWv
  simp only [go_sem, Nat.reduceLT, Nat.reduceLeDiff, reduceIte, w8 (n := (W : Int)) (by omega), hW64]
  refine SW_seq (SW_run hti trivial ?_)
  simp only [go_sem, Nat.reduceLT]
  have m3 : SrcM h n i A ((n + 1, shS ⟨W, 0, fun _ _ => 0, fun _ _ _ => 0, fun _ => 0⟩) :: h2) (n + 2) a2 d2 := m2.cons hi fun k hk => (shC_flat _ _).below _
  have r3 : hget ((n + 1, shS ⟨W, 0, fun _ _ => 0, fun _ _ _ => 0, fun _ => 0⟩) :: h2) n = some ⟨266, shC sh0, true, none⟩ := by simp only [go_sem, r2]
  have o3 : hget ((n + 1, shS ⟨W, 0, fun _ _ => 0, fun _ _ _ => 0, fun _ => 0⟩) :: h2) (n + 1) = some (shS ⟨W, 0, fun _ _ => 0, fun _ _ _ => 0, fun _ => 0⟩) := by simp only [go_sem]
  refine callA_false (pick_M _ m3 hi hA 5 (by omega) (by omega) _ fun hv a4 d4 h4 v0 v1 q3 q4 m4 e4 => ?_)
  have r4 := (e4 n (by omega)).trans r3
  have o4 := (e4 (n + 1) (by omega)).trans o3
  obtain ⟨H, hHv⟩ : ∃ H : Nat, 1 + hv = H := ⟨(1 + hv).toNat, by omega⟩
  have hH64 : IntKind.i64.wrap (1 + hv) = (H : Int) := by rw [w64 (by omega)]; exact hHv
  have l4 : n + 1 < n + 2 := by omega
  simp only [go_sem, Nat.reduceLT, Nat.reduceLeDiff, Nat.reduceEqDiff, reduceIte, reduceCtorEq, w8 (n := (H : Int)) (by omega), hH64, o4, l4]
  refine SW_seq (SW_run hti trivial ?_)
  simp only [go_sem, Nat.reduceLT]
  have m5 : SrcM h n i A (hset h4 (n + 1) (shS ⟨W, H, fun _ _ => 0, fun _ _ _ => 0, fun _ => 0⟩)) (n + 2) a4 d4 := m4.setN hi (by omega) fun k hk => (shC_flat _ _).below _
  have r5 : hget (hset h4 (n + 1) (shS ⟨W, H, fun _ _ => 0, fun _ _ _ => 0, fun _ => 0⟩)) n = some ⟨266, shC sh0, true, none⟩ := by rw [hget_hset, if_neg (by omega)]; exact r4
  have o5 : hget (hset h4 (n + 1) (shS ⟨W, H, fun _ _ => 0, fun _ _ _ => 0, fun _ => 0⟩)) (n + 1) = some (shS ⟨W, H, fun _ _ => 0, fun _ _ _ => 0, fun _ => 0⟩) := hget_hset_self o4 _
  refine callA_false (pick_M _ m5 hi hA 4 (by omega) (by omega) _ fun mv a6 d6 h6 z0 z1 q5 q6 m6 e6 => ?_)
  have r6 := (e6 n (by omega)).trans r5
  have o6 := (e6 (n + 1) (by omega)).trans o5
  have M64 : IntKind.i64.wrap (1 + mv) = 1 + mv := w64 (by omega)
  simp only [go_sem, Nat.reduceLT, M64]
  refine SW_seq (SW_run hti trivial ?_)
  simp only [go_sem, Nat.reduceLT]
  refine callA_false (pick_M _ m6 hi hA 20 (by omega) (by omega) _ fun xv a7 d7 h7 z2 z3 q7 q8 m7 e7 => ?_)
  have r7 := (e7 n (by omega)).trans r6
  have o7 := (e7 (n + 1) (by omega)).trans o6
  have X64 : IntKind.i64.wrap (3 + xv) = 3 + xv := w64 (by omega)
  simp only [go_sem, Nat.reduceLT, X64]
  refine SW_seq (SW_run hti trivial ?_)
  simp only [go_sem, Nat.reduceLT]
  have hD0 : DrawnI W H 0 ⟨W, H, fun _ _ => 0, fun _ _ _ => 0, fun _ => 0⟩ := .start (by omega) (by omega)
  have hSm : ∀ {q S}, DrawnI W H q S → Small S := fun hd => by have := hd.wide; have := hd.high; unfold Small; omega
  refine callA_false (spots_E _ _ _ (n + 1) 0 _ ⟨W, H, fun _ _ => 0, fun _ _ _ => 0, fun _ => 0⟩ W H o7 (by omega) (shAt_shC hD0.R) rfl rfl (by omega) (by omega) _ fun cap hc1 hc2 => ?_)
  have hWH : H * W ≤ 25 := Nat.mul_le_mul (show H ≤ 5 by omega) (show W ≤ 5 by omega)
  simp only [go_sem, Nat.reduceLT]
  refine SW_seq (SW_seq (SW_run hti trivial ?_))
  simp only [go_sem, Nat.reduceLT]
  have m8 : SrcM h n i A ((n + 2, ⟨H * W * 2, cellC W, true, some (36, cap * 2)⟩) :: h7) (n + 3) a7 d7 := m7.cons hi fun k hk => (cellC_flat _ _).below _
  refine SW_block (SW_lp (ι := { w : Nat × List (Nat × Seg) × Nat × Sh × Int × Int // w.1 ≤ H * W ∧ SrcM h n i A w.2.1 w.2.2.1 w.2.2.2.2.1 w.2.2.2.2.2 ∧ n + 3 ≤ w.2.2.1 ∧ hget w.2.1 n = some ⟨266, shC sh0, true, none⟩ ∧ hget w.2.1 (n + 1) = some (shS w.2.2.2.1) ∧
      hget w.2.1 (n + 2) = some ⟨H * W * 2, cellC W, true, some (36, cap * 2)⟩ ∧ DrawnI W H w.1 w.2.2.2.1 ∧ a ≤ w.2.2.2.2.1 ∧ w.2.2.2.2.1 ≤ a + 20 + 10 * w.1 })
    (fun w => ([(0, .ptr i 0), (2, .ptr n 0), (3, .ptr (n + 1) 0), (4, .int .i64 (1 + mv)), (5, .int .i64 (3 + xv)), (6, .sl (n + 2) 0 (H * W) cap), (7, .int .i64 w.1.1)], w.1.2.1, w.1.2.2.1)) (fun w => H * W - w.1.1)
    ⟨(0, _, _, ⟨W, H, fun _ _ => 0, fun _ _ _ => 0, fun _ => 0⟩, _, _), Nat.zero_le _, m8, Nat.le_refl _, by simp only [hget]; rw [if_neg (by omega)]; exact r7, by simp only [hget]; rw [if_neg (by omega)]; exact o7, by simp only [hget, if_true], hD0, by show a ≤ a7; omega, by show a7 ≤ _; omega⟩ ?_ ?_)
  · refine Imp.id (by simp) ?_ (impH.base0 m8.ok (by simp) HExt.rfl)
    simp only [go_sem, Nat.reduceLT]
    omega
  rintro ⟨⟨q, hq, nq, S, aq, dq⟩, hqn, mq, hnq, rq, oq, cq, hD, ha1, ha2⟩
  simp only at hqn mq hnq rq oq cq hD ha1 ha2
  have ln : n < nq := by omega
  have ln1 : n + 1 < nq := by omega
  have ln2 : n + 2 < nq := by omega
  have nn1 : ¬ n = n + 1 := by omega
  refine SW_seq (SW_run hti trivial ?_)
  simp only [go_sem, Nat.reduceLT, decide_eq_true_eq, decide_eq_false_iff_not]
  refine ⟨fun h1 => ?_, fun h1 => ?_⟩
  rotate_left
  · have hqe : q = H * W := by omega
    subst hqe
    simp only [go_sem, Nat.reduceLT, reduceIte, oq, rq, ln, ln1]
    refine fun hok' => hK S W H aq dq _ nq (by omega) (by omega) (by omega) (by omega) hD ha1 (by omega) (mq.setN hi (Nat.le_refl _) fun k hk => (shC_flat _ _).below _)
  have hqlt : q < H * W := by omega
  have b1 : (0 : Int) ≤ q ∧ (q : Int) < ((H * W : Nat) : Int) := ⟨by omega, h1⟩
  have b2 : q * 2 ≤ H * W * 2 - 2 := by omega
  have b3 : 2 ≤ H * W * 2 := by omega
  have hS := hSm hD
  obtain ⟨x0, x8, y0, y8⟩ := cell_in hS hD.wide hD.high hqlt
  have hh := cell_hasW hD.wide hD.high hqlt
  have hn := hD.new q (Nat.le_refl _) hqlt
  refine SW_seq (SW_block ?_)
  refine SW_seq (SW_run hti trivial ?_)
  simp only [go_sem, Nat.reduceLT, reduceIte, b1, b2, b3, cq, ln2, cellC_x, cellC_y]
  refine ⟨by omega, ?_⟩
  have mr : SrcM h n i A ((nq, ⟨2, cl [SV.int .i8 ((q % W : Nat) : Int), SV.int .i8 ((q / W : Nat) : Int)], true, none⟩) :: hq) (nq + 1) aq dq := mq.cons hi fun k hk => (pair_flat _ _ hk).below _
  have rr : hget ((nq, ⟨2, cl [SV.int .i8 ((q % W : Nat) : Int), SV.int .i8 ((q / W : Nat) : Int)], true, none⟩) :: hq) n = some ⟨266, shC sh0, true, none⟩ := by simp only [hget]; rw [if_neg (by omega)]; exact rq
  have orr : hget ((nq, ⟨2, cl [SV.int .i8 ((q % W : Nat) : Int), SV.int .i8 ((q / W : Nat) : Int)], true, none⟩) :: hq) (n + 1) = some (shS S) := by simp only [hget]; rw [if_neg (by omega)]; exact oq
  have cr : hget ((nq, ⟨2, cl [SV.int .i8 ((q % W : Nat) : Int), SV.int .i8 ((q / W : Nat) : Int)], true, none⟩) :: hq) (n + 2) = some ⟨H * W * 2, cellC W, true, some (36, cap * 2)⟩ := by simp only [hget]; rw [if_neg (by omega)]; exact cq
  have ar : hget ((nq, ⟨2, cl [SV.int .i8 ((q % W : Nat) : Int), SV.int .i8 ((q / W : Nat) : Int)], true, none⟩) :: hq) nq = some ⟨2, cl [SV.int .i8 ((q % W : Nat) : Int), SV.int .i8 ((q / W : Nat) : Int)], true, none⟩ := by simp only [hget, if_true]
  generalize ((nq, (⟨2, cl [SV.int .i8 ((q % W : Nat) : Int), SV.int .i8 ((q / W : Nat) : Int)], true, none⟩ : Seg)) :: hq) = hr at *
  generalize hqx : ((q % W : Nat) : Int) = px at *
  generalize hqy : ((q / W : Nat) : Int) = py at *
  have lr0 : nq < nq + 1 := by omega
  have lr1 : n + 1 < nq + 1 := by omega
  refine SW_seq (SW_run hti trivial ?_)
  simp only [go_sem, Nat.reduceLT]
  refine callA_false (one_M _ mr hi hA (3 + xv) (by omega) (by omega) _ fun b a9 d9 h9 q9 q10 m9 e9 => ?_)
  have r9 := (e9 n (by omega)).trans rr
  have o9 := (e9 (n + 1) (by omega)).trans orr
  have c9 := (e9 (n + 2) (by omega)).trans cr
  have t9 := (e9 nq (by omega)).trans ar
  have U64 : IntKind.u64.wrap px = px := by simp [IntKind.wrap, IntKind.bits, IntKind.signed]; omega
  cases b
  rotate_left
  · simp only [go_sem]
    refine T_drawT hti 12 _ _ (by kernel_rfl) (by kernel_rfl) ?_
    simp only [go_sem, Nat.reduceLT, Nat.reduceLeDiff, Nat.reduceEqDiff, reduceIte, reduceCtorEq, o9, t9, lr0, lr1, x0, x8, y0, y8, U64]
    have hDn : DrawnI W H (q + 1) (S.setWax py (bitsI .or .u8 (S.wax py) (shlI .u8 1 px))) := by rw [← hqx, ← hqy]; exact hD.setWax hS hqlt
    have mw : SrcM h n i A (hset h9 (n + 1) (shS (S.setWax py (bitsI .or .u8 (S.wax py) (shlI .u8 1 px))))) (nq + 1) a9 d9 := m9.setN hi (by omega) fun k hk => (shC_flat _ _).below _
    refine ⟨⟨(q + 1, _, nq + 1, S.setWax py (bitsI .or .u8 (S.wax py) (shlI .u8 1 px)), a9, d9), by show q + 1 ≤ H * W; omega, mw, by show n + 3 ≤ nq + 1; omega, by rw [hget_hset, if_neg (by omega)]; exact r9, hget_hset_self o9 _, by rw [hget_hset, if_neg (by omega)]; exact c9, hDn, by show a ≤ a9; omega, by show a9 ≤ a + 20 + 10 * ((q + 1 : Nat) : Int); omega⟩, by show H * W - (q + 1) < H * W - q; omega, ?_⟩
    refine Imp.id (by show n ≤ nq + 1; omega) ?_ (impH.base0 mw.ok (Nat.le_refl _) HExt.rfl)
    simp only [go_sem, Nat.reduceLT, w64 (n := (q : Int) + 1) (by omega), Int.natCast_add, Int.natCast_one]
    omega
  simp only [go_sem]
  have hD0 := hD.next
  have hw0 := hn.1
  have M0 := m9
  have R0 := r9
  have O0 := o9
  have C0 := c9
  have T0 := t9
  obtain ⟨N0, hN0⟩ : ∃ N0, N0 = nq + 1 := ⟨_, rfl⟩
  rw [← hN0] at M0
  rw [← hN0]
  generalize hS0 : S = S0 at hD0 hw0 O0
  refine SW_seq (SW_cut hti (ι := { w : List (Nat × Seg) × Nat × Sh × Int × Int // SrcM h n i A w.1 w.2.1 w.2.2.2.1 w.2.2.2.2 ∧ nq + 1 ≤ w.2.1 ∧ hget w.1 n = some ⟨266, shC sh0, true, none⟩ ∧ hget w.1 (n + 1) = some (shS w.2.2.1) ∧
      hget w.1 (n + 2) = some ⟨H * W * 2, cellC W, true, some (36, cap * 2)⟩ ∧ hget w.1 nq = some ⟨2, cl [.int .i8 px, .int .i8 py], true, none⟩ ∧ DrawnI W H (q + 1) w.2.2.1 ∧ waxB w.2.2.1 px py = false ∧ a ≤ w.2.2.2.1 ∧ w.2.2.2.1 ≤ a + 20 + 10 * q + 3 })
    (fun w => ([(0, .ptr i 0), (2, .ptr n 0), (3, .ptr (n + 1) 0), (4, .int .i64 (1 + mv)), (5, .int .i64 (3 + xv)), (6, .sl (n + 2) 0 (H * W) cap), (7, .int .i64 q), (8, .ptr nq 0)], w.1.1, w.1.2.1)) trivial ?_ ?_)
  · simp only [go_sem, Nat.reduceLT]
    refine callA_false (one_M _ M0 hi hA 2 (by omega) (by omega) _ fun b a1 d1 g1 b1 b2 mm1 ee1 => ?_)
    have ra := (ee1 n (by omega)).trans R0
    have oa := (ee1 (n + 1) (by omega)).trans O0
    have ca := (ee1 (n + 2) (by omega)).trans C0
    have ta := (ee1 nq (by omega)).trans T0
    cases b
    · simp only [go_sem]
      refine ⟨⟨(g1, N0, S0, a1, d1), mm1, by show nq + 1 ≤ N0; omega, ra, oa, ca, ta, hD0, hw0, by show a ≤ a1; omega, by show a1 ≤ _; omega⟩, ?_⟩
      refine Imp.id (by show n ≤ N0; omega) ?_ (impH.base0 mm1.ok (Nat.le_refl _) HExt.rfl)
      simp only [go_sem, Nat.reduceLT]
      (repeat' apply And.intro) <;> first | omega | rfl | trivial | assumption | skip
    have lm0 : nq < N0 := by omega
    have lm1 : n + 1 < N0 := by omega
    simp only [go_sem]
    refine T_drawG hti 11 [1, 3, 5, 10] (.b 0 0 (.b 0 2 (.b 0 4 (.b 0 7 (.b 4 1 (.b 0 8 (.b 4 3 (.b 4 5 (.b 0 6 (.b 0 9 (.b 4 10 (.f) .o) .o) .o) .o) (.b 4 5 (.b 0 6 (.b 4 3 (.b 0 9 (.b 4 10 (.f) .o) .o) .o) .o) .o)) .o) (.b 4 3 (.b 4 1 (.b 0 8 (.b 4 5 (.b 0 6 (.b 0 9 (.b 4 10 (.f) .o) .o) .o) .o) .o) (.b 4 5 (.b 0 6 (.b 4 1 (.b 0 8 (.b 0 9 (.b 4 10 (.f) .o) .o) .o) .o) .o) .o)) (.b 4 5 (.b 0 6 (.b 4 1 (.b 0 8 (.b 4 3 (.b 0 9 (.b 4 10 (.f) .o) .o) .o) .o) (.b 4 3 (.b 4 1 (.b 0 8 (.b 0 9 (.b 4 10 (.f) .o) .o) .o) .o) .o)) .o) .o))) .o) .o) .o) .o) _ _ (by kernel_rfl) (by kernel_rfl) ?_
    simp only [go_sem, Nat.reduceLT, Nat.reduceLeDiff, reduceCtorEq, oa, ta, lm0, lm1, x0, x8, y0, y8]
    (repeat' (with_reducible refine And.intro ?_ ?_))
    all_goals
      refine callA_false (pick_M _ mm1 hi hA 30 (by omega) (by omega) _ fun v a2 d2 g2 v0 v1 b3 b4 mm2 ee2 => ?_)
      have rb := (ee2 n (by omega)).trans ra
      have ob := (ee2 (n + 1) (by omega)).trans oa
      have cb := (ee2 (n + 2) (by omega)).trans ca
      have tb := (ee2 nq (by omega)).trans ta
      have v16 : IntKind.i16.wrap v = v := w16 (by omega)
      simp only [go_sem, Nat.reduceLT, Nat.reduceLeDiff, Nat.reduceEqDiff, reduceIte, ob, tb, lm0, lm1, x0, x8, y0, y8, v16]
      have hDn : DrawnI W H (q + 1) (S0.setWet py px v) := by rw [← hqx, ← hqy]; exact hD0.setWet hqlt (by rw [hqx, hqy]; exact hw0) (by omega)
      have mmn : SrcM h n i A (hset g2 (n + 1) (shS (S0.setWet py px v))) N0 a2 d2 := mm2.setN hi (by omega) (fun k hk => (shC_flat _ _).below _)
      (repeat' (with_reducible refine And.intro ?_ ?_))
    all_goals
      refine ⟨⟨(hset g2 (n + 1) (shS (S0.setWet py px v)), N0, S0.setWet py px v, a2, d2), mmn, by show nq + 1 ≤ N0; omega, by rw [hget_hset, if_neg (by omega)]; exact rb, hget_hset_self ob _, by rw [hget_hset, if_neg (by omega)]; exact cb, by rw [hget_hset, if_neg (by omega)]; exact tb, hDn, hw0, by show a ≤ a2; omega, by show a2 ≤ _; omega⟩, ?_⟩
      refine Imp.id (by show n ≤ N0; omega) ?_ (impH.base0 mmn.ok (Nat.le_refl _) HExt.rfl)
      simp only [go_sem, Nat.reduceLT]
      (repeat' apply And.intro) <;> first | omega | rfl | trivial | assumption | skip
  rintro ⟨⟨H1, N1, S1, A1, D1⟩, M1, hN1, R1, O1, C1, T1, hD1, hw1, hA1, hB1⟩
  simp only at M1 hN1 R1 O1 C1 T1 hD1 hw1 hA1 hB1
  refine SW_seq (SW_cut hti (ι := { w : List (Nat × Seg) × Nat × Sh × Int × Int // SrcM h n i A w.1 w.2.1 w.2.2.2.1 w.2.2.2.2 ∧ nq + 1 ≤ w.2.1 ∧ hget w.1 n = some ⟨266, shC sh0, true, none⟩ ∧ hget w.1 (n + 1) = some (shS w.2.2.1) ∧
      hget w.1 (n + 2) = some ⟨H * W * 2, cellC W, true, some (36, cap * 2)⟩ ∧ hget w.1 nq = some ⟨2, cl [.int .i8 px, .int .i8 py], true, none⟩ ∧ DrawnI W H (q + 1) w.2.2.1 ∧ waxB w.2.2.1 px py = false ∧ a ≤ w.2.2.2.1 ∧ w.2.2.2.1 ≤ a + 20 + 10 * q + 6 })
    (fun w => ([(0, .ptr i 0), (2, .ptr n 0), (3, .ptr (n + 1) 0), (4, .int .i64 (1 + mv)), (5, .int .i64 (3 + xv)), (6, .sl (n + 2) 0 (H * W) cap), (7, .int .i64 q), (8, .ptr nq 0)], w.1.1, w.1.2.1)) trivial ?_ ?_)
  · simp only [go_sem, Nat.reduceLT]
    refine callA_false (one_M _ M1 hi hA (1 + mv) (by omega) (by omega) _ fun b a1 d1 g1 b1 b2 mm1 ee1 => ?_)
    have ra := (ee1 n (by omega)).trans R1
    have oa := (ee1 (n + 1) (by omega)).trans O1
    have ca := (ee1 (n + 2) (by omega)).trans C1
    have ta := (ee1 nq (by omega)).trans T1
    cases b
    · simp only [go_sem]
      refine ⟨⟨(g1, N1, S1, a1, d1), mm1, by show nq + 1 ≤ N1; omega, ra, oa, ca, ta, hD1, hw1, by show a ≤ a1; omega, by show a1 ≤ _; omega⟩, ?_⟩
      refine Imp.id (by show n ≤ N1; omega) ?_ (impH.base0 mm1.ok (Nat.le_refl _) HExt.rfl)
      simp only [go_sem, Nat.reduceLT]
      (repeat' apply And.intro) <;> first | omega | rfl | trivial | assumption | skip
    have lm0 : nq < N1 := by omega
    have lm1 : n + 1 < N1 := by omega
    simp only [go_sem]
    refine T_drawG hti 14 [1, 3, 5, 7, 13] (.b 0 0 (.b 0 2 (.b 0 4 (.b 0 6 (.b 0 9 (.b 4 1 (.b 0 10 (.b 4 3 (.b 0 11 (.b 4 5 (.b 4 7 (.b 0 8 (.b 0 12 (.b 4 13 (.f) .o) .o) .o) .o) .o) .o) (.b 4 5 (.b 4 3 (.b 0 11 (.b 4 7 (.b 0 8 (.b 0 12 (.b 4 13 (.f) .o) .o) .o) .o) .o) (.b 4 7 (.b 0 8 (.b 4 3 (.b 0 11 (.b 0 12 (.b 4 13 (.f) .o) .o) .o) .o) .o) .o)) .o)) .o) (.b 4 3 (.b 4 1 (.b 0 10 (.b 0 11 (.b 4 5 (.b 4 7 (.b 0 8 (.b 0 12 (.b 4 13 (.f) .o) .o) .o) .o) .o) .o) .o) (.b 4 5 (.b 4 1 (.b 0 10 (.b 0 11 (.b 4 7 (.b 0 8 (.b 0 12 (.b 4 13 (.f) .o) .o) .o) .o) .o) .o) (.b 4 7 (.b 0 8 (.b 4 1 (.b 0 10 (.b 0 11 (.b 0 12 (.b 4 13 (.f) .o) .o) .o) .o) .o) .o) .o)) .o)) (.b 4 5 (.b 4 1 (.b 0 10 (.b 4 3 (.b 0 11 (.b 4 7 (.b 0 8 (.b 0 12 (.b 4 13 (.f) .o) .o) .o) .o) .o) (.b 4 7 (.b 0 8 (.b 4 3 (.b 0 11 (.b 0 12 (.b 4 13 (.f) .o) .o) .o) .o) .o) .o)) .o) (.b 4 3 (.b 4 1 (.b 0 10 (.b 0 11 (.b 4 7 (.b 0 8 (.b 0 12 (.b 4 13 (.f) .o) .o) .o) .o) .o) .o) (.b 4 7 (.b 0 8 (.b 4 1 (.b 0 10 (.b 0 11 (.b 0 12 (.b 4 13 (.f) .o) .o) .o) .o) .o) .o) .o)) (.b 4 7 (.b 0 8 (.b 4 1 (.b 0 10 (.b 4 3 (.b 0 11 (.b 0 12 (.b 4 13 (.f) .o) .o) .o) .o) .o) (.b 4 3 (.b 4 1 (.b 0 10 (.b 0 11 (.b 0 12 (.b 4 13 (.f) .o) .o) .o) .o) .o) .o)) .o) .o))) .o))) .o) .o) .o) .o) .o) _ _ (by kernel_rfl) (by kernel_rfl) ?_
    simp only [go_sem, Nat.reduceLT, Nat.reduceLeDiff, reduceCtorEq, oa, ta, lm0, lm1, x0, x8, y0, y8]
    (repeat' (with_reducible refine And.intro ?_ ?_))
    all_goals
      refine callA_false (pick_M _ mm1 hi hA 3 (by omega) (by omega) _ fun u a2 d2 g2 u0 u1 b3 b4 mm2 ee2 => ?_)
      have rb := (ee2 n (by omega)).trans ra
      have ob := (ee2 (n + 1) (by omega)).trans oa
      have cb := (ee2 (n + 2) (by omega)).trans ca
      have tb := (ee2 nq (by omega)).trans ta
      have u3 : u < 3 := by omega
      simp only [go_sem, Nat.reduceLT, Nat.reduceLeDiff, ob, tb, lm0, lm1, x0, x8, y0, y8, u0, u3]
      (repeat' (with_reducible refine And.intro ?_ ?_))
    all_goals
      refine callA_false (pick_M _ mm2 hi hA 40 (by omega) (by omega) _ fun v a3 d3 g3 v0 v1 b5 b6 mm3 ee3 => ?_)
      have rc := (ee3 n (by omega)).trans rb
      have oc := (ee3 (n + 1) (by omega)).trans ob
      have cc := (ee3 (n + 2) (by omega)).trans cb
      have tc := (ee3 nq (by omega)).trans tb
      have v16 : IntKind.i16.wrap v = v := w16 (by omega)
      simp only [go_sem, Nat.reduceLT, Nat.reduceLeDiff, Nat.reduceEqDiff, reduceIte, oc, tc, lm0, lm1, x0, x8, y0, y8, u0, u3, v16]
      have hDn : DrawnI W H (q + 1) (S1.setDye py px u v) := by rw [← hqx, ← hqy]; exact hD1.setDye hqlt (by rw [hqx, hqy]; exact hw1) (by omega)
      have mmn : SrcM h n i A (hset g3 (n + 1) (shS (S1.setDye py px u v))) N1 a3 d3 := mm3.setN hi (by omega) (fun k hk => (shC_flat _ _).below _)
      (repeat' (with_reducible refine And.intro ?_ ?_))
    all_goals
      refine ⟨⟨(hset g3 (n + 1) (shS (S1.setDye py px u v)), N1, S1.setDye py px u v, a3, d3), mmn, by show nq + 1 ≤ N1; omega, by rw [hget_hset, if_neg (by omega)]; exact rc, hget_hset_self oc _, by rw [hget_hset, if_neg (by omega)]; exact cc, by rw [hget_hset, if_neg (by omega)]; exact tc, hDn, hw1, by show a ≤ a3; omega, by show a3 ≤ _; omega⟩, ?_⟩
      refine Imp.id (by show n ≤ N1; omega) ?_ (impH.base0 mmn.ok (Nat.le_refl _) HExt.rfl)
      simp only [go_sem, Nat.reduceLT]
      (repeat' apply And.intro) <;> first | omega | rfl | trivial | assumption | skip
  rintro ⟨⟨H2, N2, S2, A2, D2⟩, M2, hN2, R2, O2, C2, T2, hD2, hw2, hA2, hB2⟩
  simp only at M2 hN2 R2 O2 C2 T2 hD2 hw2 hA2 hB2
  refine SW_cut hti (ι := { w : List (Nat × Seg) × Nat × Sh × Int × Int // SrcM h n i A w.1 w.2.1 w.2.2.2.1 w.2.2.2.2 ∧ nq + 1 ≤ w.2.1 ∧ hget w.1 n = some ⟨266, shC sh0, true, none⟩ ∧ hget w.1 (n + 1) = some (shS w.2.2.1) ∧
      hget w.1 (n + 2) = some ⟨H * W * 2, cellC W, true, some (36, cap * 2)⟩ ∧ hget w.1 nq = some ⟨2, cl [.int .i8 px, .int .i8 py], true, none⟩ ∧ DrawnI W H (q + 1) w.2.2.1 ∧ waxB w.2.2.1 px py = false ∧ a ≤ w.2.2.2.1 ∧ w.2.2.2.1 ≤ a + 20 + 10 * q + 9 })
    (fun w => ([(0, .ptr i 0), (2, .ptr n 0), (3, .ptr (n + 1) 0), (4, .int .i64 (1 + mv)), (5, .int .i64 (3 + xv)), (6, .sl (n + 2) 0 (H * W) cap), (7, .int .i64 q), (8, .ptr nq 0)], w.1.1, w.1.2.1)) trivial ?_ ?_
  · simp only [go_sem, Nat.reduceLT]
    refine callA_false (one_M _ M2 hi hA 4 (by omega) (by omega) _ fun b a1 d1 g1 b1 b2 mm1 ee1 => ?_)
    have ra := (ee1 n (by omega)).trans R2
    have oa := (ee1 (n + 1) (by omega)).trans O2
    have ca := (ee1 (n + 2) (by omega)).trans C2
    have ta := (ee1 nq (by omega)).trans T2
    cases b
    · simp only [go_sem]
      refine ⟨⟨(g1, N2, S2, a1, d1), mm1, by show nq + 1 ≤ N2; omega, ra, oa, ca, ta, hD2, hw2, by show a ≤ a1; omega, by show a1 ≤ _; omega⟩, ?_⟩
      refine Imp.id (by show n ≤ N2; omega) ?_ (impH.base0 mm1.ok (Nat.le_refl _) HExt.rfl)
      simp only [go_sem, Nat.reduceLT]
      (repeat' apply And.intro) <;> first | omega | rfl | trivial | assumption | skip
    have lm0 : nq < N2 := by omega
    have lm1 : n + 1 < N2 := by omega
    simp only [go_sem]
    refine T_drawG hti 14 [1, 3, 5, 7, 13] (.b 0 0 (.b 0 2 (.b 0 4 (.b 0 6 (.b 0 9 (.b 4 1 (.b 0 10 (.b 4 3 (.b 0 11 (.b 4 5 (.b 4 7 (.b 0 8 (.b 0 12 (.b 4 13 (.f) .o) .o) .o) .o) .o) .o) (.b 4 5 (.b 4 3 (.b 0 11 (.b 4 7 (.b 0 8 (.b 0 12 (.b 4 13 (.f) .o) .o) .o) .o) .o) (.b 4 7 (.b 0 8 (.b 4 3 (.b 0 11 (.b 0 12 (.b 4 13 (.f) .o) .o) .o) .o) .o) .o)) .o)) .o) (.b 4 3 (.b 4 1 (.b 0 10 (.b 0 11 (.b 4 5 (.b 4 7 (.b 0 8 (.b 0 12 (.b 4 13 (.f) .o) .o) .o) .o) .o) .o) .o) (.b 4 5 (.b 4 1 (.b 0 10 (.b 0 11 (.b 4 7 (.b 0 8 (.b 0 12 (.b 4 13 (.f) .o) .o) .o) .o) .o) .o) (.b 4 7 (.b 0 8 (.b 4 1 (.b 0 10 (.b 0 11 (.b 0 12 (.b 4 13 (.f) .o) .o) .o) .o) .o) .o) .o)) .o)) (.b 4 5 (.b 4 1 (.b 0 10 (.b 4 3 (.b 0 11 (.b 4 7 (.b 0 8 (.b 0 12 (.b 4 13 (.f) .o) .o) .o) .o) .o) (.b 4 7 (.b 0 8 (.b 4 3 (.b 0 11 (.b 0 12 (.b 4 13 (.f) .o) .o) .o) .o) .o) .o)) .o) (.b 4 3 (.b 4 1 (.b 0 10 (.b 0 11 (.b 4 7 (.b 0 8 (.b 0 12 (.b 4 13 (.f) .o) .o) .o) .o) .o) .o) (.b 4 7 (.b 0 8 (.b 4 1 (.b 0 10 (.b 0 11 (.b 0 12 (.b 4 13 (.f) .o) .o) .o) .o) .o) .o) .o)) (.b 4 7 (.b 0 8 (.b 4 1 (.b 0 10 (.b 4 3 (.b 0 11 (.b 0 12 (.b 4 13 (.f) .o) .o) .o) .o) .o) (.b 4 3 (.b 4 1 (.b 0 10 (.b 0 11 (.b 0 12 (.b 4 13 (.f) .o) .o) .o) .o) .o) .o)) .o) .o))) .o))) .o) .o) .o) .o) .o) _ _ (by kernel_rfl) (by kernel_rfl) ?_
    simp only [go_sem, Nat.reduceLT, Nat.reduceLeDiff, reduceCtorEq, oa, ta, lm0, lm1, x0, x8, y0, y8]
    (repeat' (with_reducible refine And.intro ?_ ?_))
    all_goals
      refine callA_false (pick_M _ mm1 hi hA 3 (by omega) (by omega) _ fun u a2 d2 g2 u0 u1 b3 b4 mm2 ee2 => ?_)
      have rb := (ee2 n (by omega)).trans ra
      have ob := (ee2 (n + 1) (by omega)).trans oa
      have cb := (ee2 (n + 2) (by omega)).trans ca
      have tb := (ee2 nq (by omega)).trans ta
      have u3 : u < 3 := by omega
      simp only [go_sem, Nat.reduceLT, Nat.reduceLeDiff, ob, tb, lm0, lm1, x0, x8, y0, y8, u0, u3]
      (repeat' (with_reducible refine And.intro ?_ ?_))
    all_goals
      refine callA_false (pick_M _ mm2 hi hA 12 (by omega) (by omega) _ fun v a3 d3 g3 v0 v1 b5 b6 mm3 ee3 => ?_)
      have rc := (ee3 n (by omega)).trans rb
      have oc := (ee3 (n + 1) (by omega)).trans ob
      have cc := (ee3 (n + 2) (by omega)).trans cb
      have tc := (ee3 nq (by omega)).trans tb
      have v16 : IntKind.i16.wrap v = v := w16 (by omega)
      simp only [go_sem, Nat.reduceLT, Nat.reduceLeDiff, Nat.reduceEqDiff, reduceIte, oc, tc, lm0, lm1, x0, x8, y0, y8, u0, u3, v16]
      have hDn : DrawnI W H (q + 1) (S2.setDye py px u v) := by rw [← hqx, ← hqy]; exact hD2.setDye hqlt (by rw [hqx, hqy]; exact hw2) (by omega)
      have mmn : SrcM h n i A (hset g3 (n + 1) (shS (S2.setDye py px u v))) N2 a3 d3 := mm3.setN hi (by omega) (fun k hk => (shC_flat _ _).below _)
      (repeat' (with_reducible refine And.intro ?_ ?_))
    all_goals
      refine ⟨⟨(hset g3 (n + 1) (shS (S2.setDye py px u v)), N2, S2.setDye py px u v, a3, d3), mmn, by show nq + 1 ≤ N2; omega, by rw [hget_hset, if_neg (by omega)]; exact rc, hget_hset_self oc _, by rw [hget_hset, if_neg (by omega)]; exact cc, by rw [hget_hset, if_neg (by omega)]; exact tc, hDn, hw2, by show a ≤ a3; omega, by show a3 ≤ _; omega⟩, ?_⟩
      refine Imp.id (by show n ≤ N2; omega) ?_ (impH.base0 mmn.ok (Nat.le_refl _) HExt.rfl)
      simp only [go_sem, Nat.reduceLT]
      (repeat' apply And.intro) <;> first | omega | rfl | trivial | assumption | skip
  rintro ⟨⟨H3, N3, S3, A3, D3⟩, M3, hN3, R3, O3, C3, T3, hD3, hw3, hA3, hB3⟩
  simp only at M3 hN3 R3 O3 C3 T3 hD3 hw3 hA3 hB3
  refine SW_inBlock (SW_run hti trivial ?_)
  simp only [go_sem, Nat.reduceLT]
  refine SW_inv ?_
  refine ⟨⟨(q + 1, H3, N3, S3, A3, D3), by show q + 1 ≤ H * W; omega, M3, by show n + 3 ≤ N3; omega, R3, O3, C3, hD3, by show a ≤ A3; omega, by show A3 ≤ a + 20 + 10 * ((q + 1 : Nat) : Int); omega⟩, by show H * W - (q + 1) < H * W - q; omega, ?_⟩
  refine Imp.id (by show n ≤ N3; omega) ?_ (impH.base0 M3.ok (Nat.le_refl _) HExt.rfl)
  simp only [go_sem, Nat.reduceLT, w64 (n := (q : Int) + 1) (by omega), Int.natCast_add, Int.natCast_one]
  omega
end
end Go.Proofs.YtggpnfgohpifoaaGreat.V

/- A sheet drawn from bytes, and a clean one. -/
namespace Go.Proofs.YtggpnfgohpifoaaGreat.V
theorem ByArg.long {h : List (Nat × Seg)} {n : Nat} {A : SV} {len : Nat} (hA : ByArg h n A len) : A = .nils ∧ len = 0 ∨ ∃ j o cap, A = .sl j o len cap := by
  rcases hA with h1 | ⟨j, cap, s, rfl, _⟩
  · exact .inl h1
  · exact .inr ⟨j, 0, cap, rfl⟩
theorem ByArg.sl {h : List (Nat × Seg)} {n i : Nat} {A : SV} {len : Nat} (hA : ByArg h n A len) (hi : n ≤ i) (hl : len ≤ 1048576) : BySl h n i A := by
  rcases hA with ⟨rfl, _⟩ | ⟨j, cap, s, rfl, hj, hg, hn, hv⟩
  · exact .inl rfl
  · exact .inr ⟨j, 0, len, cap, s, rfl, hj, by omega, hg, by omega, hl, fun k hk => by rw [Nat.zero_add]; exact hv k hk⟩
theorem ByArg.ok {h : List (Nat × Seg)} {n : Nat} {A : SV} {len : Nat} (hA : ByArg h n A len) : A.ok = True := by
  rcases hA with ⟨rfl, _⟩ | ⟨j, cap, s, rfl, _⟩ <;> rfl
theorem DrawnI.small {W H q : Nat} {S : Sh} (h : DrawnI W H q S) (h1 : 1 ≤ W) (h2 : W ≤ 5) (h3 : 1 ≤ H) (h4 : H ≤ 5) : Small S := by
  have := h.wide; have := h.high; unfold Small; omega
section
variable (cx : Cx) (h : List (Nat × Seg)) (n : Nat)
theorem a2clean_E (A : SV) (hA : BySl h n n A) (K : HK)
    (hK : ∀ (S : Sh) (W H : Nat) h' n', 1 ≤ W → W ≤ 5 → 1 ≤ H → H ≤ 5 → DrawnI W H (H * W) S → n ≤ n' → HExt n h h' → HOk n' h' → K (.agg 266 (shC S.clean)) h' n') :
    CallE Tryz.prog cx 5 [A] h n K := by
  have hAo := hA.ok
  refine callE_of_T (P := Tryz.prog) hti (nt := 7) (rs := [.cell 2 33]) rfl rfl Tryz.call5 Tryz.func5 rfl _ (by first | (simp only [go_sem, hAo]; done) | (simp only [go_sem, hAo, hBo]; done)) (Nat.le_of_ble_eq_true rfl) _ fun hok => ?_
  simp only [go_sem, Nat.reduceLT, hAo]
  have ok1 : HOk (n + 1) ((n, ⟨266, shC sh0, true, none⟩) :: h) := hok.consF fun k hk => shC_flat _ _
  have x1 : HExt n h ((n, ⟨266, shC sh0, true, none⟩) :: h) := by simp only [go_sem, HExt_cons]
  have hA1 := hA.up (n' := n + 1) (i' := n + 1) (by omega) x1 (by omega)
  refine callA_false (from_E _ _ _ A hA1.arg _ ok1 ?_)
  simp only [go_sem, Nat.reduceLT]
  have ok2 : HOk (n + 2) ((n + 1, srcS A 0 0) :: (n, ⟨266, shC sh0, true, none⟩) :: h) := fun j t ht => by
    simp only [hget] at ht
    split at ht
    · cases ht; exact ⟨by omega, srcS_lt (SV.lt_mono (by omega) _ hA.lt)⟩
    · rename_i e; have := ok1 j t (by simp only [hget]; exact ht); exact ⟨by omega, fun k hk => SV.lt_mono (by omega) _ (this.2 k hk)⟩
  refine callA_false (drawn_E _ _ _ (n + 1) A 0 0 (by simp only [go_sem]) (by omega) (hA.up (by omega) (by simp only [go_sem, HExt_cons]) (by omega)) (by omega) _ fun S W H a' d' h' n' w1 w2 w3 w4 hD a1 a2 hm => ?_)
  simp only [go_sem, Nat.reduceLT]
  refine (clean_Q _ _ _ S hD.R).A ?_
  have hn' := hm.le
  have g0 : hget h' n = some ⟨266, shC sh0, true, none⟩ := hm.x n (by omega) (by omega) _ (by simp only [go_sem])
  have l0 : n < n' := by omega
  simp only [go_sem, Nat.reduceLT, reduceIte, g0, l0]
  refine hK S W H _ n' w1 w2 w3 w4 hD (by omega) ?_ (HOk.hset hm.ok fun k hk => (shC_flat _ _).below _)
  intro j hj t ht
  rw [hget_hset, if_neg (by omega)]
  exact hm.x j (by omega) (by omega) t (by simp only [hget]; rw [if_neg (by omega), if_neg (by omega)]; exact ht)
end
end Go.Proofs.YtggpnfgohpifoaaGreat.V

/- FnOrigins: the walk. -/
namespace Go.Proofs.YtggpnfgohpifoaaGreat.V
theorem allIn_R {S : Sh} (hS : Small S) {L : List (Int × Int)} (h : allIn S L = true) : SpotsR L := fun k hk => by
  have hm : L.getD k (0, 0) ∈ L := by rw [List.getD_eq_getElem?_getD, List.getElem?_eq_getElem hk]; exact List.getElem_mem _
  have := hasB_in hS (List.all_eq_true.1 h _ hm)
  exact ⟨⟨by omega, by omega⟩, by omega, by omega⟩
theorem SpsOut.toSp {h : List (Nat × Seg)} {lo n : Nat} {V : SV} {L : List (Int × Int)} (hA : SpsOut h lo n V L) (hC : CapOK V) : Sp h lo n V L := by
  obtain ⟨i, o, len, cap, rfl, hc⟩ := hC
  rcases hA with ⟨e, _⟩ | ⟨j, cap', s, e, h1, h2, h3, h4, h5, h6⟩
  · cases e
  · cases e
    exact ⟨i, cap, s, rfl, h1, h2, h3, h4, h5, hc, h6⟩
theorem SpsOut.len {h : List (Nat × Seg)} {lo n : Nat} {V : SV} {L : List (Int × Int)} (hA : SpsOut h lo n V L) (e s b : Nat) (z : Nat → SV) : lenV ⟨.sl e, s, b, z⟩ V = ⟨True, .int .i64 L.length⟩ := by
  rcases hA with ⟨rfl, rfl⟩ | ⟨j, cap', s, rfl, _⟩ <;> rfl
section
variable (cx : Cx) (h : List (Nat × Seg)) (n : Nat)
set_option maxRecDepth 100000 in
set_option maxHeartbeats 3200000 in
theorem lawFO_Q (A B : SV) (la lb : Nat) (hA : ByArg h n A la) (hB : ByArg h n B lb) :
    CallQ Tryz.prog cx 3 [A, B] h n (.bool true) := by
  have hAo := hA.ok
  have hBo := hB.ok
  refine callQ_of_T (P := Tryz.prog) hti (nt := 373) (rs := [.tmp 4]) rfl rfl Tryz.call3 Tryz.func3 rfl _ (by first | (simp only [go_sem, hAo]; done) | (simp only [go_sem, hAo, hBo]; done)) (Nat.le_of_ble_eq_true rfl) _ (by trivial) fun hok => ?_
  simp only [go_sem, Nat.reduceLT, hAo, hBo]
  refine (long_Q _ _ _ A B la lb hA.long hB.long).A ?_
  by_cases hbig : (3000 : Int) < (la : Int) ∨ (3000 : Int) < (lb : Int)
  · have e : (decide ((3000 : Int) < (la : Int)) || decide ((3000 : Int) < (lb : Int))) = true := by simpa using hbig
    rw [e]
    simp only [go_sem, Nat.reduceLT]
  have e : (decide ((3000 : Int) < (la : Int)) || decide ((3000 : Int) < (lb : Int))) = false := by simpa using hbig
  rw [e]
  have hAs : ∀ i, n ≤ i → BySl h n i A := fun i hi => hA.sl hi (by omega)
  have hBs : ∀ i, n ≤ i → BySl h n i B := fun i hi => hB.sl hi (by omega)
  simp only [go_sem, Nat.reduceLT, hAo, hBo]
  refine callA_false (a2clean_E _ _ _ A (hAs n (Nat.le_refl _)) _ fun S0 W H h1 n1 w1 w2 w3 w4 hD hn1 hx1 ok1 => ?_)
  have hS0 := hD.small w1 w2 w3 w4
  have hV : Valid S0.clean := clean_valid hS0 hD.wax
  have hBl := clean_blank S0
  have hR : ShR S0.clean := clean_R hD.R
  have hW : S0.clean.wide = W := hD.wide
  have hH : S0.clean.high = H := hD.high
  generalize S0.clean = S at hV hBl hR hW hH
  have hWn : S.wide.toNat = W := by omega
  have hHn : S.high.toNat = H := by omega
  simp only [go_sem, Nat.reduceLT, reduceIte, hAo, hBo]
  have ok2 : HOk (n1 + 1) ((n1, shS S) :: h1) := ok1.consF fun k hk => shC_flat _ _
  refine callA_false (a2spot_E _ _ _ B S ((hBs n (Nat.le_refl _)).up (by omega) (hx1.tr (m' := n1) (by simp only [go_sem, HExt_cons]) (by omega)) (by omega)) hR (by omega) (by omega) _ fun x y h2 n2 hn2 hx2 ok2' x0 x1 y0 y1 => ?_)
  have sx : hget h2 n1 = some (shS S) := hx2 n1 (by omega) _ (by simp only [go_sem])
  have X2 : HExt n h h2 := hx1.tr (m' := n1) (HExt.tr (m' := n1 + 1) (by simp only [go_sem, HExt_cons]) hx2 (by omega)) (by omega)
  have c2 : n1 < n2 := by omega
  have hh : hasB S x y = true := by simp only [hasB, Bool.and_eq_true, decide_eq_true_eq]; omega
  simp only [go_sem, Nat.reduceLT, reduceIte, hAo, hBo]
  have ok3 : HOk (n2 + 1) ((n2, ⟨2, cl [SV.int .i8 x, SV.int .i8 y], true, none⟩) :: h2) := ok2'.consF fun k hk => pair_flat _ _ hk
  have X3 : HExt n h ((n2, ⟨2, cl [SV.int .i8 x, SV.int .i8 y], true, none⟩) :: h2) := X2.cons (by omega)
  have hB3 := (hBs n (Nat.le_refl _)).up (n' := n2 + 1) (i' := n2 + 1) (by omega) X3 (by omega)
  obtain ⟨ink, i0, i1, hq1⟩ := at_Q ⟨cx.w0, cx.W, 373, n⟩ _ _ B 0 3 hB3 (by omega) (by omega)
  refine hq1.A ?_
  simp only [go_sem, Nat.reduceLT, hAo, hBo]
  obtain ⟨am, m0, m1, hq2⟩ := at_Q ⟨cx.w0, cx.W, 373, n⟩ _ _ B 1 40 hB3 (by omega) (by omega)
  refine hq2.A ?_
  obtain ⟨amount, ham⟩ : ∃ amount, 1 + am = amount := ⟨_, rfl⟩
  have hamw : IntKind.i64.wrap (1 + am) = amount := by rw [w64 (by omega)]; exact ham
  simp only [go_sem, Nat.reduceLT, hAo, hBo, hamw]
  obtain ⟨water, q0, q1, hq3⟩ := at_Q ⟨cx.w0, cx.W, 373, n⟩ _ _ B 2 12 hB3 (by omega) (by omega)
  refine hq3.A ?_
  have nx2 : ¬ n2 = n1 := by omega
  simp only [go_sem, Nat.reduceLT, hAo, hBo, sx, c2, nx2]
  have hd : dropB S x y ink amount water = true := dropB_iff.2 ⟨hh, by omega, by omega, by omega⟩
  have hcode := stain_code hV hBl hd (by omega)
  refine callA_false (stain_E _ _ _ S x y ink amount water hR _ ?_)
  intro V1 h4 n4 hn4 hx4 ok4 I1
  have V1o := I1.ok
  have g4s : hget h4 n1 = some (shS S) := hx4 n1 (by omega) _ (by simp only [hget]; rw [if_neg (by omega)]; exact sx)
  have g4p : hget h4 n2 = some ⟨2, cl [SV.int .i8 x, SV.int .i8 y], true, none⟩ := hx4 n2 (by omega) _ (by simp only [go_sem])
  have c41 : n1 < n4 := by omega
  have c42 : n2 < n4 := by omega
  have X4 := X3.tr hx4 (by omega)
  simp only [go_sem, Nat.reduceLT, V1o, hAo, hBo, g4s, g4p, c41, c42]
  refine callA_false (stain2C_E _ _ _ S x y ink amount water hR (by omega) (by omega) _ ?_)
  intro V2 h5 n5 hn5 hx5 ok5 I2 hC2
  have V2o := I2.ok
  have g5s : hget h5 n1 = some (shS S) := hx5 n1 (by omega) _ g4s
  have g5p : hget h5 n2 = some ⟨2, cl [SV.int .i8 x, SV.int .i8 y], true, none⟩ := hx5 n2 (by omega) _ g4p
  have c51 : n1 < n5 := by omega
  have c52 : n2 < n5 := by omega
  have X5 := X4.tr hx5 (by omega)
  have I15 : SpsOut h5 (n2 + 1) n5 V1 _ := I1.ext (by omega) hx5
  have hRin := stainR_in S x y ink amount water
  have hRl := stainR_len S x y ink amount water
  have hRst : waxB S x y = false → (stainR S x y ink amount water).1 ≠ [] := fun hw => (stain_ok hV hBl hd hw (by omega)).2 (by omega)
  generalize hRR : (stainR S x y ink amount water).1 = R at *
  generalize hcc : (stainR S x y ink amount water).2 = c at *
  simp only [go_sem, Nat.reduceLT, V1o, V2o, hAo, hBo]
  have l1 := I1.len
  have l2 := I2.len
  refine (sameSpots_Q _ _ _ V1 V2 R R _ _ I15 I2 (by omega)).A ?_
  have eRR : decide (R = R) = true := decide_eq_true rfl
  rw [eRR]
  have eft : (false == true) = false := rfl
  have etf : (true == false) = false := rfl
  simp only [go_sem, Nat.reduceLT, V1o, V2o, hAo, hBo, g5s, g5p, c51, c52, l1, l2]
  refine (a2waxed_Q _ _ _ S x y hR x0 (by omega) y0 (by omega)).A ?_
  cases hwx : waxB S x y
  rotate_left
  · rw [hwx, if_pos rfl] at hcode
    subst hcode
    simp only [go_sem, Nat.reduceLT, Int.reduceEq, V1o, V2o, hAo, hBo, eft, Bool.false_eq_true]
    exact X5
  rw [hwx, if_neg (by simp)] at hcode
  subst hcode
  simp only [go_sem, Nat.reduceLT, V1o, V2o, hAo, hBo, g5s, g5p, c51, c52, etf, Bool.false_eq_true]
  have hRR1 := hRst hwx
  have hRp : 1 ≤ R.length := by
    rcases R with _ | ⟨z, R⟩
    · exact absurd rfl hRR1
    · simp
  have S2 := I2.toSp hC2
  have hRsp : SpotsR R := allIn_R hV.1 hRin
  have hO := fo_org hV hBl hd hwx (by omega)
  have hAt := fo_at hV hBl hd hwx (by omega)
  obtain ⟨low, hlw, hlw2, hlw3, hlw4⟩ := fo_low hV hBl hd hwx (by omega)
  obtain ⟨few, hfw, hfw1, hfw2, hfw3, hfw4⟩ := fo_few hV hBl hd hwx (by omega) (by omega)
  rw [hRR] at hO hAt hlw hlw3 hlw4 hfw hfw3 hfw4
  have hOl : (orgL S ink amount water R).length ≤ 64 := by have := orgR_len S R ink amount water; rw [hO] at this; exact this
  refine callA_false (origins_E _ _ _ S hR V2 R _ S2 (by omega) ink amount water _ ?_)
  intro V3 h6 n6 hn6 hx6 ok6 I3
  have V3o := I3.ok
  have l3 := I3.len
  have g6s : hget h6 n1 = some (shS S) := hx6 n1 (by omega) _ g5s
  have g6p : hget h6 n2 = some ⟨2, cl [SV.int .i8 x, SV.int .i8 y], true, none⟩ := hx6 n2 (by omega) _ g5p
  have c61 : n1 < n6 := by omega
  have c62 : n2 < n6 := by omega
  have X6 := X5.tr hx6 (by omega)
  rw [hO] at I3 l3
  rw [hO]
  simp only [go_sem, Nat.reduceLT, V1o, V2o, V3o, hAo, hBo, g6s, g6p, c61, c62]
  refine callA_false (origins2_E _ _ _ S hR V2 R _ (S2.ext (by omega) hx6) (by omega) hRsp ink amount water _ ?_)
  intro V4 h7 n7 hn7 hx7 ok7 I4
  have V4o := I4.ok
  have l4 := I4.len
  have g7s : hget h7 n1 = some (shS S) := hx7 n1 (by omega) _ g6s
  have g7p : hget h7 n2 = some ⟨2, cl [SV.int .i8 x, SV.int .i8 y], true, none⟩ := hx7 n2 (by omega) _ g6p
  have c71 : n1 < n7 := by omega
  have c72 : n2 < n7 := by omega
  have X7 := X6.tr hx7 (by omega)
  have I37 : SpsOut h7 n5 n7 V3 _ := I3.ext (by omega) hx7
  have S27 : Sp h7 _ n7 V2 R := (S2.ext (by omega) hx6).ext (by omega) hx7
  rw [hO] at I4 l4
  rw [hO]
  simp only at I3 I37 I4 l3 l4
  generalize hOO : orgL S ink amount water R = O at *
  simp only [go_sem, Nat.reduceLT, V1o, V2o, V3o, V4o, hAo, hBo, g7s, g7p, c71, c72]
  refine (sameSpots_Q _ _ _ V3 V4 O O _ _ I37 I4 (by omega)).A ?_
  have eOO : decide (O = O) = true := decide_eq_true rfl
  rw [eOO]
  have tRp : ¬ (R.length : Int) < 1 := by omega
  simp only [go_sem, Nat.reduceLT, V1o, V2o, V3o, V4o, hAo, hBo, g7s, g7p, c71, c72, l3, l4, l2]
  refine (hasSpot_Q _ _ _ V4 O _ I4 (by omega) x y).A ?_
  rw [decide_eq_true hAt]
  simp only [go_sem, Nat.reduceLT, V1o, V2o, V3o, V4o, hAo, hBo, g7s, g7p, c71, c72, l3, l4, l2, tRp]
  refine callA_false (a2spots_E _ _ _ S W H hR hW hH (by omega) (by omega) _ fun cap hcap1 hcap2 => ?_)
  simp only [go_sem, Nat.reduceLT, V1o, V2o, V3o, V4o, hAo, hBo]
  have okM : HOk (n7 + 2) ((n7 + 1, ⟨H * W * 2, cellC W, true, some (36, cap * 2)⟩) :: (n7, ⟨266, shC S, true, none⟩) :: h7) := (ok7.consF fun k hk => shC_flat _ _).consF fun k hk => cellC_flat _ _
  have xM : HExt n7 h7 ((n7 + 1, ⟨H * W * 2, cellC W, true, some (36, cap * 2)⟩) :: (n7, ⟨266, shC S, true, none⟩) :: h7) := by simp only [go_sem, HExt_cons]
  have gM : hget ((n7 + 1, ⟨H * W * 2, cellC W, true, some (36, cap * 2)⟩) :: (n7, ⟨266, shC S, true, none⟩) :: h7) (n7 + 1) = some ⟨H * W * 2, cellC W, true, some (36, cap * 2)⟩ := by simp only [go_sem]
  generalize ((n7 + 1, (⟨H * W * 2, cellC W, true, some (36, cap * 2)⟩ : Seg)) :: (n7, ⟨266, shC S, true, none⟩) :: h7) = M at *
  have V2l : V2.lt (n7 + 2) := SV.lt_mono (by omega) _ S27.lt
  have V4l : V4.lt (n7 + 2) := by
    rcases I4 with ⟨rfl, _⟩ | ⟨j, cap', s, rfl, _, hj, _⟩
    · trivial
    · exact (show j < n7 + 2 by omega)
  have hWH : H * W ≤ 25 := Nat.mul_le_mul (show H ≤ 5 by omega) (show W ≤ 5 by omega)
  refine T_lp (ι := { w : Nat × List (Nat × Seg) × Nat // w.1 ≤ H * W ∧ HExt (n7 + 2) M w.2.1 ∧ n7 + 2 ≤ w.2.2 ∧ HOk w.2.2 w.2.1 })
    (fun w => ([(5, .ptr n1 0), (6, .ptr n2 0), (7, .int .i64 ink), (8, .int .i64 amount), (9, .int .i64 water), (12, V2), (16, V4), (18, .sl (n7 + 1) 0 (H * W) cap), (19, .int .i64 w.1.1)], w.1.2.1, w.1.2.2)) (fun w => H * W - w.1.1)
    ⟨(0, M, n7 + 2), Nat.zero_le _, HExt.rfl, Nat.le_refl _, okM⟩ ?_ ?_
  · refine Imp.id (by show n ≤ n7 + 2; omega) ?_ (impH.base0 okM (Nat.le_refl _) HExt.rfl)
    simp only [go_sem, Nat.reduceLT, V2l, V4l, V2o, V4o]
    (repeat' apply And.intro) <;> first | omega | rfl | trivial | assumption | skip
  rintro ⟨⟨q, hq, nq⟩, hqn, hxq, hnq, okq⟩
  simp only at hqn hxq hnq okq
  have gq : hget hq (n7 + 1) = some ⟨H * W * 2, cellC W, true, some (36, cap * 2)⟩ := hxq (n7 + 1) (by omega) _ gM
  have xq7 : HExt n7 h7 hq := xM.tr hxq (by omega)
  have gqs : hget hq n1 = some (shS S) := xq7 n1 (by omega) _ g7s
  have gqp : hget hq n2 = some ⟨2, cl [SV.int .i8 x, SV.int .i8 y], true, none⟩ := xq7 n2 (by omega) _ g7p
  have cq1 : n1 < nq := by omega
  have cq2 : n2 < nq := by omega
  have cq3 : n7 + 1 < nq := by omega
  have Xq := X7.tr xq7 (by omega)
  simp only [go_sem, Nat.reduceLT, V2o, V4o, decide_eq_true_eq, decide_eq_false_iff_not]
  refine ⟨fun hlt => ?_, fun hlt => ?_⟩
  · have hqlt : q < H * W := by omega
    have b1 : (0 : Int) ≤ q ∧ (q : Int) < ((H * W : Nat) : Int) := ⟨by omega, hlt⟩
    have b2 : q * 2 ≤ H * W * 2 - 2 := by omega
    have b3 : 2 ≤ H * W * 2 := by omega
    obtain ⟨u0, u8, v0, v8⟩ := cell_in hV.1 hW hH hqlt
    refine T_drawG hti 14 [] (.b 0 0 (.b 0 1 (.b 0 2 (.b 0 3 (.b 0 4 (.b 0 5 (.b 0 6 (.b 0 7 (.b 2 8 (.b 0 9 (.b 0 10 (.b 0 11 (.b 0 12 (.b 0 13 (.f) .o) .o) .o) .o) .o) .o) .o) .o) .o) .o) .o) .o) .o) .o) _ _ (by kernel_rfl) (by kernel_rfl) ?_
    simp only [go_sem, Nat.reduceLT, V2o, V4o, gqs, gqp, gq, cq1, cq2, cq3, b1, b2, b3, cellC_x, cellC_y]
    refine ⟨by omega, ?_⟩
    generalize hpx : ((q % W : Nat) : Int) = px at *
    generalize hpy : ((q / W : Nat) : Int) = py at *
    have hmem : (px, py) ∈ cellsL S.wide.toNat S.high.toNat := by rw [hWn, hHn, ← hpx, ← hpy]; exact List.mem_map.2 ⟨q, List.mem_range.2 hqlt, rfl⟩
    refine callA_false (stain_E _ _ _ S px py ink amount water hR _ ?_)
    intro V5 h8 n8 hn8 hx8 ok8 I5
    have V5o := I5.ok
    have l5 := I5.len
    have g8q : hget h8 (n7 + 1) = some ⟨H * W * 2, cellC W, true, some (36, cap * 2)⟩ := hx8 (n7 + 1) (by omega) _ gq
    have c83 : n7 + 1 < n8 := by omega
    have x78 : HExt n7 h7 h8 := xq7.tr hx8 (by omega)
    have I48 : SpsOut h8 n6 n8 V4 O := I4.ext (by omega) x78
    have S28 : Sp h8 _ n8 V2 R := S27.ext (by omega) x78
    have X8 := Xq.tr hx8 (by omega)
    have xM8 : HExt (n7 + 2) M h8 := hxq.tr hx8 (by omega)
    have hmm : decide ((px, py) ∈ O) = mkB S px py ink amount water R := by
      rw [← hOO]; unfold orgL
      rw [Bool.eq_iff_iff, decide_eq_true_eq, List.mem_filter]
      exact ⟨fun h => h.2, fun h => ⟨hmem, h⟩⟩
    have hR5l := stainR_len S px py ink amount water
    unfold mkB at hmm
    generalize (stainR S px py ink amount water).1 = R5 at *
    generalize (stainR S px py ink amount water).2 = c5 at *
    simp only [go_sem, Nat.reduceLT, V2o, V4o, V5o]
    refine ⟨⟨by omega, hx8⟩, ?_⟩
    have V2l8 : V2.lt n8 := SV.lt_mono (by omega) _ V2l
    have V4l8 : V4.lt n8 := SV.lt_mono (by omega) _ V4l
    by_cases hc5 : c5 = 0
    · by_cases hl5 : (R5.length : Int) = R.length
      · simp only [go_sem, Nat.reduceLT, reduceCtorEq, V2o, V4o, V5o, hc5, l5, l2, hl5]
        refine (sameSpots_Q _ _ _ V5 V2 R5 R _ _ I5 S28.out (by omega)).A ?_
        simp only [go_sem, Nat.reduceLT, V2o, V4o, V5o, g8q, c83, b1, b2, b3, cellC_x, cellC_y, hpx, hpy]
        refine ⟨by omega, (hasSpot_Q _ _ _ V4 O _ I48 (by omega) px py).A ?_⟩
        rw [hmm]
        have e5 : decide (R5 = R) = decide (c5 = 0 ∧ R5 = R) := by rw [decide_eq_decide]; exact ⟨fun h => ⟨hc5, h⟩, fun h => h.2⟩
        rw [e5]
        simp only [go_sem, Nat.reduceLT, V2o, V4o, V5o, beq_self_eq_true, Bool.not_true, Bool.false_eq_true]
        refine ⟨⟨(q + 1, h8, n8), by show q + 1 ≤ H * W; omega, xM8, by show n7 + 2 ≤ n8; omega, ok8⟩, by show H * W - (q + 1) < H * W - q; omega, ?_⟩
        refine Imp.id (by show n ≤ n8; omega) ?_ (impH.base0 ok8 (Nat.le_refl _) HExt.rfl)
        simp only [go_sem, Nat.reduceLT, V2l8, V4l8, V2o, V4o, w64 (n := (q : Int) + 1) (by omega), Int.natCast_add, Int.natCast_one]
        (repeat' apply And.intro) <;> first | omega | rfl | trivial | assumption | skip
      · simp only [go_sem, Nat.reduceLT, reduceCtorEq, V2o, V4o, V5o, hc5, l5, l2, hl5, g8q, c83, b1, b2, b3, cellC_x, cellC_y, hpx, hpy]
        refine ⟨by omega, (hasSpot_Q _ _ _ V4 O _ I48 (by omega) px py).A ?_⟩
        have e5 : decide (c5 = 0 ∧ R5 = R) = false := decide_eq_false fun h => hl5 (by rw [h.2])
        rw [hmm, e5]
        simp only [go_sem, Nat.reduceLT, V2o, V4o, V5o, beq_self_eq_true, Bool.not_true, Bool.false_eq_true]
        refine ⟨⟨(q + 1, h8, n8), by show q + 1 ≤ H * W; omega, xM8, by show n7 + 2 ≤ n8; omega, ok8⟩, by show H * W - (q + 1) < H * W - q; omega, ?_⟩
        refine Imp.id (by show n ≤ n8; omega) ?_ (impH.base0 ok8 (Nat.le_refl _) HExt.rfl)
        simp only [go_sem, Nat.reduceLT, V2l8, V4l8, V2o, V4o, w64 (n := (q : Int) + 1) (by omega), Int.natCast_add, Int.natCast_one]
        (repeat' apply And.intro) <;> first | omega | rfl | trivial | assumption | skip
    · simp only [go_sem, Nat.reduceLT, V2o, V4o, V5o, hc5, l5, l2, g8q, c83, b1, b2, b3, cellC_x, cellC_y, hpx, hpy]
      refine ⟨by omega, (hasSpot_Q _ _ _ V4 O _ I48 (by omega) px py).A ?_⟩
      have e5 : decide (c5 = 0 ∧ R5 = R) = false := decide_eq_false fun h => hc5 h.1
      rw [hmm, e5]
      simp only [go_sem, Nat.reduceLT, V2o, V4o, V5o, beq_self_eq_true, Bool.not_true, Bool.false_eq_true]
      refine ⟨⟨(q + 1, h8, n8), by show q + 1 ≤ H * W; omega, xM8, by show n7 + 2 ≤ n8; omega, ok8⟩, by show H * W - (q + 1) < H * W - q; omega, ?_⟩
      refine Imp.id (by show n ≤ n8; omega) ?_ (impH.base0 ok8 (Nat.le_refl _) HExt.rfl)
      simp only [go_sem, Nat.reduceLT, V2l8, V4l8, V2o, V4o, w64 (n := (q : Int) + 1) (by omega), Int.natCast_add, Int.natCast_one]
      (repeat' apply And.intro) <;> first | omega | rfl | trivial | assumption | skip
  simp only [go_sem, Nat.reduceLT, gqs, gqp, cq1, cq2, V2o, V4o]
  have S2q : Sp hq _ nq V2 R := S27.ext (by omega) xq7
  refine (lw_Q _ _ _ S hR x y (by omega) (by omega) ink amount V2 R _ S2q (by omega) hRsp).A ?_
  rw [hlw]
  simp only [go_sem, Nat.reduceLT, gqs, gqp, cq1, cq2, V2o, V4o]
  refine (lw2_Q _ _ _ S hR x y (by omega) (by omega) ink amount V2 R _ S2q (by omega) hRsp).A ?_
  rw [hlw]
  simp only [go_sem, Nat.reduceLT, gqs, gqp, cq1, cq2, V2o, V4o]
  refine (ld_Q _ _ _ S hR x y (by omega) (by omega) ink water V2 R _ S2q (by omega) hRsp).A ?_
  rw [hfw]
  simp only [go_sem, Nat.reduceLT, gqs, gqp, cq1, cq2, V2o, V4o]
  refine (ld2_Q _ _ _ S hR x y (by omega) (by omega) ink water V2 R _ S2q (by omega) hRsp).A ?_
  rw [hfw]
  have t1 : ¬ (low : Int) < 0 := by omega
  have t2 : ¬ water < (low : Int) := by omega
  have t3 : ¬ (few : Int) < 1 := by omega
  have t4 : ¬ amount < (few : Int) := by omega
  simp only [go_sem, Nat.reduceLT, gqs, gqp, cq1, cq2, V2o, V4o, t1, t2, t3, t4]
  refine callA_false (stain_E _ _ _ S x y ink amount (low : Int) hR _ ?_)
  intro Va aa za hza hxaa okaa Ja
  have Vao := Ja.ok
  have ma := Ja.len
  have gsa : hget aa n1 = some (shS S) := hxaa n1 (by omega) _ gqs
  have gpa : hget aa n2 = some ⟨2, cl [SV.int .i8 x, SV.int .i8 y], true, none⟩ := hxaa n2 (by omega) _ gqp
  have csa : n1 < za := by omega
  have cpa : n2 < za := by omega
  have Ya := Xq.tr hxaa (by omega)
  have Pa : Sp aa _ za V2 R := S2q.ext (by omega) hxaa
  obtain ⟨ea1, ea2⟩ := mkB_iff.1 hlw3
  rw [ea2] at Ja ma
  rw [ea1]
  simp only [go_sem, Nat.reduceLT, gsa, gpa, csa, cpa, V2o, Vao]
  refine callA_false (stain_E _ _ _ S x y ink (few : Int) water hR _ ?_)
  intro Vb ab zb hzb hxab okab Jb
  have Vbo := Jb.ok
  have mb := Jb.len
  have gsb : hget ab n1 = some (shS S) := hxab n1 (by omega) _ gsa
  have gpb : hget ab n2 = some ⟨2, cl [SV.int .i8 x, SV.int .i8 y], true, none⟩ := hxab n2 (by omega) _ gpa
  have csb : n1 < zb := by omega
  have cpb : n2 < zb := by omega
  have Yb := Ya.tr hxab (by omega)
  have Pb : Sp ab _ zb V2 R := Pa.ext (by omega) hxab
  obtain ⟨eb1, eb2⟩ := mkB_iff.1 hfw3
  rw [eb2] at Jb mb
  rw [eb1]
  simp only [go_sem, Nat.reduceLT, V2o, Vao, Vbo, ma, mb, l2]
  refine (sameSpots_Q _ _ _ Va V2 R R _ _ (Ja.ext (by omega) hxab) Pb.out (by omega)).A ?_
  rw [eRR]
  simp only [go_sem, Nat.reduceLT, V2o, Vao, Vbo, ma, mb, l2]
  refine (sameSpots_Q _ _ _ Vb V2 R R _ _ Jb Pb.out (by omega)).A ?_
  rw [eRR]
  simp only [go_sem, Nat.reduceLT, V2o, Vao, Vbo, ma, mb, l2, decide_eq_true_eq, decide_eq_false_iff_not]
  refine ⟨fun hl1 => ?_, fun hl1 => ?_⟩
  rotate_left
  · refine ⟨fun hf1 => ?_, fun hf1 => Yb⟩
    have lf : IntKind.i64.wrap ((few : Int) - 1) = ((few - 1 : Nat) : Int) := by rw [w64 (by omega)]; omega
    have hdl : dropB S x y ink ((few - 1 : Nat) : Int) water = true := dropB_iff.2 ⟨hh, by omega, by omega, by omega⟩
    have hne := hfw4 (few - 1) (by omega) (by omega)
    simp only [go_sem, Nat.reduceLT, V2o, Vao, Vbo, gsb, gpb, csb, cpb, lf]
    refine callA_false (stain_E _ _ _ S x y ink ((few - 1 : Nat) : Int) water hR _ ?_)
    intro Vd ad zd hzd hxad okad Jd
    have Vdo := Jd.ok
    have md := Jd.len
    have gsd : hget ad n1 = some (shS S) := hxad n1 (by omega) _ gsb
    have gpd : hget ad n2 = some ⟨2, cl [SV.int .i8 x, SV.int .i8 y], true, none⟩ := hxad n2 (by omega) _ gpb
    have csd : n1 < zd := by omega
    have cpd : n2 < zd := by omega
    have Yd := Yb.tr hxad (by omega)
    have Pd : Sp ad _ zd V2 R := Pb.ext (by omega) hxad
    have hcd := stain_code hV hBl hdl (by omega)
    rw [hwx, if_neg (by simp)] at hcd
    unfold mkB at hne
    rw [hcd] at hne ⊢
    generalize (stainR S x y ink ((few - 1 : Nat) : Int) water).1 = Qd at *
    have hne' : ¬ Qd = R := fun e => by rw [e] at hne; simp at hne
    by_cases hle : (Qd.length : Int) = R.length
    · simp only [go_sem, Nat.reduceLT, V2o, Vdo, md, l2, hle]
      refine (sameSpots_Q _ _ _ Vd V2 Qd R _ _ Jd Pd.out (by omega)).A ?_
      rw [decide_eq_false hne']
      simp only [go_sem, Nat.reduceLT, V2o, Vdo]
      exact Yd
    · simp only [go_sem, Nat.reduceLT, V2o, Vdo, md, l2, hle]
      exact Yd
  have lw : IntKind.i64.wrap ((low : Int) - 1) = ((low - 1 : Nat) : Int) := by rw [w64 (by omega)]; omega
  have hdl : dropB S x y ink amount ((low - 1 : Nat) : Int) = true := dropB_iff.2 ⟨hh, by omega, by omega, by omega⟩
  have hne := hlw4 (low - 1) (by omega)
  simp only [go_sem, Nat.reduceLT, V2o, Vao, Vbo, gsb, gpb, csb, cpb, lw]
  refine callA_false (stain_E _ _ _ S x y ink amount ((low - 1 : Nat) : Int) hR _ ?_)
  intro Vc ac zc hzc hxac okac Jc
  have Vco := Jc.ok
  have mc := Jc.len
  have gsc : hget ac n1 = some (shS S) := hxac n1 (by omega) _ gsb
  have gpc : hget ac n2 = some ⟨2, cl [SV.int .i8 x, SV.int .i8 y], true, none⟩ := hxac n2 (by omega) _ gpb
  have csc : n1 < zc := by omega
  have cpc : n2 < zc := by omega
  have Yc := Yb.tr hxac (by omega)
  have Pc : Sp ac _ zc V2 R := Pb.ext (by omega) hxac
  have hcc := stain_code hV hBl hdl (by omega)
  rw [hwx, if_neg (by simp)] at hcc
  unfold mkB at hne
  rw [hcc] at hne ⊢
  generalize (stainR S x y ink amount ((low - 1 : Nat) : Int)).1 = Qc at *
  have hne' : ¬ Qc = R := fun e => by rw [e] at hne; simp at hne
  by_cases hle : (Qc.length : Int) = R.length
  · simp only [go_sem, Nat.reduceLT, V2o, Vco, mc, l2, hle]
    refine (sameSpots_Q _ _ _ Vc V2 Qc R _ _ Jc Pc.out (by omega)).A ?_
    rw [decide_eq_false hne']
    simp only [go_sem, Nat.reduceLT, V2o, Vco, decide_eq_true_eq, decide_eq_false_iff_not]
    refine ⟨fun hf1 => ?_, fun hf1 => Yc⟩
    have lf : IntKind.i64.wrap ((few : Int) - 1) = ((few - 1 : Nat) : Int) := by rw [w64 (by omega)]; omega
    have hdl : dropB S x y ink ((few - 1 : Nat) : Int) water = true := dropB_iff.2 ⟨hh, by omega, by omega, by omega⟩
    have hne := hfw4 (few - 1) (by omega) (by omega)
    simp only [go_sem, Nat.reduceLT, V2o, Vao, Vbo, gsc, gpc, csc, cpc, lf]
    refine callA_false (stain_E _ _ _ S x y ink ((few - 1 : Nat) : Int) water hR _ ?_)
    intro Vd ad zd hzd hxad okad Jd
    have Vdo := Jd.ok
    have md := Jd.len
    have gsd : hget ad n1 = some (shS S) := hxad n1 (by omega) _ gsc
    have gpd : hget ad n2 = some ⟨2, cl [SV.int .i8 x, SV.int .i8 y], true, none⟩ := hxad n2 (by omega) _ gpc
    have csd : n1 < zd := by omega
    have cpd : n2 < zd := by omega
    have Yd := Yc.tr hxad (by omega)
    have Pd : Sp ad _ zd V2 R := Pc.ext (by omega) hxad
    have hcd := stain_code hV hBl hdl (by omega)
    rw [hwx, if_neg (by simp)] at hcd
    unfold mkB at hne
    rw [hcd] at hne ⊢
    generalize (stainR S x y ink ((few - 1 : Nat) : Int) water).1 = Qd at *
    have hne' : ¬ Qd = R := fun e => by rw [e] at hne; simp at hne
    by_cases hle : (Qd.length : Int) = R.length
    · simp only [go_sem, Nat.reduceLT, V2o, Vdo, md, l2, hle]
      refine (sameSpots_Q _ _ _ Vd V2 Qd R _ _ Jd Pd.out (by omega)).A ?_
      rw [decide_eq_false hne']
      simp only [go_sem, Nat.reduceLT, V2o, Vdo]
      exact Yd
    · simp only [go_sem, Nat.reduceLT, V2o, Vdo, md, l2, hle]
      exact Yd
  · simp only [go_sem, Nat.reduceLT, V2o, Vco, mc, l2, hle, decide_eq_true_eq, decide_eq_false_iff_not]
    refine ⟨fun hf1 => ?_, fun hf1 => Yc⟩
    have lf : IntKind.i64.wrap ((few : Int) - 1) = ((few - 1 : Nat) : Int) := by rw [w64 (by omega)]; omega
    have hdl : dropB S x y ink ((few - 1 : Nat) : Int) water = true := dropB_iff.2 ⟨hh, by omega, by omega, by omega⟩
    have hne := hfw4 (few - 1) (by omega) (by omega)
    simp only [go_sem, Nat.reduceLT, V2o, Vao, Vbo, gsc, gpc, csc, cpc, lf]
    refine callA_false (stain_E _ _ _ S x y ink ((few - 1 : Nat) : Int) water hR _ ?_)
    intro Vd ad zd hzd hxad okad Jd
    have Vdo := Jd.ok
    have md := Jd.len
    have gsd : hget ad n1 = some (shS S) := hxad n1 (by omega) _ gsc
    have gpd : hget ad n2 = some ⟨2, cl [SV.int .i8 x, SV.int .i8 y], true, none⟩ := hxad n2 (by omega) _ gpc
    have csd : n1 < zd := by omega
    have cpd : n2 < zd := by omega
    have Yd := Yc.tr hxad (by omega)
    have Pd : Sp ad _ zd V2 R := Pc.ext (by omega) hxad
    have hcd := stain_code hV hBl hdl (by omega)
    rw [hwx, if_neg (by simp)] at hcd
    unfold mkB at hne
    rw [hcd] at hne ⊢
    generalize (stainR S x y ink ((few - 1 : Nat) : Int) water).1 = Qd at *
    have hne' : ¬ Qd = R := fun e => by rw [e] at hne; simp at hne
    by_cases hle : (Qd.length : Int) = R.length
    · simp only [go_sem, Nat.reduceLT, V2o, Vdo, md, l2, hle]
      refine (sameSpots_Q _ _ _ Vd V2 Qd R _ _ Jd Pd.out (by omega)).A ?_
      rw [decide_eq_false hne']
      simp only [go_sem, Nat.reduceLT, V2o, Vdo]
      exact Yd
    · simp only [go_sem, Nat.reduceLT, V2o, Vdo, md, l2, hle]
      exact Yd
end
end Go.Proofs.YtggpnfgohpifoaaGreat.V
