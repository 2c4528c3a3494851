/- Part 3 of the texts that this proof stands on: a symbolic walk over the program, what its functions and the reference's do, plain laws. -/
import Derived.Test.YtggpnfgohpifoaaZfra
import Derived.Test.YtggpnfgohpifoaaV17
import Derived.Test.YtggpnfgohpifoaaZfrb
import Derived.Sort.Walk13a
set_option linter.all false

/- The law's spots, and lists of spots that are alike. -/
namespace Go.Proofs.Ytggpnfgohpifoaa.V
section
variable (cx : Cx) (h : List (Nat × Seg)) (n : Nat)
end
end Go.Proofs.Ytggpnfgohpifoaa.V

/- The law's lists of spots that were made: compared, marked, looked at again. -/
namespace Go.Proofs.Ytggpnfgohpifoaa.V
/-- A list of spots that a call has made. -/
def SpsOut (h : List (Nat × Seg)) (lo n : Nat) (V : SV) (L : List (Int × Int)) : Prop :=
  (V = .nils ∧ L = []) ∨ ∃ i cap s, V = .sl i 0 L.length cap ∧ lo ≤ i ∧ i < n ∧ hget h i = some s ∧ s.rw = true ∧ s.n = L.length * 2 ∧ ∀ k, k < L.length * 2 → s.c k = spotsC L k
theorem SpsOut.ok {h : List (Nat × Seg)} {lo n : Nat} {V : SV} {L : List (Int × Int)} (hA : SpsOut h lo n V L) : V.ok = True := by
  rcases hA with ⟨rfl, rfl⟩ | ⟨i, cap, s, rfl, _⟩ <;> rfl
theorem SpsOut.mono {h h' : List (Nat × Seg)} {lo n n' : Nat} {V : SV} {L : List (Int × Int)} (hA : SpsOut h lo n V L) (hn : n ≤ n') (hx : ∀ i, lo ≤ i → i < n → ∀ t, hget h i = some t → hget h' i = some t) : SpsOut h' lo n' V L := by
  rcases hA with h1 | ⟨i, cap, s, rfl, h1, h2, h3, h4⟩
  · exact .inl h1
  · exact .inr ⟨i, cap, s, rfl, h1, by omega, hx i h1 h2 s h3, h4⟩
theorem SpsOut.ext {h h' : List (Nat × Seg)} {lo n n' : Nat} {V : SV} {L : List (Int × Int)} (hA : SpsOut h lo n V L) (hn : n ≤ n') (hx : HExt n h h') : SpsOut h' lo n' V L := hA.mono hn fun i _ hi => hx i hi
/-- Spots that were marked. -/
def SpsHeld (h : List (Nat × Seg)) (lo n : Nat) (V : SV) (len : Nat) : Prop :=
  (V = .nils ∧ len = 0) ∨ ∃ i cap s, V = .sl i 0 len cap ∧ lo ≤ i ∧ i < n ∧ hget h i = some s ∧ s.n = len * 2 ∧ ∀ k : Nat, k < len → s.c (k * 2) = .int .i8 (IntKind.i8.wrap (2 * (k : Int) + 1)) ∧ s.c (k * 2 + 1) = .int .i8 (IntKind.i8.wrap (2 * (k : Int) + 1 + 1))
theorem SpsHeld.ext {h h' : List (Nat × Seg)} {lo n n' : Nat} {V : SV} {len : Nat} (hA : SpsHeld h lo n V len) (hn : n ≤ n') (hx : HExt n h h') : SpsHeld h' lo n' V len := by
  rcases hA with h1 | ⟨i, cap, s, rfl, h1, h2, h3, h4⟩
  · exact .inl h1
  · exact .inr ⟨i, cap, s, rfl, h1, by omega, hx i h2 s h3, h4⟩
section
variable (cx : Cx) (h : List (Nat × Seg)) (n : Nat)
end
end Go.Proofs.Ytggpnfgohpifoaa.V

/- What is stained: the program's own walk. -/
namespace Go.Proofs.Ytggpnfgohpifoaa.V

section
variable (cx : Cx) (h : List (Nat × Seg)) (n : Nat)
theorem runC_E (i : Nat) (S : Sh) (W H : Nat) (hs : hget h i = some (shS S)) (hi : i < n) (hR : ShR S) (hG : Good S) (hW : S.wide = W) (hH : S.high = H) (K : HK)
    (hK : ShR (runS S W H).1 → K (.int .i64 (runS S W H).2) (hset h i (shS (runS S W H).1)) n) : CallE Try.prog cx 27 [.ptr i 0] h n K := by
  refine (run_E cx h n i 0 (shS S) S W H hs hi rfl (shAt_shC hR) hG hW hH (fun r' h' n' => r' = .int .i64 (runS S W H).2 ∧ n' = n ∧ ∃ c', ShAt ⟨266, c', true, none⟩ 0 (runS S W H).1 ∧ h' = hset h i ⟨266, c', true, none⟩) (fun c' hc' _ => ⟨rfl, rfl, c', hc', rfl⟩)).imp0 ?_
  rintro hok r' h1 n1 ⟨rfl, rfl, c', hS, rfl⟩
  have hF : ShF c' (runS S W H).1 := by simpa using hS.2
  exact ⟨_, hset h i (shS (runS S W H).1), n1, Nat.le_refl _, by rw [ren_nil], (show (SV.int .i64 (runS S W H).2).lt n1 from trivial), impH.set0 hok (Nat.le_refl _) hs (HBut.set i n1 h _) (hget_hset_self hs _) (SegLe.flat (Nat.le_refl _) id (.inr rfl) fun k hk => ⟨hF.eqC hk, shC_flat _ k⟩), hK hF.R⟩
theorem runUntil_E (i : Nat) (S : Sh) (W H : Nat) (hs : hget h i = some (shS S)) (hi : i < n) (hR : ShR S) (hG : Good S) (hW : S.wide = W) (hH : S.high = H) (K : HK)
    (hK : K (.tup 2 (cl [.int .i64 (untilN W H 500 0 S).2.1, .int .i64 (if (untilN W H 500 0 S).2.2 then 0 else 7)])) (hset h i (shS (untilN W H 500 0 S).1)) n) : CallE Try.prog cx 30 [.ptr i 0] h n K := by
  refine CallE.to _ _ (by simp only [go_sem]) (fun hok => hok_set hok fun k hk => shC_flat _ _) hK ?_
  refine callE_of_T (P := Try.prog) hti (nt := 13) (rs := [.tmp 2, .tmp 3]) rfl rfl Try.call30 Try.func30 rfl _ (by simp only [go_sem, and_self]) (Nat.le_of_ble_eq_true rfl) _ fun hok => ?_
  simp only [go_sem, Nat.reduceLT]
  refine T_lp (ι := { p : Nat × Sh // p.1 ≤ 500 ∧ ShR p.2 ∧ Good p.2 ∧ p.2.wide = W ∧ p.2.high = H ∧ untilN W H (500 - p.1) p.1 p.2 = untilN W H 500 0 S })
    (fun p => ([(0, .ptr i 0), (4, .int .i64 p.1.1)], hset h i (shS p.1.2), n)) (fun p => 500 - p.1.1) ⟨(0, S), by simp, hR, hG, hW, hH, rfl⟩ ?_ ?_
  · refine Imp.id (by simp) ?_ ?_
    · simp only [go_sem, Nat.reduceLT]
      exact hi
    · rw [hset_self hs]; exact impH.base0 hok (by simp) HExt.rfl
  · rintro ⟨⟨k, S1⟩, hk, hR1, hG1, hW1, hH1, he⟩
    simp only at hk hR1 hG1 hW1 hH1 he
    simp only [go_sem, Nat.reduceLT]
    refine callA_false (runC_E _ _ _ i S1 W H (hget_hset_self hs _) (by omega) hR1 hG1 hW1 hH1 _ fun hR2 => ?_)
    obtain ⟨g1, g2, g3, g4⟩ := runS_good hG1 hW1 hH1
    by_cases h0 : (runS S1 W H).2 = 0
    · rw [untilN_stop h0] at he
      have hst := runS_still h0
      simp only [go_sem, Nat.reduceLT, h0, ← he, hst, if_true]
    · by_cases h5 : k = 500
      · subst h5
        rw [Nat.sub_self, untilN_end h0] at he
        simp only [go_sem, Nat.reduceLT, Nat.reduceSub, reduceIte, h0, ← he]
      · have hk5 : ¬ ((k : Int) = 500) := by omega
        rw [show 500 - k = (500 - (k + 1)) + 1 by omega, untilN_next h0] at he
        simp only [go_sem, Nat.reduceLT, h0, hk5]
        refine ⟨⟨(k + 1, (runS S1 W H).1), by show k + 1 ≤ 500; omega, hR2, g1, g2.wide.trans hW1, g2.high.trans hH1, he⟩, by show 500 - (k + 1) < 500 - k; omega, ?_⟩
        refine Imp.id (by simp) ?_ ?_
        · simp only [go_sem, Nat.reduceLT, w64 (n := (k : Int) + 1) (by omega), Int.natCast_add, Int.natCast_one]
          exact hi
        · exact impH.base0 (hok_set hok fun k hk => shC_flat _ _) (by simp) HExt.rfl
end
end Go.Proofs.Ytggpnfgohpifoaa.V

/- StainOf by the program's own code: the walk. -/
namespace Go.Proofs.Ytggpnfgohpifoaa.V
section
variable (cx : Cx) (h : List (Nat × Seg)) (n : Nat)
theorem codeI_bad {S : Sh} {b : Bool} (h : ¬ Valid S) : codeI S b = 1 := by simp [codeI, validB_false h]
theorem codeI_ok {S : Sh} {b : Bool} (h : Valid S) : codeI S b = if b then 0 else 2 := by simp [codeI, validB_true h]
def dropB (S : Sh) (x y ink amount water : Int) : Bool := hasB S x y && decide (0 ≤ ink ∧ ink ≤ 2) && decide (0 ≤ amount ∧ amount ≤ 1000) && decide (0 ≤ water ∧ water ≤ 200)
end
end Go.Proofs.Ytggpnfgohpifoaa.V

/- Plain laws of running: water and dye are kept, the squares of the water fall, so running stops. -/
namespace Go.Proofs.Ytggpnfgohpifoaa.V
theorem sumN_two {f g : Nat → Int} {n a b : Nat} (ha : a < n) (hb : b < n) (hab : a ≠ b) (h : ∀ k, k < n → k ≠ a → k ≠ b → g k = f k) : sumN g n = sumN f n + (g a - f a) + (g b - f b) := by
  induction n with
  | zero => omega
  | succ n ih =>
    simp only [sumN]
    by_cases h1 : a = n
    · subst h1
      have hb' : b < a := by omega
      have e : ∀ m, b < m → m ≤ a → sumN g m = sumN f m + (g b - f b) := by
        intro m
        induction m with
        | zero => omega
        | succ m im =>
          intro hbm hma
          simp only [sumN]
          by_cases h2 : b = m
          · subst h2
            have : sumN g b = sumN f b := sumN_congr fun k hk => h k (by omega) (by omega) (by omega)
            omega
          · have := im (by omega) (by omega)
            have := h m (by omega) (by omega) (by omega)
            omega
      have := e a hb' (Nat.le_refl _)
      omega
    · by_cases h2 : b = n
      · subst h2
        have ha' : a < b := by omega
        have e : ∀ m, a < m → m ≤ b → sumN g m = sumN f m + (g a - f a) := by
          intro m
          induction m with
          | zero => omega
          | succ m im =>
            intro hbm hma
            simp only [sumN]
            by_cases h3 : a = m
            · subst h3
              have : sumN g a = sumN f a := sumN_congr fun k hk => h k (by omega) (by omega) (by omega)
              omega
            · have := im (by omega) (by omega)
              have := h m (by omega) (by omega) (by omega)
              omega
        have := e b ha' (Nat.le_refl _)
        omega
      · have := ih (by omega) (by omega) fun k hk => h k (by omega)
        have := h n (by omega) (Ne.symm h1) (Ne.symm h2)
        omega
/-- A sum over all places of what stands there. -/
def allS (f : Int → Int → Int) : Int := sumN (fun k => f ((k / 8 : Nat) : Int) ((k % 8 : Nat) : Int)) 64
theorem allS_two {f g : Int → Int → Int} {fx fy tx ty : Int} (hfx : 0 ≤ fx) (hfx8 : fx < 8) (hfy : 0 ≤ fy) (hfy8 : fy < 8) (htx : 0 ≤ tx) (htx8 : tx < 8) (hty : 0 ≤ ty) (hty8 : ty < 8) (hne : ¬ (ty = fy ∧ tx = fx))
    (h : ∀ y x, ¬ (y = fy ∧ x = fx) → ¬ (y = ty ∧ x = tx) → g y x = f y x) : allS g = allS f + (g fy fx - f fy fx) + (g ty tx - f ty tx) := by
  unfold allS
  have i1 : (((fy.toNat * 8 + fx.toNat) / 8 : Nat) : Int) = fy ∧ (((fy.toNat * 8 + fx.toNat) % 8 : Nat) : Int) = fx := by omega
  have i2 : (((ty.toNat * 8 + tx.toNat) / 8 : Nat) : Int) = ty ∧ (((ty.toNat * 8 + tx.toNat) % 8 : Nat) : Int) = tx := by omega
  have key := sumN_two (f := fun k => f ((k / 8 : Nat) : Int) ((k % 8 : Nat) : Int)) (g := fun k => g ((k / 8 : Nat) : Int) ((k % 8 : Nat) : Int)) (n := 64) (a := fy.toNat * 8 + fx.toNat) (b := ty.toNat * 8 + tx.toNat) (by omega) (by omega) (by omega) fun k hk h1 h2 => h _ _ (by omega) (by omega)
  simp only [i1.1, i1.2, i2.1, i2.2] at key
  exact key
def watS (S : Sh) : Int := allS S.wet
def sqS (S : Sh) : Int := allS fun y x => S.wet y x * S.wet y x
def dyeS (S : Sh) (i : Int) : Int := allS fun y x => S.dye y x i
section
variable {S : Sh} {fx fy tx ty : Int} (hG : Good S) (hfx : 0 ≤ fx) (hfx8 : fx < 8) (hfy : 0 ≤ fy) (hfy8 : fy < 8) (htx : 0 ≤ tx) (htx8 : tx < 8) (hty : 0 ≤ ty) (hty8 : ty < 8) (h2 : 2 ≤ S.wet fy fx - S.wet ty tx)
include hG hfx hfx8 hfy hfy8 htx htx8 hty hty8 h2
theorem giveS_kept : watS (giveS S fx fy tx ty) = watS S ∧ sqS (giveS S fx fy tx ty) + 2 ≤ sqS S := by
  have hne : ¬ (ty = fy ∧ tx = fx) := fun ⟨h1, h3⟩ => by subst h1; subst h3; omega
  have hne' : ¬ (fy = ty ∧ fx = tx) := fun ⟨h1, h3⟩ => hne ⟨h1.symm, h3.symm⟩
  have hw := giveS_wet hG hfx hfx8 hfy hfy8 htx htx8 hty hty8 h2
  have w1 : (giveS S fx fy tx ty).wet fy fx = S.wet fy fx - 1 := by rw [hw, if_neg hne', if_pos ⟨rfl, rfl⟩]
  have w2 : (giveS S fx fy tx ty).wet ty tx = S.wet ty tx + 1 := by rw [hw, if_pos ⟨rfl, rfl⟩]
  have w3 : ∀ y x, ¬ (y = fy ∧ x = fx) → ¬ (y = ty ∧ x = tx) → (giveS S fx fy tx ty).wet y x = S.wet y x := fun y x h1 h2 => by rw [hw, if_neg h2, if_neg h1]
  constructor
  · have := allS_two hfx hfx8 hfy hfy8 htx htx8 hty hty8 hne w3
    unfold watS
    rw [this, w1, w2]; omega
  · have := allS_two (f := fun y x => S.wet y x * S.wet y x) (g := fun y x => (giveS S fx fy tx ty).wet y x * (giveS S fx fy tx ty).wet y x) hfx hfx8 hfy hfy8 htx htx8 hty hty8 hne (fun y x h1 h2 => by rw [w3 y x h1 h2])
    unfold sqS
    rw [this, w1, w2]
    generalize S.wet fy fx = a at *
    generalize S.wet ty tx = b at *
    have e1 : (a - 1) * (a - 1) - a * a = 1 - 2 * a := by rw [Int.sub_mul, Int.mul_sub]; omega
    have e2 : (b + 1) * (b + 1) - b * b = 1 + 2 * b := by rw [Int.add_mul, Int.mul_add]; omega
    rw [e1, e2]
    omega
theorem giveN_dye {w : Int} (hw : 0 < w) (hne : ¬ (ty = fy ∧ tx = fx)) (i : Int) : ∀ k, k ≤ 3 → dyeS (giveN w S fx fy tx ty k) i = dyeS S i
  | 0, _ => rfl
  | k + 1, hk => by
    have ih := giveN_dye hw hne i k (by omega)
    have hD := giveN_in hw hfx hfx8 hfy hfy8 htx htx8 hty hty8 hne (S := S) hG.dye (k := k) (by omega)
    rw [← ih]
    have hd := giveInk_dye hw hfx hfx8 hfy hfy8 htx htx8 hty hty8 hne hD (k := k) (by omega)
    show dyeS (giveInk w (giveN w S fx fy tx ty k) fx fy tx ty k) i = _
    unfold dyeS
    have hne' : ¬ (fy = ty ∧ fx = tx) := fun ⟨h1, h3⟩ => hne ⟨h1.symm, h3.symm⟩
    rw [allS_two (f := fun y x => (giveN w S fx fy tx ty k).dye y x i) (g := fun y x => (giveInk w (giveN w S fx fy tx ty k) fx fy tx ty k).dye y x i) hfx hfx8 hfy hfy8 htx htx8 hty hty8 hne (fun y x h1 h2 => by
      rw [hd, if_neg fun h => h2 ⟨h.1, h.2.1⟩, if_neg fun h => h1 ⟨h.1, h.2.1⟩])]
    simp only [hd]
    by_cases hik : i = k
    · simp [hik, hne', hne]; omega
    · simp [hik]
theorem giveN_out {w : Int} (hw : 0 < w) (hne : ¬ (ty = fy ∧ tx = fx)) {y x : Int} (h3 : ¬ (y = fy ∧ x = fx)) (h4 : ¬ (y = ty ∧ x = tx)) (i : Int) : ∀ k, k ≤ 3 → (giveN w S fx fy tx ty k).dye y x i = S.dye y x i
  | 0, _ => rfl
  | k + 1, hk => by
    have ih := giveN_out hw hne h3 h4 i k (by omega)
    have hD := giveN_in hw hfx hfx8 hfy hfy8 htx htx8 hty hty8 hne (S := S) hG.dye (k := k) (by omega)
    show (giveInk w (giveN w S fx fy tx ty k) fx fy tx ty k).dye y x i = _
    rw [giveInk_dye hw hfx hfx8 hfy hfy8 htx htx8 hty hty8 hne hD (by omega), if_neg fun h => h4 ⟨h.1, h.2.1⟩, if_neg fun h => h3 ⟨h.1, h.2.1⟩, ih]
theorem giveS_out {y x : Int} (h3 : ¬ (y = fy ∧ x = fx)) (h4 : ¬ (y = ty ∧ x = tx)) : (giveS S fx fy tx ty).wet y x = S.wet y x ∧ ∀ i, (giveS S fx fy tx ty).dye y x i = S.dye y x i := by
  have hne : ¬ (ty = fy ∧ tx = fx) := fun ⟨q1, q3⟩ => by rw [q1, q3] at h2; omega
  have b := hG.wet ty tx hty hty8 htx htx8
  refine ⟨by rw [giveS_wet hG hfx hfx8 hfy hfy8 htx htx8 hty hty8 h2, if_neg h4, if_neg h3], fun i => ?_⟩
  exact giveN_out hG hfx hfx8 hfy hfy8 htx htx8 hty hty8 h2 (w := S.wet fy fx) (by omega) hne h3 h4 i 3 (Nat.le_refl _)
theorem giveS_dye (i : Int) : dyeS (giveS S fx fy tx ty) i = dyeS S i := by
  have hne : ¬ (ty = fy ∧ tx = fx) := fun ⟨h1, h3⟩ => by subst h1; subst h3; omega
  have b := hG.wet ty tx hty hty8 htx htx8
  exact giveN_dye hG hfx hfx8 hfy hfy8 htx htx8 hty hty8 h2 (w := S.wet fy fx) (by omega) hne i 3 (Nat.le_refl _)
end
/-- Water and dyes are as they were; the squares of the water have fallen by two for each unit given. -/
structure Kept (a b : Sh × Int) : Prop where
  wat : watS b.1 = watS a.1
  dye : ∀ i, dyeS b.1 i = dyeS a.1 i
  sq : sqS b.1 + 2 * (b.2 - a.2) ≤ sqS a.1
  al : Alike' a.1 b.1
  out : ∀ y x, hasB a.1 x y = false → b.1.wet y x = a.1.wet y x ∧ ∀ i, b.1.dye y x i = a.1.dye y x i
theorem Kept.rfl' (a : Sh × Int) : Kept a a := ⟨rfl, fun _ => rfl, by omega, .refl _, fun _ _ _ => ⟨rfl, fun _ => rfl⟩⟩
theorem Kept.tr {a b c : Sh × Int} (h1 : Kept a b) (h2 : Kept b c) : Kept a c := ⟨h2.wat.trans h1.wat, fun i => (h2.dye i).trans (h1.dye i), by have := h1.sq; have := h2.sq; omega, h1.al.trans h2.al, fun y x h => by
  have e1 := h1.out y x h
  have e2 := h2.out y x (by rw [h1.al.hasB]; exact h)
  exact ⟨e2.1.trans e1.1, fun i => (e2.2 i).trans (e1.2 i)⟩⟩
theorem nbN_kept {x y : Int} {L : List (Int × Int)} {S0 : Sh} {a : Sh × Int} (hx : 0 ≤ x) (hx8 : x < 8) (hy : 0 ≤ y) (hy8 : y < 8) (hL : ∀ q, q < L.length → 0 ≤ (L.getD q (0, 0)).1 ∧ (L.getD q (0, 0)).1 < 8 ∧ 0 ≤ (L.getD q (0, 0)).2 ∧ (L.getD q (0, 0)).2 < 8)
    (hG : Good a.1) (hA : Alike' S0 a.1) (hh : hasB S0 x y = true) (hLb : ∀ q, q < L.length → hasB S0 (L.getD q (0, 0)).1 (L.getD q (0, 0)).2 = true) : ∀ q, q ≤ L.length → Kept a (nbN x y L a q)
  | 0, _ => .rfl' a
  | q + 1, hq => by
    have ih := nbN_kept hx hx8 hy hy8 hL hG hA hh hLb q (by omega)
    obtain ⟨g1, g2, g3, g4⟩ := nbN_good hx hx8 hy hy8 hL hG hA q (by omega)
    obtain ⟨l1, l2, l3, l4⟩ := hL q (by omega)
    refine ih.tr ?_
    simp only [nbN, nbStep]
    split
    · rename_i h
      obtain ⟨k1, k2⟩ := giveS_kept g1 hx hx8 hy hy8 l1 l2 l3 l4 h
      refine ⟨k1, giveS_dye g1 hx hx8 hy hy8 l1 l2 l3 l4 h, by simp only; omega, (giveS_good g1 hx hx8 hy hy8 l1 l2 l3 l4 h).2, fun y' x' hb => ?_⟩
      rw [g2.hasB] at hb
      refine giveS_out g1 hx hx8 hy hy8 l1 l2 l3 l4 h (fun e => ?_) (fun e => ?_)
      · rw [e.1, e.2, hh] at hb; cases hb
      · have := hLb q (by omega); rw [e.1, e.2, this] at hb; cases hb
    · exact .rfl' _
theorem runN_kept {S : Sh} {W H : Nat} (hG : Good S) (hW : S.wide = W) (hH : S.high = H) : ∀ j, j ≤ H * W → Kept (S, 0) (runN S W j)
  | 0, _ => .rfl' _
  | j + 1, hj => by
    have ih := runN_kept hG hW hH j (by omega)
    obtain ⟨g1, g2, g3, g4⟩ := runN_good hG hW hH j (by omega)
    have hs := hG.small
    unfold Small at hs
    have hW0 : 0 < W := by omega
    have hm := Nat.mod_lt j hW0
    have hd : j / W < H := (Nat.div_lt_iff_lt_mul hW0).2 (by omega)
    have hx8 : ((j % W : Nat) : Int) < 8 := by omega
    have hy8 : ((j / W : Nat) : Int) < 8 := by omega
    refine ih.tr ?_
    simp only [runN, runCell]
    split
    · exact .rfl' _
    · exact nbN_kept (S0 := S) (Int.natCast_nonneg _) hx8 (Int.natCast_nonneg _) hy8 (fun q hq => (nb_mem g1.small hq).2) g1 g2 (by
        generalize j % W = p1 at *
        generalize j / W = p2 at *
        simp only [hasB, Bool.and_eq_true, decide_eq_true_eq]; omega) (fun q hq => by have := (nb_mem g1.small hq).1; rw [g2.hasB] at this; exact this) _ (Nat.le_refl _)
theorem runS_kept {S : Sh} {W H : Nat} (hG : Good S) (hW : S.wide = W) (hH : S.high = H) : Kept (S, 0) (runS S W H) := runN_kept hG hW hH _ (Nat.le_refl _)
theorem runN_up {S : Sh} {W : Nat} (j : Nat) : (runN S W j).2 ≤ (runN S W (j + 1)).2 := by
  simp only [runN, runCell]
  split
  · exact Int.le_refl _
  · exact (nbN_mono _ _ _ _ _).1
theorem runN_le {S : Sh} {W j m : Nat} (h : j ≤ m) : (runN S W j).2 ≤ (runN S W m).2 := by
  induction m with
  | zero => have : j = 0 := by omega
            subst this; exact Int.le_refl _
  | succ m ih =>
    rcases (by omega : j ≤ m ∨ j = m + 1) with h | rfl
    · exact Int.le_trans (ih h) (runN_up m)
    · exact Int.le_refl _
theorem nbN_up {x y : Int} {L : List (Int × Int)} {a : Sh × Int} {q m : Nat} (h : q ≤ m) : (nbN x y L a q).2 ≤ (nbN x y L a m).2 := by
  induction m with
  | zero => have : q = 0 := by omega
            subst this; exact Int.le_refl _
  | succ m ih =>
    rcases (by omega : q ≤ m ∨ q = m + 1) with h | rfl
    · refine Int.le_trans (ih h) ?_
      simp only [nbN, nbStep]
      split
      · simp only; omega
      · exact Int.le_refl _
    · exact Int.le_refl _
/-- Where nothing is given no cell has much more than a neighbour. -/
theorem calm_of {S : Sh} {W H : Nat} (h : (runS S W H).2 = 0) {j : Nat} (hj : j < H * W) (hw : waxB S ((j % W : Nat) : Int) ((j / W : Nat) : Int) = false) {p : Int × Int} (hp : p ∈ nb S ((j % W : Nat) : Int) ((j / W : Nat) : Int)) :
    S.wet ((j / W : Nat) : Int) ((j % W : Nat) : Int) - S.wet p.2 p.1 ≤ 1 := by
  have e : ∀ m, m ≤ H * W → runN S W m = (S, 0) := fun m hm => by
    have h1 := runN_le (S := S) (W := W) hm
    obtain ⟨h2, h3⟩ := runN_mono S W m
    have h0 : (runN S W (H * W)).2 = 0 := h
    have h4 : (runN S W m).2 = 0 := by omega
    exact Prod.ext (h3 h4) h4
  have e1 := e (j + 1) (by omega)
  simp only [runN, e j (by omega), runCell, hw] at e1
  obtain ⟨q, hq, rfl⟩ := List.mem_iff_getElem.1 hp
  generalize hL : nb S ((j % W : Nat) : Int) ((j / W : Nat) : Int) = L at *
  have e2 : ∀ m, m ≤ L.length → nbN ((j % W : Nat) : Int) ((j / W : Nat) : Int) L (S, 0) m = (S, 0) := fun m hm => by
    have h1 := nbN_up (x := ((j % W : Nat) : Int)) (y := ((j / W : Nat) : Int)) (L := L) (a := (S, 0)) hm
    obtain ⟨h2, h3⟩ := nbN_mono ((j % W : Nat) : Int) ((j / W : Nat) : Int) L (S, 0) m
    have h0 : (nbN ((j % W : Nat) : Int) ((j / W : Nat) : Int) L (S, 0) L.length).2 = 0 := by
      have := congrArg Prod.snd e1
      simpa using this
    simp only at h2 h3
    have h4 : (nbN ((j % W : Nat) : Int) ((j / W : Nat) : Int) L (S, 0) m).2 = 0 := by omega
    exact Prod.ext (h3 h4) h4
  have e3 := e2 (q + 1) (by omega)
  simp only [nbN, e2 q (by omega), nbStep] at e3
  have hg : L.getD q (0, 0) = L[q] := by rw [List.getD_eq_getElem?_getD, List.getElem?_eq_getElem hq]; rfl
  rw [hg] at e3
  split at e3
  · have := congrArg Prod.snd e3
    simp at this
  · omega
end Go.Proofs.Ytggpnfgohpifoaa.V

/- Plain laws of running for FnRunning: what is waxed stays, valid sheets stay valid, sums are kept, a unit given. -/
namespace Go.Proofs.Ytggpnfgohpifoaa.V
/-- Running leaves cells where no water may come. -/
theorem nbN_still {x y : Int} {L : List (Int × Int)} {S0 : Sh} {a : Sh × Int} (hx : 0 ≤ x) (hx8 : x < 8) (hy : 0 ≤ y) (hy8 : y < 8) (hL : ∀ q, q < L.length → 0 ≤ (L.getD q (0, 0)).1 ∧ (L.getD q (0, 0)).1 < 8 ∧ 0 ≤ (L.getD q (0, 0)).2 ∧ (L.getD q (0, 0)).2 < 8)
    (hG : Good a.1) (hA : Alike' S0 a.1) (P : Int → Int → Prop) (hP : ¬ P x y) (hPL : ∀ q, q < L.length → ¬ P (L.getD q (0, 0)).1 (L.getD q (0, 0)).2) :
    ∀ q, q ≤ L.length → ∀ y' x', P x' y' → (nbN x y L a q).1.wet y' x' = a.1.wet y' x' ∧ ∀ i, (nbN x y L a q).1.dye y' x' i = a.1.dye y' x' i
  | 0, _, _, _, _ => ⟨rfl, fun _ => rfl⟩
  | q + 1, hq, y', x', hp => by
    have ih := nbN_still hx hx8 hy hy8 hL hG hA P hP hPL q (by omega) y' x' hp
    obtain ⟨g1, g2, g3, g4⟩ := nbN_good hx hx8 hy hy8 hL hG hA q (by omega)
    obtain ⟨l1, l2, l3, l4⟩ := hL q (by omega)
    simp only [nbN, nbStep]
    split
    · rename_i h
      obtain ⟨k1, k2⟩ := giveS_out g1 hx hx8 hy hy8 l1 l2 l3 l4 h (y := y') (x := x') (fun e => hP (by rw [← e.1, ← e.2]; exact hp)) (fun e => hPL q (by omega) (by rw [← e.1, ← e.2]; exact hp))
      exact ⟨k1.trans ih.1, fun i => (k2 i).trans (ih.2 i)⟩
    · exact ih
theorem nb_free {S : Sh} {x y : Int} {p : Int × Int} (h : p ∈ nb S x y) : hasB S p.1 p.2 = true ∧ waxB S p.1 p.2 = false := by
  have := (List.mem_filter.1 h).2
  unfold nbB at this
  cases h1 : hasB S p.1 p.2 <;> cases h2 : waxB S p.1 p.2 <;> simp_all
theorem getD_mem {L : List (Int × Int)} {q : Nat} (h : q < L.length) : L.getD q (0, 0) ∈ L := by
  rw [List.getD_eq_getElem?_getD, List.getElem?_eq_getElem h]; exact List.getElem_mem _
theorem runN_wax {S : Sh} {W H : Nat} (hG : Good S) (hW : S.wide = W) (hH : S.high = H) : ∀ j, j ≤ H * W → ∀ y' x', waxB S x' y' = true → (runN S W j).1.wet y' x' = S.wet y' x' ∧ ∀ i, (runN S W j).1.dye y' x' i = S.dye y' x' i
  | 0, _, _, _, _ => ⟨rfl, fun _ => rfl⟩
  | j + 1, hj, y', x', hp => by
    have ih := runN_wax hG hW hH j (by omega) y' x' hp
    obtain ⟨g1, g2, g3, g4⟩ := runN_good hG hW hH j (by omega)
    obtain ⟨a1, a2, a3, a4⟩ := cell_in hG.small hW hH (j := j) (by omega)
    simp only [runN, runCell]
    split
    · exact ih
    · rename_i hw
      have hwS : ¬ waxB S ((j % W : Nat) : Int) ((j / W : Nat) : Int) = true := by rw [← g2.waxB]; exact hw
      have key := nbN_still (S0 := S) (L := nb (runN S W j).1 ((j % W : Nat) : Int) ((j / W : Nat) : Int)) a1 a2 a3 a4 (fun q hq => (nb_mem g1.small hq).2) g1 g2 (fun u v => waxB S u v = true) hwS (fun q hq => by
        have := (nb_free (getD_mem hq)).2
        rw [g2.waxB] at this
        show ¬ waxB S _ _ = true
        rw [this]; simp) _ (Nat.le_refl _) y' x' hp
      exact ⟨key.1.trans ih.1, fun i => (key.2 i).trans (ih.2 i)⟩
/-- What running makes of a valid sheet. -/
structure RunK (S T : Sh) : Prop where
  V : Valid T
  R : ShR T
  al : Alike' S T
  wat : watS T = watS S
  dye : ∀ i, dyeS T i = dyeS S i
theorem RunK.rfl' {S : Sh} (hV : Valid S) (hR : ShR S) : RunK S S := ⟨hV, hR, .refl _, rfl, fun _ => rfl⟩
theorem RunK.tr {A B C : Sh} (h : RunK A B) (k : RunK B C) : RunK A C := ⟨k.V, k.R, h.al.trans k.al, k.wat.trans h.wat, fun i => (k.dye i).trans (h.dye i)⟩
theorem runS_K {S : Sh} {W H : Nat} (hV : Valid S) (hR : ShR S) (hW : S.wide = W) (hH : S.high = H) : RunK S (runS S W H).1 := by
  have hk := runS_kept hV.good hW hH
  obtain ⟨g1, g2, g3, g4⟩ := runS_good hV.good hW hH
  refine ⟨⟨g1.small, fun y x a b c d => ?_⟩, runN_R hR _ _, g2, hk.wat, hk.dye⟩
  obtain ⟨v1, v2, v3, v4⟩ := hV.2 y x a b c d
  refine ⟨fun h => by rw [g2.hasB]; rw [g2.waxB] at h; exact v1 h, g1.wet y x a b c d, fun i e f => g1.dye y x i a b c d e f, ?_⟩
  rw [g2.hasB, g2.waxB]
  cases hh : hasB S x y
  · right
    rw [hh] at v4
    have e := hk.out y x hh
    rcases v4 with v4 | v4
    · cases v4.1
    · exact ⟨e.1.trans v4.1, (e.2 0).trans v4.2.1, (e.2 1).trans v4.2.2.1, (e.2 2).trans v4.2.2.2⟩
  · cases hw : waxB S x y
    · exact .inl ⟨rfl, rfl⟩
    · right
      rw [hw] at v4
      have e := runN_wax hV.good hW hH _ (Nat.le_refl _) y x hw
      rcases v4 with v4 | v4
      · cases v4.2
      · exact ⟨e.1.trans v4.1, (e.2 0).trans v4.2.1, (e.2 1).trans v4.2.2.1, (e.2 2).trans v4.2.2.2⟩
/-- Rounds of running: the sheet, and how much was given in all. -/
def rndN (W H : Nat) (S : Sh) : Nat → Sh × Int
  | 0 => (S, 0)
  | k + 1 => ((runS (rndN W H S k).1 W H).1, (rndN W H S k).2 + (runS (rndN W H S k).1 W H).2)
theorem rndN_K {S : Sh} {W H : Nat} (hV : Valid S) (hR : ShR S) (hW : S.wide = W) (hH : S.high = H) : ∀ k, RunK S (rndN W H S k).1 ∧ 0 ≤ (rndN W H S k).2 ∧ (rndN W H S k).2 ≤ 256 * k
  | 0 => ⟨.rfl' hV hR, Int.le_refl _, by simp [rndN]⟩
  | k + 1 => by
    obtain ⟨h1, h2, h3⟩ := rndN_K hV hR hW hH k
    have h4 := runS_K h1.V h1.R (h1.al.wide.trans hW) (h1.al.high.trans hH)
    obtain ⟨g1, g2, g3, g4⟩ := runS_good h1.V.good (h1.al.wide.trans hW) (h1.al.high.trans hH)
    refine ⟨h1.tr h4, ?_, ?_⟩
    · simp only [rndN]; omega
    · simp only [rndN, Int.natCast_add, Int.natCast_one]; omega
theorem untilN_K {W H : Nat} : ∀ (f k : Nat) (S : Sh), Valid S → ShR S → S.wide = W → S.high = H → RunK S (untilN W H f k S).1 ∧ ((untilN W H f k S).2.2 = true → (runS (untilN W H f k S).1 W H).2 = 0)
  | f, k, S, hV, hR, hW, hH => by
    have hk := runS_K hV hR hW hH
    by_cases hr : (runS S W H).2 = 0
    · rw [untilN_stop hr]; exact ⟨.rfl' hV hR, fun _ => hr⟩
    · cases f with
      | zero => rw [untilN_end hr]; exact ⟨hk, fun h => by cases h⟩
      | succ f =>
        rw [untilN_next hr]
        obtain ⟨h1, h2⟩ := untilN_K f (k + 1) _ hk.V hk.R (hk.al.wide.trans hW) (hk.al.high.trans hH)
        exact ⟨hk.tr h1, h2⟩
theorem RunK.dyes {S T : Sh} {W H : Nat} (h : RunK S T) (hV : Valid S) (hW : S.wide = W) (hH : S.high = H) {i : Int} (h0 : 0 ≤ i) (h3 : i < 3) : dyeSum T W H i = dyeSum S W H i := by
  rw [← dye8 h.V (h.al.wide.trans hW) (h.al.high.trans hH) h0 h3, ← dye8 hV hW hH h0 h3]
  exact h.dye i
theorem RunK.water {S T : Sh} {W H : Nat} (h : RunK S T) (hV : Valid S) (hW : S.wide = W) (hH : S.high = H) : V.water T W H = V.water S W H := by
  rw [← water8 h.V.1 h.V.out (h.al.wide.trans hW) (h.al.high.trans hH), ← water8 hV.1 hV.out hW hH]
  exact h.wat
/-! ### A unit given -/
section
variable {S : Sh} {fx fy tx ty : Int} (hG : Good S) (hfx : 0 ≤ fx) (hfx8 : fx < 8) (hfy : 0 ≤ fy) (hfy8 : fy < 8) (htx : 0 ≤ tx) (htx8 : tx < 8) (hty : 0 ≤ ty) (hty8 : ty < 8) (hw : 0 < S.wet fy fx) (ht : S.wet ty tx < 200) (hne : ¬ (ty = fy ∧ tx = fx))
include hG hfx hfx8 hfy hfy8 htx htx8 hty hty8 hw ht hne
theorem giveU_wet (y x : Int) : (giveS S fx fy tx ty).wet y x = if y = ty ∧ x = tx then S.wet y x + 1 else if y = fy ∧ x = fx then S.wet y x - 1 else S.wet y x := by
  have a := hG.wet fy fx hfy hfy8 hfx hfx8
  have b := hG.wet ty tx hty hty8 htx htx8
  simp only [giveS, Sh.setWet, (giveN_same 3).1, if_neg hne]
  rw [w16 (by omega), w16 (by omega)]
  split
  · rename_i h; obtain ⟨rfl, rfl⟩ := h; rfl
  · split
    · rename_i h; obtain ⟨rfl, rfl⟩ := h; rfl
    · rfl
theorem giveU_dyeN (i : Int) : ∀ k, k ≤ 3 → dyeS (giveN (S.wet fy fx) S fx fy tx ty k) i = dyeS S i ∧ ∀ y x, ¬ (y = fy ∧ x = fx) → ¬ (y = ty ∧ x = tx) → (giveN (S.wet fy fx) S fx fy tx ty k).dye y x i = S.dye y x i
  | 0, _ => ⟨rfl, fun _ _ _ _ => rfl⟩
  | k + 1, hk => by
    obtain ⟨ih, ih2⟩ := giveU_dyeN i k (by omega)
    have hD := giveN_in hw hfx hfx8 hfy hfy8 htx htx8 hty hty8 hne (S := S) hG.dye (k := k) (by omega)
    have hd := giveInk_dye hw hfx hfx8 hfy hfy8 htx htx8 hty hty8 hne hD (k := k) (by omega)
    refine ⟨?_, fun y x h3 h4 => ?_⟩
    · rw [← ih]
      show dyeS (giveInk (S.wet fy fx) (giveN (S.wet fy fx) S fx fy tx ty k) fx fy tx ty k) i = _
      unfold dyeS
      have hne' : ¬ (fy = ty ∧ fx = tx) := fun ⟨h1, h3⟩ => hne ⟨h1.symm, h3.symm⟩
      rw [allS_two (f := fun y x => (giveN (S.wet fy fx) S fx fy tx ty k).dye y x i) (g := fun y x => (giveInk (S.wet fy fx) (giveN (S.wet fy fx) S fx fy tx ty k) fx fy tx ty k).dye y x i) hfx hfx8 hfy hfy8 htx htx8 hty hty8 hne (fun y x h1 h2 => by
        rw [hd, if_neg fun h => h2 ⟨h.1, h.2.1⟩, if_neg fun h => h1 ⟨h.1, h.2.1⟩])]
      simp only [hd]
      by_cases hik : i = k
      · simp [hik, hne', hne]; omega
      · simp [hik]
    · show (giveInk (S.wet fy fx) (giveN (S.wet fy fx) S fx fy tx ty k) fx fy tx ty k).dye y x i = _
      rw [hd, if_neg fun h => h4 ⟨h.1, h.2.1⟩, if_neg fun h => h3 ⟨h.1, h.2.1⟩]
      exact ih2 y x h3 h4
theorem giveU_K (hV : Valid S) (hR : ShR S) (hf : hasB S fx fy = true ∧ waxB S fx fy = false) (hto : hasB S tx ty = true ∧ waxB S tx ty = false) : RunK S (giveS S fx fy tx ty) := by
  have a := hG.wet fy fx hfy hfy8 hfx hfx8
  have b := hG.wet ty tx hty hty8 htx htx8
  have hs := giveN_same (w := S.wet fy fx) (S := S) (fx := fx) (fy := fy) (tx := tx) (ty := ty) 3
  have hd := giveN_in hw hfx hfx8 hfy hfy8 htx htx8 hty hty8 hne (S := S) (w := S.wet fy fx) hG.dye (k := 3) (Nat.le_refl _)
  have hal : Alike' S (giveS S fx fy tx ty) := ⟨hs.2.1, hs.2.2.1, hs.2.2.2⟩
  have hwet := giveU_wet hG hfx hfx8 hfy hfy8 htx htx8 hty hty8 hw ht hne
  have hdye := fun i => giveU_dyeN hG hfx hfx8 hfy hfy8 htx htx8 hty hty8 hw ht hne i 3 (Nat.le_refl _)
  have hne' : ¬ (fy = ty ∧ fx = tx) := fun ⟨h1, h3⟩ => hne ⟨h1.symm, h3.symm⟩
  refine ⟨⟨?_, fun y x c d e f => ⟨fun h => ?_, ?_, fun i g k => hd y x i c d e f g k, ?_⟩⟩, giveS_R hR _ _ _ _, hal, ?_, fun i => (hdye i).1⟩
  · have := hV.1
    unfold Small at this ⊢
    rw [hal.wide, hal.high]; exact this
  · rw [hal.hasB]; rw [hal.waxB] at h; exact (hV.2 y x c d e f).1 h
  · rw [hwet]
    have c := hG.wet y x c d e f
    split
    · rename_i h; obtain ⟨rfl, rfl⟩ := h; omega
    · split
      · rename_i h; obtain ⟨rfl, rfl⟩ := h; omega
      · exact c
  · rw [hal.hasB, hal.waxB]
    rcases (hV.2 y x c d e f).2.2.2 with h | h
    · exact .inl h
    · by_cases h1 : y = fy ∧ x = fx
      · obtain ⟨rfl, rfl⟩ := h1; exact .inl hf
      · by_cases h2 : y = ty ∧ x = tx
        · obtain ⟨rfl, rfl⟩ := h2; exact .inl hto
        · right
          refine ⟨by rw [hwet, if_neg h2, if_neg h1]; exact h.1, ?_, ?_, ?_⟩
          · exact ((hdye 0).2 y x h1 h2).trans h.2.1
          · exact ((hdye 1).2 y x h1 h2).trans h.2.2.1
          · exact ((hdye 2).2 y x h1 h2).trans h.2.2.2
  · unfold watS
    rw [allS_two (f := S.wet) hfx hfx8 hfy hfy8 htx htx8 hty hty8 hne (fun y x h1 h2 => by rw [hwet, if_neg h2, if_neg h1])]
    have e1 : (giveS S fx fy tx ty).wet fy fx = S.wet fy fx - 1 := by rw [hwet, if_neg hne', if_pos ⟨rfl, rfl⟩]
    have e2 : (giveS S fx fy tx ty).wet ty tx = S.wet ty tx + 1 := by rw [hwet, if_pos ⟨rfl, rfl⟩]
    rw [e1, e2]
    omega
end
end Go.Proofs.Ytggpnfgohpifoaa.V

/- Sheets compared, sums of dyes compared. -/
namespace Go.Proofs.Ytggpnfgohpifoaa.V
theorem eqc_self {k : TK} {v : SV} (h : fitC k v v) : eqc v v = true := by
  unfold fitC at h
  split at h
  · simp [eqc]
  · simp [eqc]
  · simp [eqc]
  · exact h.elim
theorem eqT_self {ti : Nat → TI} {F : Nat → SV} : ∀ (m t off : Nat), fitT ti m t F F off → eqT ti m t F F off = true
  | 0, _, _, h => by simp [fitT] at h
  | m + 1, t, off, h => by
    rw [fitT_succ] at h
    rw [eqT_succ]
    generalize (ti t).k = k at h ⊢
    unfold fitK at h
    unfold eqK
    split at h
    · exact allN_iff.2 fun i hi => eqT_self m _ _ (allP_iff.1 h.2 i hi)
    · rename_i fs
      exact List.all_eq_true.2 fun p hp => eqT_self m _ _ (h p hp).2
    · exact eqc_self h
theorem shFitW (S T : Sh) {j : Nat} (h1 : 2 ≤ j) (h2 : j < 258) : fitC (.int .i16) (shC S j) (shC T j) := by
  unfold shC
  have h0 : ¬ j < 2 := by omega
  rw [if_neg h0, if_pos h2, if_neg h0, if_pos h2]
  by_cases h : j < 66
  · rw [if_pos h, if_pos h]; rfl
  · rw [if_neg h, if_neg h]; rfl
theorem shFitX (S T : Sh) {j : Nat} (h2 : 258 ≤ j) : fitC (.int .u8) (shC S j) (shC T j) := by
  unfold shC
  have h0 : ¬ j < 2 := by omega
  have h3 : ¬ j < 258 := by omega
  rw [if_neg h0, if_neg h3, if_neg h0, if_neg h3]; rfl
def shEq (S T : Sh) : Bool := eqT ti 9 33 (shC S) (shC T) 0
theorem shEqVc (S T : Sh) : eqVc ti 33 266 266 (shC S) (shC T) := by
  refine ⟨rfl, rfl, rfl, rfl, ?_⟩
  simp only [fitT_succ, go_sem, allP_iff, fitK_st, fitL_cons, fitL_nil, fitK_int, fitK_arr, Nat.zero_add, and_true, Nat.mul_one]
  refine ⟨⟨by omega, by omega⟩, ⟨by omega, by omega⟩, ⟨⟨by omega, by omega⟩, by omega, fun i hi => ⟨by omega, fun j hj => shFitW S T (by omega) (by omega)⟩⟩, ⟨⟨by omega, by omega⟩, by omega, fun i hi => ⟨by omega, fun j hj => ⟨by omega, fun k hk => shFitW S T (by omega) (by omega)⟩⟩⟩, ⟨by omega, by omega, fun i hi => shFitX S T (by omega)⟩⟩
theorem shEq_self (S : Sh) : shEq S S = true := eqT_self 9 _ 0 (shEqVc S S).2.2.2.2
@[go_sem high] theorem eqV_sheq (S T : Sh) : eqV ti 33 .eql 266 (shC S) 266 (shC T) = ⟨True, .bool (shEq S T)⟩ := by
  unfold eqV; rw [eq_true (shEqVc S T)]; rfl
@[go_sem high] theorem eqV_shne (S T : Sh) : eqV ti 33 .neq 266 (shC S) 266 (shC T) = ⟨True, .bool (!shEq S T)⟩ := by
  unfold eqV; rw [eq_true (shEqVc S T)]; rfl
end Go.Proofs.Ytggpnfgohpifoaa.V

/- What is stained, by the reference: sums of dyes, running until nothing is given, cells with dye. -/
namespace Go.Proofs.Ytggpnfgohpifoaa.V
section
variable (cx : Cx) (h : List (Nat × Seg)) (n : Nat)
theorem asked2_Q (i : Nat) (S : Sh) (x y : Int) (b : Bool) (hs : hget h i = some (shS S)) (hi : i < n) (hR : ShR S) (hx : -128 ≤ x ∧ x < 128) (hy : -128 ≤ y ∧ y < 128) :
    CallQ Try.prog cx 47 [.ptr i 0, spot x y, .bool b] h n (.int .i64 (codeI S (hasB S x y && b))) := by
  refine callQ_of_T (P := Try.prog) hti (nt := 18) (rs := [.tmp 6]) rfl rfl Try.call47 Try.func47 rfl _ (by simp only [go_sem, and_self]) (Nat.le_of_ble_eq_true rfl) _ (by first | exact trivial | (refine lt_flat rfl ?_; simp [SV.flat]; done) | simp only [go_sem]) fun hok => ?_
  simp only [go_sem, Nat.reduceLT]
  refine (ok2_Q _ _ _ i 0 _ S (by simp only [go_sem, hs, hi]) (by omega) (shAt_shC hR)).A ?_
  by_cases hV : Valid S
  rotate_left
  · simp only [go_sem, Nat.reduceLT, validB_false hV, codeI_bad hV]
  simp only [go_sem, Nat.reduceLT, validB_true hV, codeI_ok hV]
  refine (is_Q _ _ _ i 0 _ S x y (by simp only [go_sem, hs, hi]) (by omega) (shAt_shC hR) hx hy).A ?_
  by_cases hh : hasB S x y = true
  · cases b <;> simp only [go_sem, Nat.reduceLT, reduceIte, hh, Bool.true_and]
  · simp only [go_sem, Nat.reduceLT, reduceIte, hh, Bool.false_and]
end
end Go.Proofs.Ytggpnfgohpifoaa.V

/- StainOf by the reference: the walk. -/
namespace Go.Proofs.Ytggpnfgohpifoaa.V
section
variable (cx : Cx) (h : List (Nat × Seg)) (n : Nat)
theorem run2_Q (S : Sh) (W H : Nat) (hR : ShR S) (hG : Good S) (hW : S.wide = W) (hH : S.high = H) :
    CallQ Try.prog cx 29 [.agg 266 (shC S)] h n (.tup 2 (cl [.agg 266 (shC (runS S W H).1), .int .i64 (runS S W H).2])) :=
  CallE.toQ (by rw [lt_tup2]; exact ⟨shC_lt _ n, trivial⟩) fun K hK => run2_E cx h n _ S W H (shF_shC hR) hG hW hH K fun F' hF' => hK _ fun ρ => by
    simp only [den]
    congr 1
    refine arr_congr fun j hj => ?_
    rcases (by omega : j = 0 ∨ j = 1) with rfl | rfl
    · exact hF'.denC ρ
    · rfl
theorem until2_Q (S : Sh) (W H : Nat) (hR : ShR S) (hG : Good S) (hW : S.wide = W) (hH : S.high = H) :
    CallQ Try.prog cx 32 [.agg 266 (shC S)] h n (.tup 3 (cl [.agg 266 (shC (if (untilN W H 500 0 S).2.2 then (untilN W H 500 0 S).1 else sh0)), .int .i64 (untilN W H 500 0 S).2.1, .int .i64 (if (untilN W H 500 0 S).2.2 then 0 else 7)])) := by
  refine callQ_of_T (P := Try.prog) hti (nt := 23) (rs := [.cell 2 33, .tmp 3, .tmp 4]) rfl rfl Try.call32 Try.func32 rfl _ (by simp only [go_sem, and_self]) (Nat.le_of_ble_eq_true rfl) _ (by first | exact trivial | (refine lt_flat rfl ?_; simp [SV.flat]; done) | simp only [go_sem]) fun hok => ?_
  simp only [go_sem, Nat.reduceLT]
  refine T_lp (ι := { p : Nat × Sh // p.1 ≤ 500 ∧ ShR p.2 ∧ Good p.2 ∧ p.2.wide = W ∧ p.2.high = H ∧ untilN W H (500 - p.1) p.1 p.2 = untilN W H 500 0 S })
    (fun p => ([(1, .ptr n 0), (2, .ptr (n + 1) 0), (5, .int .i64 p.1.1)], (n + 1, shS sh0) :: (n, shS p.1.2) :: h, n + 2)) (fun p => 500 - p.1.1) ⟨(0, S), by simp, hR, hG, hW, hH, rfl⟩ ?_ ?_
  · refine Imp.id (by simp) ?_ ?_
    · simp only [go_sem, Nat.reduceLT]
      omega
    · (repeat (refine impH.cons0 (by first | (simp only [go_sem, hget_hset_self]; done) | (simp only [go_sem, hget_hset_self]; rfl)) (by simp) ?_ ?_; · exact SegLe.flat (Nat.le_refl _) id (by first | exact .inr rfl | exact .inl rfl) fun z hz => ⟨by first | rfl | exact dC_zero hz | exact dC_cl (by rfl) (by rfl) (by rfl) hz, by first | exact shC_flat _ _ | exact brC_flat _ hz | exact pair_flat _ _ hz | exact cellC_flat _ _ | exact dC_flat _ _ | exact stC_flat _ _ | exact cl_flat (l := [_, _, _, _, _]) (by simp [SV.flat]) hz | exact cl_flat (l := [_, _, _]) (by simp [SV.flat]) hz | trivial⟩)); exact impH.base0 (by first | exact hok | exact hok_set hok (fun k hk => stC_flat _ _) | exact hok_set hok (fun k hk => shC_flat _ _)) (by simp) (by first | (simp only [go_sem, HExt_cons]; done) | (simp only [go_sem, Nat.reduceBEq, Nat.reduceLT, Nat.reduceLeDiff, Nat.reduceAdd, Nat.reduceMul, Nat.reduceSub, Nat.reduceMod, Nat.reduceDiv, Nat.reduceEqDiff, Int.reduceToNat, reduceIte, reduceCtorEq, Int.reduceLE, Int.reduceLT, Int.reduceEq, Int.reduceNeg, Int.reduceAdd, Int.reduceSub, Int.reduceMul, HExt_cons]; exact HExt.rfl))
  · rintro ⟨⟨k, S1⟩, hk, hR1, hG1, hW1, hH1, he⟩
    simp only at hk hR1 hG1 hW1 hH1 he
    simp only [go_sem, Nat.reduceLT]
    refine (run2_Q _ _ _ S1 W H hR1 hG1 hW1 hH1).A ?_
    obtain ⟨g1, g2, g3, g4⟩ := runS_good hG1 hW1 hH1
    by_cases h0 : (runS S1 W H).2 = 0
    · rw [untilN_stop h0] at he
      have hst := runS_still h0
      simp only [go_sem, Nat.reduceLT, h0, ← he, hst, if_true]
    · by_cases h5 : k = 500
      · subst h5
        rw [Nat.sub_self, untilN_end h0] at he
        simp only [go_sem, Nat.reduceLT, Nat.reduceSub, reduceIte, h0, ← he]
      · have hk5 : ¬ ((k : Int) = 500) := by omega
        rw [show 500 - k = (500 - (k + 1)) + 1 by omega, untilN_next h0] at he
        simp only [go_sem, Nat.reduceLT, reduceIte, h0, hk5]
        refine ⟨⟨(k + 1, (runS S1 W H).1), by show k + 1 ≤ 500; omega, runN_R hR1 _ _, g1, g2.wide.trans hW1, g2.high.trans hH1, he⟩, by show 500 - (k + 1) < 500 - k; omega, ?_⟩
        refine Imp.id (by simp) ?_ ?_
        · simp only [go_sem, Nat.reduceLT, w64 (n := (k : Int) + 1) (by omega), Int.natCast_add, Int.natCast_one]
          omega
        · (repeat (refine impH.cons0 (by first | (simp only [go_sem, Nat.reduceLT, hget_hset_self]; done) | (simp only [go_sem, Nat.reduceLT, hget_hset_self]; rfl)) (by simp) ?_ ?_; · exact SegLe.flat (Nat.le_refl _) id (by first | exact .inr rfl | exact .inl rfl) fun z hz => ⟨by first | rfl | exact dC_zero hz | exact dC_cl (by rfl) (by rfl) (by rfl) hz, by first | exact shC_flat _ _ | exact brC_flat _ hz | exact pair_flat _ _ hz | exact cellC_flat _ _ | exact dC_flat _ _ | exact stC_flat _ _ | exact cl_flat (l := [_, _, _, _, _]) (by simp [SV.flat]) hz | exact cl_flat (l := [_, _, _]) (by simp [SV.flat]) hz | trivial⟩)); exact impH.base0 (by first | exact hok | exact hok_set hok (fun k hk => stC_flat _ _) | exact hok_set hok (fun k hk => shC_flat _ _)) (by simp) (by first | (simp only [go_sem, HExt_cons]; done) | (simp only [go_sem, Nat.reduceBEq, Nat.reduceLT, Nat.reduceLeDiff, Nat.reduceAdd, Nat.reduceMul, Nat.reduceSub, Nat.reduceMod, Nat.reduceDiv, Nat.reduceEqDiff, Int.reduceToNat, reduceIte, reduceCtorEq, Int.reduceLE, Int.reduceLT, Int.reduceEq, Int.reduceNeg, Int.reduceAdd, Int.reduceSub, Int.reduceMul, HExt_cons]; exact HExt.rfl))
end
end Go.Proofs.Ytggpnfgohpifoaa.V

/- Rounds of running, of both codes. -/
namespace Go.Proofs.Ytggpnfgohpifoaa.V
/-- What RunUntil gives. -/
def untR (W H : Nat) (S : Sh) : Sh × Int × Int := if (untilN W H 500 0 S).2.2 then ((untilN W H 500 0 S).1, ((untilN W H 500 0 S).2.1 : Int), 0) else (sh0, 0, 7)
theorem untilN_no {W H : Nat} : ∀ (f k : Nat) (S : Sh), (untilN W H f k S).2.2 = false → (untilN W H f k S).2.1 = 0
  | f, k, S, h => by
    by_cases hr : (runS S W H).2 = 0
    · rw [untilN_stop hr] at h; cases h
    · cases f with
      | zero => rw [untilN_end hr]
      | succ f => rw [untilN_next hr] at h ⊢; exact untilN_no f (k + 1) _ h
section
variable (cx : Cx) (h : List (Nat × Seg)) (n : Nat)
theorem isRounds_Q (k : Int) : CallQ Try.prog cx 26 [.int .i64 k] h n (.bool (decide (0 ≤ k ∧ k ≤ 500))) := by
  refine callQ_of_T (P := Try.prog) hti (nt := 5) (rs := [.tmp 2]) rfl rfl Try.call26 Try.func26 rfl _ (by simp only [go_sem, and_self]) (Nat.le_of_ble_eq_true rfl) _ (by first | exact trivial | (refine lt_flat rfl ?_; simp [SV.flat]; done) | simp only [go_sem]) fun hok => ?_
  simp only [go_sem, Nat.reduceLT]
  refine (within_Q _ _ _ _ _ _).A ?_
  simp only [go_sem, Nat.reduceLT]
theorem rounds2c_Q (i : Nat) (S : Sh) (k : Int) (hs : hget h i = some (shS S)) (hi : i < n) (hR : ShR S) (hV : Valid S) (hk : 0 ≤ k ∧ k ≤ 500) : CallQ Try.prog cx 28 [.ptr i 0, .int .i64 k] h n (.int .i64 0) := by
  refine callQ_of_T (P := Try.prog) hti (nt := 11) (rs := [.tmp 4]) rfl rfl Try.call28 Try.func28 rfl _ (by simp only [go_sem, and_self]) (Nat.le_of_ble_eq_true rfl) _ (by first | exact trivial | (refine lt_flat rfl ?_; simp [SV.flat]; done) | simp only [go_sem]) fun hok => ?_
  simp only [go_sem, Nat.reduceLT]
  refine (ok2_Q _ _ _ i 0 _ S (by simp only [go_sem, hs, hi]) (by omega) (shAt_shC hR)).A ?_
  rw [validB_true hV]
  simp only [go_sem, Nat.reduceLT]
  refine (in_Q _ _ _ _ _ _).A ?_
  simp only [go_sem, Nat.reduceLT, hk]
variable (S : Sh) (W H : Nat) (hV : Valid S) (hR : ShR S) (hW : S.wide = W) (hH : S.high = H)
include hV hR hW hH
theorem rounds_Q (k : Nat) (hk : k ≤ 500) :
    CallQ Try.prog cx 7 [.agg 266 (shC S), .int .i64 k] h n (.tup 3 (cl [.agg 266 (shC (rndN W H S k).1), .int .i64 (rndN W H S k).2, .int .i64 0])) := by
  refine callQ_of_T (P := Try.prog) hti (nt := 25) (rs := [.cell 4 33, .tmp 5, .tmp 6]) rfl rfl Try.call7 Try.func7 rfl _ (by simp only [go_sem, and_self]) (Nat.le_of_ble_eq_true rfl) _ (by first | exact trivial | (refine lt_flat rfl ?_; simp [SV.flat]; done) | simp only [go_sem]) fun hok => ?_
  simp only [go_sem, Nat.reduceLT]
  refine (isRounds_Q _ _ _ k).A ?_
  have hk1 : (0 : Int) ≤ (k : Int) ∧ (k : Int) ≤ 500 := by omega
  simp only [go_sem, Nat.reduceLT, hk1]
  refine (code_Q _ _ _ n 0 _ S true (by simp only [go_sem]) (by omega) (shAt_shC hR)).A ?_
  rw [codeI_ok hV]
  simp only [go_sem, Nat.reduceLT, if_true]
  refine T_lp (ι := { j : Nat // j ≤ k })
    (fun j => ([(1, .int .i64 k), (2, .ptr n 0), (4, .ptr (n + 1) 0), (8, .int .i64 (rndN W H S j.1).2), (16, .int .i64 k), (17, .int .i64 j.1)], (n + 1, shS sh0) :: (n, shS (rndN W H S j.1).1) :: h, n + 2)) (fun j => k - j.1) ⟨0, by omega⟩ ?_ ?_
  · refine Imp.id (by simp) ?_ ?_
    · simp only [go_sem, Nat.reduceLT, rndN]
      omega
    · simp only [go_sem, rndN]
      (repeat (refine impH.cons0 (by first | (simp only [go_sem, hget_hset_self]; done) | (simp only [go_sem, hget_hset_self]; rfl)) (by simp) ?_ ?_; · exact SegLe.flat (Nat.le_refl _) id (by first | exact .inr rfl | exact .inl rfl) fun z hz => ⟨by first | rfl | exact dC_zero hz | exact dC_cl (by rfl) (by rfl) (by rfl) hz, by first | exact shC_flat _ _ | exact brC_flat _ hz | exact pair_flat _ _ hz | exact cellC_flat _ _ | exact dC_flat _ _ | exact stC_flat _ _ | exact cl_flat (l := [_, _, _, _, _]) (by simp [SV.flat]) hz | exact cl_flat (l := [_, _, _]) (by simp [SV.flat]) hz | trivial⟩)); exact impH.base0 (by first | exact hok | exact hok_set hok (fun k hk => stC_flat _ _) | exact hok_set hok (fun k hk => shC_flat _ _)) (by simp) (by first | (simp only [go_sem, HExt_cons]; done) | (simp only [go_sem, Nat.reduceBEq, Nat.reduceLT, Nat.reduceLeDiff, Nat.reduceAdd, Nat.reduceMul, Nat.reduceSub, Nat.reduceMod, Nat.reduceDiv, Nat.reduceEqDiff, Int.reduceToNat, reduceIte, reduceCtorEq, Int.reduceLE, Int.reduceLT, Int.reduceEq, Int.reduceNeg, Int.reduceAdd, Int.reduceSub, Int.reduceMul, HExt_cons]; exact HExt.rfl))
  · rintro ⟨j, hj⟩
    obtain ⟨h1, h2, h3⟩ := rndN_K hV hR hW hH j
    simp only [go_sem, Nat.reduceLT, reduceIte, decide_eq_true_eq, decide_eq_false_iff_not]
    refine ⟨fun hlt => ?_, fun hlt => ?_⟩
    · refine callA_false (runC_E _ _ _ n (rndN W H S j).1 W H (by simp only [go_sem]) (by omega) h1.R h1.V.good (h1.al.wide.trans hW) (h1.al.high.trans hH) _ fun hR2 => ?_)
      obtain ⟨g1, g2, g3, g4⟩ := runS_good h1.V.good (h1.al.wide.trans hW) (h1.al.high.trans hH)
      have w1 : IntKind.i64.wrap ((rndN W H S j).2 + (runS (rndN W H S j).1 W H).2) = (rndN W H S (j + 1)).2 := by rw [w64 (by omega)]; rfl
      have e1 : (runS (rndN W H S j).1 W H).1 = (rndN W H S (j + 1)).1 := rfl
      simp only [go_sem, Nat.reduceLT, w1, e1]
      refine ⟨⟨j + 1, by omega⟩, by show k - (j + 1) < k - j; omega, ?_⟩
      refine Imp.id (by simp) ?_ ?_
      · simp only [go_sem, Nat.reduceLT, w64 (n := (j : Int) + 1) (by omega), Int.natCast_add, Int.natCast_one]
        omega
      · (repeat (refine impH.cons0 (by first | (simp only [go_sem, hget_hset_self]; done) | (simp only [go_sem, hget_hset_self]; rfl)) (by simp) ?_ ?_; · exact SegLe.flat (Nat.le_refl _) id (by first | exact .inr rfl | exact .inl rfl) fun z hz => ⟨by first | rfl | exact dC_zero hz | exact dC_cl (by rfl) (by rfl) (by rfl) hz, by first | exact shC_flat _ _ | exact brC_flat _ hz | exact pair_flat _ _ hz | exact cellC_flat _ _ | exact dC_flat _ _ | exact stC_flat _ _ | exact cl_flat (l := [_, _, _, _, _]) (by simp [SV.flat]) hz | exact cl_flat (l := [_, _, _]) (by simp [SV.flat]) hz | trivial⟩)); exact impH.base0 (by first | exact hok | exact hok_set hok (fun k hk => stC_flat _ _) | exact hok_set hok (fun k hk => shC_flat _ _)) (by simp) (by first | (simp only [go_sem, HExt_cons]; done) | (simp only [go_sem, Nat.reduceBEq, Nat.reduceLT, Nat.reduceLeDiff, Nat.reduceAdd, Nat.reduceMul, Nat.reduceSub, Nat.reduceMod, Nat.reduceDiv, Nat.reduceEqDiff, Int.reduceToNat, reduceIte, reduceCtorEq, Int.reduceLE, Int.reduceLT, Int.reduceEq, Int.reduceNeg, Int.reduceAdd, Int.reduceSub, Int.reduceMul, HExt_cons]; exact HExt.rfl))
    · have hj2 : j = k := by omega
      subst hj2
      simp only [go_sem]
theorem roundsR_Q (k : Nat) (hk : k ≤ 500) :
    CallQ Try.prog cx 8 [.agg 266 (shC S), .int .i64 k] h n (.tup 3 (cl [.agg 266 (shC (rndN W H S k).1), .int .i64 (rndN W H S k).2, .int .i64 0])) := by
  refine callQ_of_T (P := Try.prog) hti (nt := 34) (rs := [.cell 4 33, .tmp 5, .tmp 6]) rfl rfl Try.call8 Try.func8 rfl _ (by simp only [go_sem, and_self]) (Nat.le_of_ble_eq_true rfl) _ (by first | exact trivial | (refine lt_flat rfl ?_; simp [SV.flat]; done) | simp only [go_sem]) fun hok => ?_
  simp only [go_sem, Nat.reduceLT]
  refine (rounds2c_Q _ _ _ n S k (by simp only [go_sem]) (by omega) hR hV (by omega)).A ?_
  simp only [go_sem, Nat.reduceLT]
  refine T_lp (ι := { j : Nat // j ≤ k })
    (fun j => ([(1, .int .i64 k), (2, .ptr n 0), (4, .ptr (n + 1) 0), (8, .int .i64 (rndN W H S j.1).2), (9, .int .i64 j.1)], (n + 1, shS sh0) :: (n, shS (rndN W H S j.1).1) :: h, n + 2)) (fun j => k - j.1) ⟨0, by omega⟩ ?_ ?_
  · refine Imp.id (by simp) ?_ ?_
    · simp only [go_sem, Nat.reduceLT, rndN]
      omega
    · simp only [go_sem, rndN]
      (repeat (refine impH.cons0 (by first | (simp only [go_sem, hget_hset_self]; done) | (simp only [go_sem, hget_hset_self]; rfl)) (by simp) ?_ ?_; · exact SegLe.flat (Nat.le_refl _) id (by first | exact .inr rfl | exact .inl rfl) fun z hz => ⟨by first | rfl | exact dC_zero hz | exact dC_cl (by rfl) (by rfl) (by rfl) hz, by first | exact shC_flat _ _ | exact brC_flat _ hz | exact pair_flat _ _ hz | exact cellC_flat _ _ | exact dC_flat _ _ | exact stC_flat _ _ | exact cl_flat (l := [_, _, _, _, _]) (by simp [SV.flat]) hz | exact cl_flat (l := [_, _, _]) (by simp [SV.flat]) hz | trivial⟩)); exact impH.base0 (by first | exact hok | exact hok_set hok (fun k hk => stC_flat _ _) | exact hok_set hok (fun k hk => shC_flat _ _)) (by simp) (by first | (simp only [go_sem, HExt_cons]; done) | (simp only [go_sem, Nat.reduceBEq, Nat.reduceLT, Nat.reduceLeDiff, Nat.reduceAdd, Nat.reduceMul, Nat.reduceSub, Nat.reduceMod, Nat.reduceDiv, Nat.reduceEqDiff, Int.reduceToNat, reduceIte, reduceCtorEq, Int.reduceLE, Int.reduceLT, Int.reduceEq, Int.reduceNeg, Int.reduceAdd, Int.reduceSub, Int.reduceMul, HExt_cons]; exact HExt.rfl))
  · rintro ⟨j, hj⟩
    obtain ⟨h1, h2, h3⟩ := rndN_K hV hR hW hH j
    simp only [go_sem, Nat.reduceLT, reduceIte, decide_eq_true_eq, decide_eq_false_iff_not]
    refine ⟨fun hlt => ?_, fun hlt => ?_⟩
    · refine (run2_Q _ _ _ (rndN W H S j).1 W H h1.R h1.V.good (h1.al.wide.trans hW) (h1.al.high.trans hH)).A ?_
      obtain ⟨g1, g2, g3, g4⟩ := runS_good h1.V.good (h1.al.wide.trans hW) (h1.al.high.trans hH)
      have w1 : IntKind.i64.wrap ((rndN W H S j).2 + (runS (rndN W H S j).1 W H).2) = (rndN W H S (j + 1)).2 := by rw [w64 (by omega)]; rfl
      have e1 : (runS (rndN W H S j).1 W H).1 = (rndN W H S (j + 1)).1 := rfl
      simp only [go_sem, Nat.reduceLT, reduceIte, w1, e1]
      refine ⟨⟨j + 1, by omega⟩, by show k - (j + 1) < k - j; omega, ?_⟩
      refine Imp.id (by simp) ?_ ?_
      · simp only [go_sem, Nat.reduceLT, w64 (n := (j : Int) + 1) (by omega), Int.natCast_add, Int.natCast_one]
        omega
      · (repeat (refine impH.cons0 (by first | (simp only [go_sem, Nat.reduceLT, hget_hset_self]; done) | (simp only [go_sem, Nat.reduceLT, hget_hset_self]; rfl)) (by simp) ?_ ?_; · exact SegLe.flat (Nat.le_refl _) id (by first | exact .inr rfl | exact .inl rfl) fun z hz => ⟨by first | rfl | exact dC_zero hz | exact dC_cl (by rfl) (by rfl) (by rfl) hz, by first | exact shC_flat _ _ | exact brC_flat _ hz | exact pair_flat _ _ hz | exact cellC_flat _ _ | exact dC_flat _ _ | exact stC_flat _ _ | exact cl_flat (l := [_, _, _, _, _]) (by simp [SV.flat]) hz | exact cl_flat (l := [_, _, _]) (by simp [SV.flat]) hz | trivial⟩)); exact impH.base0 (by first | exact hok | exact hok_set hok (fun k hk => stC_flat _ _) | exact hok_set hok (fun k hk => shC_flat _ _)) (by simp) (by first | (simp only [go_sem, HExt_cons]; done) | (simp only [go_sem, Nat.reduceBEq, Nat.reduceLT, Nat.reduceLeDiff, Nat.reduceAdd, Nat.reduceMul, Nat.reduceSub, Nat.reduceMod, Nat.reduceDiv, Nat.reduceEqDiff, Int.reduceToNat, reduceIte, reduceCtorEq, Int.reduceLE, Int.reduceLT, Int.reduceEq, Int.reduceNeg, Int.reduceAdd, Int.reduceSub, Int.reduceMul, HExt_cons]; exact HExt.rfl))
    · have hj2 : j = k := by omega
      subst hj2
      simp only [go_sem]
theorem once_Q : CallQ Try.prog cx 14 [.agg 266 (shC S)] h n (.tup 3 (cl [.agg 266 (shC (runS S W H).1), .int .i64 (runS S W H).2, .int .i64 0])) := by
  have e : (rndN W H S 1).2 = (runS S W H).2 := Int.zero_add _
  have e1 : (rndN W H S 1).1 = (runS S W H).1 := rfl
  refine callQ_of_T (P := Try.prog) hti (nt := 10) (rs := [.cell 2 33, .tmp 3, .tmp 4]) rfl rfl Try.call14 Try.func14 rfl _ (by simp only [go_sem, and_self]) (Nat.le_of_ble_eq_true rfl) _ (by first | exact trivial | (refine lt_flat rfl ?_; simp [SV.flat]; done) | simp only [go_sem]) fun hok => ?_
  simp only [go_sem, Nat.reduceLT]
  refine (rounds_Q _ _ _ S W H hV hR hW hH 1 (by omega)).A ?_
  rw [e, e1]
  simp only [go_sem, Nat.reduceLT, reduceIte]
theorem onceR_Q : CallQ Try.prog cx 15 [.agg 266 (shC S)] h n (.tup 3 (cl [.agg 266 (shC (runS S W H).1), .int .i64 (runS S W H).2, .int .i64 0])) := by
  refine callQ_of_T (P := Try.prog) hti (nt := 17) (rs := [.cell 2 33, .tmp 3, .tmp 4]) rfl rfl Try.call15 Try.func15 rfl _ (by simp only [go_sem, and_self]) (Nat.le_of_ble_eq_true rfl) _ (by first | exact trivial | (refine lt_flat rfl ?_; simp [SV.flat]; done) | simp only [go_sem]) fun hok => ?_
  simp only [go_sem, Nat.reduceLT]
  refine (ok2_Q _ _ _ n 0 _ S (by simp only [go_sem]) (by omega) (shAt_shC hR)).A ?_
  rw [validB_true hV]
  simp only [go_sem, Nat.reduceLT]
  refine (run2_Q _ _ _ S W H hR hV.good hW hH).A ?_
  simp only [go_sem, Nat.reduceLT, reduceIte]
theorem calm_Q : CallQ Try.prog cx 16 [.agg 266 (shC S)] h n (.tup 2 (cl [.bool (decide ((runS S W H).2 = 0)), .int .i64 0])) := by
  refine callQ_of_T (P := Try.prog) hti (nt := 20) (rs := [.tmp 2, .tmp 3]) rfl rfl Try.call16 Try.func16 rfl _ (by simp only [go_sem, and_self]) (Nat.le_of_ble_eq_true rfl) _ (by first | exact trivial | (refine lt_flat rfl ?_; simp [SV.flat]; done) | simp only [go_sem]) fun hok => ?_
  simp only [go_sem, Nat.reduceLT]
  refine (once_Q _ _ _ S W H hV hR hW hH).A ?_
  simp only [go_sem, Nat.reduceLT, reduceIte]
theorem until_Q : CallQ Try.prog cx 9 [.agg 266 (shC S)] h n (.tup 3 (cl [.agg 266 (shC (untR W H S).1), .int .i64 (untR W H S).2.1, .int .i64 (untR W H S).2.2])) := by
  refine callQ_of_T (P := Try.prog) hti (nt := 22) (rs := [.cell 2 33, .tmp 3, .tmp 4]) rfl rfl Try.call9 Try.func9 rfl _ (by simp only [go_sem, and_self]) (Nat.le_of_ble_eq_true rfl) _ (by first | exact trivial | (refine lt_flat rfl ?_; simp [SV.flat]; done) | simp only [go_sem]) fun hok => ?_
  simp only [go_sem, Nat.reduceLT]
  refine (code_Q _ _ _ n 0 _ S true (by simp only [go_sem]) (by omega) (shAt_shC hR)).A ?_
  rw [codeI_ok hV]
  simp only [go_sem, Nat.reduceLT, if_true]
  refine callA_false (runUntil_E _ _ _ n S W H (by simp only [go_sem]) (by omega) hR hV.good hW hH _ ?_)
  unfold untR
  cases hu : (untilN W H 500 0 S).2.2
  · simp only [go_sem, Nat.reduceLT, reduceIte, Int.reduceEq, if_false, Bool.false_eq_true]
  · simp only [go_sem, Nat.reduceLT, if_true]
theorem untilR_Q : CallQ Try.prog cx 10 [.agg 266 (shC S)] h n (.tup 3 (cl [.agg 266 (shC (untR W H S).1), .int .i64 (untR W H S).2.1, .int .i64 (untR W H S).2.2])) := by
  refine callQ_of_T (P := Try.prog) hti (nt := 13) (rs := [.cell 2 33, .tmp 3, .tmp 4]) rfl rfl Try.call10 Try.func10 rfl _ (by simp only [go_sem, and_self]) (Nat.le_of_ble_eq_true rfl) _ (by first | exact trivial | (refine lt_flat rfl ?_; simp [SV.flat]; done) | simp only [go_sem]) fun hok => ?_
  simp only [go_sem, Nat.reduceLT]
  refine (ok2_Q _ _ _ n 0 _ S (by simp only [go_sem]) (by omega) (shAt_shC hR)).A ?_
  rw [validB_true hV]
  simp only [go_sem, Nat.reduceLT]
  refine (until2_Q _ _ _ S W H hR hV.good hW hH).A ?_
  unfold untR
  cases hu : (untilN W H 500 0 S).2.2
  · have := untilN_no 500 0 S hu
    simp only [go_sem, Nat.reduceLT, reduceIte, if_false, Bool.false_eq_true, this, Int.natCast_zero]
  · simp only [go_sem, Nat.reduceLT, if_true]
theorem dyeIn_Q : CallQ Try.prog cx 11 [.agg 266 (shC S)] h n (.tup 2 (cl [.agg 3 (cl [.int .i64 (dyeSum S W H 0), .int .i64 (dyeSum S W H 1), .int .i64 (dyeSum S W H 2)]), .int .i64 0])) := by
  refine callQ_of_T (P := Try.prog) hti (nt := 11) (rs := [.cell 2 39, .tmp 3]) rfl rfl Try.call11 Try.func11 rfl _ (by simp only [go_sem, and_self]) (Nat.le_of_ble_eq_true rfl) _ (by first | exact trivial | (refine lt_flat rfl ?_; simp [SV.flat]; done) | simp only [go_sem]) fun hok => ?_
  simp only [go_sem, Nat.reduceLT]
  refine (code_Q _ _ _ n 0 _ S true (by simp only [go_sem]) (by omega) (shAt_shC hR)).A ?_
  rw [codeI_ok hV]
  simp only [go_sem, Nat.reduceLT, if_true]
  refine (dyes_Q _ _ _ n 0 _ S W H (by simp only [go_sem]) (by omega) (shAt_shC hR) hV.good hW hH).A ?_
  simp only [go_sem, Nat.reduceLT, reduceIte]
theorem waterIn_Q : CallQ Try.prog cx 12 [.agg 266 (shC S)] h n (.tup 2 (cl [.int .i64 (water S W H), .int .i64 0])) := by
  refine callQ_of_T (P := Try.prog) hti (nt := 10) (rs := [.tmp 2, .tmp 3]) rfl rfl Try.call12 Try.func12 rfl _ (by simp only [go_sem, and_self]) (Nat.le_of_ble_eq_true rfl) _ (by first | exact trivial | (refine lt_flat rfl ?_; simp [SV.flat]; done) | simp only [go_sem]) fun hok => ?_
  simp only [go_sem, Nat.reduceLT]
  refine (code_Q _ _ _ n 0 _ S true (by simp only [go_sem]) (by omega) (shAt_shC hR)).A ?_
  rw [codeI_ok hV]
  simp only [go_sem, Nat.reduceLT, if_true]
  refine (water_Q _ _ _ n 0 _ S W H (by simp only [go_sem]) (by omega) (shAt_shC hR) hV.good hW hH).A ?_
  simp only [go_sem, Nat.reduceLT]
end
end Go.Proofs.Ytggpnfgohpifoaa.V

/- Comparing spots; the library's small functions. -/
namespace Go.Proofs.Ytggpnfgohpifoaa.V
section
variable (cx : Cx) (h : List (Nat × Seg)) (n : Nat)
end
end Go.Proofs.Ytggpnfgohpifoaa.V

/- The library's insertion sort over spots. -/
namespace Go.Proofs.Ytggpnfgohpifoaa.V
open Go.Sort (swp insInner insOuter insertionSort)

/-- A function that compares spots. -/
def Cmps (cx : Cx) (h : List (Nat × Seg)) (n i f p q : Nat) (G F : Nat → SV) (cI : Int × Int → Int × Int → Int) : Prop :=
  ∀ (a b : Int × Int) nt n0 h' n', n ≤ n' → HBut i n h h' → CallQ Try.prog ⟨cx.w0, cx.W, nt, n0⟩ f (lst p G ++ [spot a.1 a.2, spot b.1 b.2] ++ lst q F) h' n' (.int .i64 (cI a b))
section
variable (cx : Cx) (h : List (Nat × Seg)) (n : Nat)
end
end Go.Proofs.Ytggpnfgohpifoaa.V

/- Sets of few cells: the program's own walk. -/
namespace Go.Proofs.Ytggpnfgohpifoaa.V
theorem srtS_nodup {L : List (Int × Int)} (h : L.Nodup) : (srtS L).Pairwise fun a b => ltSp a b = true := by
  have h1 := srtS_sorted L
  have h2 : (srtS L).Nodup := (srtS_perm L).nodup_iff.2 h
  refine (h1.and h2).imp fun {a b} ⟨h3, h4⟩ => ?_
  cases hlt : ltSp a b with
  | true => rfl
  | false => exact absurd (ltSp_tri hlt h3) h4
section
variable (cx : Cx) (h : List (Nat × Seg)) (n : Nat)
end
end Go.Proofs.Ytggpnfgohpifoaa.V

/- The cells to which one can go. -/
namespace Go.Proofs.Ytggpnfgohpifoaa.V
def addB (is : Int → Int → Bool) (out : List (Int × Int)) (q : Int × Int) : List (Int × Int) := if is q.1 q.2 = true ∧ q ∉ out then out ++ [q] else out
theorem addB_new {is : Int → Int → Bool} {out : List (Int × Int)} {q : Int × Int} (h1 : is q.1 q.2 = true) (h2 : q ∉ out) : addB is out q = out ++ [q] := if_pos ⟨h1, h2⟩
theorem addB_old {is : Int → Int → Bool} {out : List (Int × Int)} {q : Int × Int} (h : ¬ (is q.1 q.2 = true ∧ q ∉ out)) : addB is out q = out := if_neg h
/-- What is kept: cells of the sheet, each one once. -/
structure BOk (out : List (Int × Int)) : Prop where
  nd : out.Nodup
  in8 : In8s out
theorem BOk.len {out : List (Int × Int)} (h : BOk out) : out.length ≤ 64 := by
  have h1 : Strict (setL out) := setL_strict out
  have h2 := strict_len h1 h.in8.setL
  have h3 : setL out = srtS out := setL_eq (srtS_nodup h.nd) fun a => (srtS_perm out).mem_iff
  rw [h3] at h2
  exact Nat.le_trans (Nat.le_of_eq (srtS_perm out).length_eq.symm) h2
theorem BOk.add {is : Int → Int → Bool} (his : ∀ x y, is x y = true → In8 (x, y)) {out : List (Int × Int)} (h : BOk out) (q : Int × Int) : BOk (addB is out q) := by
  by_cases hq : is q.1 q.2 = true ∧ q ∉ out
  · rw [addB_new hq.1 hq.2]
    refine ⟨List.nodup_append.2 ⟨h.nd, by simp, fun a ha b hb => ?_⟩, fun p hp => ?_⟩
    · rw [List.mem_singleton] at hb; subst hb; exact fun e => hq.2 (e ▸ ha)
    · rcases List.mem_append.1 hp with hp | hp
      · exact h.in8 p hp
      · rw [List.mem_singleton] at hp; subst hp; exact his _ _ hq.1
  · rw [addB_old hq]; exact h
theorem BOk.one {p : Int × Int} (h : In8 p) : BOk [p] := ⟨by simp, fun q hq => by rw [List.mem_singleton] at hq; subst hq; exact h⟩
end Go.Proofs.Ytggpnfgohpifoaa.V

/- The library's heap sort over spots. -/
namespace Go.Proofs.Ytggpnfgohpifoaa.V
open Go.Sort (swp siftDown heapBuild heapPop heapSort)
theorem w64N {a : Int} {k : Nat} (h : a = (k : Int)) (hk : k ≤ 4611686018427387904) : IntKind.i64.wrap a = (k : Int) := by rw [h]; exact w64 (by omega)
section
variable (cx : Cx) (h : List (Nat × Seg)) (n : Nat)
end
end Go.Proofs.Ytggpnfgohpifoaa.V

/- The library's heap sort over spots. -/
namespace Go.Proofs.Ytggpnfgohpifoaa.V
open Go.Sort (swp siftDown heapBuild heapPop heapSort)
section
variable (cx : Cx) (h : List (Nat × Seg)) (n : Nat)
theorem Cmps.set {cx : Cx} {h : List (Nat × Seg)} {n i f p q : Nat} {G F : Nat → SV} {cI : Int × Int → Int × Int → Int} (hcmp : Cmps cx h n i f p q G F cI) (t : Seg) : Cmps cx (hset h i t) n i f p q G F cI :=
  fun a b nt n0 h' n' hn hb => hcmp a b nt n0 h' n' hn fun j hj hji u hu => hb j hj hji u (by rw [hget_hset, if_neg (Ne.symm hji)]; exact hu)
theorem Cmps.nt {cx : Cx} {h : List (Nat × Seg)} {n i f p q : Nat} {G F : Nat → SV} {cI : Int × Int → Int × Int → Int} (hcmp : Cmps cx h n i f p q G F cI) (t m : Nat) : Cmps ⟨cx.w0, cx.W, t, m⟩ h n i f p q G F cI :=
  fun a b nt n0 h' n' hn hb => hcmp a b nt n0 h' n' hn hb
end
end Go.Proofs.Ytggpnfgohpifoaa.V
