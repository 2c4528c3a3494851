/- Plain laws of sheets: what a unit given, a round run or dried, leaves. -/
import Derived.Test.YtebpkdolmlloaaaC2
set_option linter.all false
namespace Go.Proofs.Ytebpkdolmlloaaa.V

/-- Water and dye are within their bounds. -/
structure Good (S : Sh) : Prop where
  small : Small S
  wet : ∀ y x : Int, 0 ≤ y → y < 8 → 0 ≤ x → x < 8 → 0 ≤ S.wet y x ∧ S.wet y x ≤ 200
  dye : ∀ y x i : Int, 0 ≤ y → y < 8 → 0 ≤ x → x < 8 → 0 ≤ i → i < 3 → 0 ≤ S.dye y x i ∧ S.dye y x i ≤ 1000

theorem quot_le {a w : Int} (h0 : 0 ≤ a) (hw : 0 < w) : 0 ≤ a.tdiv w ∧ a.tdiv w ≤ a := by
  rw [Int.tdiv_eq_ediv_of_nonneg h0]
  exact ⟨Int.ediv_nonneg h0 (by omega), Int.ediv_le_self w h0⟩

/-- Dyes in range. -/
def DyeIn (S : Sh) : Prop := ∀ y x i : Int, 0 ≤ y → y < 8 → 0 ≤ x → x < 8 → 0 ≤ i → i < 3 → 0 ≤ S.dye y x i ∧ S.dye y x i ≤ 1000

section
variable {S : Sh} {w fx fy tx ty : Int} (hw : 0 < w) (hfx : 0 ≤ fx) (hfx8 : fx < 8) (hfy : 0 ≤ fy) (hfy8 : fy < 8) (htx : 0 ≤ tx) (htx8 : tx < 8) (hty : 0 ≤ ty) (hty8 : ty < 8) (hne : ¬ (ty = fy ∧ tx = fx))

/-- What a unit takes of an ink. -/
def byI (w : Int) (S : Sh) (fx fy tx ty i : Int) : Int := min ((S.dye fy fx i).tdiv w) (1000 - S.dye ty tx i)
include hw hfx hfx8 hfy hfy8 htx htx8 hty hty8 in
theorem giveBy_eq (hS : DyeIn S) {i : Int} (hi : 0 ≤ i) (hi3 : i < 3) : giveBy w S fx fy tx ty i = byI w S fx fy tx ty i ∧ 0 ≤ byI w S fx fy tx ty i ∧ byI w S fx fy tx ty i ≤ S.dye fy fx i ∧ byI w S fx fy tx ty i ≤ 1000 - S.dye ty tx i := by
  have h1 := hS fy fx i hfy hfy8 hfx hfx8 hi hi3
  have h2 := hS ty tx i hty hty8 htx htx8 hi hi3
  have h3 := quot_le h1.1 hw
  unfold giveBy byI
  rw [w16 (by omega), w16 (by omega)]
  omega
include hw hfx hfx8 hfy hfy8 htx htx8 hty hty8 hne in
theorem giveInk_dye (hS : DyeIn S) {k : Nat} (hk : k < 3) (y x i : Int) : (giveInk w S fx fy tx ty k).dye y x i =
    if y = ty ∧ x = tx ∧ i = k then S.dye y x i + byI w S fx fy tx ty k else if y = fy ∧ x = fx ∧ i = k then S.dye y x i - byI w S fx fy tx ty k else S.dye y x i := by
  obtain ⟨e, b0, b1, b2⟩ := giveBy_eq hw hfx hfx8 hfy hfy8 htx htx8 hty hty8 hS (i := (k : Int)) (by omega) (by omega)
  have h1 := hS fy fx k hfy hfy8 hfx hfx8 (by omega) (by omega)
  have h2 := hS ty tx k hty hty8 htx htx8 (by omega) (by omega)
  simp only [giveInk, Sh.setDye, e]
  have h3 : ∀ v, (if ty = fy ∧ tx = fx ∧ True then v else S.dye ty tx k) = S.dye ty tx k := fun v => if_neg (fun h => hne ⟨h.1, h.2.1⟩)
  rw [h3, w16 (by omega), w16 (by omega)]
  split
  · rename_i h; obtain ⟨rfl, rfl, rfl⟩ := h; rfl
  · split
    · rename_i h; obtain ⟨rfl, rfl, rfl⟩ := h; rfl
    · rfl
include hw hfx hfx8 hfy hfy8 htx htx8 hty hty8 hne in
theorem giveInk_in (hS : DyeIn S) {k : Nat} (hk : k < 3) : DyeIn (giveInk w S fx fy tx ty k) := by
  obtain ⟨e, b0, b1, b2⟩ := giveBy_eq hw hfx hfx8 hfy hfy8 htx htx8 hty hty8 hS (i := (k : Int)) (by omega) (by omega)
  intro y x i a1 a2 a3 a4 a5 a6
  rw [giveInk_dye hw hfx hfx8 hfy hfy8 htx htx8 hty hty8 hne hS hk]
  have h0 := hS y x i a1 a2 a3 a4 a5 a6
  split
  · rename_i h; obtain ⟨rfl, rfl, rfl⟩ := h; omega
  · split
    · rename_i h; obtain ⟨rfl, rfl, rfl⟩ := h; omega
    · exact h0
include hw hfx hfx8 hfy hfy8 htx htx8 hty hty8 hne in
theorem giveN_in (hS : DyeIn S) : ∀ {k : Nat}, k ≤ 3 → DyeIn (giveN w S fx fy tx ty k)
  | 0, _ => hS
  | k + 1, hk => giveInk_in hw hfx hfx8 hfy hfy8 htx htx8 hty hty8 hne (giveN_in hS (by omega)) (by omega)
theorem giveN_same (k : Nat) : (giveN w S fx fy tx ty k).wet = S.wet ∧ (giveN w S fx fy tx ty k).wide = S.wide ∧ (giveN w S fx fy tx ty k).high = S.high ∧ (giveN w S fx fy tx ty k).wax = S.wax := by
  induction k with
  | zero => exact ⟨rfl, rfl, rfl, rfl⟩
  | succ k ih => exact ih
end

/-- Sides and wax are the same. -/
structure Alike' (S S' : Sh) : Prop where
  wide : S'.wide = S.wide
  high : S'.high = S.high
  wax : S'.wax = S.wax
theorem Alike'.refl (S : Sh) : Alike' S S := ⟨rfl, rfl, rfl⟩
theorem Alike'.trans {A B C : Sh} (h : Alike' A B) (k : Alike' B C) : Alike' A C := ⟨k.wide.trans h.wide, k.high.trans h.high, k.wax.trans h.wax⟩
theorem Alike'.hasB {S S' : Sh} (h : Alike' S S') (x y : Int) : V.hasB S' x y = V.hasB S x y := by simp [V.hasB, h.wide, h.high]
theorem Alike'.waxB {S S' : Sh} (h : Alike' S S') (x y : Int) : V.waxB S' x y = V.waxB S x y := by simp [V.waxB, h.wax]
theorem Alike'.nb {S S' : Sh} (h : Alike' S S') (x y : Int) : V.nb S' x y = V.nb S x y := by
  simp only [V.nb, V.nbB, h.hasB, h.waxB]

section
variable {S : Sh} {fx fy tx ty : Int} (hG : Good S) (hfx : 0 ≤ fx) (hfx8 : fx < 8) (hfy : 0 ≤ fy) (hfy8 : fy < 8) (htx : 0 ≤ tx) (htx8 : tx < 8) (hty : 0 ≤ ty) (hty8 : ty < 8) (h2 : 2 ≤ S.wet fy fx - S.wet ty tx)
include hG hfx hfx8 hfy hfy8 htx htx8 hty hty8 h2

theorem giveS_wet (y x : Int) : (giveS S fx fy tx ty).wet y x = if y = ty ∧ x = tx then S.wet y x + 1 else if y = fy ∧ x = fx then S.wet y x - 1 else S.wet y x := by
  have a := hG.wet fy fx hfy hfy8 hfx hfx8
  have b := hG.wet ty tx hty hty8 htx htx8
  have hne : ¬ (ty = fy ∧ tx = fx) := fun ⟨h1, h3⟩ => by subst h1; subst h3; omega
  simp only [giveS, Sh.setWet, (giveN_same 3).1, if_neg hne]
  rw [w16 (by omega), w16 (by omega)]
  split
  · rename_i h; obtain ⟨rfl, rfl⟩ := h; rfl
  · split
    · rename_i h; obtain ⟨rfl, rfl⟩ := h; rfl
    · rfl
theorem giveS_good : Good (giveS S fx fy tx ty) ∧ Alike' S (giveS S fx fy tx ty) := by
  have a := hG.wet fy fx hfy hfy8 hfx hfx8
  have b := hG.wet ty tx hty hty8 htx htx8
  have hne : ¬ (ty = fy ∧ tx = fx) := fun ⟨h1, h3⟩ => by subst h1; subst h3; omega
  have hs := giveN_same (w := S.wet fy fx) (S := S) (fx := fx) (fy := fy) (tx := tx) (ty := ty) 3
  have hd := giveN_in (by omega) hfx hfx8 hfy hfy8 htx htx8 hty hty8 hne (S := S) (w := S.wet fy fx) hG.dye (k := 3) (Nat.le_refl _)
  refine ⟨⟨?_, fun y x a1 a2 a3 a4 => ?_, hd⟩, hs.2.1, hs.2.2.1, hs.2.2.2⟩
  · have := hG.small
    simp only [Small, giveS, Sh.setWet, hs.2.1, hs.2.2.1] at this ⊢
    exact this
  · rw [giveS_wet hG hfx hfx8 hfy hfy8 htx htx8 hty hty8 h2]
    have c := hG.wet y x a1 a2 a3 a4
    split
    · rename_i h; obtain ⟨rfl, rfl⟩ := h; omega
    · split
      · rename_i h; obtain ⟨rfl, rfl⟩ := h; omega
      · exact c
end

/-- Units given to neighbours, one after the other. -/
def nbStep (x y : Int) (a : Sh × Int) (t : Int × Int) : Sh × Int := if 2 ≤ a.1.wet y x - a.1.wet t.2 t.1 then (giveS a.1 x y t.1 t.2, a.2 + 1) else a
def nbN (x y : Int) (L : List (Int × Int)) (a : Sh × Int) : Nat → Sh × Int
  | 0 => a
  | q + 1 => nbStep x y (nbN x y L a q) (L.getD q (0, 0))
def runCell (a : Sh × Int) (x y : Int) : Sh × Int := if waxB a.1 x y then a else nbN x y (nb a.1 x y) a (nb a.1 x y).length
def runN (S : Sh) (W : Nat) : Nat → Sh × Int
  | 0 => (S, 0)
  | j + 1 => runCell (runN S W j) ((j % W : Nat) : Int) ((j / W : Nat) : Int)
def runS (S : Sh) (W H : Nat) : Sh × Int := runN S W (H * W)

theorem nb_mem {S : Sh} {x y : Int} (hs : Small S) {q : Nat} (hq : q < (nb S x y).length) : hasB S ((nb S x y).getD q (0, 0)).1 ((nb S x y).getD q (0, 0)).2 = true ∧ 0 ≤ ((nb S x y).getD q (0, 0)).1 ∧ ((nb S x y).getD q (0, 0)).1 < 8 ∧ 0 ≤ ((nb S x y).getD q (0, 0)).2 ∧ ((nb S x y).getD q (0, 0)).2 < 8 := by
  have hm : (nb S x y).getD q (0, 0) ∈ nb S x y := by
    rw [List.getD_eq_getElem?_getD, List.getElem?_eq_getElem hq]; exact List.getElem_mem hq
  have h1 := (List.mem_filter.1 hm).2
  have h2 : hasB S ((nb S x y).getD q (0, 0)).1 ((nb S x y).getD q (0, 0)).2 = true := by
    simp only [nbB, Bool.not_eq_true', Bool.or_eq_false_iff, Bool.not_eq_false'] at h1; exact h1.1
  exact ⟨h2, hasB_in hs h2⟩
theorem nb_len (S : Sh) (x y : Int) : (nb S x y).length ≤ 4 := List.length_filter_le _ _

theorem nbN_good {x y : Int} {L : List (Int × Int)} {S0 : Sh} {a : Sh × Int} (hx : 0 ≤ x) (hx8 : x < 8) (hy : 0 ≤ y) (hy8 : y < 8) (hL : ∀ q, q < L.length → 0 ≤ (L.getD q (0, 0)).1 ∧ (L.getD q (0, 0)).1 < 8 ∧ 0 ≤ (L.getD q (0, 0)).2 ∧ (L.getD q (0, 0)).2 < 8)
    (hG : Good a.1) (hA : Alike' S0 a.1) : ∀ q, q ≤ L.length → Good (nbN x y L a q).1 ∧ Alike' S0 (nbN x y L a q).1 ∧ a.2 ≤ (nbN x y L a q).2 ∧ (nbN x y L a q).2 ≤ a.2 + q
  | 0, _ => ⟨hG, hA, Int.le_refl _, by show a.2 ≤ a.2 + ((0 : Nat) : Int); omega⟩
  | q + 1, hq => by
    obtain ⟨g1, g2, g3, g4⟩ := nbN_good hx hx8 hy hy8 hL hG hA q (by omega)
    obtain ⟨l1, l2, l3, l4⟩ := hL q (by omega)
    simp only [nbN, nbStep]
    split
    · rename_i h
      obtain ⟨k1, k2⟩ := giveS_good g1 hx hx8 hy hy8 l1 l2 l3 l4 h
      exact ⟨k1, g2.trans k2, by simp only; omega, by simp only; omega⟩
    · exact ⟨g1, g2, g3, by omega⟩
theorem runN_good {S : Sh} {W H : Nat} (hG : Good S) (hW : S.wide = W) (hH : S.high = H) : ∀ j, j ≤ H * W → Good (runN S W j).1 ∧ Alike' S (runN S W j).1 ∧ 0 ≤ (runN S W j).2 ∧ (runN S W j).2 ≤ 4 * j
  | 0, _ => ⟨hG, .refl S, Int.le_refl _, by simp [runN]⟩
  | j + 1, hj => by
    obtain ⟨g1, g2, g3, g4⟩ := runN_good hG hW hH j (by omega)
    have hs := hG.small
    unfold Small at hs
    have hW0 : 0 < W := by omega
    have hm := Nat.mod_lt j hW0
    have hd : j / W < H := (Nat.div_lt_iff_lt_mul hW0).2 (by omega)
    have hx8 : ((j % W : Nat) : Int) < 8 := by omega
    have hy8 : ((j / W : Nat) : Int) < 8 := by omega
    simp only [runN, runCell]
    split
    · exact ⟨g1, g2, g3, by omega⟩
    · obtain ⟨k1, k2, k3, k4⟩ := nbN_good (S0 := S) (x := ((j % W : Nat) : Int)) (y := ((j / W : Nat) : Int)) (L := nb (runN S W j).1 ((j % W : Nat) : Int) ((j / W : Nat) : Int)) (Int.natCast_nonneg _) hx8 (Int.natCast_nonneg _) hy8 (fun q hq => (nb_mem g1.small hq).2) g1 g2 _ (Nat.le_refl _)
      have := nb_len (runN S W j).1 ((j % W : Nat) : Int) ((j / W : Nat) : Int)
      exact ⟨k1, k2, by omega, by omega⟩
end Go.Proofs.Ytebpkdolmlloaaa.V
