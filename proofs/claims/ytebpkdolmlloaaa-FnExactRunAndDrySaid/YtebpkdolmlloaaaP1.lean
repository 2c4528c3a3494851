/- Plain laws of drying. -/
import Derived.Test.YtebpkdolmlloaaaP0
set_option linter.all false
namespace Go.Proofs.Ytebpkdolmlloaaa.V

/-- One, and one for each of the first neighbours without water. -/
def cntN (S : Sh) (L : List (Int × Int)) : Nat → Int
  | 0 => 1
  | q + 1 => if S.wet (L.getD q (0, 0)).2 (L.getD q (0, 0)).1 = 0 then cntN S L q + 1 else cntN S L q
theorem cntN_in (S : Sh) (L : List (Int × Int)) : ∀ q, 1 ≤ cntN S L q ∧ cntN S L q ≤ 1 + q
  | 0 => by simp [cntN]
  | q + 1 => by
    have := cntN_in S L q
    simp only [cntN]
    split <;> omega
/-- How much a cell loses. -/
def dryBy (S : Sh) (x y : Int) : Int := min (cntN S (nb S x y) (nb S x y).length) (S.wet y x)
def dryCell (S : Sh) (a : Sh × Int) (x y : Int) : Sh × Int :=
  if S.wet y x = 0 then a else (a.1.setWet y x (IntKind.i16.wrap (a.1.wet y x - IntKind.i16.wrap (dryBy S x y))), a.2 + dryBy S x y)
def dryN (S : Sh) (W : Nat) : Nat → Sh × Int
  | 0 => (S, 0)
  | j + 1 => dryCell S (dryN S W j) ((j % W : Nat) : Int) ((j / W : Nat) : Int)
def dryS (S : Sh) (W H : Nat) : Sh × Int := dryN S W (H * W)

theorem dryBy_in {S : Sh} (hG : Good S) {x y : Int} (hx : 0 ≤ x) (hx8 : x < 8) (hy : 0 ≤ y) (hy8 : y < 8) : 0 ≤ dryBy S x y ∧ dryBy S x y ≤ 5 ∧ dryBy S x y ≤ S.wet y x ∧ (S.wet y x ≠ 0 → 1 ≤ dryBy S x y) ∧ (S.wet y x = 0 → dryBy S x y = 0) := by
  have h1 := cntN_in S (nb S x y) (nb S x y).length
  have h2 := nb_len S x y
  have h3 := hG.wet y x hy hy8 hx hx8
  unfold dryBy
  omega
theorem cell_ne {W k j : Nat} (h : k ≠ j) : ¬ (((k / W : Nat) : Int) = ((j / W : Nat) : Int) ∧ ((k % W : Nat) : Int) = ((j % W : Nat) : Int)) := by
  rintro ⟨h1, h2⟩
  have h1 : k / W = j / W := Int.ofNat_inj.1 h1
  have h2 : k % W = j % W := Int.ofNat_inj.1 h2
  have a := Nat.div_add_mod k W
  have b := Nat.div_add_mod j W
  rw [h1, h2] at a
  omega
/-- Cells before number j. -/
def before (W j : Nat) (y x : Int) : Prop := ∃ k, k < j ∧ y = ((k / W : Nat) : Int) ∧ x = ((k % W : Nat) : Int)
open Classical in
theorem dryN_wet {S : Sh} {W H : Nat} (hG : Good S) (hW : S.wide = W) (hH : S.high = H) : ∀ j, j ≤ H * W →
    (∀ y x, (dryN S W j).1.wet y x = if before W j y x then S.wet y x - dryBy S x y else S.wet y x) ∧ (dryN S W j).1.dye = S.dye ∧ Alike' S (dryN S W j).1 ∧ 0 ≤ (dryN S W j).2 ∧ (dryN S W j).2 ≤ 5 * j
  | 0, _ => ⟨fun y x => by rw [if_neg (by rintro ⟨k, hk, _⟩; omega)]; rfl, rfl, .refl S, Int.le_refl _, by simp [dryN]⟩
  | j + 1, hj => by
    obtain ⟨g1, g2, g3, g4, g5⟩ := dryN_wet hG hW hH j (by omega)
    have hs := hG.small
    unfold Small at hs
    have hW0 : 0 < W := by omega
    have hm := Nat.mod_lt j hW0
    have hd : j / W < H := (Nat.div_lt_iff_lt_mul hW0).2 (by omega)
    have x0 : 0 ≤ ((j % W : Nat) : Int) := Int.natCast_nonneg _
    have y0 : 0 ≤ ((j / W : Nat) : Int) := Int.natCast_nonneg _
    have x8 : ((j % W : Nat) : Int) < 8 := by omega
    have y8 : ((j / W : Nat) : Int) < 8 := by omega
    have hb := dryBy_in hG x0 x8 y0 y8
    have hw := hG.wet _ _ y0 y8 x0 x8
    have hnb : ¬ before W j ((j / W : Nat) : Int) ((j % W : Nat) : Int) := by
      rintro ⟨k, hk, h1, h2⟩
      exact cell_ne (W := W) (show k ≠ j by omega) ⟨h1.symm, h2.symm⟩
    have hcur : (dryN S W j).1.wet ((j / W : Nat) : Int) ((j % W : Nat) : Int) = S.wet ((j / W : Nat) : Int) ((j % W : Nat) : Int) := by rw [g1, if_neg hnb]
    have hbj : ∀ y x, before W (j + 1) y x ↔ before W j y x ∨ (y = ((j / W : Nat) : Int) ∧ x = ((j % W : Nat) : Int)) := by
      intro y x
      constructor
      · rintro ⟨k, hk, h1, h2⟩
        rcases (by omega : k < j ∨ k = j) with h | rfl
        · exact .inl ⟨k, h, h1, h2⟩
        · exact .inr ⟨h1, h2⟩
      · rintro (⟨k, hk, h1, h2⟩ | ⟨h1, h2⟩)
        · exact ⟨k, by omega, h1, h2⟩
        · exact ⟨j, by omega, h1, h2⟩
    simp only [dryN, dryCell]
    split
    · rename_i h0
      refine ⟨fun y x => ?_, g2, g3, g4, by omega⟩
      rw [g1]
      by_cases hyx : y = ((j / W : Nat) : Int) ∧ x = ((j % W : Nat) : Int)
      · obtain ⟨rfl, rfl⟩ := hyx
        rw [if_neg hnb, if_pos ((hbj _ _).2 (.inr ⟨rfl, rfl⟩)), hb.2.2.2.2 h0]; omega
      · by_cases hbe : before W j y x
        · rw [if_pos hbe, if_pos ((hbj _ _).2 (.inl hbe))]
        · rw [if_neg hbe, if_neg (fun h => ((hbj _ _).1 h).elim hbe hyx)]
    · rename_i h0
      refine ⟨fun y x => ?_, g2, ⟨g3.wide, g3.high, g3.wax⟩, by simp only; omega, by simp only; omega⟩
      simp only [Sh.setWet, hcur]
      rw [w16 (n := dryBy S _ _) (by omega), w16 (by omega)]
      by_cases hyx : y = ((j / W : Nat) : Int) ∧ x = ((j % W : Nat) : Int)
      · obtain ⟨rfl, rfl⟩ := hyx
        rw [if_pos ⟨rfl, rfl⟩, if_pos ((hbj _ _).2 (.inr ⟨rfl, rfl⟩))]
      · rw [if_neg hyx, g1]
        by_cases hbe : before W j y x
        · rw [if_pos hbe, if_pos ((hbj _ _).2 (.inl hbe))]
        · rw [if_neg hbe, if_neg (fun h => ((hbj _ _).1 h).elim hbe hyx)]
theorem dryN_good {S : Sh} {W H : Nat} (hG : Good S) (hW : S.wide = W) (hH : S.high = H) (j : Nat) (hj : j ≤ H * W) : Good (dryN S W j).1 ∧ Alike' S (dryN S W j).1 ∧ 0 ≤ (dryN S W j).2 ∧ (dryN S W j).2 ≤ 5 * j := by
  obtain ⟨g1, g2, g3, g4, g5⟩ := dryN_wet hG hW hH j hj
  refine ⟨⟨?_, fun y x a1 a2 a3 a4 => ?_, fun y x i => by rw [g2]; exact hG.dye y x i⟩, g3, g4, g5⟩
  · have := hG.small
    simp only [Small, g3.wide, g3.high] at this ⊢; exact this
  · rw [g1]
    have h1 := hG.wet y x a1 a2 a3 a4
    have h2 := dryBy_in hG a3 a4 a1 a2
    split <;> omega
end Go.Proofs.Ytebpkdolmlloaaa.V
