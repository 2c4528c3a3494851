/- Plain laws of water: running keeps it, drying lessens it. -/
import Derived.Test.YtebpkdolmlloaaaP1
set_option linter.all false
namespace Go.Proofs.Ytebpkdolmlloaaa.V

/-- A sum of the first numbers. -/
def sumN (f : Nat → Int) : Nat → Int
  | 0 => 0
  | n + 1 => sumN f n + f n
theorem sumN_congr {f g : Nat → Int} {n : Nat} (h : ∀ k, k < n → f k = g k) : sumN f n = sumN g n := by
  induction n with
  | zero => rfl
  | succ n ih => simp only [sumN]; rw [ih fun k hk => h k (by omega), h n (by omega)]
theorem sumN_add (f g : Nat → Int) (n : Nat) : sumN (fun k => f k + g k) n = sumN f n + sumN g n := by
  induction n with
  | zero => rfl
  | succ n ih => simp only [sumN, ih]; omega
theorem sumN_one (a : Nat) (v : Int) (n : Nat) : sumN (fun k => if k = a then v else 0) n = if a < n then v else 0 := by
  induction n with
  | zero => rfl
  | succ n ih =>
    simp only [sumN, ih]
    by_cases h : n = a
    · subst h; simp
    · rw [if_neg h]
      by_cases h2 : a < n
      · rw [if_pos h2, if_pos (by omega)]; omega
      · rw [if_neg h2, if_neg (by omega)]; omega
theorem sumN_le {f g : Nat → Int} {n : Nat} (h : ∀ k, k < n → f k ≤ g k) : sumN f n ≤ sumN g n := by
  induction n with
  | zero => exact Int.le_refl _
  | succ n ih => simp only [sumN]; have := ih fun k hk => h k (by omega); have := h n (by omega); omega
theorem sumN_lt {f g : Nat → Int} {n a : Nat} (ha : a < n) (h : ∀ k, k < n → f k ≤ g k) (hlt : f a < g a) : sumN f n < sumN g n := by
  induction n with
  | zero => omega
  | succ n ih =>
    simp only [sumN]
    by_cases h2 : a = n
    · subst h2
      have := sumN_le (f := f) (g := g) (n := a) fun k hk => h k (by omega)
      omega
    · have := ih (by omega) fun k hk => h k (by omega)
      have := h n (by omega)
      omega
theorem sumN_nonneg {f : Nat → Int} {n : Nat} (h : ∀ k, k < n → 0 ≤ f k) : 0 ≤ sumN f n := by
  induction n with
  | zero => exact Int.le_refl _
  | succ n ih => simp only [sumN]; have := ih fun k hk => h k (by omega); have := h n (by omega); omega
theorem sumN_bound {f : Nat → Int} {n : Nat} {b : Int} (h : ∀ k, k < n → f k ≤ b) : sumN f n ≤ n * b := by
  induction n with
  | zero => simp [sumN]
  | succ n ih => simp only [sumN, Int.natCast_add, Int.natCast_one, Int.add_mul, Int.one_mul]; have := ih fun k hk => h k (by omega); have := h n (by omega); omega

/-- The water of the first cells. -/
def wetAt (S : Sh) (W : Nat) (k : Nat) : Int := S.wet ((k / W : Nat) : Int) ((k % W : Nat) : Int)
def waterN (S : Sh) (W : Nat) (j : Nat) : Int := sumN (wetAt S W) j
def water (S : Sh) (W H : Nat) : Int := waterN S W (H * W)

theorem cell_lt {W H j : Nat} {S : Sh} (hs : Small S) (hW : S.wide = W) (hH : S.high = H) (hj : j < H * W) : 0 ≤ ((j % W : Nat) : Int) ∧ ((j % W : Nat) : Int) < 8 ∧ 0 ≤ ((j / W : Nat) : Int) ∧ ((j / W : Nat) : Int) < 8 := by
  unfold Small at hs
  have hW0 : 0 < W := by omega
  have hm := Nat.mod_lt j hW0
  have hd : j / W < H := (Nat.div_lt_iff_lt_mul hW0).2 hj
  exact ⟨Int.natCast_nonneg _, by omega, Int.natCast_nonneg _, by omega⟩
theorem water_in {S : Sh} {W H : Nat} (hG : Good S) (hW : S.wide = W) (hH : S.high = H) (j : Nat) (hj : j ≤ H * W) : 0 ≤ waterN S W j ∧ waterN S W j ≤ 200 * j := by
  have hc : ∀ k, k < j → 0 ≤ wetAt S W k ∧ wetAt S W k ≤ 200 := fun k hk => by
    obtain ⟨a, b, c, d⟩ := cell_lt hG.small hW hH (j := k) (by omega)
    exact hG.wet _ _ c d a b
  have h1 := sumN_nonneg (f := wetAt S W) (n := j) fun k hk => (hc k hk).1
  have h2 := sumN_bound (f := wetAt S W) (n := j) (b := 200) fun k hk => (hc k hk).2
  unfold waterN
  omega
/-- A cell that a sheet has is one of its cells. -/
theorem hasB_cell {S : Sh} {W H : Nat} (hW : S.wide = W) (hH : S.high = H) {x y : Int} (h : hasB S x y = true) : ∃ k, k < H * W ∧ y = ((k / W : Nat) : Int) ∧ x = ((k % W : Nat) : Int) := by
  simp only [hasB, Bool.and_eq_true, decide_eq_true_eq, hW, hH] at h
  obtain ⟨⟨⟨h1, h2⟩, h3⟩, h4⟩ := h
  obtain ⟨a, rfl⟩ := Int.eq_ofNat_of_zero_le h1
  obtain ⟨b, rfl⟩ := Int.eq_ofNat_of_zero_le h3
  have ha : a < W := by omega
  have hb : b < H := by omega
  refine ⟨b * W + a, ?_, ?_, ?_⟩
  · have : b * W + W ≤ H * W := by rw [← Nat.succ_mul]; exact Nat.mul_le_mul_right _ hb
    omega
  · rw [Nat.mul_comm, Nat.mul_add_div (by omega), Nat.div_eq_of_lt ha, Nat.add_zero]
  · rw [Nat.mul_comm, Nat.mul_add_mod, Nat.mod_eq_of_lt ha]
theorem cell_eq {W k j : Nat} : (((k / W : Nat) : Int) = ((j / W : Nat) : Int) ∧ ((k % W : Nat) : Int) = ((j % W : Nat) : Int)) ↔ k = j :=
  ⟨fun h => Classical.byContradiction fun hne => cell_ne hne h, fun h => by subst h; exact ⟨rfl, rfl⟩⟩

theorem give_water {S : Sh} {W H : Nat} (hG : Good S) (hW : S.wide = W) (hH : S.high = H) {j t : Nat} (hj : j < H * W) (ht : t < H * W) (h2 : 2 ≤ wetAt S W j - wetAt S W t) :
    water (giveS S ((j % W : Nat) : Int) ((j / W : Nat) : Int) ((t % W : Nat) : Int) ((t / W : Nat) : Int)) W H = water S W H := by
  obtain ⟨a, b, c, d⟩ := cell_lt hG.small hW hH hj
  obtain ⟨a', b', c', d'⟩ := cell_lt hG.small hW hH ht
  have hne : t ≠ j := by rintro rfl; omega
  have hw : ∀ k, k < H * W → wetAt (giveS S ((j % W : Nat) : Int) ((j / W : Nat) : Int) ((t % W : Nat) : Int) ((t / W : Nat) : Int)) W k = (wetAt S W k + (if k = t then 1 else 0)) + (if k = j then -1 else 0) := by
    intro k hk
    unfold wetAt
    rw [giveS_wet hG a b c d a' b' c' d' h2]
    by_cases h1 : k = t
    · subst h1; rw [if_pos ⟨rfl, rfl⟩, if_pos rfl, if_neg hne]; omega
    · rw [if_neg (fun h => h1 (cell_eq.1 h)), if_neg h1]
      by_cases h3 : k = j
      · subst h3; rw [if_pos ⟨rfl, rfl⟩, if_pos rfl]; omega
      · rw [if_neg (fun h => h3 (cell_eq.1 h)), if_neg h3]; omega
  unfold water waterN
  rw [sumN_congr hw, sumN_add, sumN_add, sumN_one, sumN_one, if_pos ht, if_pos hj]
  omega
theorem nbN_water {W H j : Nat} (hj : j < H * W) {a : Sh × Int} (hG : Good a.1) (hW : a.1.wide = W) (hH : a.1.high = H) {L : List (Int × Int)} (hL : ∀ q, q < L.length → hasB a.1 (L.getD q (0, 0)).1 (L.getD q (0, 0)).2 = true) : ∀ q, q ≤ L.length →
    water (nbN ((j % W : Nat) : Int) ((j / W : Nat) : Int) L a q).1 W H = water a.1 W H
  | 0, _ => rfl
  | q + 1, hq => by
    obtain ⟨x0, x8, y0, y8⟩ := cell_lt hG.small hW hH hj
    have ih := nbN_water hj hG hW hH hL q (by omega)
    obtain ⟨g1, g2, g3, g4⟩ := nbN_good (S0 := a.1) x0 x8 y0 y8 (fun q hq => hasB_in hG.small (hL q hq)) hG (.refl a.1) q (by omega)
    obtain ⟨t, ht, e1, e2⟩ := hasB_cell hW hH (hL q (by omega))
    simp only [nbN, nbStep]
    generalize nbN ((j % W : Nat) : Int) ((j / W : Nat) : Int) L a q = A at *
    generalize L.getD q (0, 0) = p at *
    obtain ⟨px, py⟩ := p
    simp only at e1 e2
    subst e1 e2
    split
    · rename_i h2
      exact (give_water g1 (g2.wide.trans hW) (g2.high.trans hH) hj ht h2).trans ih
    · exact ih
theorem runN_water {S : Sh} {W H : Nat} (hG : Good S) (hW : S.wide = W) (hH : S.high = H) : ∀ j, j ≤ H * W → water (runN S W j).1 W H = water S W H
  | 0, _ => rfl
  | j + 1, hj => by
    have ih := runN_water hG hW hH j (by omega)
    obtain ⟨g1, g2, _, _⟩ := runN_good hG hW hH j (by omega)
    simp only [runN, runCell]
    split
    · exact ih
    · exact (nbN_water (by omega) g1 (g2.wide.trans hW) (g2.high.trans hH) (fun q hq => (nb_mem g1.small hq).1) _ (Nat.le_refl _)).trans ih
theorem runS_water {S : Sh} {W H : Nat} (hG : Good S) (hW : S.wide = W) (hH : S.high = H) : water (runS S W H).1 W H = water S W H := runN_water hG hW hH _ (Nat.le_refl _)
theorem dryS_water {S : Sh} {W H : Nat} (hG : Good S) (hW : S.wide = W) (hH : S.high = H) (hw : 0 < water S W H) : water (dryS S W H).1 W H < water S W H := by
  obtain ⟨g1, _⟩ := dryN_wet hG hW hH (H * W) (Nat.le_refl _)
  have hcell : ∀ k, k < H * W → wetAt (dryS S W H).1 W k = wetAt S W k - dryBy S ((k % W : Nat) : Int) ((k / W : Nat) : Int) := by
    intro k hk
    unfold wetAt dryS
    rw [g1, if_pos ⟨k, hk, rfl, rfl⟩]
  have hb : ∀ k, k < H * W → _ := fun k hk => dryBy_in hG (cell_lt hG.small hW hH hk).1 (cell_lt hG.small hW hH hk).2.1 (cell_lt hG.small hW hH hk).2.2.1 (cell_lt hG.small hW hH hk).2.2.2
  have hex : ∃ k, k < H * W ∧ wetAt S W k ≠ 0 := by
    apply Classical.byContradiction
    intro hno
    have : water S W H = sumN (fun _ => 0) (H * W) := sumN_congr fun k hk => Classical.byContradiction fun h => hno ⟨k, hk, h⟩
    have h0 : ∀ n, sumN (fun _ => 0) n = 0 := by intro n; induction n with
      | zero => rfl
      | succ n ih => simp [sumN, ih]
    rw [h0] at this; omega
  obtain ⟨k, hk, hne⟩ := hex
  refine sumN_lt hk (fun k hk => ?_) ?_
  · rw [hcell k hk]; have := hb k hk; omega
  · rw [hcell k hk]
    have := (hb k hk).2.2.2.1 hne
    omega
end Go.Proofs.Ytebpkdolmlloaaa.V
