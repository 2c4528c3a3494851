/- Part 7 of the texts that this proof stands on: a symbolic walk over the program, what its functions and the reference's do, plain laws. -/
import Derived.Test.YtfelopllfhcdpaaGreatV20
import Derived.Test.YtfelopllfhcdpaaGreatTi
import Derived.DeepKeys4
import Derived.Test.YtfelopllfhcdpaaGreatZloe
import Derived.Test.YtfelopllfhcdpaaGreatZlof
set_option linter.all false

/- Maps of cells: rules for the walk. -/
namespace Go.Proofs.YtfelopllfhcdpaaGreat.V
open Go.WideMaps Go.RowKit Go.MapKept
/-! ### Digits -/
def setD (m c v : Nat) : Nat := m + v * 256 ^ c
theorem dig_set {m c v c' : Nat} (h0 : dig m c = 0) (hv : v < 256) : dig (setD m c v) c' = if c' = c then v else dig m c' := by
  unfold dig setD at *
  have hp : ∀ k : Nat, 0 < 256 ^ k := fun k => Nat.pow_pos (by omega)
  by_cases e : c' = c
  · subst e
    rw [if_pos rfl, Nat.add_mul_div_right _ _ (hp _)]
    omega
  · rw [if_neg e]
    by_cases hlt : c < c'
    · obtain ⟨d, rfl⟩ : ∃ d, c' = c + 1 + d := ⟨c' - c - 1, by omega⟩
      have e1 : 256 ^ (c + 1 + d) = 256 ^ c * (256 * 256 ^ d) := by rw [Nat.pow_add, Nat.pow_succ, Nat.mul_assoc]
      rw [e1, ← Nat.div_div_eq_div_mul, ← Nat.div_div_eq_div_mul, Nat.add_mul_div_right _ _ (hp _), ← Nat.div_div_eq_div_mul, ← Nat.div_div_eq_div_mul]
      congr 2
      omega
    · obtain ⟨d, rfl⟩ : ∃ d, c = c' + 1 + d := ⟨c - c' - 1, by omega⟩
      have e1 : v * 256 ^ (c' + 1 + d) = (v * 256 ^ d * 256) * 256 ^ c' := by
        rw [Nat.pow_add, Nat.pow_succ]
        rw [Nat.mul_comm (256 ^ c') 256, Nat.mul_assoc 256, Nat.mul_comm (256 ^ c') (256 ^ d), ← Nat.mul_assoc, ← Nat.mul_assoc]
        congr 1
        rw [Nat.mul_comm v 256, Nat.mul_assoc, Nat.mul_comm]
      rw [e1, Nat.add_mul_div_right _ _ (hp _), Nat.add_mul_mod_self_right]
section
variable {cx : Cx} {ρ : Rho} {l : List (Nat × SV)} {h : List (Nat × Seg)} {n : Nat} {a : Act} {w : World} {K : List (Nat × SV) → List (Nat × Seg) → Nat → Prop}
end
/-! ### The key's law -/
def addD (m c : Nat) : Nat := if dig m c = 0 then setD m c 1 else m
theorem dig_add (m c c' : Nat) : dig (addD m c) c' = if c' = c ∧ dig m c = 0 then 1 else dig m c' := by
  unfold addD
  split
  · rename_i h; rw [dig_set h (by omega)]
    by_cases e : c' = c
    · rw [if_pos e, if_pos ⟨e, h⟩]
    · rw [if_neg e, if_neg (fun h => e h.1)]
  · rename_i h; rw [if_neg (fun e => h e.2)]
theorem dig_add_ne (m c c' : Nat) : dig (addD m c) c' ≠ 0 ↔ c' = c ∨ dig m c' ≠ 0 := by
  rw [dig_add]
  by_cases e : c' = c
  · subst e
    by_cases h : dig m c' = 0
    · simp [h]
    · simp [h]
  · simp [e]
section
variable {cx : Cx} {l : List (Nat × SV)} {h : List (Nat × Seg)} {n : Nat} {K : List (Nat × SV) → List (Nat × Seg) → Nat → Prop}
end
end Go.Proofs.YtfelopllfhcdpaaGreat.V

/- Parts of a sheet: the model, the rows, what is kept. -/
namespace Go.Proofs.YtfelopllfhcdpaaGreat.V
/-- One row more. -/
theorem lssApp {h hq : List (Nat × Seg)} {lo n nq j cap cap' jr cpR : Nat} {sc c1 : Nat → SV} {r cp : Nat → Nat} {LL : List LSp} {R : LSp} {w : Option (Nat × Nat)}
    (S : Lss hq lo nq j cap sc r cp LL) (ok : HOk nq hq) (X : HExt n h hq) (hn : n ≤ j) (hR : RowAt hq jr R) (hlo : lo ≤ jr) (hln : jr < nq) (hjj : jr ≠ j) (hgt : ∀ k, k < LL.length → r k ≠ jr) (hc1 : c1 0 = .sl jr 0 R.length cpR) (m1 : LL.length + 1 ≤ cap') (m2 : cap' ≤ maxLen)
    {hN : List (Nat × Seg)} (e : hN = (nq + 1, ⟨LL.length + 1, both LL.length sc (news c1 0), true, some (34, cap')⟩) :: (nq, ⟨1, c1, true, w⟩) :: hdel hq j) :
    HOk (nq + 2) hN ∧ HExt n h hN ∧ Lss hN lo (nq + 2) (nq + 1) cap' (both LL.length sc (news c1 0)) (fun k => if k < LL.length then r k else jr) (fun k => if k < LL.length then cp k else cpR) (LL ++ [R]) ∧ ∀ i t, i < nq → i ≠ j → hget hq i = some t → hget hN i = some t := by
  subst e
  have hjn := S.lt
  have hjl := S.jlo
  have old : ∀ i t, i < nq → i ≠ j → hget hq i = some t → hget ((nq + 1, (⟨LL.length + 1, both LL.length sc (news c1 0), true, some (34, cap')⟩ : Seg)) :: (nq, ⟨1, c1, true, w⟩) :: hdel hq j) i = some t := fun i t h1 h2 h4 => by
    simp only [hget]
    rw [if_neg (by omega), if_neg (by omega), hget_hdel, if_neg (Ne.symm h2)]
    exact h4
  have cel : ∀ k, k < LL.length + 1 → both LL.length sc (news c1 0) k = .sl (if k < LL.length then r k else jr) 0 ((LL ++ [R]).getD k []).length (if k < LL.length then cp k else cpR) := fun k hk => by
    by_cases hk2 : k < LL.length
    · unfold both
      rw [if_pos hk2, if_pos hk2, if_pos hk2, S.cell k hk2, List.getD_eq_getElem?_getD, List.getD_eq_getElem?_getD, List.getElem?_append_left hk2]
    · have ek : k = LL.length := by omega
      subst ek
      have e2 : (LL ++ [R]).getD LL.length [] = R := by simp
      rw [e2, if_neg hk2, if_neg hk2]
      unfold both news
      rw [if_neg (by omega), Nat.sub_self, Nat.zero_add, hc1]
  refine ⟨fun i t hi => ?_, fun i hi t ht => old i t (by omega) (by omega) (X i hi t ht), ⟨by omega, by omega, by simp [hget], by simpa using m1, m2, fun k hk => ?_, fun k hk => ?_, fun k hk => ?_, fun k hk => cel k (by simpa using hk), fun k hk => ?_, fun k k' hk hk' => ?_⟩, old⟩
  · simp only [hget] at hi
    split at hi
    · rename_i e; cases hi
      refine ⟨by omega, fun k hk => ?_⟩
      show (both LL.length sc (news c1 0) k).lt (nq + 2)
      rw [cel k hk]
      show (if k < LL.length then r k else jr) < nq + 2
      split
      · have := S.rlt k (by assumption); omega
      · omega
    · split at hi
      · rename_i e; cases hi
        refine ⟨by omega, fun k hk => ?_⟩
        have hk : k < 1 := hk
        obtain rfl : k = 0 := by omega
        show (c1 0).lt (nq + 2)
        rw [hc1]; show jr < nq + 2; omega
      · rw [hget_hdel] at hi
        split at hi
        · cases hi
        · exact ⟨by have := (ok i t hi).1; omega, fun k hk => SV.lt_mono (by omega) _ ((ok i t hi).2 k hk)⟩
  · show lo ≤ if k < LL.length then r k else jr
    split
    · exact S.rlo k (by assumption)
    · exact hlo
  · show (if k < LL.length then r k else jr) < nq + 2
    split
    · have := S.rlt k (by assumption); omega
    · omega
  · show (if k < LL.length then r k else jr) ≠ nq + 1
    split
    · have := S.rlt k (by assumption); omega
    · omega
  · by_cases hk2 : k < LL.length
    · obtain ⟨s, a1, a2⟩ := (S.row k hk2).row
      simp only [if_pos hk2]
      refine ⟨s, old _ _ (S.rlt k hk2) (S.rj k hk2) a1, ?_⟩
      rw [show (LL ++ [R]).getD k [] = LL.getD k [] by rw [List.getD_eq_getElem?_getD, List.getD_eq_getElem?_getD, List.getElem?_append_left hk2]]
      exact a2
    · have hk1 : k < LL.length + 1 := by simpa using hk
      have ek : k = LL.length := by omega
      subst ek
      obtain ⟨s, a1, a2⟩ := hR.row
      simp only [if_neg hk2]
      refine ⟨s, old _ _ hln hjj a1, ?_⟩
      rw [show (LL ++ [R]).getD LL.length [] = R by simp]
      exact a2
  · have hk1 : k' < LL.length + 1 := by simpa using hk'
    show (if k < LL.length then r k else jr) ≠ if k' < LL.length then r k' else jr
    rw [if_pos (show k < LL.length by omega)]
    split
    · exact S.dis k k' hk (by assumption)
    · exact hgt k (by omega)
/-- What is kept while parts are looked for: the map, the list so far, the list of cells. -/
structure QI (h : List (Nat × Seg)) (n im : Nat) (tm : Seg) (ja : Nat) (tA : Seg) (hq : List (Nat × Seg)) (nq j cap : Nat) (sc : Nat → SV) (r cp : Nat → Nat) (LL : List LSp) : Prop where
  hn : n ≤ nq
  ok : HOk nq hq
  ex : HExt n h hq
  lss : Lss hq n nq j cap sc r cp LL
  mp : hget hq im = some tm
  iml : im < nq
  imn : n ≤ im
  jim : j ≠ im
  rim : ∀ k, k < LL.length → r k ≠ im
  row : hget hq ja = some tA
  jal : ja < nq
  jan : n ≤ ja
  jaj : ja ≠ j
  jam : ja ≠ im
theorem QI.to {h : List (Nat × Seg)} {n im : Nat} {tm : Seg} {ja : Nat} {tA : Seg} {hq : List (Nat × Seg)} {nq j cap : Nat} {sc : Nat → SV} {r cp : Nat → Nat} {LL : List LSp} (I : QI h n im tm ja tA hq nq j cap sc r cp LL) {h' : List (Nat × Seg)} {n' : Nat} (hn : nq ≤ n') (ok : HOk n' h') (hx : HExt nq hq h') : QI h n im tm ja tA h' n' j cap sc r cp LL :=
  ⟨by have := I.hn; omega, ok, I.ex.tr hx I.hn, I.lss.mono hn fun i _ hi => hx i hi, hx _ I.iml _ I.mp, by have := I.iml; omega, I.imn, I.jim, I.rim, hx _ I.jal _ I.row, by have := I.jal; omega, I.jan, I.jaj, I.jam⟩
theorem QI.app {h : List (Nat × Seg)} {n im : Nat} {tm : Seg} {ja : Nat} {tA : Seg} {hq : List (Nat × Seg)} {nq j cap : Nat} {sc : Nat → SV} {r cp : Nat → Nat} {LL : List LSp} (I : QI h n im tm ja tA hq nq j cap sc r cp LL) {cap' jr cpR : Nat} {c1 : Nat → SV} {R : LSp} {w : Option (Nat × Nat)}
    (hR : RowAt hq jr R) (hlo : n ≤ jr) (hln : jr < nq) (hjj : jr ≠ j) (hjm : jr ≠ im) (hgt : ∀ k, k < LL.length → r k ≠ jr) (hc1 : c1 0 = .sl jr 0 R.length cpR) (m1 : LL.length + 1 ≤ cap') (m2 : cap' ≤ maxLen)
    {hN : List (Nat × Seg)} (e : hN = (nq + 1, ⟨LL.length + 1, both LL.length sc (news c1 0), true, some (34, cap')⟩) :: (nq, ⟨1, c1, true, w⟩) :: hdel hq j) :
    QI h n im tm ja tA hN (nq + 2) (nq + 1) cap' (both LL.length sc (news c1 0)) (fun k => if k < LL.length then r k else jr) (fun k => if k < LL.length then cp k else cpR) (LL ++ [R]) := by
  obtain ⟨a1, a2, a3, a4⟩ := lssApp I.lss I.ok I.ex I.lss.jlo hR hlo hln hjj hgt hc1 m1 m2 e
  refine ⟨by have := I.hn; omega, a1, a2, a3, a4 _ _ I.iml (Ne.symm I.jim) I.mp, by have := I.iml; omega, I.imn, by have := I.iml; omega, fun k hk => ?_, a4 _ _ I.jal I.jaj I.row, by have := I.jal; omega, I.jan, by have := I.jal; omega, I.jam⟩
  show (if k < LL.length then r k else jr) ≠ im
  split
  · exact I.rim k (by assumption)
  · exact hjm
/-- The map has the cells of the parts so far. -/
def MetIs (m : Nat) (L : LSp) : Prop := ∀ px py : Nat, px < 8 → py < 8 → (dig m (py * 8 + px) ≠ 0 ↔ ((px : Int), (py : Int)) ∈ L)
theorem MetIs.add {m : Nat} {L : LSp} (hm : MetIs m L) {px py : Nat} (hx : px < 8) (hy : py < 8) : MetIs (addD m (py * 8 + px)) (L ++ [((px : Int), (py : Int))]) := fun x' y' hx' hy' => by
  rw [dig_add_ne, List.mem_append, List.mem_singleton, hm x' y' hx' hy', Prod.mk.injEq]
  constructor
  · rintro (e | e)
    · exact .inr (by omega)
    · exact .inl e
  · rintro (e | e)
    · exact .inr e
    · exact .inl (by omega)
end Go.Proofs.YtfelopllfhcdpaaGreat.V

/- Lists of cells in order: plain. -/
namespace Go.Proofs.YtfelopllfhcdpaaGreat.V
/-- Two lists compared, cell by cell. -/
def cmpSs : LSp → LSp → Int
  | [], [] => 0
  | [], _ :: _ => -1
  | _ :: _, [] => 1
  | a :: s, b :: t => if cmpSp a b ≠ 0 then cmpSp a b else cmpSs s t
/-- Fewer cells first. -/
def cmpL (a b : LSp) : Int := if cmp8 (a.length : Int) (b.length : Int) ≠ 0 then cmp8 (a.length : Int) (b.length : Int) else cmpSs a b
def ltL (a b : LSp) : Bool := decide (cmpL a b < 0)
theorem cmp8_lt {a b : Int} : cmp8 a b < 0 ↔ a < b := by unfold cmp8; split <;> (try split) <;> omega
theorem cmp8_gt {a b : Int} : 0 < cmp8 a b ↔ b < a := by unfold cmp8; split <;> (try split) <;> omega
theorem cmp8_0 {a b : Int} : cmp8 a b = 0 ↔ a = b := by unfold cmp8; split <;> (try split) <;> omega
theorem cmpSp_0 {a b : Int × Int} : cmpSp a b = 0 ↔ a = b := by
  unfold cmpSp
  obtain ⟨a1, a2⟩ := a
  obtain ⟨b1, b2⟩ := b
  rw [Prod.mk.injEq]
  split
  · rename_i h; rw [ne_eq, cmp8_0] at h
    constructor
    · intro h2; rw [cmp8_0] at h2; exact absurd h2 h
    · rintro ⟨_, h2⟩; exact absurd h2 h
  · rename_i h
    have h : cmp8 a2 b2 = 0 := Classical.not_not.1 h
    rw [cmp8_0] at h
    rw [cmp8_0]
    exact ⟨fun e => ⟨e, h⟩, fun e => e.1⟩
theorem cmpSp_neg {a b : Int × Int} : cmpSp a b < 0 ↔ a.2 < b.2 ∨ (a.2 = b.2 ∧ a.1 < b.1) := by
  have := cmpSp_lt a b
  rw [← ltSp_iff, ← this, decide_eq_true_eq]
theorem cmpSp_pos {a b : Int × Int} : 0 < cmpSp a b ↔ cmpSp b a < 0 := by
  rw [cmpSp_neg]
  have h0 := cmpSp_0 (a := a) (b := b)
  have h1 := cmpSp_neg (a := a) (b := b)
  obtain ⟨a1, a2⟩ := a
  obtain ⟨b1, b2⟩ := b
  rw [Prod.mk.injEq] at h0
  simp only at *
  omega
theorem cmpSs_0 : ∀ {a b : LSp}, cmpSs a b = 0 ↔ a = b
  | [], [] => by simp [cmpSs]
  | [], _ :: _ => by simp [cmpSs]
  | _ :: _, [] => by simp [cmpSs]
  | a :: s, b :: t => by
    rw [cmpSs, List.cons.injEq, ← cmpSs_0 (a := s) (b := t), ← cmpSp_0 (a := a) (b := b)]
    split
    · rename_i h; exact ⟨fun e => absurd e h, fun e => absurd e.1 h⟩
    · rename_i h; exact ⟨fun e => ⟨Classical.not_not.1 h, e⟩, fun e => e.2⟩
theorem cmpSs_swap : ∀ {a b : LSp}, 0 < cmpSs a b ↔ cmpSs b a < 0
  | [], [] => by simp [cmpSs]
  | [], _ :: _ => by simp [cmpSs]
  | _ :: _, [] => by simp [cmpSs]
  | a :: s, b :: t => by
    rw [cmpSs, cmpSs]
    have h1 := cmpSp_0 (a := a) (b := b)
    have h2 := cmpSp_0 (a := b) (b := a)
    by_cases e : a = b
    · subst e
      have h0 : cmpSp a a = 0 := h1.2 rfl
      rw [if_neg (by simp [h0]), if_neg (by simp [h0])]
      exact cmpSs_swap
    · rw [if_pos (fun h => e (h1.1 h)), if_pos (fun h => e (h2.1 h).symm)]
      exact cmpSp_pos
theorem cmpSs_trans : ∀ {a b c : LSp}, cmpSs a b < 0 → cmpSs b c < 0 → cmpSs a c < 0
  | [], [], _, h, _ => by simp [cmpSs] at h
  | [], _ :: _, [], _, h => by simp [cmpSs] at h
  | [], _ :: _, _ :: _, _, _ => by simp [cmpSs]
  | _ :: _, [], _, h, _ => by simp [cmpSs] at h
  | _ :: _, _ :: _, [], _, h => by simp [cmpSs] at h
  | a :: s, b :: t, c :: u, h1, h2 => by
    rw [cmpSs] at h1 h2 ⊢
    by_cases e1 : cmpSp a b = 0
    · have e1' := cmpSp_0.1 e1
      subst e1'
      rw [if_neg (by simp [e1])] at h1
      by_cases e2 : cmpSp a c = 0
      · rw [if_neg (by simp [e2])] at h2 ⊢
        exact cmpSs_trans h1 h2
      · rw [if_pos e2] at h2 ⊢
        exact h2
    · rw [if_pos e1] at h1
      by_cases e2 : cmpSp b c = 0
      · have e2' := cmpSp_0.1 e2
        subst e2'
        rw [if_pos e1]; exact h1
      · rw [if_pos e2] at h2
        have h3 : cmpSp a c < 0 := by
          rw [cmpSp_neg] at h1 h2 ⊢
          omega
        rw [if_pos (by omega)]; exact h3
theorem cmpL_0 {a b : LSp} : cmpL a b = 0 ↔ a = b := by
  unfold cmpL
  split
  · rename_i h; exact ⟨fun e => absurd e h, fun e => by subst e; exact absurd (cmp8_0.2 rfl) h⟩
  · exact cmpSs_0
theorem cmpL_swap {a b : LSp} : 0 < cmpL a b ↔ cmpL b a < 0 := by
  unfold cmpL
  by_cases e : (a.length : Int) = b.length
  · rw [if_neg (by simp [cmp8_0, e]), if_neg (by simp [cmp8_0, e])]
    exact cmpSs_swap
  · rw [if_pos (by rw [ne_eq, cmp8_0]; exact e), if_pos (by rw [ne_eq, cmp8_0]; exact Ne.symm e), cmp8_gt, cmp8_lt]
theorem cmpL_trans {a b c : LSp} (h1 : cmpL a b < 0) (h2 : cmpL b c < 0) : cmpL a c < 0 := by
  unfold cmpL at *
  by_cases e1 : (a.length : Int) = b.length
  · rw [if_neg (by simp [cmp8_0, e1])] at h1
    rw [e1]
    by_cases e2 : (b.length : Int) = c.length
    · rw [if_neg (by simp [cmp8_0, e2])] at h2 ⊢
      exact cmpSs_trans h1 h2
    · rw [if_pos (by rw [ne_eq, cmp8_0]; exact e2)] at h2 ⊢
      exact h2
  · rw [if_pos (by rw [ne_eq, cmp8_0]; exact e1), cmp8_lt] at h1
    by_cases e2 : (b.length : Int) = c.length
    · rw [← e2, if_pos (by rw [ne_eq, cmp8_0]; exact e1), cmp8_lt]; exact h1
    · rw [if_pos (by rw [ne_eq, cmp8_0]; exact e2), cmp8_lt] at h2
      rw [if_pos (by rw [ne_eq, cmp8_0]; omega), cmp8_lt]; omega
theorem ltL_tri {a b : LSp} (h1 : ltL a b = false) (h2 : ltL b a = false) : a = b := by
  unfold ltL at h1 h2
  have h1 := of_decide_eq_false h1
  have h2 := of_decide_eq_false h2
  have := cmpL_swap (a := a) (b := b)
  exact cmpL_0.1 (by omega)
theorem ltL_asymm {a b : LSp} (h1 : ltL a b = true) : ltL b a = false := by
  unfold ltL at *
  have h1 := of_decide_eq_true h1
  have := cmpL_swap (a := b) (b := a)
  exact decide_eq_false (by omega)
theorem ltL_trans {a b c : LSp} (h1 : ltL a b = true) (h2 : ltL b c = true) : ltL a c = true := by
  unfold ltL at *
  exact decide_eq_true (cmpL_trans (of_decide_eq_true h1) (of_decide_eq_true h2))
theorem ltL_swo : Go.Sort.SWO ltL where
  irrefl x := by unfold ltL; rw [cmpL_0.2 rfl]; rfl
  trans x y z h1 h2 := ltL_trans h1 h2
  ntrans x y z h1 h2 := by
    cases h3 : ltL y x
    · rw [ltL_tri h1 h3]; exact h2
    · cases h4 : ltL z y
      · rw [← ltL_tri h2 h4]; exact h1
      · exact ltL_asymm (ltL_trans h4 h3)
theorem ltL_on (g : Nat → LSp) : Go.Sort.SWO fun x y => ltL (g x) (g y) where
  irrefl x := ltL_swo.irrefl _
  trans x y z := ltL_swo.trans _ _ _
  ntrans x y z := ltL_swo.ntrans _ _ _
abbrev SrtL (L : List LSp) : Prop := L.Pairwise fun a b => ltL b a = false
/-- Sorted lists of the same members are one. -/
theorem srtL_unique : ∀ {A B : List LSp}, A.Perm B → SrtL A → SrtL B → A = B
  | [], B, hp, _, _ => (List.nil_perm.1 hp).symm
  | a :: A, [], hp, _, _ => absurd hp.length_eq (by simp)
  | a :: A, b :: B, hp, hA, hB => by
    obtain ⟨a1, a2⟩ := List.pairwise_cons.1 hA
    obtain ⟨b1, b2⟩ := List.pairwise_cons.1 hB
    have e : a = b := by
      have ha : a ∈ b :: B := hp.mem_iff.1 (List.mem_cons_self ..)
      have hb : b ∈ a :: A := hp.mem_iff.2 (List.mem_cons_self ..)
      rcases List.mem_cons.1 ha with e | ha
      · exact e
      rcases List.mem_cons.1 hb with e | hb
      · exact e.symm
      exact ltL_tri (b1 a ha) (a1 b hb)
    subst e
    rw [srtL_unique (List.Perm.cons_inv hp) a2 b2]
/-- A list put where it belongs: before all that it is less than, at the end of the list. -/
def insAt (x : LSp) (out : List LSp) : Nat → Nat
  | 0 => 0
  | at_ + 1 => if ltL x (out.getD at_ []) = true then insAt x out at_ else at_ + 1
def insL (x : LSp) (out : List LSp) : List LSp := out.take (insAt x out out.length) ++ x :: out.drop (insAt x out out.length)
theorem insAt_le (x : LSp) (out : List LSp) : ∀ k, insAt x out k ≤ k
  | 0 => Nat.le_refl _
  | k + 1 => by rw [insAt]; split; exact Nat.le_succ_of_le (insAt_le x out k); exact Nat.le_refl _
theorem insAt_ge (x : LSp) (out : List LSp) : ∀ k j, insAt x out k ≤ j → j < k → ltL x (out.getD j []) = true
  | 0, j, _, h => absurd h (Nat.not_lt_zero j)
  | k + 1, j, h1, h2 => by
    rw [insAt] at h1
    split at h1
    · rename_i hl
      rcases Nat.lt_succ_iff_lt_or_eq.1 h2 with h | h
      · exact insAt_ge x out k j h1 h
      · rw [h]; exact hl
    · omega
theorem insAt_lt (x : LSp) (out : List LSp) : ∀ k, 0 < insAt x out k → ltL x (out.getD (insAt x out k - 1) []) = false
  | 0, h => absurd h (Nat.lt_irrefl 0)
  | k + 1, h => by
    rw [insAt] at h ⊢
    split at h
    · rename_i hl; rw [if_pos hl]; exact insAt_lt x out k h
    · rename_i hl; rw [if_neg hl, Nat.add_sub_cancel]; simpa using hl
theorem insL_perm (x : LSp) (out : List LSp) : (insL x out).Perm (x :: out) := by
  unfold insL
  refine List.perm_middle.trans ?_
  rw [List.take_append_drop]
theorem insL_srt {x : LSp} {out : List LSp} (h : SrtL out) : SrtL (insL x out) := by
  have hle := insAt_le x out out.length
  have hg : ∀ {k}, k < out.length → out.getD k [] ∈ out := fun {k} hk => by
    rw [List.getD_eq_getElem?_getD, List.getElem?_eq_getElem hk]; exact List.getElem_mem hk
  have hp := h
  rw [← List.take_append_drop (insAt x out out.length) out] at hp
  obtain ⟨p1, p2, p3⟩ := List.pairwise_append.1 hp
  unfold insL
  refine List.pairwise_append.2 ⟨p1, List.pairwise_cons.2 ⟨fun y hy => ?_, p2⟩, fun y hy z hz => ?_⟩
  · obtain ⟨k, hk, rfl⟩ := List.mem_iff_getElem.1 hy
    rw [List.length_drop] at hk
    have := insAt_ge x out out.length (insAt x out out.length + k) (by omega) (by omega)
    rw [List.getElem_drop]
    rw [List.getD_eq_getElem?_getD, List.getElem?_eq_getElem (by omega)] at this
    exact ltL_asymm this
  · have hxy : ltL x y = false := by
      have h0 : 0 < insAt x out out.length := by
        rcases Nat.eq_zero_or_pos (insAt x out out.length) with e | e
        · rw [e] at hy; cases hy
        · exact e
      have hl := insAt_lt x out out.length h0
      obtain ⟨k, hk, rfl⟩ := List.mem_iff_getElem.1 hy
      rw [List.length_take] at hk
      rw [List.getElem_take]
      by_cases ek : k = insAt x out out.length - 1
      · subst ek
        rw [List.getD_eq_getElem?_getD, List.getElem?_eq_getElem (by omega)] at hl
        exact hl
      · have hpw := (List.pairwise_iff_getElem.1 h) k (insAt x out out.length - 1) (by omega) (by omega) (by omega)
        rw [List.getD_eq_getElem?_getD, List.getElem?_eq_getElem (by omega)] at hl
        exact ltL_swo.ntrans _ _ _ hl hpw
    rcases List.mem_cons.1 hz with rfl | hz
    · exact hxy
    · exact p3 y hy z hz
/-- All of them put in, one by one. -/
def insN (LL : List LSp) : Nat → List LSp
  | 0 => []
  | q + 1 => insL (LL.getD q []) (insN LL q)
theorem insN_perm (LL : List LSp) : ∀ q, q ≤ LL.length → (insN LL q).Perm (LL.take q)
  | 0, _ => by simp [insN]
  | q + 1, h => by
    have hq : q < LL.length := h
    rw [insN, List.take_succ, List.getElem?_eq_getElem hq, List.getD_eq_getElem?_getD, List.getElem?_eq_getElem hq]
    refine (insL_perm _ _).trans ?_
    refine (List.Perm.cons _ (insN_perm LL q (by omega))).trans ?_
    exact (List.perm_append_comm (l₁ := [LL[q]]) (l₂ := LL.take q))
theorem insN_srt (LL : List LSp) : ∀ q, SrtL (insN LL q)
  | 0 => List.Pairwise.nil
  | q + 1 => insL_srt (insN_srt LL q)
/-- The lists in order. -/
def srtL (LL : List LSp) : List LSp := insN LL LL.length
theorem srtL_perm (LL : List LSp) : (srtL LL).Perm LL := by
  have := insN_perm LL LL.length (Nat.le_refl _)
  rw [List.take_length] at this
  exact this
theorem srtL_is {A LL : List LSp} (h1 : A.Perm LL) (h2 : SrtL A) : A = srtL LL := srtL_unique (h1.trans (srtL_perm LL).symm) h2 (insN_srt LL _)
/-- The least one of the first ones. -/
def bestN (LL : List LSp) : Nat → LSp
  | 0 => LL.getD 0 []
  | q + 1 => if ltL (LL.getD q []) (bestN LL q) = true then LL.getD q [] else bestN LL q
theorem bestN_mem {LL : List LSp} (h0 : 0 < LL.length) : ∀ q, q ≤ LL.length → bestN LL q ∈ LL
  | 0, _ => by rw [bestN, List.getD_eq_getElem?_getD, List.getElem?_eq_getElem h0]; exact List.getElem_mem h0
  | q + 1, h => by
    rw [bestN]; split
    · rw [List.getD_eq_getElem?_getD, List.getElem?_eq_getElem (show q < LL.length by omega)]; exact List.getElem_mem _
    · exact bestN_mem h0 q (by omega)
theorem bestN_le {LL : List LSp} : ∀ q, q ≤ LL.length → ∀ k, k < q → ltL (LL.getD k []) (bestN LL q) = false
  | 0, _, k, h => absurd h (Nat.not_lt_zero k)
  | q + 1, h, k, hk => by
    have ih := bestN_le (LL := LL) q (by omega)
    rw [bestN]; split
    · rename_i hl
      rcases Nat.lt_succ_iff_lt_or_eq.1 hk with h1 | h1
      · exact ltL_swo.ntrans _ _ _ (ih k h1) (ltL_asymm hl)
      · rw [h1]; exact ltL_swo.irrefl _
    · rename_i hl
      rcases Nat.lt_succ_iff_lt_or_eq.1 hk with h1 | h1
      · exact ih k h1
      · rw [h1]; simpa using hl
theorem srtL_head {LL : List LSp} (h0 : 0 < LL.length) : (srtL LL).getD 0 [] = bestN LL LL.length := by
  have hp := srtL_perm LL
  have hs := insN_srt LL LL.length
  cases hL : srtL LL with
  | nil => rw [hL] at hp; have := hp.length_eq; rw [List.length_nil] at this; omega
  | cons a A =>
    rw [hL] at hp
    change SrtL (srtL LL) at hs
    rw [hL] at hs
    obtain ⟨s1, _⟩ := List.pairwise_cons.1 hs
    show a = _
    have hb : bestN LL LL.length ∈ a :: A := hp.mem_iff.2 (bestN_mem h0 _ (Nat.le_refl _))
    have ha : a ∈ LL := hp.mem_iff.1 (List.mem_cons_self ..)
    obtain ⟨k, hk, e⟩ := List.mem_iff_getElem.1 ha
    have h1 := bestN_le (LL := LL) LL.length (Nat.le_refl _) k hk
    rw [List.getD_eq_getElem?_getD, List.getElem?_eq_getElem hk, Option.getD_some, e] at h1
    rcases List.mem_cons.1 hb with e2 | hb
    · exact e2.symm
    · exact ltL_tri h1 (s1 _ hb)
end Go.Proofs.YtfelopllfhcdpaaGreat.V

/- Lists of cells compared: the program's own comparison. -/
namespace Go.Proofs.YtfelopllfhcdpaaGreat.V
theorem drop_cons {L : LSp} {q : Nat} (h : q < L.length) : L.drop q = L.getD q (0, 0) :: L.drop (q + 1) := by
  rw [List.drop_eq_getElem_cons h, List.getD_eq_getElem?_getD, List.getElem?_eq_getElem h]; rfl
section
variable (cx : Cx) (h : List (Nat × Seg)) (n : Nat)
theorem isNaNI_Q (a : Int) : CallQ Tryz.prog cx 97 [.int .i64 a] h n (.bool false) := by
  refine callQ_of_T (P := Tryz.prog) hti (nt := 6) (rs := [.tmp 2]) rfl rfl Tryz.call97 Tryz.func97 rfl _ (by simp only [go_sem, and_self]) (Nat.le_of_ble_eq_true rfl) _ (by first | exact trivial | (refine lt_flat rfl ?_; simp [SV.flat]; done) | simp only [go_sem]) fun hok => ?_
  simp only [go_sem, Nat.reduceLT]
theorem compareI_Q (a b : Int) : CallQ Tryz.prog cx 73 [.int .i64 a, .int .i64 b] h n (.int .i64 (cmp8 a b)) := by
  refine callQ_of_T (P := Tryz.prog) hti (nt := 20) (rs := [.tmp 4]) rfl rfl Tryz.call73 Tryz.func73 rfl _ (by simp only [go_sem, and_self]) (Nat.le_of_ble_eq_true rfl) _ (by first | exact trivial | (refine lt_flat rfl ?_; simp [SV.flat]; done) | simp only [go_sem]) fun hok => ?_
  simp only [go_sem, Nat.reduceLT, Int.reduceNeg]
  refine (isNaNI_Q _ _ _ a).A ?_
  simp only [go_sem, Nat.reduceLT, Int.reduceNeg]
  refine (isNaNI_Q _ _ _ b).A ?_
  simp only [go_sem, Nat.reduceLT, Int.reduceNeg]
  unfold cmp8
  by_cases h1 : a < b
  · simp only [go_sem, reduceIte, reduceCtorEq, Int.reduceNeg, h1]
  · by_cases h2 : b < a
    · simp only [go_sem, reduceIte, reduceCtorEq, Int.reduceNeg, h1, h2]
    · simp only [go_sem, reduceIte, Int.reduceNeg, h1, h2]
theorem compareSs_Q (i cap i' cap' : Nat) (A B : LSp) (s s' : Seg) (hs : hget h i = some s) (hi : i < n) (hn : s.n = A.length * 2) (hc : ∀ k, k < A.length * 2 → s.c k = spotsC A k) (hs' : hget h i' = some s') (hi' : i' < n) (hn' : s'.n = B.length * 2) (hc' : ∀ k, k < B.length * 2 → s'.c k = spotsC B k) (hA9 : A.length ≤ 1000000) (hB9 : B.length ≤ 1000000) :
    CallQ Tryz.prog cx 74 [.sl i 0 A.length cap, .sl i' 0 B.length cap', .fn 75 0 (cl []) 0 (cl [])] h n (.int .i64 (cmpSs A B)) := by
  have hF : (SV.fn 75 0 (cl []) 0 (cl [])).lt n := fn_lt (xs := []) (ys := []) (fun v hv => by cases hv) (fun v hv => by cases hv)
  refine callQ_of_T (P := Tryz.prog) hti (nt := 39) (rs := [.tmp 6]) rfl rfl Tryz.call74 Tryz.func74 rfl _ (by simp only [go_sem, and_self]) (Nat.le_of_ble_eq_true rfl) _ (by first | exact trivial | (refine lt_flat rfl ?_; simp [SV.flat]; done) | simp only [go_sem]) fun hok => ?_
  simp only [go_sem, Nat.reduceLT, Int.reduceNeg]
  refine T_lp (ι := { w : Nat × List (Nat × Seg) × Nat // (w.1 ≤ A.length ∧ w.1 ≤ B.length ∧ n ≤ w.2.2) ∧ HOk w.2.2 w.2.1 ∧ HExt n h w.2.1 ∧ cmpSs (A.drop w.1) (B.drop w.1) = cmpSs A B })
    (fun w => ([(0, .sl i 0 A.length cap), (1, .sl i' 0 B.length cap'), (2, .fn 75 0 (cl []) 0 (cl [])), (11, .sl i 0 A.length cap), (12, .int .i64 A.length), (13, .int .i64 ((w.1.1 : Nat) : Int))], w.1.2.1, w.1.2.2)) (fun w => A.length - w.1.1) ⟨(0, h, n), ⟨Nat.zero_le _, Nat.zero_le _, Nat.le_refl _⟩, hok, HExt.rfl, rfl⟩ ?_ ?_
  · refine Imp.id (by show n ≤ n; omega) ?_ (impH.base0 hok (Nat.le_refl _) HExt.rfl)
    simp only [go_sem, Nat.reduceLT, eq_true hF]
    (try (repeat' apply And.intro) <;> first | omega | rfl | trivial | assumption | skip)
  rintro ⟨⟨q, hq, nq⟩, ⟨q1, q2, q3⟩, q4, q5, q6⟩
  simp only at q1 q2 q3 q4 q5 q6
  simp only [go_sem, Nat.reduceLT, Int.reduceNeg, decide_eq_true_eq, decide_eq_false_iff_not]
  refine ⟨fun h1 => ?_, fun h1 => ?_⟩
  rotate_left
  · have e : q = A.length := by omega
    subst e
    rw [List.drop_length] at q6
    by_cases hl : A.length < B.length
    · rw [drop_cons hl, cmpSs] at q6
      simp only [go_sem, Int.reduceNeg, show ((A.length : Int) < (B.length : Int)) = True from eq_true (by omega), ← q6]
      first | exact q5 | exact ⟨q5, fun hz => absurd trivial hz⟩
    · have e2 : B.drop A.length = [] := List.drop_eq_nil_of_le (by omega)
      rw [e2, cmpSs] at q6
      simp only [go_sem, Int.reduceNeg, show ((A.length : Int) < (B.length : Int)) = False from eq_false (by omega), ← q6]
      first | exact q5 | exact ⟨q5, fun hz => absurd trivial hz⟩
  have hqA : q < A.length := by omega
  have r1 : (0 : Int) ≤ q ∧ (q : Int) < A.length := ⟨by omega, by omega⟩
  have b1 : q * 2 ≤ s.n - 2 := by omega
  have b2 : 2 ≤ s.n := by omega
  have b3 : q * 2 + 2 ≤ s.n := by omega
  have g1 : hget hq i = some s := q5 i hi _ hs
  have g2 : hget hq i' = some s' := q5 i' hi' _ hs'
  have l1 : i < nq := by omega
  have l2 : i' < nq + 1 := by omega
  have g2' : ∀ t, hget ((nq, t) :: hq) i' = some s' := fun t => by simp only [hget]; rw [if_neg (by omega)]; exact g2
  have ne2 : nq ≠ i' := by omega
  obtain ⟨a, ha⟩ : ∃ a, A.getD q (0, 0) = a := ⟨_, rfl⟩
  rw [drop_cons hqA, ha] at q6
  by_cases hqB : q < B.length
  rotate_left
  · have e2 : B.drop q = [] := List.drop_eq_nil_of_le (by omega)
    rw [e2, cmpSs] at q6
    simp only [go_sem, Nat.reduceLT, Nat.reduceEqDiff, reduceIte, Int.reduceNeg, g1, l1, r1, b1, b2, b3, hc (q * 2) (by omega), hc (q * 2 + 1) (by omega), spotsC_x, spotsC_y, ha, show ((B.length : Int) ≤ (q : Int)) = True from eq_true (by omega), ← q6]
    exact fun z hz t ht => by simp only [hget]; rw [if_neg (by omega)]; exact q5 z hz t ht
  obtain ⟨b, hb⟩ : ∃ b, B.getD q (0, 0) = b := ⟨_, rfl⟩
  rw [drop_cons hqB, hb, cmpSs] at q6
  have r2 : (0 : Int) ≤ q ∧ (q : Int) < B.length := ⟨by omega, by omega⟩
  have d1 : q * 2 ≤ s'.n - 2 := by omega
  have d2 : 2 ≤ s'.n := by omega
  have d3 : q * 2 + 2 ≤ s'.n := by omega
  have X2 : HExt n h ((nq + 1, ⟨2, cl [SV.int .i8 b.1, SV.int .i8 b.2], true, none⟩) :: (nq, ⟨2, cl [SV.int .i8 a.1, SV.int .i8 a.2], true, none⟩) :: hq) := fun z hz t ht => by
    simp only [hget]; rw [if_neg (by omega), if_neg (by omega)]; exact q5 z hz t ht
  have ok2 : HOk (nq + 2) ((nq + 1, ⟨2, cl [SV.int .i8 b.1, SV.int .i8 b.2], true, none⟩) :: (nq, ⟨2, cl [SV.int .i8 a.1, SV.int .i8 a.2], true, none⟩) :: hq) := (q4.consF fun k hk => pair_flat _ _ hk).consF fun k hk => pair_flat _ _ hk
  simp only [go_sem, Nat.reduceLT, Nat.reduceEqDiff, reduceIte, Int.reduceNeg, g1, l1, r1, r2, b1, b2, b3, hc (q * 2) (by omega), hc (q * 2 + 1) (by omega), spotsC_x, spotsC_y, ha, show ((B.length : Int) ≤ (q : Int)) = False from eq_false (by omega), g2', l2, d1, d2, d3, hc' (q * 2) (by omega), hc' (q * 2 + 1) (by omega), hb]
  refine (inOrder_Q _ _ _ a b).A ?_
  by_cases hz : cmpSp a b = 0
  · rw [if_neg (by simp [hz])] at q6
    simp only [go_sem, Nat.reduceLT, Int.reduceNeg, hz]
    refine ⟨⟨(q + 1, _, nq + 2), ⟨hqA, hqB, by show n ≤ nq + 2; omega⟩, ok2, X2, q6⟩, by show A.length - (q + 1) < A.length - q; omega, ?_⟩
    refine Imp.id (by show n ≤ nq + 2; omega) ?_ (impH.base0 ok2 (Nat.le_refl _) HExt.rfl)
    simp only [go_sem, Nat.reduceLT, w64N (a := (q : Int) + 1) (k := q + 1) (by omega) (by omega), SV.lt_mono (show n ≤ nq + 2 by omega) _ hF]
    (try (repeat' apply And.intro) <;> first | omega | rfl | trivial | assumption | skip)
  · rw [if_pos hz] at q6
    simp only [go_sem, Nat.reduceLT, Int.reduceNeg, hz, ← q6]
    exact X2
theorem foreCmp_Q (i cap i' cap' : Nat) (A B : LSp) (s s' : Seg) (hs : hget h i = some s) (hi : i < n) (hn : s.n = A.length * 2) (hc : ∀ k, k < A.length * 2 → s.c k = spotsC A k) (hs' : hget h i' = some s') (hi' : i' < n) (hn' : s'.n = B.length * 2) (hc' : ∀ k, k < B.length * 2 → s'.c k = spotsC B k) (hA9 : A.length ≤ 1000000) (hB9 : B.length ≤ 1000000) :
    CallQ Tryz.prog cx 71 [.sl i 0 A.length cap, .sl i' 0 B.length cap'] h n (.int .i64 (cmpL A B)) := by
  refine callQ_of_T (P := Tryz.prog) hti (nt := 15) (rs := [.tmp 4]) rfl rfl Tryz.call71 Tryz.func71 rfl _ (by simp only [go_sem, and_self]) (Nat.le_of_ble_eq_true rfl) _ (by first | exact trivial | (refine lt_flat rfl ?_; simp [SV.flat]; done) | simp only [go_sem]) fun hok => ?_
  simp only [go_sem, Nat.reduceLT]
  refine (compareI_Q _ _ _ _ _).A ?_
  simp only [go_sem, Nat.reduceLT]
  refine (compareSs_Q _ _ _ i cap i' cap' A B s s' hs hi hn hc hs' hi' hn' hc' hA9 hB9).A ?_
  simp only [go_sem, Nat.reduceLT, Nat.reduceLeDiff]
  refine (orI_Q _ _ _ n 2 _ (cmp8 (A.length : Int) (B.length : Int)) (cmpSs A B) (hget_hit _ _ _) (by omega) rfl rfl rfl).A ?_
  simp only [go_sem, Nat.reduceLT]
  unfold cmpL
  (try rfl)
end
end Go.Proofs.YtfelopllfhcdpaaGreat.V

/- Lists of lists of cells sorted. -/
namespace Go.Proofs.YtfelopllfhcdpaaGreat.V
open Go.Sort (pdq pdq_sorts PermIn SortedIn bitsLen)
theorem idx_sort {g : Nat → LSp} {N : Nat} {D' : Array Nat} (hp : PermIn 0 N (List.range N).toArray D') (hs : SortedIn (fun x y => ltL (g x) (g y)) 0 N D') {LL : List LSp} (hLL : LL = (List.range N).map g) : D'.size = N ∧ D'.toList.Perm (List.range N) ∧ D'.toList.map g = srtL LL := by
  obtain ⟨h1, _, h3⟩ := hp
  have hsz : D'.size = N := by rw [h1]; simp
  have e1 : D'.extract 0 N = D' := by rw [← hsz]; exact Array.extract_size
  have e2 : (List.range N).toArray.extract 0 N = (List.range N).toArray := by
    have sz : (List.range N).toArray.size = N := by simp
    have := Array.extract_size (xs := (List.range N).toArray)
    rw [sz] at this
    exact this
  rw [e1, e2] at h3
  have h3 : D'.toList.Perm (List.range N) := h3
  refine ⟨hsz, h3, srtL_is ?_ ?_⟩
  · rw [hLL]; exact h3.map g
  · refine List.pairwise_map.2 (List.pairwise_iff_getElem.2 fun i j hi hj hij => ?_)
    have hj' : j < N := by rw [Array.length_toList] at hj; omega
    have := hs i j (Nat.zero_le _) hij hj'
    rw [ybang_getD, ybang_getD, List.getD_eq_getElem?_getD, List.getD_eq_getElem?_getD, List.getElem?_eq_getElem hi, List.getElem?_eq_getElem hj] at this
    exact this
section
variable (cx : Cx) (h : List (Nat × Seg)) (n : Nat)
set_option maxHeartbeats 1600000 in
theorem sortLists_E (j cap lo : Nat) (LL : List LSp) (sc : Nat → SV) (r cp : Nat → Nat) (hok : HOk n h) (S : Lss h lo n j cap sc r cp LL) (rr : Nat) (O : LSp) (hrr : rr < n) (hrj : rr ≠ j) (hO : RowAt h rr O) (hO9 : O.length ≤ 1000000) (hm9 : LL.length ≤ 1000000) (hm8 : ∀ k, (LL.getD k []).length ≤ 1000000) (K : HK)
    (hK : ∀ h' sc' r' cp', HBut j n h h' → Lss h' lo n j cap sc' r' cp' (srtL LL) → HOk n h' → K (.tup 0 (cl [])) h' n) :
    CallE Tryz.prog cx 70 [.sl j 0 LL.length cap, .fn 71 0 (cl []) 0 (cl [])] h n K := by
  obtain ⟨N, hN⟩ : ∃ N, LL.length = N := ⟨_, rfl⟩
  obtain ⟨ee, hee⟩ : ∃ ee : El, ee = ⟨fun k => if k < N then r k else rr, fun k => if k < N then (LL.getD k []).length else O.length, fun k => if k < N then cp k else 0⟩ := ⟨_, rfl⟩
  obtain ⟨g, hg⟩ : ∃ g : Nat → LSp, g = fun k => if k < N then LL.getD k [] else O := ⟨_, rfl⟩
  have er : ∀ k, ee.r k < n ∧ ee.r k ≠ j ∧ ee.ln k = (g k).length ∧ RowAt h (ee.r k) (g k) ∧ (g k).length ≤ 1000000 := fun k => by
    rw [hee, hg]
    by_cases hk : k < N
    · have hk' : k < LL.length := by omega
      simp only [if_pos hk]
      exact ⟨S.rlt k hk', S.rj k hk', trivial, S.row k hk', hm8 k⟩
    · simp only [if_neg hk]
      exact ⟨hrr, hrj, trivial, hO, hO9⟩
  have hLL : LL = (List.range N).map g := by
    refine List.ext_getElem (by simp [hN]) fun i h1 h2 => ?_
    rw [List.getElem_map, List.getElem_range, hg]
    simp only [if_pos (show i < N by omega)]
    rw [List.getD_eq_getElem?_getD, List.getElem?_eq_getElem h1]; rfl
  have hjn := S.lt
  have hsg := S.seg
  have hFl : (SV.fn 71 0 (cl []) 0 (cl [])).lt n := fn_lt (xs := []) (ys := []) (fun v hv => by cases hv) (fun v hv => by cases hv)
  rw [hN] at hsg ⊢
  have hw : impH h (sig []) n (hset h j ⟨N, elC ee (List.range N), true, some (34, cap)⟩) := impH.set0 hok (Nat.le_refl _) hsg (HBut.refl _ _ _) hsg (SegLe.mk' (Nat.le_refl _) id (.inr rfl) (fun k hk => by
    have hk : k < N := hk
    rw [ren_nil]
    show sc k = elC ee (List.range N) k
    rw [S.cell k (by omega), elC_at, show (List.range N).getD k 0 = k by simp [List.getD_eq_getElem?_getD, hk], hee]
    simp only [if_pos hk]) (fun k hk => (er _).1))
  refine CallE.weak hw ?_
  generalize hh0 : hset h j ⟨N, elC ee (List.range N), true, some (34, cap)⟩ = h0
  have hs0 : hget h0 j = some ⟨N, elC ee (List.range N).toArray.toList, true, some (34, cap)⟩ := by rw [← hh0]; exact hget_hset_self hsg _
  have hb0 : HBut j n h h0 := by rw [← hh0]; exact HBut.set j n h _
  obtain ⟨lim, hlim⟩ : ∃ lim, bitsLen N = lim := ⟨_, rfl⟩
  obtain ⟨p1, p2⟩ := pdq_sorts (fun x y => ltL (g x) (g y)) (ltL_on g) (List.range N).toArray 0 N lim true true (Nat.zero_le _) (by simp) (.inl rfl)
  obtain ⟨D, hD⟩ : ∃ D, pdq (fun x y => ltL (g x) (g y)) (List.range N).toArray 0 N lim true true = D := ⟨_, rfl⟩
  rw [hD] at p1 p2
  obtain ⟨d1, d2, d3⟩ := idx_sort p1 p2 hLL
  have hDl : D.toList.length = N := by rw [Array.length_toList]; exact d1
  have hDn : ∀ k, k < N → D.toList.getD k 0 < N := fun k hk => by
    have : D.toList.getD k 0 ∈ D.toList := by
      rw [List.getD_eq_getElem?_getD, List.getElem?_eq_getElem (by omega)]; exact List.getElem_mem _
    exact List.mem_range.1 (d2.mem_iff.1 this)
  have hDd : D.toList.Nodup := d2.nodup_iff.2 List.nodup_range
  have hsl : (srtL LL).length = N := by rw [← d3, List.length_map]; exact hDl
  have hsk : ∀ k, k < N → (srtL LL).getD k [] = g (D.toList.getD k 0) := fun k hk => by
    rw [← d3, List.getD_eq_getElem?_getD, List.getElem?_map, List.getD_eq_getElem?_getD, List.getElem?_eq_getElem (by omega)]; rfl
  have fin : ∀ h', h' = hset h0 j ⟨N, elC ee D.toList, true, some (34, cap)⟩ → HBut j n h h' ∧ Lss h' lo n j cap (elC ee D.toList) (fun k => ee.r (D.toList.getD k 0)) (fun k => ee.cp (D.toList.getD k 0)) (srtL LL) := fun h' e => by
    have hb : HBut j n h h' := fun z hz hzj t ht => by rw [e, hget_hset, if_neg (Ne.symm hzj)]; exact hb0 z hz hzj t ht
    have rl : ∀ k, k < N → ee.r (D.toList.getD k 0) = r (D.toList.getD k 0) := fun k hk => by rw [hee]; simp only [if_pos (hDn k hk)]
    refine ⟨hb, S.jlo, S.lt, by rw [e, hget_hset_self hs0, hsl], by rw [hsl, ← hN]; exact S.le, S.cap, fun k hk => ?_, fun k hk => (er _).1, fun k hk => (er _).2.1, fun k hk => ?_, fun k hk => ?_, fun k k' hkk hk' => ?_⟩
    · rw [hsl] at hk
      show lo ≤ ee.r (D.toList.getD k 0)
      rw [rl k hk]; exact S.rlo _ (by have := hDn k hk; omega)
    · rw [hsl] at hk
      rw [elC_at, hsk k hk, (er _).2.2.1]
    · rw [hsl] at hk
      rw [hsk k hk]
      obtain ⟨s, a1, a2⟩ := (er (D.toList.getD k 0)).2.2.2.1.row
      exact ⟨s, hb _ (er _).1 (er _).2.1 _ a1, a2⟩
    · rw [hsl] at hk'
      show ee.r (D.toList.getD k 0) ≠ ee.r (D.toList.getD k' 0)
      rw [rl k (by omega), rl k' hk']
      have hne : D.toList.getD k 0 ≠ D.toList.getD k' 0 := by
        rw [List.getD_eq_getElem?_getD, List.getD_eq_getElem?_getD, List.getElem?_eq_getElem (by omega), List.getElem?_eq_getElem (by omega)]
        exact (List.pairwise_iff_getElem.1 hDd) k k' (by omega) (by omega) hkk
      have u1 := hDn k (by omega)
      have u2 := hDn k' hk'
      rcases Nat.lt_or_gt_of_ne hne with h1 | h1
      · exact S.dis _ _ h1 (by omega)
      · exact Ne.symm (S.dis _ _ h1 (by omega))
  refine CallE.hokE ?_
  have hw2 : IntKind.u64.wrap ((N : Nat) : Int) = ((N : Nat) : Int) := by
    unfold IntKind.wrap; simp [IntKind.signed, IntKind.bits]; omega
  refine callE_of_T (P := Tryz.prog) hti (nt := 14) (rs := []) rfl rfl Tryz.call70 Tryz.func70 rfl _ (by simp only [go_sem, and_self]) (Nat.le_of_ble_eq_true rfl) _ fun hok2 => ?_
  simp only [go_sem, Nat.reduceLT, hw2]
  refine callA_false (lenx_E _ _ _ N (by omega) _ ?_)
  rw [hlim]
  simp only [go_sem, Nat.reduceLT]
  refine callA_false (ypdq_E _ _ _ _ _ (fun a b => cmpL (g a) (g b)) (fun x y => ltL (g x) (g y)) (fun x y => rfl) (ltL_on g) (N + 1) _ _ _ j cap (List.range N).toArray N (by simp) (some (34, cap)) ee (fun k => (er k).1) 0 N lim (by omega) hs0 hjn (Nat.zero_le _) (Nat.le_refl _) (by omega) (by rw [← hlim]; exact bitsLen_64 (by omega)) (.inl rfl) hFl (by
    intro a b nt n0 h' n' hn hb
    obtain ⟨sa, a1, a2, a3, a4⟩ := (er a).2.2.2.1.row
    obtain ⟨sb, b1, b2, b3, b4⟩ := (er b).2.2.2.1.row
    have ga := hb _ (er a).1 (er a).2.1 _ (hb0 _ (er a).1 (er a).2.1 _ a1)
    have gb := hb _ (er b).1 (er b).2.1 _ (hb0 _ (er b).1 (er b).2.1 _ b1)
    have k1 := (er a).1
    have k2 := (er b).1
    rw [(er a).2.2.1, (er b).2.2.1]
    exact foreCmp_Q _ h' n' _ _ _ _ (g a) (g b) sa sb ga (by omega) a3 a4 gb (by omega) b3 b4 (er a).2.2.2.2 (er b).2.2.2.2) _ ?_)
  rw [hD]
  simp only [go_sem]
  obtain ⟨f1, f2⟩ := fin _ rfl
  exact fun hok3 => hK _ _ _ _ f1 f2 hok3
end
end Go.Proofs.YtfelopllfhcdpaaGreat.V

/- Forerunners: the program's own walk. -/
namespace Go.Proofs.YtfelopllfhcdpaaGreat.V
/-- The cells whose bits are set. -/
def subN (C : LSp) (b : Nat) : Nat → LSp
  | 0 => []
  | q + 1 => if b / 2 ^ q % 2 = 1 then subN C b q ++ [C.getD q (0, 0)] else subN C b q
theorem subN_len (C : LSp) (b : Nat) : ∀ q, (subN C b q).length ≤ q
  | 0 => Nat.le_refl _
  | q + 1 => by
    have := subN_len C b q
    rw [subN]; split
    · rw [List.length_append]; show _ + 1 ≤ q + 1; omega
    · omega
theorem subN_mem (C : LSp) (b : Nat) : ∀ q, q ≤ C.length → ∀ a, a ∈ subN C b q → a ∈ C
  | 0, _, a, h => by cases h
  | q + 1, hq, a, h => by
    rw [subN] at h; split at h
    · rcases List.mem_append.1 h with h | h
      · exact subN_mem C b q (by omega) a h
      · rw [List.mem_singleton] at h; subst h; exact spots_at (by omega)
    · exact subN_mem C b q (by omega) a h
/-- The subsets that spread to the set, in the order of their bits. -/
noncomputable def forN (S : Sh) (own C : LSp) : Nat → List LSp
  | 0 => []
  | m + 1 => if spreadL S (subN C m C.length) = own then forN S own C m ++ [subN C m C.length] else forN S own C m
theorem forN_len (S : Sh) (own C : LSp) : ∀ m, (forN S own C m).length ≤ m
  | 0 => Nat.le_refl _
  | m + 1 => by
    have := forN_len S own C m
    rw [forN]; split
    · rw [List.length_append]; show _ + 1 ≤ m + 1; omega
    · omega
theorem forN_rows (S : Sh) (own C : LSp) : ∀ m L, L ∈ forN S own C m → L.length ≤ C.length ∧ (∀ a, a ∈ L → a ∈ C)
  | 0, L, h => by cases h
  | m + 1, L, h => by
    rw [forN] at h; split at h
    · rcases List.mem_append.1 h with h | h
      · exact forN_rows S own C m L h
      · rw [List.mem_singleton] at h; subst h; exact ⟨subN_len _ _ _, subN_mem _ _ _ (Nat.le_refl _)⟩
    · exact forN_rows S own C m L h
theorem getD_le {LL : List LSp} {B : Nat} (h : ∀ L, L ∈ LL → L.length ≤ B) (k : Nat) : (LL.getD k []).length ≤ B := by
  rw [List.getD_eq_getElem?_getD]
  cases hk : LL[k]? with
  | none => exact Nat.zero_le _
  | some L => exact h L (List.mem_of_getElem? hk)
noncomputable def foreA (S : Sh) (L : LSp) : List LSp := forN S (setL L) (innerL S (setL L)) (2 ^ (innerL S (setL L)).length)
noncomputable def foreCd (S : Sh) (L : LSp) : Int := if bareCd S L = 0 ∧ 12 < (setL L).length then 3 else bareCd S L
theorem shlI_2 : ∀ m, m ≤ 12 → shlI .i64 1 ((m : Nat) : Int) = ((2 ^ m : Nat) : Int) := by decide
theorem shrI_2 (m k : Nat) (hk : k ≤ 63) : shrI .i64 (m : Int) (k : Int) = ((m / 2 ^ k : Nat) : Int) := by
  unfold shrI
  have e : min ((k : Int)).toNat IntKind.i64.bits = k := by rw [Int.toNat_natCast]; simp [IntKind.bits]; omega
  rw [e, show (2 : Int) ^ k = ((2 ^ k : Nat) : Int) from (Int.natCast_pow 2 k).symm]
  exact (Int.ofNat_fdiv m (2 ^ k)).symm
theorem andI_1 {x : Nat} (hx : x < 9223372036854775808) : bitsI .and .i64 (x : Int) 1 = ((x % 2 : Nat) : Int) := by
  show IntKind.i64.wrap (((BitVec.ofInt 64 (x : Int) &&& BitVec.ofInt 64 1).toNat : Nat) : Int) = _
  rw [BitVec.toNat_and, BitVec.ofInt_natCast, BitVec.toNat_ofNat, Nat.mod_eq_of_lt (by omega), show (BitVec.ofInt 64 1).toNat = 1 from rfl, Nat.and_one_is_mod]
  exact w64N rfl (by omega)
theorem spO_ext {h h' : List (Nat × Seg)} {lo n n' : Nat} {V : SV} {L : LSp} (hA : SpO h lo n V L) (hn : n ≤ n') (hx : HExt n h h') : SpO h' lo n' V L := by
  obtain ⟨i, cap, s, h1, h2, h3, h4, h5⟩ := hA
  exact ⟨i, cap, s, h1, h2, by omega, hx i h3 s h4, h5⟩
section
variable (cx : Cx) (h : List (Nat × Seg)) (n : Nat)
set_option maxHeartbeats 3200000 in
theorem forerunners_E (S : Sh) (hR : ShR S) (A : SV) (L : LSp) (lo : Nat) (hA : Sp h lo n A L) (hm9 : L.length ≤ 1048576) (K : HK)
    (hK : ∀ V h' n', n ≤ n' → HExt n h h' → HOk n' h' → LssOut h' n n' V (if foreCd S L = 0 then srtL (foreA S L) else []) → (foreCd S L = 0 → V ≠ .nils) → K (.tup 2 (cl [V, .int .i64 (foreCd S L)])) h' n') :
    CallE Tryz.prog cx 42 [.agg 266 (shC S), A] h n K := by
  have hA0 := hA
  obtain ⟨jA, capA, tA, rfl, _⟩ := hA
  have hA1 : Sp ((n, shS S) :: h) lo (n + 1) (.sl jA 0 L.length capA) L := hA0.ext (by omega) (by simp only [go_sem, HExt_cons])
  refine CallE.hokE ?_
  refine callE_of_T (P := Tryz.prog) hti (nt := 67) (rs := [.tmp 4, .tmp 5]) rfl rfl Tryz.call42 Tryz.func42 rfl _ (by simp only [go_sem, and_self]) (Nat.le_of_ble_eq_true rfl) _ fun hok => ?_
  simp only [go_sem, Nat.reduceLT]
  refine (bareCode_Q _ _ _ n S _ L lo (by simp only [go_sem]) (by omega) hR hA1 hm9).A ?_
  simp only [go_sem, Nat.reduceLT]
  refine callA_false (set_E2 _ _ _ _ L lo hA1 (by omega) _ fun V1 h1 n1 hn1 hx1 ok1 hV1 => ?_)
  have x1 : HExt n h h1 := HExt.tr (m' := n + 1) (by simp only [go_sem, HExt_cons]) hx1 (by omega)
  obtain ⟨jo, capO, tO, rfl, o1, o2, o3, o4, o5, o6, o7⟩ := id hV1
  by_cases hb : bareCd S L = 0
  rotate_left
  · have e : foreCd S L = bareCd S L := by unfold foreCd; rw [if_neg (fun hh => hb hh.1)]
    rw [e, if_neg hb] at hK
    simp only [go_sem, Nat.reduceLT, hb]
    exact fun hok' => hK _ _ _ (by omega) x1 hok' (.inl ⟨rfl, rfl⟩) fun hh => absurd hh hb
  by_cases h12 : 12 < (setL L).length
  · have e : foreCd S L = 3 := by unfold foreCd; rw [if_pos ⟨hb, h12⟩]
    rw [e, if_neg (by decide)] at hK
    simp only [go_sem, Nat.reduceLT, Int.reduceEq, hb, show ((12 : Int) < ((setL L).length : Int)) = True from eq_true (by omega)]
    exact fun hok' => hK _ _ _ (by omega) x1 hok' (.inl ⟨rfl, rfl⟩) fun hh => absurd hh (by decide)
  have e : foreCd S L = 0 := by unfold foreCd; rw [if_neg (fun hh => h12 hh.2), hb]
  rw [e, if_pos rfl] at hK
  have hc0 : codeI S (allIn S L) = 0 := by
    by_cases h0 : codeI S (allIn S L) = 0
    · exact h0
    · unfold bareCd at hb; rw [if_neg h0] at hb; exact absurd hb h0
  obtain ⟨hV, hall⟩ := codeI_0 hc0
  have hsm := hV.1
  have hL8 := allIn_8 hsm hall
  have hO8 := hL8.setL
  have hi8 := innerL_in (S := S) hO8
  have hist := innerL_strict S (setL_strict L)
  simp only [go_sem, Nat.reduceLT, hb, show ((12 : Int) < ((setL L).length : Int)) = False from eq_false (by omega)]
  refine callA_false (inner_E _ _ _ n 0 (shS S) S _ _ _ (hx1 n (by omega) _ (by simp only [go_sem])) (by omega) (shAt_shC hR) hsm hV1 hV1.lt (by omega) _ fun V2 h2 n2 hn2 hx2 ok2 hV2 => ?_)
  have hfa : foreA S L = forN S (setL L) (innerL S (setL L)) (2 ^ (innerL S (setL L)).length) := rfl
  have hC12 : (innerL S (setL L)).length ≤ 12 := Nat.le_trans (List.length_filter_le _ _) (by omega)
  have gS : hget h2 n = some (shS S) := hx2 n (by omega) _ (hx1 n (by omega) _ (by simp only [go_sem]))
  have gO : hget h2 jo = some tO := hx2 jo o2 _ o3
  have x2 : HExt n h h2 := x1.tr hx2 (by omega)
  have hOl : (setL L).length ≤ 12 := by omega
  have hOst := setL_strict L
  generalize setL L = O at *
  generalize innerL S O = C at *
  obtain ⟨ja, capC, sA, rfl, a1, a2, a3, a4, a5, a6, a7⟩ := hV2
  have h4096 : 2 ^ C.length ≤ 4096 := Nat.pow_le_pow_right (n := 2) (by omega) hC12
  have hshl := shlI_2 C.length hC12
  obtain ⟨M, hM⟩ : ∃ M, 2 ^ C.length = M := ⟨_, rfl⟩
  rw [hM] at hshl hfa h4096
  simp only [go_sem, Nat.reduceLT, hshl, show ((0 : Int) ≤ (C.length : Int)) = True from eq_true (by omega)]
  have okZ : HOk (n2 + 1) ((n2, ⟨0, zrow (ti 34), true, some (34, 0)⟩) :: h2) := ok2.consF fun k hk => absurd hk (Nat.not_lt_zero k)
  have exZ : HExt n2 h2 ((n2, ⟨0, zrow (ti 34), true, some (34, 0)⟩) :: h2) := by simp only [go_sem, HExt_cons]
  have lsZ : Lss ((n2, ⟨0, zrow (ti 34), true, some (34, 0)⟩) :: h2) n2 (n2 + 1) n2 0 (zrow (ti 34)) (fun _ => 0) (fun _ => 0) [] :=
    ⟨Nat.le_refl _, by omega, hget_hit _ _ _, Nat.le_refl _, by decide, fun k hk => absurd hk (Nat.not_lt_zero k), fun k hk => absurd hk (Nat.not_lt_zero k), fun k hk => absurd hk (Nat.not_lt_zero k), fun k hk => absurd hk (Nat.not_lt_zero k), fun k hk => absurd hk (Nat.not_lt_zero k), fun k k' hk hk' => absurd hk' (Nat.not_lt_zero k')⟩
  refine T_lp (ι := { w : Nat × List (Nat × Seg) × Nat × (Nat × Nat × (Nat → SV) × (Nat → Nat) × (Nat → Nat)) // (w.1 ≤ M ∧ n2 + 1 ≤ w.2.2.1) ∧ HOk w.2.2.1 w.2.1 ∧ HExt n2 h2 w.2.1 ∧ Lss w.2.1 n2 w.2.2.1 w.2.2.2.1 w.2.2.2.2.1 w.2.2.2.2.2.1 w.2.2.2.2.2.2.1 w.2.2.2.2.2.2.2 (forN S O C w.1) })
    (fun w => ([(2, .ptr n 0), (7, .sl jo 0 O.length capO), (8, .sl ja 0 C.length capC), (9, .sl w.1.2.2.2.1 0 (forN S O C w.1.1).length w.1.2.2.2.2.1), (33, .int .i64 M), (34, .int .i64 ((w.1.1 : Nat) : Int))], w.1.2.1, w.1.2.2.1)) (fun w => M - w.1.1)
    ⟨(0, _, n2 + 1, (n2, 0, zrow (ti 34), fun _ => 0, fun _ => 0)), ⟨Nat.zero_le _, Nat.le_refl _⟩, okZ, exZ, lsZ⟩ ?_ ?_
  · refine Imp.id (by show n ≤ n2 + 1; omega) ?_ (impH.base0 okZ (Nat.le_refl _) HExt.rfl)
    simp only [go_sem, Nat.reduceLT, forN]
    (try (repeat' apply And.intro) <;> first | omega | rfl | trivial | assumption | skip)
  rintro ⟨⟨q, hq, nq, j, cap, sc, r, cp⟩, ⟨hqM, hnq⟩, I2, I3, I4⟩
  simp only at hqM hnq I2 I3 I4
  have hLL := forN_len S O C q
  have hjl := I4.lt
  have hjlo := I4.jlo
  simp only [go_sem, Nat.reduceLT, Nat.reduceMul, decide_eq_true_eq, decide_eq_false_iff_not]
  refine ⟨fun h1 => ?_, fun h1 => ?_⟩
  rotate_left
  · have eq1 : q = M := by omega
    subst eq1
    rw [hfa] at hK
    have hrow : ∀ k, ((forN S O C q).getD k []).length ≤ 1000000 := fun k => Nat.le_trans (getD_le (B := C.length) (fun L hL => (forN_rows S O C q L hL).1) k) (by omega)
    try simp only [go_sem, Nat.reduceBEq, Nat.reduceLT, Nat.reduceLeDiff, Nat.reduceAdd, Nat.reduceMul, Nat.reduceSub, Nat.reduceMod, Nat.reduceDiv, Nat.reduceEqDiff, Int.reduceToNat, reduceIte, reduceCtorEq, Int.reduceLE, Int.reduceLT, Int.reduceEq, Int.reduceNeg, Int.reduceAdd, Int.reduceSub, Int.reduceMul]
    refine callA_false (sortLists_E _ _ _ j cap n2 (forN S O C q) sc r cp I2 I4 jo O (by omega) (by omega) ⟨tO, I3 jo (by omega) _ gO, o4, o5, o7⟩ (by omega) (by omega) hrow _ fun h' sc' r' cp' hbut hLs hokS => ?_)
    simp only [go_sem, Nat.reduceLT]
    have hsl : (srtL (forN S O C q)).length = (forN S O C q).length := (srtL_perm _).length_eq
    refine fun hok' => hK _ _ _ (by omega) (fun z hz t ht => hbut z (by omega) (by omega) _ (I3 z (by omega) _ (x2 z hz _ ht))) hokS (.inr ⟨j, cap, sc', r', cp', by rw [hsl], hLs.mlo (by omega)⟩) fun _ => by simp
  have hq4 : q < 4096 := by omega
  have okP : HOk (nq + 1) ((nq, ⟨0, zrow (ti 58), true, some (58, 0)⟩) :: hq) := I2.consF fun k hk => absurd hk (Nat.not_lt_zero k)
  have exP : HExt nq hq ((nq, ⟨0, zrow (ti 58), true, some (58, 0)⟩) :: hq) := by simp only [go_sem, HExt_cons]
  refine T_lp (ι := { v : Nat × List (Nat × Seg) × Nat × SV // v.1 ≤ C.length ∧ HOk v.2.2.1 v.2.1 ∧ HExt nq hq v.2.1 ∧ SpO v.2.1 nq v.2.2.1 v.2.2.2 (subN C q v.1) })
    (fun v => ([(2, .ptr n 0), (7, .sl jo 0 O.length capO), (8, .sl ja 0 C.length capC), (9, .sl j 0 (forN S O C q).length cap), (10, .int .i64 ((q : Nat) : Int)), (11, v.1.2.2.2), (33, .int .i64 M), (34, .int .i64 ((q : Nat) : Int)), (38, .sl ja 0 C.length capC), (39, .int .i64 C.length), (40, .int .i64 ((v.1.1 : Nat) : Int))], v.1.2.1, v.1.2.2.1)) (fun v => C.length - v.1.1)
    ⟨(0, _, nq + 1, .sl nq 0 0 0), Nat.zero_le _, okP, exP, nq, 0, _, rfl, Nat.le_refl _, by show nq < nq + 1; omega, hget_hit _ _ _, rfl, rfl, rfl, Nat.le_refl _, by decide, fun k hk => absurd hk (Nat.not_lt_zero k)⟩ ?_ ?_
  · refine Imp.id (by show n ≤ nq + 1; omega) ?_ (impH.base0 okP (Nat.le_refl _) HExt.rfl)
    simp only [go_sem, Nat.reduceLT]
    (try (repeat' apply And.intro) <;> first | omega | rfl | trivial | assumption | skip)
  rintro ⟨⟨i, hr, nr, V⟩, hiC, J2, J3, J4⟩
  simp only at hiC J2 J3 J4
  have Vo := J4.sp.ok
  have hsub := subN_len C q i
  have J40 := J4
  obtain ⟨ju, capU, sU, eU, w1, w2, w3, w4, w5, w6, w7, w8, w9⟩ := J4
  subst eU
  obtain ⟨un, uc, ur, uo⟩ := sU
  simp only at w4 w5 w6 w9
  subst w4 w5 w6
  simp only [go_sem, Nat.reduceLT, Vo, decide_eq_true_eq, decide_eq_false_iff_not]
  refine ⟨fun hlt => ?_, fun hlt => ?_⟩
  · have r1 : (0 : Int) ≤ i ∧ (i : Int) < C.length := ⟨by omega, by omega⟩
    have hio : i < C.length := by omega
    have b1 : i * 2 ≤ sA.n - 2 := by omega
    have b2 : 2 ≤ sA.n := by omega
    have b3 : i * 2 + 2 ≤ sA.n := by omega
    have gA : hget hr ja = some sA := J3 ja (by omega) _ (I3 ja a2 _ a3)
    have gl : ja < nr := by omega
    obtain ⟨a, ha⟩ : ∃ a, C.getD i (0, 0) = a := ⟨_, rfl⟩
    have S1 := shrI_2 q i (by omega)
    have hd2 : q / 2 ^ i ≤ q := Nat.div_le_self _ _
    have S2 := andI_1 (x := q / 2 ^ i) (by omega)
    have okC : HOk (nr + 1) ((nr, ⟨2, cl [SV.int .i8 a.1, SV.int .i8 a.2], true, none⟩) :: hr) := J2.consF fun k hk => pair_flat _ _ hk
    have exC : HExt nr hr ((nr, ⟨2, cl [SV.int .i8 a.1, SV.int .i8 a.2], true, none⟩) :: hr) := by simp only [go_sem, HExt_cons]
    have J3C : HExt nq hq ((nr, ⟨2, cl [SV.int .i8 a.1, SV.int .i8 a.2], true, none⟩) :: hr) := J3.tr exC (by omega)
    by_cases hbit : q / 2 ^ i % 2 = 1
    rotate_left
    · have e1 : subN C q (i + 1) = subN C q i := by rw [subN, if_neg hbit]
      simp only [go_sem, Nat.reduceLT, Nat.reduceEqDiff, reduceIte, gA, gl, r1, b1, b2, b3, a7 (i * 2) (by omega), a7 (i * 2 + 1) (by omega), spotsC_x, spotsC_y, ha, S1, S2, show ((0 : Int) ≤ (i : Int)) = True from eq_true (by omega), show (((q / 2 ^ i % 2 : Nat) : Int) = 1) = False from eq_false (by omega)]
      refine ⟨⟨(i + 1, _, nr + 1, .sl ju 0 (subN C q i).length capU), hio, okC, J3C, by show SpO _ _ _ _ (subN C q (i + 1)); rw [e1]; exact spO_ext J40 (Nat.le_succ nr) exC⟩, by show C.length - (i + 1) < C.length - i; omega, ?_⟩
      refine Imp.id (by show n ≤ nr + 1; omega) ?_ (impH.base0 okC (Nat.le_refl _) HExt.rfl)
      simp only [go_sem, Nat.reduceLT, w64N (a := (i : Int) + 1) (k := i + 1) (by omega) (by omega)]
      (try (repeat' apply And.intro) <;> first | omega | rfl | trivial | assumption | skip)
    have e1 : subN C q (i + 1) = subN C q i ++ [a] := by rw [subN, if_pos hbit, ha]
    have nr1 : nr ≠ ju := by omega
    have nr2 : nr + 1 ≠ ju := by omega
    have hlenX : (subN C q i).length ≤ 12 := by omega
    generalize hX : subN C q i = X at *
    simp only [go_sem, Nat.reduceLT, Nat.reduceLeDiff, Nat.reduceMul, Nat.reduceSub, Nat.reduceMod, Nat.reduceEqDiff, reduceIte, gA, gl, r1, b1, b2, b3, a7 (i * 2) (by omega), a7 (i * 2 + 1) (by omega), spotsC_x, spotsC_y, ha, S1, S2, show ((0 : Int) ≤ (i : Int)) = True from eq_true (by omega), show (((q / 2 ^ i % 2 : Nat) : Int) = 1) = True from eq_true (by omega), w3, w2, nr1, nr2]
    refine ⟨⟨w7, w8, by omega⟩, fun cap' m1 m2 => ?_⟩
    have hdl : hdel ((nr, (⟨2, cl [SV.int .i8 a.1, SV.int .i8 a.2], true, none⟩ : Seg)) :: hr) ju = (nr, ⟨2, cl [SV.int .i8 a.1, SV.int .i8 a.2], true, none⟩) :: hdel hr ju := by rw [hdel, if_neg nr1]
    obtain ⟨okM, exM, spM⟩ := app1 (a := a) (nq := nr + 1) (jv := ju) (w := some (58, 2)) (c1 := fun j => if j < 2 then cl [SV.int IntKind.i8 a.1, SV.int IntKind.i8 a.2] (j - 0) else cl [SV.int IntKind.i8 0, SV.int IntKind.i8 0] (j % 2)) (n := nq) (by omega) okC J3C w1 rfl rfl w9 m1 m2
    rw [hdl] at okM exM spM
    refine ⟨⟨(i + 1, _, nr + 3, .sl (nr + 2) 0 (X.length + 1) cap'), hio, okM, exM, by show SpO _ _ _ _ (subN C q (i + 1)); rw [e1]; exact spM⟩, by show C.length - (i + 1) < C.length - i; omega, ?_⟩
    refine Imp.id (by show n ≤ nr + 3; omega) ?_ (impH.base0 okM (Nat.le_refl _) HExt.rfl)
    simp only [go_sem, Nat.reduceLT, w64N (a := (i : Int) + 1) (k := i + 1) (by omega) (by omega)]
    (try (repeat' apply And.intro) <;> first | omega | rfl | trivial | assumption | skip)
  have ei : i = C.length := by omega
  subst ei
  have gSr : hget hr n = some (shS S) := J3 n (by omega) _ (I3 n (by omega) _ gS)
  refine callA_false (spread_E _ _ _ n 0 (shS S) S _ (subN C q C.length) nq gSr (by omega) (shAt_shC hR) hsm J40.sp (by omega) _ fun V3 h3 n3 hn3 hx3 ok3 hV3 => ?_)
  have V3o := hV3.ok
  have hO3 : Sp h3 (n + 1) n3 (.sl jo 0 O.length capO) O := (((hV1.ext hn2 hx2).ext (by omega) I3).ext (by omega) J3).ext hn3 hx3
  have hs8 : In8s (subN C q C.length) := fun a ha => hi8 a (subN_mem C q C.length (Nat.le_refl _) a ha)
  have hls := strict_len (spreadL_strict S (subN C q C.length)) (spreadL_in hsm hs8)
  simp only [go_sem, Nat.reduceLT, V3o]
  refine (equalSp_Q _ _ _ V3 _ _ O _ _ hV3 hO3 (by omega) (by omega)).A ?_
  have ok3x : HExt nq hq h3 := J3.tr hx3 (by omega)
  have I33 : HExt n2 h2 h3 := I3.tr ok3x (by omega)
  have I43 := I4.mono (n' := n3) (by omega) fun z _ hz => ok3x z hz
  by_cases hsp : spreadL S (subN C q C.length) = O
  rotate_left
  · have e1 : forN S O C (q + 1) = forN S O C q := by rw [forN, if_neg hsp]
    simp only [go_sem, Nat.reduceLT, hsp]
    refine ⟨⟨(q + 1, h3, n3, (j, cap, sc, r, cp)), ⟨by show q + 1 ≤ M; omega, by show n2 + 1 ≤ n3; omega⟩, ok3, I33, by show Lss _ _ _ _ _ _ _ _ (forN S O C (q + 1)); rw [e1]; exact I43⟩, by show M - (q + 1) < M - q; omega, ?_⟩
    refine Imp.id (by show n ≤ n3; omega) ?_ (impH.base0 ok3 (Nat.le_refl _) HExt.rfl)
    simp only [go_sem, Nat.reduceLT, e1, w64N (a := (q : Int) + 1) (k := q + 1) (by omega) (by omega)]
    (try (repeat' apply And.intro) <;> first | omega | rfl | trivial | assumption | skip)
  have e1 : forN S O C (q + 1) = forN S O C q ++ [subN C q C.length] := by rw [forN, if_pos hsp]
  have v5 := I43.seg
  have v6 := I43.le
  have v7 := I43.cap
  have jl3 := I43.lt
  have v8 : n3 ≠ j := by omega
  have v9 : n3 + 1 ≠ j := by omega
  have gR : RowAt h3 ju (subN C q C.length) := ⟨_, hx3 ju w2 _ w3, rfl, rfl, w9⟩
  generalize hXX : subN C q C.length = X at *
  simp only [go_sem, Nat.reduceLT, Nat.reduceLeDiff, hsp, v5, jl3, v8, v9]
  refine ⟨⟨v6, v7, by omega⟩, fun cap' m1 m2 => ?_⟩
  generalize hCC : upd (zrow _) 0 (SV.sl ju 0 X.length capU) = CC
  have hC0 : CC 0 = .sl ju 0 X.length capU := by rw [← hCC]; rfl
  obtain ⟨k1, k2, k3, k4⟩ := lssApp (cap' := cap') (cpR := capU) (c1 := CC) (R := X) (jr := ju) (w := some (34, 1)) I43 ok3 I33 hjlo gR (by omega) (by omega) (by omega) (fun k hk => by have := I4.rlt k hk; omega) hC0 m1 m2 rfl
  refine ⟨⟨(q + 1, _, n3 + 2, (n3 + 1, cap', _, _, _)), ⟨by show q + 1 ≤ M; omega, by show n2 + 1 ≤ n3 + 2; omega⟩, k1, k2, by show Lss _ _ _ _ _ _ _ _ (forN S O C (q + 1)); rw [e1]; exact k3⟩, by show M - (q + 1) < M - q; omega, ?_⟩
  refine Imp.id (by show n ≤ n3 + 2; omega) ?_ (impH.base0 k1 (Nat.le_refl _) HExt.rfl)
  simp only [go_sem, Nat.reduceLT, e1, List.length_append, w64N (a := (q : Int) + 1) (k := q + 1) (by omega) (by omega)]
  (try (repeat' apply And.intro) <;> first | omega | rfl | trivial | assumption | skip)
end
end Go.Proofs.YtfelopllfhcdpaaGreat.V

/- Forerunners, LeastForerunner: the program's own. -/
namespace Go.Proofs.YtfelopllfhcdpaaGreat.V
noncomputable def leastR (S : Sh) (L : LSp) : LSp × Int :=
  if foreCd S L = 0 then (if (srtL (foreA S L)).length = 0 then ([], 6) else ((srtL (foreA S L)).getD 0 [], 0)) else ([], foreCd S L)
theorem foreCd_0 {S : Sh} {L : LSp} (h : foreCd S L = 0) : bareCd S L = 0 ∧ (setL L).length ≤ 12 := by
  unfold foreCd at h
  split at h
  · cases h
  · rename_i h2; exact ⟨h, by
      rcases Nat.lt_or_ge 12 (setL L).length with e | e
      · exact absurd ⟨h, e⟩ h2
      · exact e⟩
theorem foreA_small {S : Sh} {L : LSp} (h : foreCd S L = 0) : (foreA S L).length ≤ 4096 ∧ ∀ X, X ∈ foreA S L → X.length ≤ 12 := by
  obtain ⟨hb, h12⟩ := foreCd_0 h
  have hC12 : (innerL S (setL L)).length ≤ 12 := Nat.le_trans (List.length_filter_le _ _) h12
  have h4096 : 2 ^ (innerL S (setL L)).length ≤ 4096 := Nat.pow_le_pow_right (n := 2) (by omega) hC12
  exact ⟨Nat.le_trans (forN_len _ _ _ _) h4096, fun X hX => Nat.le_trans (forN_rows _ _ _ _ X hX).1 hC12⟩
theorem srt_small {S : Sh} {L : LSp} (h : foreCd S L = 0) : (srtL (foreA S L)).length ≤ 4096 ∧ ∀ k, ((srtL (foreA S L)).getD k []).length ≤ 12 := by
  obtain ⟨h1, h2⟩ := foreA_small h
  have hp := srtL_perm (foreA S L)
  exact ⟨by rw [hp.length_eq]; exact h1, fun k => getD_le (fun X hX => h2 X (hp.mem_iff.1 hX)) k⟩
section
variable (cx : Cx) (h : List (Nat × Seg)) (n : Nat)
theorem least_E (S : Sh) (hR : ShR S) (A : SV) (L : LSp) (lo : Nat) (hA : Sp h lo n A L) (hm9 : L.length ≤ 1048576) (K : HK)
    (hK : ∀ V h' n', n ≤ n' → HExt n h h' → HOk n' h' → SpsOut h' n n' V (leastR S L).1 → K (.tup 2 (cl [V, .int .i64 (leastR S L).2])) h' n') :
    CallE Tryz.prog cx 10 [.agg 266 (shC S), A] h n K := by
  have hA0 := hA
  obtain ⟨jA, capA, tA, rfl, _⟩ := hA
  have hA1 : Sp ((n, shS S) :: h) lo (n + 1) (.sl jA 0 L.length capA) L := hA0.ext (by omega) (by simp only [go_sem, HExt_cons])
  refine CallE.hokE ?_
  refine callE_of_T (P := Tryz.prog) hti (nt := 27) (rs := [.tmp 4, .tmp 5]) rfl rfl Tryz.call10 Tryz.func10 rfl _ (by simp only [go_sem, and_self]) (Nat.le_of_ble_eq_true rfl) _ fun hok => ?_
  simp only [go_sem, Nat.reduceLT]
  refine callA_false (forerunners_E _ _ _ S hR _ L lo hA1 hm9 _ fun V h' n' hn' hx' ok' hV hnn => ?_)
  have Vo := hV.ok
  have x1 : HExt n h h' := HExt.tr (m' := n + 1) (by simp only [go_sem, HExt_cons]) hx' (by omega)
  by_cases hc : foreCd S L = 0
  rotate_left
  · have e : leastR S L = ([], foreCd S L) := by unfold leastR; rw [if_neg hc]
    rw [e] at hK
    simp only [go_sem, Nat.reduceLT, Vo, hc]
    exact fun hok' => hK _ _ _ (by omega) x1 hok' (.inl ⟨rfl, rfl⟩)
  rw [if_pos hc] at hV
  rcases hV with ⟨rfl, _⟩ | ⟨j, cap, sc, r, cp, rfl, Ls⟩
  · exact absurd rfl (hnn hc)
  by_cases h2 : (srtL (foreA S L)).length = 0
  · have e : leastR S L = ([], 6) := by unfold leastR; rw [if_pos hc, if_pos h2]
    rw [e] at hK
    simp only [go_sem, Nat.reduceLT, Int.reduceEq, hc, show (((srtL (foreA S L)).length : Int) = 0) = True from eq_true (by omega)]
    exact fun hok' => hK _ _ _ (by omega) x1 hok' (.inl ⟨rfl, rfl⟩)
  · have e : leastR S L = ((srtL (foreA S L)).getD 0 [], 0) := by unfold leastR; rw [if_pos hc, if_neg h2]
    rw [e] at hK
    have hs := Ls.seg
    have hj := Ls.lt
    have e0 := Ls.cell 0 (by omega)
    have hsps := (Ls.sps (k := 0) (by omega)).mono' (lo' := n) (by omega)
    have b1 : (0 : Int) < (srtL (foreA S L)).length := by omega
    have b2 : 1 ≤ (srtL (foreA S L)).length := by omega
    rw [e0] at hsps
    simp only [go_sem, Nat.reduceLT, Int.reduceToNat, Int.reduceLE, hc, show (((srtL (foreA S L)).length : Int) = 0) = False from eq_false (by omega), hs, hj, b1, b2, e0]
    exact fun hok' => hK _ _ _ (by omega) x1 hok' hsps
end
end Go.Proofs.YtfelopllfhcdpaaGreat.V

/- Forerunners: the reference's small functions. -/
namespace Go.Proofs.YtfelopllfhcdpaaGreat.V
theorem ltL_len {A B : LSp} (h : A.length ≠ B.length) : ltL A B = decide ((A.length : Int) < (B.length : Int)) := by
  unfold ltL cmpL
  rw [if_pos (by rw [ne_eq, cmp8_0]; omega), decide_eq_decide, cmp8_lt]
theorem ltL_same {A B : LSp} (h : A.length = B.length) : ltL A B = decide (cmpSs A B < 0) := by
  unfold ltL cmpL
  rw [if_neg (by simp [cmp8_0, h])]
section
variable (cx : Cx) (h : List (Nat × Seg)) (n : Nat)
theorem few_Q (g : Nat) (S : Sh) (A : SV) (L : LSp) (lo : Nat) (hg : hget h g = some (shS S)) (hgn : g < n) (hR : ShR S) (hA : Sp h lo n A L) (hm9 : L.length ≤ 1048576) (hLR : SpotsR L) :
    CallQ Tryz.prog cx 35 [.ptr g 0, A] h n (.int .i64 (foreCd S L)) := by
  have hA0 := hA
  obtain ⟨jA, capA, tA, rfl, _⟩ := hA
  refine callQ_of_T (P := Tryz.prog) hti (nt := 18) (rs := [.tmp 4]) rfl rfl Tryz.call35 Tryz.func35 rfl _ (by simp only [go_sem, and_self]) (Nat.le_of_ble_eq_true rfl) _ (by first | exact trivial | (refine lt_flat rfl ?_; simp [SV.flat]; done) | simp only [go_sem]) fun hok => ?_
  simp only [go_sem, Nat.reduceLT]
  refine (back6_Q _ _ _ g 0 (shS S) S _ L lo hg hgn (shAt_shC hR) hA0 hm9 hLR).A ?_
  by_cases hc : bareCd S L = 0
  rotate_left
  · have e : foreCd S L = bareCd S L := by unfold foreCd; rw [if_neg (fun hh => hc hh.1)]
    rw [e]
    simp only [go_sem, Nat.reduceLT, hc]
  obtain ⟨hV, hall⟩ := bareCd_0 hc
  have hsm := hV.1
  have hL8 := allIn_8 hsm hall
  simp only [go_sem, Nat.reduceLT, hc]
  refine (mask_Q _ _ _ _ L lo hA0 hm9 hL8).A ?_
  rw [← mkC_setL]
  simp only [go_sem, Nat.reduceLT, Nat.reduceEqDiff, reduceIte]
  refine callA_false (list_E _ _ _ n (setL L) (hget_hit _ _ _) (by omega) _ fun V1 h1 n1 hn1 hx1 ok1 hV1 => ?_)
  rw [upM_eq (setL_strict L) hL8.setL] at hV1
  obtain ⟨j1, cap1, t1, rfl, _⟩ := hV1
  have X1 : HExt n h h1 := HExt.tr (m' := n + 1) (by simp only [go_sem, HExt_cons]) hx1 (by omega)
  by_cases h12 : 12 < (setL L).length
  · have e : foreCd S L = 3 := by unfold foreCd; rw [if_pos ⟨hc, h12⟩]
    rw [e]
    simp only [go_sem, Nat.reduceLT, show ((12 : Int) < ((setL L).length : Int)) = True from eq_true (by omega)]
    first | exact X1 | exact ⟨X1, fun hz => absurd trivial hz⟩
  · have e : foreCd S L = 0 := by unfold foreCd; rw [if_neg (fun hh => h12 hh.2), hc]
    rw [e]
    simp only [go_sem, Nat.reduceLT, show ((12 : Int) < ((setL L).length : Int)) = False from eq_false (by omega)]
    first | exact X1 | exact ⟨X1, fun hz => absurd trivial hz⟩
theorem before_Q (a b : Int × Int) : CallQ Tryz.prog cx 67 [spot a.1 a.2, spot b.1 b.2] h n (.bool (ltSp a b)) := by
  refine callQ_of_T (P := Tryz.prog) hti (nt := 24) (rs := [.tmp 4]) rfl rfl Tryz.call67 Tryz.func67 rfl _ (by simp only [go_sem, and_self]) (Nat.le_of_ble_eq_true rfl) _ (by first | exact trivial | (refine lt_flat rfl ?_; simp [SV.flat]; done) | simp only [go_sem]) fun hok => ?_
  by_cases h1 : a.2 < b.2
  · simp only [go_sem, Nat.reduceLT, reduceCtorEq, h1, ltSp]
    (try trivial)
  · by_cases h2 : a.2 = b.2
    · by_cases h3 : a.1 < b.1
      · simp only [go_sem, Nat.reduceLT, Nat.reduceLeDiff, reduceCtorEq, h1, h2, h3, ltSp]
        (try simp)
      · simp only [go_sem, Nat.reduceLT, Nat.reduceLeDiff, reduceCtorEq, h1, h2, h3, ltSp]
        (try simp)
    · simp only [go_sem, Nat.reduceLT, reduceCtorEq, h1, h2, ltSp]
      (try simp)
theorem less_Q (i cap i' cap' : Nat) (A B : LSp) (s s' : Seg) (hs : hget h i = some s) (hi : i < n) (hn : s.n = A.length * 2) (hc : ∀ k, k < A.length * 2 → s.c k = spotsC A k) (hs' : hget h i' = some s') (hi' : i' < n) (hn' : s'.n = B.length * 2) (hc' : ∀ k, k < B.length * 2 → s'.c k = spotsC B k) (hA9 : A.length ≤ 1000000) (hB9 : B.length ≤ 1000000) :
    CallQ Tryz.prog cx 37 [.sl i 0 A.length cap, .sl i' 0 B.length cap'] h n (.bool (ltL A B)) := by
  refine callQ_of_T (P := Tryz.prog) hti (nt := 40) (rs := [.tmp 4]) rfl rfl Tryz.call37 Tryz.func37 rfl _ (by simp only [go_sem, and_self]) (Nat.le_of_ble_eq_true rfl) _ (by first | exact trivial | (refine lt_flat rfl ?_; simp [SV.flat]; done) | simp only [go_sem]) fun hok => ?_
  by_cases hl : A.length = B.length
  rotate_left
  · rw [ltL_len hl]
    simp only [go_sem, Nat.reduceLT, show ((A.length : Int) = (B.length : Int)) = False from eq_false (by omega)]
  rw [ltL_same hl]
  simp only [go_sem, Nat.reduceLT, show ((A.length : Int) = (B.length : Int)) = True from eq_true (by omega)]
  refine T_lp (ι := { q : Nat // q ≤ A.length ∧ cmpSs (A.drop q) (B.drop q) = cmpSs A B }) (fun q => ([(0, .sl i 0 A.length cap), (1, .sl i' 0 B.length cap'), (5, .int .i64 ((q.1 : Nat) : Int))], h, n)) (fun q => A.length - q.1) ⟨0, Nat.zero_le _, rfl⟩ ?_ ?_
  · refine Imp.id (by simp) ?_ (impH.base0 hok (by simp) HExt.rfl)
    simp only [go_sem, Nat.reduceLT]
    (try (repeat' apply And.intro) <;> first | omega | rfl | trivial | assumption | skip)
  rintro ⟨q, q1, q6⟩
  simp only [go_sem, Nat.reduceLT, decide_eq_true_eq, decide_eq_false_iff_not]
  refine ⟨fun h1 => ?_, fun h1 => ?_⟩
  rotate_left
  · have e : q = A.length := by omega
    subst e
    rw [List.drop_length, show B.drop A.length = [] from List.drop_eq_nil_of_le (by omega), cmpSs] at q6
    rw [← q6]
    try simp only [go_sem, Int.reduceLT]
  have hqA : q < A.length := by omega
  have hqB : q < B.length := by omega
  obtain ⟨a, ha⟩ : ∃ a, A.getD q (0, 0) = a := ⟨_, rfl⟩
  obtain ⟨b, hb⟩ : ∃ b, B.getD q (0, 0) = b := ⟨_, rfl⟩
  rw [drop_cons hqA, ha, drop_cons hqB, hb, cmpSs] at q6
  have r1 : (0 : Int) ≤ q ∧ (q : Int) < A.length := ⟨by omega, by omega⟩
  have r2 : (0 : Int) ≤ q ∧ (q : Int) < B.length := ⟨by omega, by omega⟩
  have b1 : q * 2 ≤ s.n - 2 := by omega
  have b2 : 2 ≤ s.n := by omega
  have b3 : q * 2 + 2 ≤ s.n := by omega
  have d1 : q * 2 ≤ s'.n - 2 := by omega
  have d2 : 2 ≤ s'.n := by omega
  have d3 : q * 2 + 2 ≤ s'.n := by omega
  have k1 := hc (q * 2) (by omega)
  have k2 := hc (q * 2 + 1) (by omega)
  have k3 := hc' (q * 2) (by omega)
  have k4 := hc' (q * 2 + 1) (by omega)
  refine T_draw hti _ _ (by kernel_rfl) (by kernel_rfl) ?_
  simp only [go_sem, Nat.reduceLT, Nat.reduceLeDiff, Nat.reduceMod, hs, hi, r1, b1, b2, b3, k1, k2, hs', hi', r2, d1, d2, d3, k3, k4, spotsC_x, spotsC_y, ha, hb]
  refine ⟨fun hne => ?_, fun heq => ?_⟩
  · have hab : cmpSp a b ≠ 0 := fun e => by
      rw [cmpSp_0.1 e] at hne
      simp at hne
    rw [if_pos hab] at q6
    refine T_draw hti _ _ (by kernel_rfl) (by kernel_rfl) ?_
    simp only [go_sem, Nat.reduceLT, hs, hi, r1, b1, b2, b3, k1, k2, hs', hi', r2, d1, d2, d3, k3, k4, spotsC_x, spotsC_y, ha, hb]
    refine (before_Q _ _ _ a b).A ?_
    rw [← q6, cmpSp_lt]
    simp only [go_sem, Nat.reduceLT]
  · have hab : a = b := by
      simp only [Bool.not_eq_false', Bool.and_eq_true, decide_eq_true_eq] at heq
      exact Prod.ext heq.1 heq.2
    rw [if_neg (by rw [cmpSp_0.2 hab]; simp)] at q6
    refine ⟨⟨q + 1, hqA, q6⟩, by show A.length - (q + 1) < A.length - q; omega, ?_⟩
    refine Imp.id (by simp) ?_ (impH.base0 hok (by simp) HExt.rfl)
    simp only [go_sem, Nat.reduceLT, w64N (a := (q : Int) + 1) (k := q + 1) (by omega) (by omega)]
    (try (repeat' apply And.intro) <;> first | omega | rfl | trivial | assumption | skip)
end
end Go.Proofs.YtfelopllfhcdpaaGreat.V

/- Forerunners: all of them, by the reference. -/
namespace Go.Proofs.YtfelopllfhcdpaaGreat.V
theorem subN_sub (C : LSp) (b : Nat) : ∀ q, q ≤ C.length → (subN C b q).Sublist (C.take q)
  | 0, _ => by simp [subN]
  | q + 1, h => by
    have ih := subN_sub C b q (by omega)
    have hq : q < C.length := h
    rw [subN, List.take_succ, List.getElem?_eq_getElem hq, List.getD_eq_getElem?_getD, List.getElem?_eq_getElem hq]
    split
    · exact List.Sublist.append ih (List.Sublist.refl _)
    · exact ih.trans (List.sublist_append_left _ _)
section
variable (cx : Cx) (h : List (Nat × Seg)) (n : Nat)
set_option maxHeartbeats 3200000 in
theorem all6_E (g : Nat) (S : Sh) (A : SV) (L : LSp) (lo : Nat) (hg : hget h g = some (shS S)) (hgn : g < n) (hR : ShR S) (hA : Sp h lo n A L) (hm9 : L.length ≤ 1048576) (hc : foreCd S L = 0) (K : HK)
    (hK : ∀ j cap sc r cp h' n', n ≤ n' → HExt n h h' → HOk n' h' → Lss h' n n' j cap sc r cp (foreA S L) → K (.sl j 0 (foreA S L).length cap) h' n') :
    CallE Tryz.prog cx 36 [.ptr g 0, A] h n K := by
  have hA0 := hA
  obtain ⟨jA, capA, tA, rfl, _⟩ := hA
  obtain ⟨hb, h12⟩ := foreCd_0 hc
  obtain ⟨hV, hall⟩ := bareCd_0 hb
  have hsm := hV.1
  have hL8 := allIn_8 hsm hall
  have hO8 := hL8.setL
  have hi8 := innerL_in (S := S) hO8
  have hist := innerL_strict S (setL_strict L)
  have hOst := setL_strict L
  have hfa : foreA S L = forN S (setL L) (innerL S (setL L)) (2 ^ (innerL S (setL L)).length) := rfl
  have hC12 : (innerL S (setL L)).length ≤ 12 := Nat.le_trans (List.length_filter_le _ _) h12
  have hng : n ≠ g := by omega
  have hng1 : n + 1 ≠ g := by omega
  refine CallE.hokE ?_
  refine callE_of_T (P := Tryz.prog) hti (nt := 58) (rs := [.tmp 4]) rfl rfl Tryz.call36 Tryz.func36 rfl _ (by simp only [go_sem, and_self]) (Nat.le_of_ble_eq_true rfl) _ fun hok => ?_
  simp only [go_sem, Nat.reduceLT]
  refine (mask_Q _ _ _ _ L lo hA0 hm9 hL8).A ?_
  rw [← mkC_setL]
  simp only [go_sem, Nat.reduceLT, Nat.reduceEqDiff, reduceIte]
  refine (inner2_Q _ _ _ g 0 n (shS S) S (setL L) (by first | (simp only [go_sem, hg, hng, hgn]; done) | (simp only [go_sem, Nat.reduceBEq, Nat.reduceLT, Nat.reduceLeDiff, Nat.reduceAdd, Nat.reduceMul, Nat.reduceSub, Nat.reduceMod, Nat.reduceDiv, Nat.reduceEqDiff, Int.reduceToNat, reduceIte, reduceCtorEq, Int.reduceLE, Int.reduceLT, Int.reduceEq, Int.reduceNeg, Int.reduceAdd, Int.reduceSub, Int.reduceMul, hg, hng, hgn]; rfl)) (by omega) (shAt_shC hR) hsm (hget_hit _ _ _) (by omega) hOst hO8).A ?_
  simp only [go_sem, Nat.reduceLT, Nat.reduceEqDiff, reduceIte]
  refine callA_false (list_E _ _ _ (n + 1) (innerL S (setL L)) (hget_hit _ _ _) (by omega) _ fun V2 h2 n2 hn2 hx2 ok2 hV2 => ?_)
  rw [upM_eq hist hi8] at hV2
  have gS : hget h2 g = some (shS S) := hx2 g (by omega) _ (by simp only [hget]; rw [if_neg (by omega), if_neg (by omega)]; exact hg)
  have gO : hget h2 n = some (mkS (setL L)) := hx2 n (by omega) _ (by simp only [go_sem])
  have x2 : HExt n h h2 := HExt.tr (m' := n + 2) (by simp only [go_sem, HExt_cons]) hx2 (by omega)
  have hOl : (setL L).length ≤ 12 := h12
  generalize setL L = O at *
  generalize innerL S O = C at *
  obtain ⟨ja, capC, sA, rfl, a1, a2, a3, a4, a5, a6, a7⟩ := hV2
  have h4096 : 2 ^ C.length ≤ 4096 := Nat.pow_le_pow_right (n := 2) (by omega) hC12
  have hshl := shlI_2 C.length hC12
  obtain ⟨M, hM⟩ : ∃ M, 2 ^ C.length = M := ⟨_, rfl⟩
  rw [hM] at hshl hfa h4096
  have hcu : ∀ k : Nat, k ≤ 12 → IntKind.u64.wrap ((k : Nat) : Int) = ((k : Nat) : Int) := fun k hk => by
    unfold IntKind.wrap; simp [IntKind.signed, IntKind.bits]; omega
  simp only [go_sem, Nat.reduceLT]
  have okZ : HOk (n2 + 1) ((n2, ⟨0, zrow (ti 34), true, some (34, 0)⟩) :: h2) := ok2.consF fun k hk => absurd hk (Nat.not_lt_zero k)
  have exZ : HExt n2 h2 ((n2, ⟨0, zrow (ti 34), true, some (34, 0)⟩) :: h2) := by simp only [go_sem, HExt_cons]
  have lsZ : Lss ((n2, ⟨0, zrow (ti 34), true, some (34, 0)⟩) :: h2) n2 (n2 + 1) n2 0 (zrow (ti 34)) (fun _ => 0) (fun _ => 0) [] :=
    ⟨Nat.le_refl _, by omega, hget_hit _ _ _, Nat.le_refl _, by decide, fun k hk => absurd hk (Nat.not_lt_zero k), fun k hk => absurd hk (Nat.not_lt_zero k), fun k hk => absurd hk (Nat.not_lt_zero k), fun k hk => absurd hk (Nat.not_lt_zero k), fun k hk => absurd hk (Nat.not_lt_zero k), fun k k' hk hk' => absurd hk' (Nat.not_lt_zero k')⟩
  refine T_lp (ι := { w : Nat × List (Nat × Seg) × Nat × (Nat × Nat × (Nat → SV) × (Nat → Nat) × (Nat → Nat)) // (w.1 ≤ M ∧ n2 + 1 ≤ w.2.2.1) ∧ HOk w.2.2.1 w.2.1 ∧ HExt n2 h2 w.2.1 ∧ Lss w.2.1 n2 w.2.2.1 w.2.2.2.1 w.2.2.2.2.1 w.2.2.2.2.2.1 w.2.2.2.2.2.2.1 w.2.2.2.2.2.2.2 (forN S O C w.1) })
    (fun w => ([(0, .ptr g 0), (5, .ptr n 0), (7, .sl ja 0 C.length capC), (8, .sl w.1.2.2.2.1 0 (forN S O C w.1.1).length w.1.2.2.2.2.1), (9, .int .i64 ((w.1.1 : Nat) : Int))], w.1.2.1, w.1.2.2.1)) (fun w => M - w.1.1)
    ⟨(0, _, n2 + 1, (n2, 0, zrow (ti 34), fun _ => 0, fun _ => 0)), ⟨Nat.zero_le _, Nat.le_refl _⟩, okZ, exZ, lsZ⟩ ?_ ?_
  · refine Imp.id (by show n ≤ n2 + 1; omega) ?_ (impH.base0 okZ (Nat.le_refl _) HExt.rfl)
    simp only [go_sem, Nat.reduceLT, forN]
    (try (repeat' apply And.intro) <;> first | omega | rfl | trivial | assumption | skip)
  rintro ⟨⟨q, hq, nq, j, cap, sc, r, cp⟩, ⟨hqM, hnq⟩, I2, I3, I4⟩
  simp only at hqM hnq I2 I3 I4
  have hLL := forN_len S O C q
  have hjl := I4.lt
  have hjlo := I4.jlo
  have k0 := hcu C.length hC12
  have k1 : ((0 : Int) ≤ (C.length : Int)) = True := eq_true (by omega)
  simp only [go_sem, Nat.reduceLT, Nat.reduceMul, k0, k1, hshl, decide_eq_true_eq, decide_eq_false_iff_not]
  refine ⟨fun h1 => ?_, fun h1 => ?_⟩
  rotate_left
  · have eq1 : q = M := by omega
    subst eq1
    rw [hfa] at hK
    exact fun hok' => hK j cap sc r cp hq nq (by omega) (x2.tr I3 (by omega)) I2 (I4.mlo (by omega))
  have hq4 : q < 4096 := by omega
  have okP : HOk (nq + 1) ((nq, ⟨0, zrow (ti 58), true, some (58, 0)⟩) :: hq) := I2.consF fun k hk => absurd hk (Nat.not_lt_zero k)
  have exP : HExt nq hq ((nq, ⟨0, zrow (ti 58), true, some (58, 0)⟩) :: hq) := by simp only [go_sem, HExt_cons]
  refine T_lp (ι := { v : Nat × List (Nat × Seg) × Nat × SV // v.1 ≤ C.length ∧ HOk v.2.2.1 v.2.1 ∧ HExt nq hq v.2.1 ∧ SpO v.2.1 nq v.2.2.1 v.2.2.2 (subN C q v.1) })
    (fun v => ([(0, .ptr g 0), (5, .ptr n 0), (7, .sl ja 0 C.length capC), (8, .sl j 0 (forN S O C q).length cap), (9, .int .i64 ((q : Nat) : Int)), (10, v.1.2.2.2), (11, .int .i64 ((v.1.1 : Nat) : Int))], v.1.2.1, v.1.2.2.1)) (fun v => C.length - v.1.1)
    ⟨(0, _, nq + 1, .sl nq 0 0 0), Nat.zero_le _, okP, exP, nq, 0, _, rfl, Nat.le_refl _, by show nq < nq + 1; omega, hget_hit _ _ _, rfl, rfl, rfl, Nat.le_refl _, by decide, fun k hk => absurd hk (Nat.not_lt_zero k)⟩ ?_ ?_
  · refine Imp.id (by show n ≤ nq + 1; omega) ?_ (impH.base0 okP (Nat.le_refl _) HExt.rfl)
    simp only [go_sem, Nat.reduceLT]
    (try (repeat' apply And.intro) <;> first | omega | rfl | trivial | assumption | skip)
  rintro ⟨⟨i, hr, nr, V⟩, hiC, J2, J3, J4⟩
  simp only at hiC J2 J3 J4
  have Vo := J4.sp.ok
  have hsub := subN_len C q i
  have J40 := J4
  obtain ⟨ju, capU, sU, eU, w1, w2, w3, w4, w5, w6, w7, w8, w9⟩ := J4
  subst eU
  obtain ⟨un, uc, ur, uo⟩ := sU
  simp only at w4 w5 w6 w9
  subst w4 w5 w6
  have k2 := hcu i (by omega)
  have k3 : ((0 : Int) ≤ (i : Int)) = True := eq_true (by omega)
  have S1 := shrI_2 q i (by omega)
  have hd2 : q / 2 ^ i ≤ q := Nat.div_le_self _ _
  have S2 : ∀ x : Nat, ((x : Nat) : Int).tmod 2 = ((x % 2 : Nat) : Int) := fun x => by rw [Int.tmod_eq_emod_of_nonneg (Int.natCast_nonneg x)]; omega
  simp only [go_sem, Nat.reduceLT, Int.reduceEq, Vo, decide_eq_true_eq, decide_eq_false_iff_not]
  refine ⟨fun hlt => ?_, fun hlt => ?_⟩
  · have r1 : (0 : Int) ≤ i ∧ (i : Int) < C.length := ⟨by omega, by omega⟩
    have hio : i < C.length := by omega
    have b1 : i * 2 ≤ sA.n - 2 := by omega
    have b2 : 2 ≤ sA.n := by omega
    have b3 : i * 2 + 2 ≤ sA.n := by omega
    have gA : hget hr ja = some sA := J3 ja (by omega) _ (I3 ja a2 _ a3)
    have gl : ja < nr := by omega
    obtain ⟨a, ha⟩ : ∃ a, C.getD i (0, 0) = a := ⟨_, rfl⟩
    by_cases hbit : q / 2 ^ i % 2 = 1
    rotate_left
    · have e1 : subN C q (i + 1) = subN C q i := by rw [subN, if_neg hbit]
      simp only [go_sem, k2, k3, S1, S2, show (((q / 2 ^ i % 2 : Nat) : Int) = 1) = False from eq_false (by omega)]
      refine ⟨⟨(i + 1, hr, nr, .sl ju 0 (subN C q i).length capU), hio, J2, J3, by show SpO _ _ _ _ (subN C q (i + 1)); rw [e1]; exact J40⟩, by show C.length - (i + 1) < C.length - i; omega, ?_⟩
      refine Imp.id (by show n ≤ nr; omega) ?_ (impH.base0 J2 (Nat.le_refl _) HExt.rfl)
      simp only [go_sem, Nat.reduceLT, w2, w64N (a := (i : Int) + 1) (k := i + 1) (by omega) (by omega)]
      (try (repeat' apply And.intro) <;> first | omega | rfl | trivial | assumption | skip)
    have e1 : subN C q (i + 1) = subN C q i ++ [a] := by rw [subN, if_pos hbit, ha]
    have nr1 : nr ≠ ju := by omega
    have nr2 : nr + 1 ≠ ju := by omega
    have hlenX : (subN C q i).length ≤ 12 := by omega
    generalize hX : subN C q i = X at *
    simp only [go_sem, Nat.reduceLT, Nat.reduceLeDiff, Nat.reduceMul, Nat.reduceSub, Nat.reduceMod, reduceIte, k2, k3, S1, S2, gA, gl, r1, b1, b2, b3, a7 (i * 2) (by omega), a7 (i * 2 + 1) (by omega), spotsC_x, spotsC_y, ha, show (((q / 2 ^ i % 2 : Nat) : Int) = 1) = True from eq_true (by omega), w3, w2, nr1, nr2]
    refine ⟨?_, fun hz => absurd trivial hz⟩
    refine ⟨⟨w7, w8, by omega⟩, fun cap' m1 m2 => ?_⟩
    obtain ⟨okM, exM, spM⟩ := app1 (a := a) (nq := nr) (jv := ju) (w := some (58, 2)) (c1 := fun j => if j < 2 then cl [SV.int IntKind.i8 a.1, SV.int IntKind.i8 a.2] (j - 0) else cl [SV.int IntKind.i8 0, SV.int IntKind.i8 0] (j % 2)) (n := nq) (by omega) J2 J3 w1 rfl rfl w9 m1 m2
    refine ⟨⟨(i + 1, _, nr + 2, .sl (nr + 1) 0 (X.length + 1) cap'), hio, okM, exM, by show SpO _ _ _ _ (subN C q (i + 1)); rw [e1]; exact spM⟩, by show C.length - (i + 1) < C.length - i; omega, ?_⟩
    refine Imp.id (by show n ≤ nr + 2; omega) ?_ (impH.base0 okM (Nat.le_refl _) HExt.rfl)
    simp only [go_sem, Nat.reduceLT, w64N (a := (i : Int) + 1) (k := i + 1) (by omega) (by omega)]
    (try (repeat' apply And.intro) <;> first | omega | rfl | trivial | assumption | skip)
  have ei : i = C.length := by omega
  subst ei
  have hst : Strict (subN C q C.length) := by
    have h1 := subN_sub C q C.length (Nat.le_refl _)
    rw [List.take_length] at h1
    exact List.Pairwise.sublist h1 hist
  have hs8 : In8s (subN C q C.length) := fun a ha => hi8 a (subN_mem C q C.length (Nat.le_refl _) a ha)
  have gSr : hget hr g = some (shS S) := J3 g (by omega) _ (I3 g (by omega) _ gS)
  have gOr : hget hr n = some (mkS O) := J3 n (by omega) _ (I3 n (by omega) _ gO)
  have nn : nr ≠ n := by omega
  have n1 : n < nr + 1 := by omega
  refine (mask_Q _ _ _ _ (subN C q C.length) nq J40.sp (by omega) hs8).A ?_
  simp only [go_sem, Nat.reduceLT, Nat.reduceEqDiff, reduceIte]
  have ok3 : HOk (nr + 1) ((nr, mkS (subN C q C.length)) :: hr) := J2.consF fun k hk => mkC_flat _ _
  have ex3 : HExt nr hr ((nr, mkS (subN C q C.length)) :: hr) := by simp only [go_sem, HExt_cons]
  have gS3 : hget ((nr, mkS (subN C q C.length)) :: hr) g = some (shS S) := ex3 g (by omega) _ gSr
  have gO3 : hget ((nr, (⟨64, mkC (subN C q C.length), true, none⟩ : Seg)) :: hr) n = some ⟨64, mkC O, true, none⟩ := ex3 n (by omega) _ gOr
  refine T_draw hti _ _ (by kernel_rfl) (by kernel_rfl) ?_
  simp only [go_sem, Nat.reduceLT, gOr, nn, n1]
  refine (spread2_Q _ _ _ g 0 nr (shS S) S (subN C q C.length) gS3 (by omega) (shAt_shC hR) hsm (hget_hit _ _ _) (by omega) hst hs8).A ?_
  have ok3x : HExt nq hq ((nr, mkS (subN C q C.length)) :: hr) := J3.tr ex3 (by omega)
  have I33 : HExt n2 h2 ((nr, mkS (subN C q C.length)) :: hr) := I3.tr ok3x (by omega)
  have I43 := I4.mono (n' := nr + 1) (by omega) fun z _ hz => ok3x z hz
  have heq := mk_eq64 (spreadL_strict S (subN C q C.length)) hOst (spreadL_in hsm hs8) hO8
  by_cases hsp : spreadL S (subN C q C.length) = O
  rotate_left
  · have e1 : forN S O C (q + 1) = forN S O C q := by rw [forN, if_neg hsp]
    simp only [go_sem, Nat.reduceLT, Nat.reduceAdd, Nat.reduceMul, Nat.reduceMod, gO3, n1, heq, hsp]
    refine ⟨⟨(q + 1, _, nr + 1, (j, cap, sc, r, cp)), ⟨by show q + 1 ≤ M; omega, by show n2 + 1 ≤ nr + 1; omega⟩, ok3, I33, by show Lss _ _ _ _ _ _ _ _ (forN S O C (q + 1)); rw [e1]; exact I43⟩, by show M - (q + 1) < M - q; omega, ?_⟩
    refine Imp.id (by show n ≤ nr + 1; omega) ?_ (impH.base0 ok3 (Nat.le_refl _) HExt.rfl)
    simp only [go_sem, Nat.reduceLT, e1, w64N (a := (q : Int) + 1) (k := q + 1) (by omega) (by omega)]
    (try (repeat' apply And.intro) <;> first | omega | rfl | trivial | assumption | skip)
  have e1 : forN S O C (q + 1) = forN S O C q ++ [subN C q C.length] := by rw [forN, if_pos hsp]
  have v5 := I43.seg
  have v6 := I43.le
  have v7 := I43.cap
  have jl3 := I43.lt
  have v8 : nr + 1 ≠ j := by omega
  have v9 : nr + 2 ≠ j := by omega
  have gR : RowAt ((nr, mkS (subN C q C.length)) :: hr) ju (subN C q C.length) := ⟨_, ex3 ju w2 _ w3, rfl, rfl, w9⟩
  have v5' : hget ((nr, (⟨64, mkC (subN C q C.length), true, none⟩ : Seg)) :: hr) j = _ := v5
  rw [hsp] at heq
  generalize hXX : subN C q C.length = X at *
  simp only [go_sem, Nat.reduceLT, Nat.reduceLeDiff, Nat.reduceAdd, Nat.reduceMul, Nat.reduceMod, gO3, n1, hsp, heq, v5', jl3, v8, v9]
  refine ⟨⟨v6, v7, by omega⟩, fun cap' m1 m2 => ?_⟩
  generalize hCC : upd (zrow _) 0 (SV.sl ju 0 X.length capU) = CC
  have hC0 : CC 0 = .sl ju 0 X.length capU := by rw [← hCC]; rfl
  obtain ⟨k1, k2, k3, k4⟩ := lssApp (cap' := cap') (cpR := capU) (c1 := CC) (R := X) (jr := ju) (w := some (34, 1)) I43 ok3 I33 hjlo gR (by omega) (by omega) (by omega) (fun k hk => by have := I4.rlt k hk; omega) hC0 m1 m2 rfl
  refine ⟨⟨(q + 1, _, nr + 3, (nr + 2, cap', _, _, _)), ⟨by show q + 1 ≤ M; omega, by show n2 + 1 ≤ nr + 3; omega⟩, k1, k2, by show Lss _ _ _ _ _ _ _ _ (forN S O C (q + 1)); rw [e1]; exact k3⟩, by show M - (q + 1) < M - q; omega, ?_⟩
  refine Imp.id (by show n ≤ nr + 3; omega) ?_ (impH.base0 k1 (Nat.le_refl _) HExt.rfl)
  simp only [go_sem, Nat.reduceLT, e1, List.length_append, w64N (a := (q : Int) + 1) (k := q + 1) (by omega) (by omega)]
  (try (repeat' apply And.intro) <;> first | omega | rfl | trivial | assumption | skip)
end
end Go.Proofs.YtfelopllfhcdpaaGreat.V

/- LeastForerunner: the reference's walk. -/
namespace Go.Proofs.YtfelopllfhcdpaaGreat.V
theorem bestN_1 (LL : List LSp) : bestN LL 1 = LL.getD 0 [] := by
  rw [bestN]; split <;> rfl
section
variable (cx : Cx) (h : List (Nat × Seg)) (n : Nat)
set_option maxHeartbeats 1600000 in
theorem least2_E (S : Sh) (hR : ShR S) (A : SV) (L : LSp) (lo : Nat) (hA : Sp h lo n A L) (hm9 : L.length ≤ 1048576) (hLR : SpotsR L) (K : HK)
    (hK : ∀ V h' n', n ≤ n' → HExt n h h' → HOk n' h' → SpsOut h' n n' V (leastR S L).1 → K (.tup 2 (cl [V, .int .i64 (leastR S L).2])) h' n') :
    CallE Tryz.prog cx 7 [.agg 266 (shC S), A] h n K := by
  have hA0 := hA
  obtain ⟨jA, capA, tA, rfl, _⟩ := hA
  have hA1 : Sp ((n, shS S) :: h) lo (n + 1) (.sl jA 0 L.length capA) L := hA0.ext (by omega) (by simp only [go_sem, HExt_cons])
  refine CallE.hokE ?_
  refine callE_of_T (P := Tryz.prog) hti (nt := 42) (rs := [.tmp 4, .tmp 5]) rfl rfl Tryz.call7 Tryz.func7 rfl _ (by simp only [go_sem, and_self]) (Nat.le_of_ble_eq_true rfl) _ fun hok => ?_
  simp only [go_sem, Nat.reduceLT]
  refine (few_Q _ _ _ n S _ L lo (by simp only [go_sem]) (by omega) hR hA1 hm9 hLR).A ?_
  have bad : ∀ (c : Int) (hq : List (Nat × Seg)) (nq : Nat), leastR S L = ([], c) → n ≤ nq → HExt n h hq → HOk (nq + 1) ((nq, ⟨0, zrow (ti 58), true, some (58, 0)⟩) :: hq) → K (.tup 2 (cl [.sl nq 0 0 0, .int .i64 c])) ((nq, ⟨0, zrow (ti 58), true, some (58, 0)⟩) :: hq) (nq + 1) := fun c hq nq e hn hx ok => by
    have := hK (.sl nq 0 0 0) _ (nq + 1) (by omega) (fun z hz t ht => by simp only [hget]; rw [if_neg (by omega)]; exact hx z hz t ht) ok (by rw [e]; exact .inr ⟨nq, 0, _, rfl, hn, by omega, hget_hit _ _ _, rfl, rfl, fun k hk => absurd hk (Nat.not_lt_zero k)⟩)
    rw [e] at this; exact this
  by_cases hc : foreCd S L = 0
  rotate_left
  · have e : leastR S L = ([], foreCd S L) := by unfold leastR; rw [if_neg hc]
    simp only [go_sem, Nat.reduceLT, Nat.reduceMul, hc]
    exact fun hok' => bad _ _ _ e (by omega) (by simp only [go_sem, HExt_cons]) hok'
  simp only [go_sem, Nat.reduceLT, hc]
  refine callA_false (all6_E _ _ _ n S _ L lo (by simp only [go_sem]) (by omega) hR hA1 hm9 hc _ fun j cap sc r cp h1 n1 hn1 hx1 ok1 Ls => ?_)
  have x1 : HExt n h h1 := HExt.tr (m' := n + 1) (by simp only [go_sem, HExt_cons]) hx1 (by omega)
  obtain ⟨hs1, hs2⟩ := foreA_small hc
  have hrow : ∀ k, ((foreA S L).getD k []).length ≤ 12 := fun k => getD_le hs2 k
  have hhead := srtL_head (LL := foreA S L)
  have hsl : (srtL (foreA S L)).length = (foreA S L).length := (srtL_perm _).length_eq
  by_cases h0 : (foreA S L).length = 0
  · have e : leastR S L = ([], 6) := by unfold leastR; rw [if_pos hc, if_pos (by omega)]
    simp only [go_sem, Nat.reduceLT, Nat.reduceMul, show (((foreA S L).length : Int) = 0) = True from eq_true (by omega)]
    exact fun hok' => bad _ _ _ e (by omega) x1 hok'
  have e : leastR S L = (bestN (foreA S L) (foreA S L).length, 0) := by unfold leastR; rw [if_pos hc, if_neg (by omega), hhead (by omega)]
  rw [e] at hK
  generalize foreA S L = LL at *
  have hs := Ls.seg
  have hj := Ls.lt
  have e0 := Ls.cell 0 (by omega)
  have b1 : (0 : Int) < LL.length := by omega
  have b2 : 1 ≤ LL.length := by omega
  simp only [go_sem, Nat.reduceLT, Int.reduceToNat, Int.reduceLE, show ((LL.length : Int) = 0) = False from eq_false (by omega), hs, hj, b1, b2, e0]
  refine T_lp (ι := { w : Nat × Nat // (1 ≤ w.1 ∧ w.1 ≤ LL.length ∧ w.2 < LL.length) ∧ LL.getD w.2 [] = bestN LL w.1 })
    (fun w => ([(7, .sl j 0 LL.length cap), (8, .sl (r w.1.2) 0 (LL.getD w.1.2 []).length (cp w.1.2)), (9, .int .i64 ((w.1.1 : Nat) : Int))], h1, n1)) (fun w => LL.length - w.1.1) ⟨(1, 0), ⟨Nat.le_refl _, b2, b2⟩, (bestN_1 LL).symm⟩ ?_ ?_
  · refine Imp.id (by show n ≤ n1; omega) ?_ (impH.base0 ok1 (Nat.le_refl _) HExt.rfl)
    have := Ls.rlt 0 (by omega)
    simp only [go_sem, Nat.reduceLT]
    (try (repeat' apply And.intro) <;> first | omega | rfl | trivial | assumption | skip)
  rintro ⟨⟨q, bi⟩, ⟨q0, q1, q2⟩, q3⟩
  simp only at q0 q1 q2 q3
  have hbl := Ls.rlt bi q2
  simp only [go_sem, Nat.reduceLT, decide_eq_true_eq, decide_eq_false_iff_not]
  refine ⟨fun h2 => ?_, fun h2 => ?_⟩
  rotate_left
  · have eq1 : q = LL.length := by omega
    subst eq1
    have hsps := Ls.sps q2
    rw [Ls.cell bi q2] at hsps
    rw [q3] at hsps ⊢
    try simp only [go_sem, Nat.reduceBEq, Nat.reduceLT, Nat.reduceLeDiff, Nat.reduceAdd, Nat.reduceMul, Nat.reduceSub, Nat.reduceMod, Nat.reduceDiv, Nat.reduceEqDiff, Int.reduceToNat, reduceIte, reduceCtorEq, Int.reduceLE, Int.reduceLT, Int.reduceEq, Int.reduceNeg, Int.reduceAdd, Int.reduceSub, Int.reduceMul]
    exact fun hok' => hK _ _ _ (by omega) x1 ok1 (hsps.mono' (by omega))
  have hqo : q < LL.length := by omega
  have hql := Ls.rlt q hqo
  have r1 : (0 : Int) ≤ q ∧ (q : Int) < LL.length := ⟨by omega, by omega⟩
  have c1 : q ≤ LL.length - 1 := by omega
  have c3 : q + 1 ≤ LL.length := by omega
  have e1 := Ls.cell q hqo
  obtain ⟨s, a1, a2, a3, a4⟩ := (Ls.row q hqo).row
  obtain ⟨t, t1, t2, t3, t4⟩ := (Ls.row bi q2).row
  have hr1 := hrow q
  have hr2 := hrow bi
  simp only [go_sem, Nat.reduceLT, hs, hj, r1, b2, c1, c3, e1, Nat.mul_one]
  refine (less_Q _ _ _ (r q) (cp q) (r bi) (cp bi) (LL.getD q []) (LL.getD bi []) s t a1 hql a3 a4 t1 hbl t3 t4 (by omega) (by omega)).A ?_
  by_cases hlt : ltL (LL.getD q []) (LL.getD bi []) = true
  · have eb : LL.getD q [] = bestN LL (q + 1) := by rw [bestN, if_pos (by rw [← q3]; exact hlt)]
    simp only [go_sem, Nat.reduceLT, hlt, hs, hj, r1, b2, c1, c3, e1, Nat.mul_one]
    refine ⟨⟨(q + 1, q), ⟨by show 1 ≤ q + 1; omega, hqo, hqo⟩, eb⟩, by show LL.length - (q + 1) < LL.length - q; omega, ?_⟩
    refine Imp.id (by show n ≤ n1; omega) ?_ (impH.base0 ok1 (Nat.le_refl _) HExt.rfl)
    simp only [go_sem, Nat.reduceLT, w64N (a := (q : Int) + 1) (k := q + 1) (by omega) (by omega)]
    (try (repeat' apply And.intro) <;> first | omega | rfl | trivial | assumption | skip)
  · have eb : LL.getD bi [] = bestN LL (q + 1) := by rw [bestN, if_neg (by rw [← q3]; exact hlt)]; exact q3
    simp only [go_sem, Nat.reduceLT, hlt]
    refine ⟨⟨(q + 1, bi), ⟨by show 1 ≤ q + 1; omega, hqo, q2⟩, eb⟩, by show LL.length - (q + 1) < LL.length - q; omega, ?_⟩
    refine Imp.id (by show n ≤ n1; omega) ?_ (impH.base0 ok1 (Nat.le_refl _) HExt.rfl)
    simp only [go_sem, Nat.reduceLT, w64N (a := (q : Int) + 1) (k := q + 1) (by omega) (by omega)]
    (try (repeat' apply And.intro) <;> first | omega | rfl | trivial | assumption | skip)
end
end Go.Proofs.YtfelopllfhcdpaaGreat.V

/- The law of LeastForerunner: the walk. -/
namespace Go.Proofs.YtfelopllfhcdpaaGreat.V
theorem leastR_len (S : Sh) (L : LSp) : (leastR S L).1.length ≤ 64 := by
  unfold leastR
  split
  · rename_i hc
    split
    · exact Nat.zero_le _
    · have := (srt_small hc).2 0; show ((srtL (foreA S L)).getD 0 []).length ≤ 64; omega
  · exact Nat.zero_le _
section
variable (cx : Cx) (h : List (Nat × Seg)) (n : Nat)
theorem lawLeastF_Q (F : Nat → SV) (S : Sh) (hF : ShF F S) (A : SV) (L : List (Int × Int)) (hA : SpsArg h n A L) (hLR : SpotsR L) (hl : L.length ≤ 9223372036854775807) :
    CallQ Tryz.prog cx 3 [.agg 266 F, A] h n (.bool true) := by
  have hone := hF.ones
  have hAo := hA.ok
  have hRl := leastR_len S L
  refine callQ_of_T (P := Tryz.prog) hti (nt := 104) (rs := [.tmp 4]) rfl rfl Tryz.call3 Tryz.func3 rfl _ (by first | (simp only [go_sem, hAo]; done) | (simp only [go_sem, hAo, hBo]; done)) (Nat.le_of_ble_eq_true rfl) _ (by trivial) fun hok => ?_
  simp only [go_sem, Nat.reduceLT, hone, hAo]
  refine (szSpotS_Q _ _ _ A L (hA.ext (by omega) (by simp only [go_sem, HExt_cons])) 1048576 (by omega) (by omega)).A ?_
  by_cases hbig : (1048576 : Int) - L.length < 0
  · simp only [go_sem, Nat.reduceLT, reduceIte, Int.reduceLT, Int.reduceNeg, hbig]
  have hm9 : L.length ≤ 1000000000 := by omega
  simp only [go_sem, Nat.reduceLT, reduceIte, Int.reduceNeg, hbig, hone, hAo]
  generalize hRR : (leastR S L).1 = R at hRl
  generalize hcc : (leastR S L).2 = c
  refine (toSheet_Q _ _ _ F S hF).A ?_
  simp only [go_sem, Nat.reduceLT, hone, hAo]
  refine callA_false (toSpotS_E _ _ _ A L (hA.ext (by omega) (by simp only [go_sem, HExt_cons])) hm9 _ ?_)
  simp only [go_sem, Nat.reduceLT, hone, hAo]
  refine callA_false (least2_E _ _ _ S hF.R _ L 0 (Sp_spsS (by omega) L) (by omega) hLR _ ?_)
  intro V1 h1 n1 hn1 hx1 ok1 I1
  rw [hRR] at I1
  rw [hcc]
  have V1o := I1.ok
  have g10 : hget h1 n = some ⟨266, F, true, none⟩ := hx1 n (by omega) _ (by simp only [go_sem])
  have X1 : HExt n h h1 := HExt.tr (m' := n + 2) (by simp only [go_sem, HExt_cons]) hx1 (by omega)
  have c10 : n < n1 := by omega
  simp only [go_sem, Nat.reduceLT, V1o, hAo]
  refine callA_false (toSpotS_E _ _ _ A L (hA.ext (by omega) X1) hm9 _ ?_)
  have ne0 : n1 ≠ n := by omega
  simp only [go_sem, Nat.reduceLT, V1o, hAo, hone, g10, c10, ne0]
  refine (toSheet_Q _ _ _ F S hF).A ?_
  simp only [go_sem, Nat.reduceLT, hone, hAo]
  refine callA_false (least_E _ _ _ S hF.R _ L 0 (Sp_spsS (by omega) L) (by omega) _ ?_)
  intro V2 h2 n2 hn2 hx2 ok2 I2
  rw [hRR] at I2
  rw [hcc]
  have V2o := I2.ok
  have x2 : HExt n1 h1 h2 := HExt.tr (m' := n1 + 1) (by simp only [go_sem, HExt_cons]) hx2 (by omega)
  have X2 := X1.tr x2 (by omega)
  have g21 : hget h2 n1 = some (spsS L) := hx2 n1 (by omega) _ (by simp only [go_sem])
  have c21 : n1 < n2 := by omega
  simp only [go_sem, Nat.reduceLT, V1o, V2o, hAo]
  refine (eqSpots_Q _ _ _ V2 V1 R _ _ I2 (I1.ext (by omega) x2) (by omega)).A ?_
  simp only [go_sem, Nat.reduceLT, V1o, V2o, hAo]
  refine callA_false (toSpotS_E _ _ _ A L (hA.ext (by omega) X2) hm9 _ ?_)
  have ne2 : n2 ≠ n1 := by omega
  simp only [go_sem, Nat.reduceLT, V1o, V2o, hAo]
  refine (eqSpotS_Q _ _ _ n1 L.length n2 L.length L (spsS L) (spsS L) (by first | (simp only [go_sem, g21, ne2, c21]; done) | (simp only [go_sem, Nat.reduceBEq, Nat.reduceLT, Nat.reduceLeDiff, Nat.reduceAdd, Nat.reduceMul, Nat.reduceSub, Nat.reduceMod, Nat.reduceDiv, Nat.reduceEqDiff, Int.reduceToNat, reduceIte, reduceCtorEq, Int.reduceLE, Int.reduceLT, Int.reduceEq, Int.reduceNeg, Int.reduceAdd, Int.reduceSub, Int.reduceMul, g21, ne2, c21]; rfl)) (by omega) (spsAt_spsS L) (by simp only [go_sem]) (by omega) (spsAt_spsS L) hm9).A ?_
  simp only [go_sem, Nat.reduceLT, V1o, V2o, hAo]
  refine callA_false (markSpotS_E _ _ _ n1 L.length L (spsS L) (by first | (simp only [go_sem, g21, ne2, c21]; done) | (simp only [go_sem, Nat.reduceBEq, Nat.reduceLT, Nat.reduceLeDiff, Nat.reduceAdd, Nat.reduceMul, Nat.reduceSub, Nat.reduceMod, Nat.reduceDiv, Nat.reduceEqDiff, Int.reduceToNat, reduceIte, reduceCtorEq, Int.reduceLE, Int.reduceLT, Int.reduceEq, Int.reduceNeg, Int.reduceAdd, Int.reduceSub, Int.reduceMul, g21, ne2, c21]; rfl)) (by omega) rfl (spsAt_spsS L) (fun k hk => spotsC_flat _ _) hm9 _ ?_)
  intro h3 ok3 same3
  have s3 : ∀ i, i ≠ n1 → i ≠ n2 → hget h3 i = hget h2 i := fun i hi hi2 => by rw [same3 i hi]; simp only [hget]; rw [if_neg (fun e => hi2 e.symm)]
  have x3 : HExt n1 h1 h3 := fun i hi t ht => by rw [s3 i (by omega) (by omega)]; exact x2 i hi t ht
  have I13 : SpsOut h3 (n + 2) (n2 + 1) V1 R := I1.ext (by omega) x3
  have I23 : SpsOut h3 (n1 + 1) (n2 + 1) V2 R := I2.mono (by omega) fun i h1 h2 t ht => by rw [s3 i (by omega) (by omega)]; exact ht
  have pos : ¬ (2 * (L.length : Int) + 1 < 0) := by omega
  simp only [go_sem, Nat.reduceLT, V1o, V2o, hAo, pos]
  refine (eqSpots_Q _ _ _ V2 V1 R _ _ I23 I13 (by omega)).A ?_
  simp only [go_sem, Nat.reduceLT, V1o, V2o, hAo, pos]
  refine callA_false (markSpots_E _ _ _ V2 R (n1 + 1) I23 (by omega) _ ?_)
  intro h4 ok4 keep4 I24
  have x4 : HExt n1 h1 h4 := keep4 _ _ (by omega) x3
  have X4 : HExt n h h4 := X1.tr x4 (by omega)
  have I14 : SpsOut h4 (n + 2) (n2 + 1) V1 R := I1.ext (by omega) x4
  have g40 : hget h4 n = some ⟨266, F, true, none⟩ := x4 n (by omega) _ g10
  have c40 : n < n2 + 1 := by omega
  have posr : ¬ (2 * (R.length : Int) + 1 < 0) := by omega
  simp only [go_sem, Nat.reduceLT, V1o, V2o, hAo]
  refine (heldSpots_Q _ _ _ V2 R.length _ I24 (by omega)).A ?_
  simp only [go_sem, Nat.reduceLT, V1o, V2o, hAo, posr, hone, g40, c40]
  refine (toSheet_Q _ _ _ F S hF).A ?_
  simp only [go_sem, Nat.reduceLT, hone, hAo]
  refine callA_false (toSpotS_E _ _ _ A L (hA.ext (by omega) X4) hm9 _ ?_)
  simp only [go_sem, Nat.reduceLT, hone, hAo]
  refine callA_false (least_E _ _ _ S hF.R _ L 0 (Sp_spsS (by omega) L) (by omega) _ ?_)
  intro V3 h5 n5 hn5 hx5 ok5 I35
  rw [hRR] at I35
  rw [hcc]
  have V3o := I35.ok
  have x5 : HExt (n2 + 1) h4 h5 := HExt.tr (m' := n2 + 2) (by simp only [go_sem, HExt_cons]) hx5 (by omega)
  have X5 := X4.tr x5 (by omega)
  simp only [go_sem, Nat.reduceLT, V1o, V2o, V3o, hAo]
  refine (eqSpots_Q _ _ _ V3 V1 R _ _ I35 (I14.ext (by omega) x5) (by omega)).A ?_
  simp only [go_sem, Nat.reduceLT, V1o, V2o, V3o, hAo]
  refine (heldSpots_Q _ _ _ V2 R.length _ (I24.ext (by omega) x5) (by omega)).A ?_
  simp only [go_sem, Nat.reduceLT, V1o, V2o, V3o, hAo, posr]
  (try exact X5)
end
end Go.Proofs.YtfelopllfhcdpaaGreat.V
