/- Loops of few rounds, walked round by round. -/
import Derived.Test.YtfelopllfhcdpaaGreatV15
set_option linter.all false
namespace Go.Proofs.YtfelopllfhcdpaaGreat.V

section
variable {P : Program} {ti : Nat → TI} {cx : Cx} {Q : List (Nat × SV) → List (Nat × Seg) → Nat → Prop}
variable {k : List It} {l : List (Nat × SV)} {h : List (Nat × Seg)} {n : Nat} {x : Code}

theorem Imp.rfl : Imp cx l h n l h n := fun ρ a w st sh hn => ⟨ρ, fun _ _ => Eq.refl _, st, sh, hn⟩

/-- A state from which a loop ends within N rounds more. -/
def UG (P : Program) (ti : Nat → TI) (cx : Cx) (Q : List (Nat × SV) → List (Nat × Seg) → Nat → Prop) (x : Code) (k : List It) (N : Nat) (s : ST) : Prop :=
  T P ti cx Q (.code x :: .inv (fun l' h' n' => ∃ N', ∃ _ : N' < N, ∃ s' : ST, UG P ti cx Q x k N' s' ∧ Imp cx l' h' n' s'.1 s'.2.1 s'.2.2) :: k) s.1 s.2.1 s.2.2
termination_by N

/-- The leaf of a round. -/
def URest (P : Program) (ti : Nat → TI) (cx : Cx) (Q : List (Nat × SV) → List (Nat × Seg) → Nat → Prop) (x : Code) (k : List It) (N : Nat) (l : List (Nat × SV)) (h : List (Nat × Seg)) (n : Nat) : Prop :=
  ∃ N', ∃ _ : N' < N, ∃ s' : ST, UG P ti cx Q x k N' s' ∧ Imp cx l h n s'.1 s'.2.1 s'.2.2
theorem UG_eq (N : Nat) (s : ST) : UG P ti cx Q x k N s = T P ti cx Q (.code x :: .inv (URest P ti cx Q x k N) :: k) s.1 s.2.1 s.2.2 := by
  rw [UG]; rfl

theorem T_unroll (N : Nat) (ht : T P ti cx Q (.code x :: .inv (URest P ti cx Q x k N) :: k) l h n) : T P ti cx Q (.code (.loop x) :: k) l h n := by
  have hg : UG P ti cx Q x k N (l, h, n) := by rw [UG_eq]; exact ht
  rw [T]
  refine ⟨{ p : Nat × ST // UG P ti cx Q x k p.1 p.2 }, fun p => p.1.2, fun p => p.1.1, ⟨(N, (l, h, n)), hg⟩, Imp.rfl, ?_⟩
  rintro ⟨⟨M, s⟩, hs⟩
  have hs' := hs
  rw [UG_eq] at hs'
  have e : (fun l' h' n' => ∃ j : { p : Nat × ST // UG P ti cx Q x k p.1 p.2 }, j.1.1 < M ∧ Imp cx l' h' n' j.1.2.1 j.1.2.2.1 j.1.2.2.2) = URest P ti cx Q x k M := by
    funext l' h' n'
    apply propext
    constructor
    · rintro ⟨⟨⟨N', s'⟩, hu⟩, hlt, hi⟩; exact ⟨N', hlt, s', hu, hi⟩
    · rintro ⟨N', hlt, s', hu, hi⟩; exact ⟨⟨⟨N', s'⟩, hu⟩, hlt, hi⟩
  show T P ti cx Q (.code x :: .inv (fun l' h' n' => ∃ j : { p : Nat × ST // UG P ti cx Q x k p.1 p.2 }, j.1.1 < M ∧ Imp cx l' h' n' j.1.2.1 j.1.2.2.1 j.1.2.2.2) :: k) s.1 s.2.1 s.2.2
  rw [e]; exact hs'

/-- One round more. -/
theorem U_step {N : Nat} (ht : T P ti cx Q (.code x :: .inv (URest P ti cx Q x k N) :: k) l h n) : URest P ti cx Q x k (N + 1) l h n :=
  ⟨N, Nat.lt_succ_self N, (l, h, n), by rw [UG_eq]; exact ht, Imp.rfl⟩
/-- One round more, from a state that is told otherwise. -/
theorem U_step' {N : Nat} {l' : List (Nat × SV)} {h' : List (Nat × Seg)} {n' : Nat} (hi : Imp cx l h n l' h' n') (ht : T P ti cx Q (.code x :: .inv (URest P ti cx Q x k N) :: k) l' h' n') : URest P ti cx Q x k (N + 1) l h n :=
  ⟨N, Nat.lt_succ_self N, (l', h', n'), by rw [UG_eq]; exact ht, hi⟩
end

/-! ### Cells written out, one of them changed -/
theorem upd_cl (l : List SV) (k : Nat) (v : SV) (hk : k < l.length) : upd (cl l) k v = cl (l.set k v) := by
  funext j
  unfold upd
  rw [cl_eq, cl_eq]
  split
  · rename_i h; subst h; simp [hk]
  · rename_i h; rw [List.getElem?_set_ne (fun e => h e.symm)]
/-! ### Numbers that fit -/
@[go_sem] theorem wrap_i64 (n : Int) (h1 : -9223372036854775808 ≤ n) (h2 : n < 9223372036854775808) : IntKind.i64.wrap n = n := by rw [IntKind.wrap_i64]; omega
@[go_sem] theorem wrap_i16 (n : Int) (h1 : -32768 ≤ n) (h2 : n < 32768) : IntKind.i16.wrap n = n := by simp [IntKind.wrap, IntKind.bits, IntKind.signed]; omega
@[go_sem] theorem wrap_i8 (n : Int) (h1 : -128 ≤ n) (h2 : n < 128) : IntKind.i8.wrap n = n := by simp [IntKind.wrap, IntKind.bits, IntKind.signed]; omega
@[go_sem] theorem wrap_u8 (n : Int) (h1 : 0 ≤ n) (h2 : n < 256) : IntKind.u8.wrap n = n := by simp [IntKind.wrap, IntKind.bits, IntKind.signed]; omega
attribute [go_sem] upd_cl List.set_cons_zero List.set_cons_succ Bool.and_true Bool.true_and Bool.and_false Bool.false_and Bool.or_true Bool.true_or Bool.or_false Bool.false_or

/-! ### Names below the next one -/
@[go_sem] theorem beq_lt0 {j n : Nat} (h : j < n) : (n == j) = false := by simp; omega
@[go_sem] theorem beq_lt1 {j n k : Nat} (h : j < n) : (n + k == j) = false := by simp; omega
@[go_sem] theorem beq_lt2 {j n : Nat} (h : j < n) : (j == n) = false := by simp; omega
@[go_sem] theorem beq_lt3 {j n k : Nat} (h : j < n) : (j == n + k) = false := by simp; omega
@[go_sem] theorem hget_hset_ne {h : List (Nat × Seg)} {i j : Nat} {t : Seg} (hij : (i == j) = false) : hget (hset h i t) j = hget h j := by
  rw [hget_hset, if_neg (by simpa using hij)]
@[go_sem] theorem hget_hset_eq {h : List (Nat × Seg)} {i : Nat} {t : Seg} (hi : (hget h i).isSome = true) : hget (hset h i t) i = some t := by
  rw [hget_hset, if_pos rfl]
  cases hg : hget h i with
  | none => rw [hg] at hi; cases hi
  | some s => rfl
theorem hset_comm {h : List (Nat × Seg)} {i j : Nat} {a b : Seg} (hij : (i == j) = false) : hset (hset h i a) j b = hset (hset h j b) i a := by
  have hne : i ≠ j := by simpa using hij
  induction h with
  | nil => rfl
  | cons p h ih =>
    obtain ⟨k, s⟩ := p
    simp only [hset]
    by_cases h1 : k = i
    · subst h1
      rw [if_pos rfl]
      by_cases h2 : k = j
      · exact absurd h2 hne
      · simp [hset, h2]
    · by_cases h2 : k = j
      · subst h2; simp [hset, h1]
      · simp [hset, h1, h2, ih]
@[go_sem] theorem hset_comm3 {h : List (Nat × Seg)} {i j : Nat} {a b c : Seg} (hij : (i == j) = false) : hset (hset (hset h j a) i b) j c = hset (hset h j c) i b := by
  rw [hset_comm hij, hset_hset]
@[go_sem] theorem isSome_hset {h : List (Nat × Seg)} {i j : Nat} {t : Seg} : (hget (hset h i t) j).isSome = (hget h j).isSome := by
  rw [hget_hset]
  by_cases e : i = j
  · subst e; rw [if_pos rfl]; cases hget h i <;> rfl
  · rw [if_neg e]
attribute [go_sem] Option.isSome_some hset_hset eq_self

section
variable (a b c d e : SV) (m : Nat)
@[go_sem high] theorem lt_tup2 : (SV.tup 2 (cl [a, b])).lt m = (a.lt m ∧ b.lt m) := by
  apply propext
  exact ⟨fun h => ⟨h 0 (by omega), h 1 (by omega)⟩, fun h j hj => by rcases (by omega : j = 0 ∨ j = 1) with rfl | rfl; exact h.1; exact h.2⟩
@[go_sem high] theorem lt_tup3 : (SV.tup 3 (cl [a, b, c])).lt m = (a.lt m ∧ b.lt m ∧ c.lt m) := by
  apply propext
  exact ⟨fun h => ⟨h 0 (by omega), h 1 (by omega), h 2 (by omega)⟩, fun h j hj => by rcases (by omega : j = 0 ∨ j = 1 ∨ j = 2) with rfl | rfl | rfl; exact h.1; exact h.2.1; exact h.2.2⟩
@[go_sem high] theorem lt_tup4 : (SV.tup 4 (cl [a, b, c, d])).lt m = (a.lt m ∧ b.lt m ∧ c.lt m ∧ d.lt m) := by
  apply propext
  exact ⟨fun h => ⟨h 0 (by omega), h 1 (by omega), h 2 (by omega), h 3 (by omega)⟩, fun h j hj => by rcases (by omega : j = 0 ∨ j = 1 ∨ j = 2 ∨ j = 3) with rfl | rfl | rfl | rfl; exact h.1; exact h.2.1; exact h.2.2.1; exact h.2.2.2⟩
@[go_sem high] theorem lt_agg1 : (SV.agg 1 (cl [a])).lt m = a.lt m := by
  apply propext
  exact ⟨fun h => h 0 (by omega), fun h j hj => by obtain rfl : j = 0 := (by omega); exact h⟩
@[go_sem high] theorem lt_agg2 : (SV.agg 2 (cl [a, b])).lt m = (a.lt m ∧ b.lt m) := by
  apply propext
  exact ⟨fun h => ⟨h 0 (by omega), h 1 (by omega)⟩, fun h j hj => by rcases (by omega : j = 0 ∨ j = 1) with rfl | rfl; exact h.1; exact h.2⟩
@[go_sem high] theorem lt_agg3 : (SV.agg 3 (cl [a, b, c])).lt m = (a.lt m ∧ b.lt m ∧ c.lt m) := by
  apply propext
  exact ⟨fun h => ⟨h 0 (by omega), h 1 (by omega), h 2 (by omega)⟩, fun h j hj => by rcases (by omega : j = 0 ∨ j = 1 ∨ j = 2) with rfl | rfl | rfl; exact h.1; exact h.2.1; exact h.2.2⟩
@[go_sem high] theorem lt_agg5 : (SV.agg 5 (cl [a, b, c, d, e])).lt m = (a.lt m ∧ b.lt m ∧ c.lt m ∧ d.lt m ∧ e.lt m) := by
  apply propext
  exact ⟨fun h => ⟨h 0 (by omega), h 1 (by omega), h 2 (by omega), h 3 (by omega), h 4 (by omega)⟩, fun h j hj => by rcases (by omega : j = 0 ∨ j = 1 ∨ j = 2 ∨ j = 3 ∨ j = 4) with rfl | rfl | rfl | rfl | rfl; exact h.1; exact h.2.1; exact h.2.2.1; exact h.2.2.2.1; exact h.2.2.2.2⟩
@[go_sem high] theorem lt_tup0 (F : Nat → SV) : (SV.tup 0 F).lt m = True := eq_true fun j hj => by omega
end

/-! ### What a call leaves, told -/
section
variable {P : Program} {cx : Cx} {h : List (Nat × Seg)} {n f : Nat} {args args' : List SV}
theorem impH_HExt {h1 H : List (Nat × Seg)} {n n1 : Nat} (hn : n ≤ n1) (hok : HOk n H) (hx : HExt n H h1) : impH h1 (sig []) n H := impH.base0 hok (Nat.le_refl n) hx
theorem CallE.to {K : HK} (R : SV) (H : List (Nat × Seg)) (hR : R.lt n) (hH : HOk n h → HOk n H) (hK : K R H n) (hc : CallE P cx f args h n fun r h1 _ => r = R ∧ HExt n H h1) : CallE P cx f args h n K :=
  hc.imp0 fun hok r h1 n1 ⟨hr, hx⟩ => ⟨R, H, n, Nat.le_refl n, by rw [ren_nil]; exact hr, hR, impH.base0 (hH hok) (Nat.le_refl n) hx, hK⟩
/-- One of several ends. -/
theorem CallE.toE {K : HK} {ι : Type} (R : ι → SV) (H : ι → List (Nat × Seg)) (p : ι → Prop) (hR : ∀ x, p x → (R x).lt n) (hH : HOk n h → ∀ x, p x → HOk n (H x)) (hK : ∀ x, p x → K (R x) (H x) n)
    (hc : CallE P cx f args h n fun r h1 _ => ∃ x, p x ∧ r = R x ∧ HExt n (H x) h1) : CallE P cx f args h n K :=
  hc.imp0 fun hok r h1 n1 ⟨x, hp, hr, hx⟩ => ⟨R x, H x, n, Nat.le_refl n, by rw [ren_nil]; exact hr, hR x hp, impH.base0 (hH hok x hp) (Nat.le_refl n) hx, hK x hp⟩
/-- Arguments told otherwise. -/
theorem CallQ.argsEq {r : SV} (hd : ∀ ρ, args.map (den ρ) = args'.map (den ρ)) (hok : oks args) (hl : ∀ v ∈ args', v.lt n) (hc : CallQ P cx f args' h n r) : CallQ P cx f args h n r :=
  ⟨hc.1, hok, hc.2.2.1, fun ρ w sh _ => by rw [hd ρ]; exact hc.2.2.2 ρ w sh hl⟩
theorem CallE.argsEq {K : HK} (hd : ∀ ρ, args.map (den ρ) = args'.map (den ρ)) (hok : oks args) (hl : ∀ v ∈ args', v.lt n) (hc : CallE P cx f args' h n K) : CallE P cx f args h n K :=
  ⟨hc.1, hok, fun ρ w sh _ => by rw [hd ρ]; exact hc.2.2 ρ w sh hl⟩
/-- A call that leaves all as it was, its value known. -/
theorem CallE.toQ {r : SV} (hr : r.lt n) (hc : ∀ K : HK, (∀ r', (∀ ρ, den ρ r' = den ρ r) → K r' h n) → CallE P cx f args h n K) : CallQ P cx f args h n r := by
  obtain ⟨h1, h2, h3⟩ := hc (fun r' h' n' => (∀ ρ, den ρ r' = den ρ r) ∧ h' = h ∧ n' = n) (fun r' hr' => ⟨hr', rfl, rfl⟩)
  refine ⟨h1, h2, hr, fun ρ w sh hl => (h3 ρ w sh hl).mono fun e w' he => ?_⟩
  obtain ⟨ρ', r', h', n', g1, g2, rfl, g4, g5, g6, rfl, rfl⟩ := he
  exact ⟨by rw [g6, den_congr (m := n') (fun i hi => (g1 i hi).symm) r hr], g5.rho fun i hi => (g1 i hi).symm⟩
theorem den_aggF {k : Nat} {F G : Nat → SV} (h : ∀ j, j < k → F j = G j) (ρ : Rho) : den ρ (.agg k F) = den ρ (.agg k G) := by
  simp only [den]; congr 1; exact arr_congr fun j hj => by rw [h j hj]
theorem hok_set {m i : Nat} {h0 : List (Nat × Seg)} {s : Seg} (hok : HOk m h0) (hs : ∀ k, k < s.n → (s.c k).flat) : HOk m (hset h0 i s) := HOk.hset hok fun k hk => (hs k hk).below m
end
end Go.Proofs.YtfelopllfhcdpaaGreat.V
