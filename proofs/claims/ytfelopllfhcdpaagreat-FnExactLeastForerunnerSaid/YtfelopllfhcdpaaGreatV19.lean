/- The walk's spine: statements told by what they mean, so that ways may meet again. -/
import Derived.Test.YtfelopllfhcdpaaGreatV18
set_option linter.all false
namespace Go.Proofs.YtfelopllfhcdpaaGreat.V

/-- From this state the items end as they should. -/
def SW (P : Program) (cx : Cx) (Q : List (Nat × SV) → List (Nat × Seg) → Nat → Prop) (todo : List It) (l : List (Nat × SV)) (h : List (Nat × Seg)) (n : Nat) : Prop :=
  ∀ (ρ0 ρ : Rho) (a : Act) (w : World), (∀ i, i < cx.n0 → ρ0 i = ρ i) → cx.n0 ≤ n → SatT cx ρ l n a → SatH cx ρ h n w → Cn P cx Q ρ0 todo .normal a w
@[congr] theorem SW_congr (P : Program) (cx : Cx) (Q : List (Nat × SV) → List (Nat × Seg) → Nat → Prop) (todo : List It) (l : List (Nat × SV)) (h : List (Nat × Seg)) (n : Nat) : SW P cx Q todo l h n = SW P cx Q todo l h n := rfl
section
variable {P : Program} {ti : Nat → TI} {cx : Cx} {Q : List (Nat × SV) → List (Nat × Seg) → Nat → Prop}
variable {k todo : List It} {l l' : List (Nat × SV)} {h h' : List (Nat × Seg)} {n n' : Nat}

theorem SW_of_T (hti : ∀ t, TyOK P t (ti t)) (hq : noQ todo) (ht : T P ti cx Q todo l h n) : SW P cx Q todo l h n :=
  fun ρ0 ρ a w hr hn st sh => T_sound hti ρ0 _ todo l h n ρ a w (Nat.le_refl _) hq hr hn st sh ht
theorem SW_imp (hi : Imp cx l h n l' h' n') (hs : SW P cx Q todo l' h' n') : SW P cx Q todo l h n := fun ρ0 ρ a w hr hn st sh => by
  obtain ⟨ρ', g1, g2, g3, g4⟩ := hi ρ a w st sh hn
  exact hs ρ0 ρ' a w (fun i hi => (hr i hi).trans (g1 i hi)) g4 g2 g3
theorem SW_seq {x y : Code} (hs : SW P cx Q (.code x :: .code y :: k) l h n) : SW P cx Q (.code (.seq x y) :: k) l h n := fun ρ0 ρ a w hr hn st sh =>
  wp_seq (wp_mono (hs ρ0 ρ a w hr hn st sh) fun e a' w' he => by cases e <;> exact he)
theorem SW_block {id : Nat} {x : Code} (hs : SW P cx Q (.code x :: .inBlock id :: k) l h n) : SW P cx Q (.code (.block id x) :: k) l h n := fun ρ0 ρ a w hr hn st sh =>
  wp_block (wp_mono (hs ρ0 ρ a w hr hn st sh) fun e a' w' he => by cases e <;> exact he)
theorem SW_inBlock {id : Nat} (hs : SW P cx Q k l h n) : SW P cx Q (.inBlock id :: k) l h n := fun ρ0 ρ a w hr hn st sh => hs ρ0 ρ a w hr hn st sh
theorem SW_inv {R : List (Nat × SV) → List (Nat × Seg) → Nat → Prop} (hs : R l h n) : SW P cx Q (.inv R :: k) l h n := fun ρ0 ρ a w hr hn st sh => ⟨ρ, l, h, n, hr, st, sh, hn, hs⟩
theorem SW_skip (hs : SW P cx Q k l h n) : SW P cx Q (.code .skip :: k) l h n := fun ρ0 ρ a w hr hn st sh => wp_skip (hs ρ0 ρ a w hr hn st sh)
/-- One statement walked; the rest later. -/
theorem SW_run (hti : ∀ t, TyOK P t (ti t)) {c : Code} (hq : noQ k) (ht : T P ti cx Q (.code c :: .inv (SW P cx Q k) :: k) l h n) : SW P cx Q (.code c :: k) l h n := fun ρ0 ρ a w hr hn st sh => by
  have := T_sound hti ρ0 _ (.code c :: .inv (SW P cx Q k) :: k) l h n ρ a w (Nat.le_refl _) hq hr hn st sh ht
  refine wp_mono (show c.wp P (Cn P cx Q ρ0 (.inv (SW P cx Q k) :: k)) a w from this) fun e a' w' he => ?_
  cases e with
  | normal =>
    obtain ⟨ρ', l', h', n', g1, g2, g3, g4, g5⟩ := he
    exact g5 ρ0 ρ' a' w' g1 g4 g2 g3
  | _ => exact he
/-- One statement, whose ways meet in a family of states. -/
theorem SW_cut (hti : ∀ t, TyOK P t (ti t)) {c : Code} {ι : Type} (J : ι → ST) (hq : noQ k) (ht : T P ti cx Q (.code c :: .inv (fun l h n => ∃ j, Imp cx l h n (J j).1 (J j).2.1 (J j).2.2) :: k) l h n)
    (hJ : ∀ j, SW P cx Q k (J j).1 (J j).2.1 (J j).2.2) : SW P cx Q (.code c :: k) l h n := fun ρ0 ρ a w hr hn st sh => by
  have := T_sound hti ρ0 _ (.code c :: .inv (fun l h n => ∃ j, Imp cx l h n (J j).1 (J j).2.1 (J j).2.2) :: k) l h n ρ a w (Nat.le_refl _) hq hr hn st sh ht
  refine wp_mono (show c.wp P (Cn P cx Q ρ0 (.inv (fun l h n => ∃ j, Imp cx l h n (J j).1 (J j).2.1 (J j).2.2) :: k)) a w from this) fun e a' w' he => ?_
  cases e with
  | normal =>
    obtain ⟨ρ', l', h', n', g1, g2, g3, g4, j, hi⟩ := he
    exact SW_imp hi (hJ j) ρ0 ρ' a' w' g1 g4 g2 g3
  | _ => exact he
/-- The same, told of a spine's part: its items end in a family of states. -/
theorem SW_cutS {c : Code} {ι : Type} (J : ι → ST) (ht : SW P cx Q (.code c :: .inv (fun l h n => ∃ j, Imp cx l h n (J j).1 (J j).2.1 (J j).2.2) :: k) l h n)
    (hJ : ∀ j, SW P cx Q k (J j).1 (J j).2.1 (J j).2.2) : SW P cx Q (.code c :: k) l h n := fun ρ0 ρ a w hr hn st sh => by
  refine wp_mono (show c.wp P (Cn P cx Q ρ0 (.inv (fun l h n => ∃ j, Imp cx l h n (J j).1 (J j).2.1 (J j).2.2) :: k)) a w from ht ρ0 ρ a w hr hn st sh) fun e a' w' he => ?_
  cases e with
  | normal =>
    obtain ⟨ρ', l', h', n', g1, g2, g3, g4, j, hi⟩ := he
    exact SW_imp hi (hJ j) ρ0 ρ' a' w' g1 g4 g2 g3
  | _ => exact he
theorem SW_cond {c : Operand} {x y : Code} {b : Bool} (hc : ev l c = .bool b) (ht : b = true → SW P cx Q (.code x :: k) l h n) (hf : b = false → SW P cx Q (.code y :: k) l h n) : SW P cx Q (.code (.cond c x y) :: k) l h n := fun ρ0 ρ a w hr hn st sh => by
  obtain ⟨e1, _⟩ := ev_sound st c (by rw [hc]; simp)
  rw [hc] at e1
  cases b with
  | true => exact wp_cond_true e1 (ht rfl ρ0 ρ a w hr hn st sh)
  | false => exact wp_cond_false e1 (hf rfl ρ0 ρ a w hr hn st sh)
theorem SW_lp {x : Code} {ι : Type} (I : ι → ST) (μ : ι → Nat) (x0 : ι) (h0 : Imp cx l h n (I x0).1 (I x0).2.1 (I x0).2.2)
    (hr : ∀ i, SW P cx Q (.code x :: .inv (fun l' h' n' => ∃ j, μ j < μ i ∧ Imp cx l' h' n' (I j).1 (I j).2.1 (I j).2.2) :: k) (I i).1 (I i).2.1 (I i).2.2) :
    SW P cx Q (.code (.loop x) :: k) l h n := fun ρ0 ρ a w hrr hn st sh => by
  refine wp_loop_fam (fun i a w => Some3 cx ρ0 (fun l' h' n' => l' = (I i).1 ∧ h' = (I i).2.1 ∧ n' = (I i).2.2) a w) μ (fun i a w hi => ?_) x0 a w ?_
  · obtain ⟨ρ', l', h', n', h1, h2, h3, h4, rfl, rfl, rfl⟩ := hi
    refine wp_mono (hr i ρ0 ρ' a w h1 h4 h2 h3) fun e a' w' he => ?_
    cases e <;> try exact he
    obtain ⟨ρ'', l'', h'', n'', g1, g2, g3, g4, j, hj, himp⟩ := he
    obtain ⟨ρ3, i1, i2, i3, i4⟩ := himp ρ'' a' w' g2 g3 g4
    exact ⟨j, hj, ρ3, _, _, _, fun i hi => (g1 i hi).trans (i1 i hi), i2, i3, i4, rfl, rfl, rfl⟩
  · obtain ⟨ρ3, i1, i2, i3, i4⟩ := h0 ρ a w st sh hn
    exact ⟨ρ3, _, _, _, fun i hi => (hrr i hi).trans (i1 i hi), i2, i3, i4, rfl, rfl, rfl⟩

/-- A call of a function, its spine told. -/
theorem calls_of_SW (hti : ∀ t, TyOK P t (ti t)) {f : Nat} {fn : Func} {c : Code} {nt : Nat} {rs : List ResultVar} (hnt' : fn.ntmps = nt) (hrs : fn.results.toList = rs) (hf : P.funcs[f]? = some fn) (hb : fn.body = some c) (args : List SV) (hsz : args.length ≤ nt)
    {ρ : Rho} {w : World} (hargs : ∀ v ∈ args, v.lt n) (K : HK) (sh : SatH cx ρ h n w)
    (ht : HOk n h → SW P ⟨cx.w0, cx.W, nt, n⟩ (Ret ti rs K) [.code c] (pars 0 args) h n) :
    Calls P f (args.map (den ρ)).toArray w fun e w' => ∃ ρ' r h' n', (∀ i, i < n → ρ i = ρ' i) ∧ n ≤ n' ∧ e = .returned (den ρ' r) ∧ r.lt n' ∧ SatH cx ρ' h' n' w' ∧ K r h' n' := by
  subst hnt' hrs
  replace ht := ht sh.lt
  refine calls_of_wp hf hb ?_
  generalize hcx : (⟨cx.w0, cx.W, fn.ntmps, n⟩ : Cx) = cx' at ht
  have hW : ∀ {ρ h n w}, SatH cx' ρ h n w ↔ SatH cx ρ h n w := by
    intro ρ h n w
    subst hcx
    exact ⟨fun s => ⟨s.keeps, fun i t hi => ⟨(s.seg i t hi).blk, (s.seg i t hi).cells, (s.seg i t hi).rwf, (s.seg i t hi).own⟩, s.dis, s.lt⟩,
      fun s => ⟨s.keeps, fun i t hi => ⟨(s.seg i t hi).blk, (s.seg i t hi).cells, (s.seg i t hi).rwf, (s.seg i t hi).own⟩, s.dis, s.lt⟩⟩
  have hn0 : cx'.n0 = n := by subst hcx; rfl
  have hnt : cx'.nt = fn.ntmps := by subst hcx; rfl
  have st : SatT cx' ρ (pars 0 args) n { tmps := (args.map (den ρ)).toArray ++ Array.replicate (fn.ntmps - (args.map (den ρ)).toArray.size) undef, defers := [] } := by
    refine ⟨by rw [hnt]; simp only [Array.size_append, List.size_toArray, List.length_map, Array.size_replicate]; omega, fun t v ht _ => ?_, rfl⟩
    have look_pars : ∀ (vs : List SV) (i t : Nat) (v : SV), look (pars i vs) t = some v → i ≤ t ∧ vs[t - i]? = some v := by
      intro vs
      induction vs with
      | nil => intro i t v h; cases h
      | cons u vs ih =>
        intro i t v h
        simp only [pars, look] at h
        by_cases hi : i = t
        · subst hi; simp at h; subst h; simp
        · rw [if_neg hi] at h
          obtain ⟨h1, h2⟩ := ih (i + 1) t v h
          refine ⟨by omega, ?_⟩
          rw [show t - i = (t - (i + 1)) + 1 by omega, List.getElem?_cons_succ]
          exact h2
    obtain ⟨_, h2⟩ := look_pars args 0 t v ht
    simp only [Nat.sub_zero] at h2
    have hlt := (List.getElem?_eq_some_iff.1 h2).1
    refine ⟨?_, hargs v (List.mem_of_getElem? h2)⟩
    simp [Array.getElem?_append, hlt, h2]
    rw [(List.getElem?_eq_some_iff.1 h2).2]
  have hT := ht ρ ρ _ w (fun _ _ => rfl) (by omega) st (hW.2 sh)
  refine wp_mono (show c.wp P (Cn P cx' _ ρ []) _ w from hT) fun e a' w' he => ?_
  have fin : Some3 cx' ρ (fun l h' n' => bindK (resP (resL ti l h' fn.results.toList)) fun v => K v h' n') a' w' → a'.defers = [] ∧ ∃ v, (results fn a'.tmps).run P w' = .ok v w' ∧
      ∃ ρ' r h' n', (∀ i, i < n → ρ i = ρ' i) ∧ n ≤ n' ∧ Ending.returned v = .returned (den ρ' r) ∧ r.lt n' ∧ SatH cx ρ' h' n' w' ∧ K r h' n' := by
    rintro ⟨ρ', l', h', n', g1, g2, g3, g4, g5⟩
    obtain ⟨hvc, hK⟩ := g5
    obtain ⟨e1, e2⟩ := results_sound hti g2 g3 fn hvc
    exact ⟨g2.dfr, _, e1, ρ', _, h', n', fun i hi => g1 i (by omega), by omega, rfl, e2, hW.1 g3, hK⟩
  cases e with
  | normal => exact fin he
  | ret => exact fin he
  | _ => exact he.elim
theorem callE_of_SW (hti : ∀ t, TyOK P t (ti t)) {f : Nat} {fn : Func} {c : Code} {nt : Nat} {rs : List ResultVar} (hnt : fn.ntmps = nt) (hrs : fn.results.toList = rs) (hr : Runs P f) (hf : P.funcs[f]? = some fn) (hb : fn.body = some c) (args : List SV) (hok : oks args) (hsz : args.length ≤ nt) (K : HK)
    (ht : HOk n h → SW P ⟨cx.w0, cx.W, nt, n⟩ (Ret ti rs K) [.code c] (pars 0 args) h n) : CallE P cx f args h n K :=
  ⟨hr, hok, fun ρ w sh hargs => calls_of_SW hti hnt hrs hf hb args hsz hargs K sh ht⟩
/-- A call, in a memory of which less is told. -/
theorem CallE.weak {f : Nat} {args : List SV} {K : HK} (hh : impH h (sig []) n h') (hc : CallE P cx f args h' n K) : CallE P cx f args h n K :=
  ⟨hc.1, hc.2.1, fun ρ w sh hl => hc.2.2 ρ w (sh.imp (sig []) (fun _ _ _ _ _ _ hij => hij) hh) hl⟩
end
end Go.Proofs.YtfelopllfhcdpaaGreat.V
