/- The walk is sound. -/
import Derived.Test.YtfelopllfhcdpaaGreatV6
set_option linter.all false
namespace Go.Proofs.YtfelopllfhcdpaaGreat.V

theorem wp_loop_fam {P : Program} {c : Code} {Q : Exit → Act → World → Prop} {ι : Type} (I : ι → Act → World → Prop) (μ : ι → Nat)
    (round : ∀ i a w, I i a w → c.wp P (Exit.then (fun a' w' => ∃ j, μ j < μ i ∧ I j a' w') Q) a w) : ∀ i a w, I i a w → (Code.loop c).wp P Q a w := by
  intro i a w hi
  let M (a : Act) (w : World) (m : Nat) : Prop := ∃ i, I i a w ∧ μ i = m
  have ex : ∀ a w, (∃ i, I i a w) → ∃ m, M a w m ∧ ∀ m', m' < m → ¬ M a w m' := fun a w ⟨i, hi⟩ => by
    have : ∀ m, M a w m → ∃ m, M a w m ∧ ∀ m', m' < m → ¬ M a w m' := by
      intro m
      induction m using Nat.strongRecOn with
      | _ m ih =>
        intro hm
        by_cases hc : ∃ m', m' < m ∧ M a w m'
        · obtain ⟨m', h1, h2⟩ := hc; exact ih m' h1 h2
        · exact ⟨m, hm, fun m' h1 h2 => hc ⟨m', h1, h2⟩⟩
    exact this _ ⟨i, hi, rfl⟩
  classical
  let mu (a : Act) (w : World) : Nat := if h : ∃ i, I i a w then Classical.choose (ex a w h) else 0
  refine wp_loop (fun a w => ∃ i, I i a w) mu ⟨i, hi⟩ fun a w hI => ?_
  have hspec := Classical.choose_spec (ex a w hI)
  obtain ⟨⟨j, hj, hm⟩, hmin⟩ := hspec
  refine wp_mono (round j a w hj) fun e a' w' he => ?_
  cases e <;> try exact he
  obtain ⟨j', hlt, hj'⟩ := he
  refine ⟨⟨j', hj'⟩, ?_⟩
  have hex : ∃ i, I i a' w' := ⟨j', hj'⟩
  have hspec' := Classical.choose_spec (ex a' w' hex)
  show mu a' w' < mu a w
  simp only [mu, dif_pos hI, dif_pos hex]
  by_cases hlt' : μ j' < Classical.choose (ex a' w' hex)
  · exact absurd ⟨j', hj', rfl⟩ (hspec'.2 _ hlt')
  · omega

section
variable {P : Program} {ti : Nat → TI} {cx : Cx} {Q : List (Nat × SV) → List (Nat × Seg) → Nat → Prop} (ρ0 : Rho)

def Cn (P : Program) (cx : Cx) (Q : List (Nat × SV) → List (Nat × Seg) → Nat → Prop) (ρ0 : Rho) : List It → Exit → Act → World → Prop
  | [], e, a, w => match e with
    | .normal => Some3 cx ρ0 Q a w
    | .ret => Some3 cx ρ0 Q a w
    | _ => False
  | .code c :: k, e, a, w => match e with
    | .normal => c.wp P (Cn P cx Q ρ0 k) a w
    | e => Cn P cx Q ρ0 k e a w
  | .inBlock id :: k, e, a, w => match e with
    | .exit j => if j = id then Cn P cx Q ρ0 k .normal a w else Cn P cx Q ρ0 k (.exit j) a w
    | e => Cn P cx Q ρ0 k e a w
  | .inv R :: k, e, a, w => match e with
    | .normal => Some3 cx ρ0 R a w
    | e => Cn P cx Q ρ0 k e a w
  | .ops q all rest :: k, e, a, w => match e with
    | .normal => wpList P all.toArray (Cn P cx Q ρ0 k) rest a w
    | e => Cn P cx Q ρ0 k e a w

theorem Cn_ret : ∀ (k : List It) (a : Act) (w : World), Some3 cx ρ0 Q a w → Cn P cx Q ρ0 k .ret a w
  | [], _, _, h => h
  | .code _ :: k, a, w, h => Cn_ret k a w h
  | .inBlock _ :: k, a, w, h => Cn_ret k a w h
  | .inv _ :: k, a, w, h => Cn_ret k a w h
  | .ops .. :: k, a, w, h => Cn_ret k a w h
theorem Cn_exit (id : Nat) : ∀ (k : List It) (a : Act) (w : World), hasBl id k → Cn P cx Q ρ0 (popTo id k) .normal a w → Cn P cx Q ρ0 k (.exit id) a w
  | .code _ :: k, a, w, hb, h => Cn_exit id k a w hb h
  | .inv _ :: k, a, w, hb, h => Cn_exit id k a w hb h
  | .ops .. :: k, a, w, hb, h => Cn_exit id k a w hb h
  | .inBlock j :: k, a, w, hb, h => by
    simp only [popTo] at h
    simp only [Cn]
    by_cases hj : j = id
    · subst hj; simp only [if_true] at h ⊢; exact h
    · rw [if_neg hj] at h
      rw [if_neg (Ne.symm hj)]
      exact Cn_exit id k a w (hb.resolve_left hj) h

theorem wanted_none {o : Oper} {y : Nat → Option Bool} (h : o.guard = none) : Region.wanted o y = true := by simp [Region.wanted, h]

theorem yields_of {all : List Oper} {ρ : Rho} {l : List (Nat × SV)} {n : Nat} {a : Act} (s : SatT cx ρ l n a) {j t : Nat} (hs : gslot all j = some t) (hne : ev l (.tmp t) ≠ .bad) :
    yielded all.toArray a.tmps j = (match den ρ (ev l (.tmp t)) with | .bool b => some b | _ => none) := by
  unfold yielded
  have hd : (all.toArray[j]?).bind (·.dst) = some t := by simpa [gslot] using hs
  rw [hd]
  simp only [Option.bind_some]
  obtain ⟨e1, _⟩ := ev_sound s (.tmp t) hne
  simp only [Act.eval] at e1
  rw [← e1]
  by_cases ht : t < a.tmps.size
  · simp [ht]
    cases a.tmps[t] <;> rfl
  · simp [ht, undef]

/-- A guard's value, said again. -/
theorem SatT.again {ρ : Rho} {l : List (Nat × SV)} {n : Nat} {a : Act} (s : SatT cx ρ l n a) {t : Nat} {v : SV} (h : ev l (.tmp t) = v) (hne : v ≠ .bad) : SatT cx ρ ((t, v) :: l) n a := by
  refine ⟨s.sz, fun t' v' ht' hb => ?_, s.dfr⟩
  simp only [look] at ht'
  by_cases h1 : t = t'
  · subst h1
    simp at ht'
    subst ht'
    subst h
    obtain ⟨e1, e2⟩ := ev_sound s (.tmp t) hne
    exact ⟨e1, e2⟩
  · rw [if_neg h1] at ht'
    exact s.val t' v' ht' hb

theorem lst_lt {n m : Nat} {F : Nat → SV} (h : ∀ j, j < m → (F j).lt n) : ∀ v ∈ lst m F, v.lt n := by
  intro v hv
  simp [lst] at hv
  obtain ⟨j, hj, rfl⟩ := hv
  exact h j hj
theorem lst_den (ρ : Rho) (m : Nat) (F : Nat → SV) : ((lst m F).map (den ρ)).toArray = arr m fun j => den ρ (F j) := by
  simp [lst, arr]

/-- What is known of a call. -/
theorem call_sound {ρ : Rho} {l : List (Nat × SV)} {n : Nat} {a : Act} {w : World} (s : SatT cx ρ l n a) {x : Operand} {xs : Array Operand} {ats : Array Nat} {f : Nat} {g : List SV → List SV}
    (hc : callee (ev l x) = some (f, g)) (hr : Runs P f) (hok : oks (g (evs l xs.toList))) (o : Oper) (ho : o.op = .call ⟨.value x, xs, ats⟩) :
    (execOp a.eval o).run P w = .ok (.enter f ((g (evs l xs.toList)).map (den ρ)).toArray) w ∧ ∀ v ∈ g (evs l xs.toList), v.lt n := by
  have hx : ev l x ≠ .bad := by intro h; rw [h] at hc; cases hc
  obtain ⟨e1, e2⟩ := ev_sound s x hx
  unfold callee at hc
  split at hc
  · rename_i f' m G k F he
    simp only [Option.some.injEq, Prod.mk.injEq] at hc
    obtain ⟨rfl, rfl⟩ := hc
    rw [he] at e1 e2
    have hoks : oks (evs l xs.toList) := by
      have app : ∀ (a b : List SV), oks (a ++ b) → oks a ∧ oks b := by
        intro a
        induction a with
        | nil => intro b h; exact ⟨trivial, h⟩
        | cons v a ih => intro b h; exact ⟨⟨h.1, (ih b h.2).1⟩, (ih b h.2).2⟩
      exact (app _ _ (app _ _ hok).1).2
    obtain ⟨f1, f2⟩ := evs_arr s xs hoks
    refine ⟨?_, fun v hv => ?_⟩
    · simp only [execOp, ho, resolve, e1, den, Deferred.ofValue, Sem.run_pure, Sem.run_bind, Result.andThen_ok, invoke, f1]
      rw [hr]
      congr 2
      simp only [← lst_den, List.map_append, List.append_toArray]
    · simp only [List.mem_append] at hv
      rcases hv with (hv | hv) | hv
      · exact lst_lt e2.1 v hv
      · exact f2 v hv
      · exact lst_lt e2.2 v hv
  · cases hc

end
end Go.Proofs.YtfelopllfhcdpaaGreat.V
