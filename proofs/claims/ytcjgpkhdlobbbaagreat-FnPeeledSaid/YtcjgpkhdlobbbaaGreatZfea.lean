/- Part 1 of the texts that this proof stands on: a symbolic walk over the program, what its functions and the reference's do, plain laws. -/
import Derived.Test.YtcjgpkhdlobbbaaGreatV0
set_option linter.all false

/- Plain laws of peeling: it is complete and sound; for FnPeeled. -/
namespace Go.Proofs.YtcjgpkhdlobbbaaGreat.V
section
variable {C D : Type} (cov : D → C → Bool) (col : D → Int)
/-- What a cell shows behind drops, made upon a white picture. -/
def replay (L : List D) (c : C) : Int := L.foldl (fun v d => if cov d c then col d else v) 0
theorem replay_snoc (L : List D) (d : D) (c : C) : replay cov col (L ++ [d]) c = if cov d c then col d else replay cov col L c := by
  simp [replay, List.foldl_append]
theorem fold_skip {c : C} : ∀ (M : List D), (∀ f ∈ M, cov f c = false) → ∀ w, M.foldl (fun v d => if cov d c then col d else v) w = w
  | [], _, _ => rfl
  | f :: M, hM, w => by
    simp only [List.foldl_cons]
    rw [hM f (by simp), if_neg (by simp)]
    exact fold_skip M (fun g hg => hM g (by simp [hg])) w
theorem replay_app {A B : List D} {c : C} (h : ∀ d ∈ B, cov d c = false) : replay cov col (A ++ B) c = replay cov col A c := by
  unfold replay
  rw [List.foldl_append, fold_skip cov col B h]
theorem snoc_ind {α : Type} {p : List α → Prop} (h0 : p []) (h1 : ∀ L a, p L → p (L ++ [a])) (L : List α) : p L := by
  have : ∀ R : List α, p R.reverse := fun R => by
    induction R with
    | nil => exact h0
    | cons a R ih => rw [List.reverse_cons]; exact h1 _ _ ih
  have := this L.reverse
  rwa [List.reverse_reverse] at this
theorem replay_none {L : List D} {c : C} (h : ∀ d ∈ L, cov d c = false) : replay cov col L c = 0 := by
  have := replay_app cov col (A := []) h
  simpa [replay] using this
/-- Each ink that is seen has a drop. -/
theorem ink_drop (P : C → Int) (L : List D) (hP : ∀ c, P c = replay cov col L c) (c : C) (hc : P c ≠ 0) : ∃ d ∈ L, cov d c = true ∧ P c = col d := by
  revert P
  refine snoc_ind (p := fun L => ∀ P : C → Int, (∀ c, P c = replay cov col L c) → P c ≠ 0 → ∃ d ∈ L, cov d c = true ∧ P c = col d) ?_ ?_ L
  · intro P hP hc
    exact absurd (by rw [hP]; rfl) hc
  · intro L d ih P hP hc
    cases hdc : cov d c with
    | true => exact ⟨d, by simp, hdc, by rw [hP, replay_snoc, if_pos hdc]⟩
    | false =>
      have e : replay cov col (L ++ [d]) c = replay cov col L c := by rw [replay_snoc, hdc, if_neg (by simp)]
      obtain ⟨f, hf, h1, h2⟩ := ih (fun c => replay cov col L c) (fun _ => rfl) (by show replay cov col L c ≠ 0; rw [← e, ← hP]; exact hc)
      exact ⟨f, by simp [hf], h1, by rw [hP, e]; exact h2⟩
/-- One step of a search: where drops make what is not open, and an inked cell is not open, one of them can be peeled, and those before it make the rest. -/
theorem mk_step (P : C → Int) (O : C → Bool) (L : List D) (h : ∀ c, O c = false → P c = replay cov col L c) (hx : ∃ c, O c = false ∧ P c ≠ 0) :
    ∃ A d B, L = A ++ d :: B ∧ (∀ c, cov d c = true → O c = true ∨ P c = col d) ∧ (∃ c, cov d c = true ∧ O c = false) ∧ ∀ c, O c = false → cov d c = false → P c = replay cov col A c := by
  revert h
  refine snoc_ind (p := fun L => (∀ c, O c = false → P c = replay cov col L c) → ∃ A d B, L = A ++ d :: B ∧ (∀ c, cov d c = true → O c = true ∨ P c = col d) ∧ (∃ c, cov d c = true ∧ O c = false) ∧ ∀ c, O c = false → cov d c = false → P c = replay cov col A c) ?_ ?_ L
  · intro h
    obtain ⟨c, h1, h2⟩ := hx
    exact absurd (h c h1) h2
  · intro L d ih h
    by_cases hd : ∃ c, cov d c = true ∧ O c = false
    · refine ⟨L, d, [], rfl, fun c hc => ?_, hd, fun c h1 h2 => ?_⟩
      · cases hO : O c with
        | true => exact .inl rfl
        | false => exact .inr (by rw [h c hO, replay_snoc, if_pos hc])
      · rw [h c h1, replay_snoc, h2, if_neg (by simp)]
    · have hn : ∀ c, O c = false → cov d c = false := fun c hc => by
        cases hdc : cov d c with
        | false => rfl
        | true => exact absurd ⟨c, hdc, hc⟩ hd
      obtain ⟨A, e, B, h1, h2, h3, h4⟩ := ih fun c hc => by rw [h c hc, replay_snoc, hn c hc, if_neg (by simp)]
      exact ⟨A, e, B ++ [d], by rw [h1]; simp, h2, h3, h4⟩
theorem filter_or_len (p q : C → Bool) : ∀ cs : List C, (cs.filter fun c => p c || q c).length ≤ (cs.filter p).length + (cs.filter q).length
  | [] => Nat.le_refl _
  | c :: cs => by
    have := filter_or_len p q cs
    simp only [List.filter_cons]
    cases p c <;> cases q c <;> simp only [Bool.or_true, Bool.or_false, Bool.true_or, Bool.false_or, if_true, Bool.false_eq_true, if_false, List.length_cons] <;> omega
/-- So many drops cover no more than five times as many cells. -/
theorem cov_count (cs : List C) (h5 : ∀ d, (cs.filter (cov d)).length ≤ 5) : ∀ L : List D, (cs.filter fun c => L.any fun d => cov d c).length ≤ 5 * L.length
  | [] => by simp
  | d :: L => by
    have h1 := cov_count cs h5 L
    have h2 := h5 d
    have h3 := filter_or_len (cov d) (fun c => L.any fun d => cov d c) cs
    simp only [List.any_cons, List.length_cons]
    omega
theorem filter_le_len {p q : C → Bool} (h : ∀ c, p c = true → q c = true) : ∀ cs : List C, (cs.filter p).length ≤ (cs.filter q).length
  | [] => Nat.le_refl _
  | c :: cs => by
    have := filter_le_len h cs
    simp only [List.filter_cons]
    cases hp : p c with
    | true => simp only [h c hp, if_true, List.length_cons]; omega
    | false => cases q c <;> simp only [if_true, Bool.false_eq_true, if_false, List.length_cons] <;> omega
/-- What is left is at most five cells for each drop. -/
theorem left_count (P : C → Int) (O : C → Bool) (L : List D) (h : ∀ c, O c = false → P c = replay cov col L c) (cs : List C) (h5 : ∀ d, (cs.filter (cov d)).length ≤ 5) :
    (cs.filter fun c => !O c && decide (P c ≠ 0)).length ≤ 5 * L.length := by
  refine Nat.le_trans (filter_le_len (fun c hc => ?_) cs) (cov_count cov cs h5 L)
  rw [Bool.and_eq_true] at hc
  have hO : O c = false := by simpa using hc.1
  have hz : replay cov col L c ≠ 0 := by
    rw [← h c hO]
    exact of_decide_eq_true hc.2
  obtain ⟨d, hd, hdc, _⟩ := ink_drop cov col (fun c => replay cov col L c) L (fun _ => rfl) c hz
  exact List.any_eq_true.2 ⟨d, hd, hdc⟩
end
end Go.Proofs.YtcjgpkhdlobbbaaGreat.V
