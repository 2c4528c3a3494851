/- The walk is sound: the whole; how a contract is proved by it. -/
import Derived.Test.YtfelopllfhcdpaaGreatV8
set_option linter.all false
namespace Go.Proofs.YtfelopllfhcdpaaGreat.V

section
variable {P : Program} {ti : Nat → TI} {cx : Cx} {Q : List (Nat × SV) → List (Nat × Seg) → Nat → Prop}
variable {k : List It} {l : List (Nat × SV)} {h : List (Nat × Seg)} {n : Nat} {ρ : Rho} {a : Act} {w : World} {all rest : List Oper}

theorem dok_lt {nt : Nat} {d : Option Nat} (h : dok nt d) : ∀ t, d = some t → t < nt := by
  intro t ht; subst ht; exact h

theorem Some3.mono {ρ0 : Rho} {K K' : List (Nat × SV) → List (Nat × Seg) → Nat → Prop} (h : Some3 cx ρ0 K a w) (hk : ∀ l h n, K l h n → K' l h n) : Some3 cx ρ0 K' a w :=
  let ⟨ρ, l, h, n, h1, h2, h3, h4, h5⟩ := h
  ⟨ρ, l, h, n, h1, h2, h3, h4, hk _ _ _ h5⟩
theorem Some3.rho {ρ0 ρ1 : Rho} {K : List (Nat × SV) → List (Nat × Seg) → Nat → Prop} (h : Some3 cx ρ1 K a w) (hr : ∀ i, i < cx.n0 → ρ0 i = ρ1 i) : Some3 cx ρ0 K a w :=
  let ⟨ρ, l, h, n, h1, h2, h3, h4, h5⟩ := h
  ⟨ρ, l, h, n, fun i hi => (hr i hi).trans (h1 i hi), h2, h3, h4, h5⟩

theorem seq_pv (hti : ∀ t, TyOK P t (ti t)) (st : SatT cx ρ l n a) (sh : SatH cx ρ h n w) (hn : cx.n0 ≤ n) (o : Oper) (hd : dok cx.nt o.dst)
    (hb : bindT P ti cx Q k l h n false all rest o.dst (pv ti l h o.op)) :
    o.wp P a w (Some3 cx ρ (T P ti cx Q (.ops false all rest :: k))) (fun _ _ _ => False) := by
  obtain ⟨hvc, ht⟩ := hb
  obtain ⟨e1, e2⟩ := pv_sound hti o st sh hvc
  exact upon_value_eq e1 _ _ ⟨ρ, _, h, n, fun _ _ => rfl, st.put _ _ e2 (dok_lt hd), sh, hn, ht⟩

theorem seq1 (hti : ∀ t, TyOK P t (ti t)) (st : SatT cx ρ l n a) (sh : SatH cx ρ h n w) (hn : cx.n0 ≤ n) (d : Option Nat) (op : Op) (ty : Nat) (pos : String) (af : Array Edge)
    (ht : T P ti cx Q (.ops false all (⟨d, op, ty, pos, af, none⟩ :: rest) :: k) l h n) :
    (⟨d, op, ty, pos, af, none⟩ : Oper).wp P a w (Some3 cx ρ (T P ti cx Q (.ops false all rest :: k))) (fun _ _ _ => False) := by
  cases op
  case move x => rw [T_move] at ht; exact seq_pv hti st sh hn _ ht.1 ht.2
  case assign x => rw [T_assign] at ht; exact seq_pv hti st sh hn _ ht.1 ht.2
  case pick c x y => rw [T_pick] at ht; exact seq_pv hti st sh hn _ ht.1 ht.2
  case load t x => rw [T_load] at ht; exact seq_pv hti st sh hn _ ht.1 ht.2
  case nilCheck x => rw [T_nilCheck] at ht; exact seq_pv hti st sh hn _ ht.1 ht.2
  case unOp o t x => rw [T_unOp] at ht; exact seq_pv hti st sh hn _ ht.1 ht.2
  case makeFunc f xs ys => rw [T_makeFunc] at ht; exact seq_pv hti st sh hn _ ht.1 ht.2
  case fieldAddr t x i => rw [T_fieldAddr] at ht; exact seq_pv hti st sh hn _ ht.1 ht.2
  case field t x i => rw [T_field] at ht; exact seq_pv hti st sh hn _ ht.1 ht.2
  case indexAddr t x i => rw [T_indexAddr] at ht; exact seq_pv hti st sh hn _ ht.1 ht.2
  case index t x i => rw [T_index] at ht; exact seq_pv hti st sh hn _ ht.1 ht.2
  case extract x i => rw [T_extract] at ht; exact seq_pv hti st sh hn _ ht.1 ht.2
  case binOp o t x y u => rw [T_binOp] at ht; exact seq_pv hti st sh hn ⟨d, .binOp o t x y u, ty, pos, af, none⟩ ht.1 ht.2
  case slice t x lo hi mx =>
    cases mx with
    | none => rw [T_slice] at ht; exact seq_pv hti st sh hn ⟨d, .slice t x lo hi none, ty, pos, af, none⟩ ht.1 ht.2
    | some m => rw [T] at ht; exact memK_sound hti _ (dok_lt ht.1) (by simpa [isPv] using ht.2) ρ a w st sh hn
  case convert s t x =>
    rw [T_convert] at ht
    obtain ⟨hd, hb⟩ := ht
    unfold cvT cvK at hb
    split at hb
    · exact seq_pv hti st sh hn ⟨d, .convert s t x, ty, pos, af, none⟩ hd hb
    · exact hb.2 ρ a w st sh hn
  case build t parts =>
    obtain ⟨parts⟩ := parts
    rw [T_build] at ht
    obtain ⟨hd, ⟨hk, hp⟩, ht⟩ := ht
    obtain ⟨e1, e2⟩ := build_sound hti st t parts.toArray ⟨d, .build t parts.toArray, ty, pos, af, none⟩ rfl hk hp w
    exact upon_value_eq e1 _ _ ⟨ρ, _, h, n, fun _ _ => rfl, st.put _ _ e2 (dok_lt hd), sh, hn, ht⟩
  case alloc t =>
    rw [T_alloc] at ht
    obtain ⟨hd, _, hk, ht⟩ := ht
    obtain ⟨ρ', w', h1, h2, h3⟩ := alloc_sound sh hti t hk
    refine upon_value_eq (v := den ρ' (.ptr n 0)) (w' := w') ?_ _ _ ⟨ρ', _, _, n + 1, fun i hi => h1 i (by omega), (((st.rho h1).mono (Nat.le_succ n)).put _ (.ptr n 0) (Nat.lt_succ_self n) (dok_lt hd)), h3, by omega, ht⟩
    simp only [execOp, Sem.run_bind, h2, Result.andThen_ok, Sem.run_pure]
  case box t x =>
    rw [T_box] at ht
    obtain ⟨hd, _, hk, ht⟩ := ht
    have hne : ev l x ≠ .bad := by intro he; rw [he] at hk; exact hk
    obtain ⟨e1, e2⟩ := ev_sound st x hne
    obtain ⟨ρ', w', h1, h2, h3⟩ := box_sound (P := P) sh t hk e2
    refine upon_value_eq (v := den ρ' (.ptr n 0)) (w' := w') ?_ _ _ ⟨ρ', _, _, n + 1, fun i hi => h1 i (by omega), (((st.rho h1).mono (Nat.le_succ n)).put _ (.ptr n 0) (Nat.lt_succ_self n) (dok_lt hd)), h3, by omega, ht⟩
    simp only [execOp, e1, Sem.run_bind, h2, Result.andThen_ok, Sem.run_pure]
  case store t x v =>
    rw [T] at ht
    obtain ⟨hd, _, hk, hone, ht⟩ := ht
    unfold storeK at ht
    split at ht
    · rename_i i o hx
      split at ht
      · rename_i s hi
        obtain ⟨⟨hok, hs, ho, hr⟩, hdn, ht⟩ := ht
        subst hdn
        have hxne : ev l x ≠ .bad := by rw [hx]; simp
        have hvne : ev l v ≠ .bad := by intro he; rw [he] at hok; exact hok
        obtain ⟨e1, _⟩ := ev_sound st x hxne
        obtain ⟨f1, f2⟩ := ev_sound st v hvne
        rw [hx] at e1
        obtain ⟨w', g1, g2⟩ := storeAt_sound sh hti t hk hi hok hone f2 hs ho hr
        refine upon_skip_eq (w' := w') ?_ _ _ ⟨ρ, _, _, n, fun _ _ => rfl, st, g2, hn, ht⟩
        simp only [execOp, e1, f1, Sem.run_bind, g1, Result.andThen_ok, Sem.run_pure]
      · exact ht.elim
    · exact ht.elim
  case call c =>
    obtain ⟨cal, xs, ats⟩ := c
    cases cal with
    | value x =>
      obtain ⟨xs⟩ := xs
      rw [T_call] at ht
      obtain ⟨hd, hc⟩ := ht
      unfold callT at hc
      split at hc
      · rename_i f g hcal
        simp only [callA, Bool.false_eq_true, if_false] at hc
        obtain ⟨hr, hok, hcall⟩ := hc
        obtain ⟨e1, e2⟩ := call_sound (w := w) (xs := xs.toArray) st hcal hr (by simpa using hok) ⟨d, .call ⟨.value x, xs.toArray, ats⟩, ty, pos, af, none⟩ rfl
        unfold Oper.wp
        rw [e1]
        refine (hcall ρ w sh e2).mono fun e w' he => ?_
        obtain ⟨ρ', r, h', n', i1, i2, rfl, i4, i5, i6⟩ := he
        exact ⟨ρ', _, h', n', fun i hi => i1 i (by omega), (((st.rho i1).mono i2).put _ r i4 (dok_lt hd)), i5, by omega, i6⟩
      · exact hc.elim
    | invoke x m => rw [T] at ht; exact memK_sound hti _ (dok_lt ht.1) (by simpa [isPv] using ht.2) ρ a w st sh hn
    | builtin b =>
      cases b
      case len => rw [T_len] at ht; exact seq_pv hti st sh hn _ ht.1 ht.2
      case min => rw [T_min] at ht; exact seq_pv hti st sh hn _ ht.1 ht.2
      case max => rw [T_max] at ht; exact seq_pv hti st sh hn _ ht.1 ht.2
      all_goals (rw [T] at ht; exact memK_sound hti _ (dok_lt ht.1) (by simpa [isPv] using ht.2) ρ a w st sh hn)
  all_goals (rw [T] at ht; exact memK_sound hti _ (dok_lt ht.1) (by simpa [isPv] using ht.2) ρ a w st sh hn)

theorem Oper.wp_mono2 {o : Oper} {K K' : Act → World → Prop} {Q1 Q2 : Exit → Act → World → Prop} (hh : o.wp P a w K Q1) (h : ∀ a w, K a w → K' a w) (hq : ∀ e a w, ¬ Q1 e a w) : o.wp P a w K' Q2 := by
  unfold Oper.wp at *
  generalize (execOp a.eval o).run P w = r at *
  cases r with
  | ok n w' =>
    cases n <;> simp only [Oper.upon] at hh ⊢ <;>
      first
        | exact h _ _ hh
        | exact Rows.mono hh (fun _ _ he => h _ _ he)
        | exact Calls.mono hh (fun e w'' he => by cases e <;> first | exact h _ _ he | exact (hq _ _ _ he).elim | (obtain ⟨a, w, he⟩ := he; exact (hq _ _ _ he).elim))
  | halt x w' => cases x <;> simp only [Oper.upon] at hh ⊢ <;> first | exact hh | exact (hq _ _ _ hh).elim

/-- A quiet region. -/
theorem quiet_sound (hti : ∀ t, TyOK P t (ti t)) (sh : SatH cx ρ h n w) : ∀ (rest : List Oper) (l : List (Nat × SV)) (a : Act), SatT cx ρ l n a → T P ti cx Q (.ops true all rest :: k) l h n →
    wpQuiet P all.toArray (SatH cx ρ h n) (fun a' => ∃ l', SatT cx ρ l' n a' ∧ T P ti cx Q k l' h n) rest a
  | [], l, a, st, ht => ⟨l, st, by rw [T_ops_nil] at ht; exact ht⟩
  | ⟨d, op, ty, pos, af, g⟩ :: rest, l, a, st, ht => by
    have one (g : Option (Nat × Bool)) (l : List (Nat × SV)) (st : SatT cx ρ l n a) (ht : T P ti cx Q (.ops true all (⟨d, op, ty, pos, af, none⟩ :: rest) :: k) l h n) :
        (⟨d, op, ty, pos, af, g⟩ : Oper).quiet P a (SatH cx ρ h n) (wpQuiet P all.toArray (SatH cx ρ h n) (fun a' => ∃ l', SatT cx ρ l' n a' ∧ T P ti cx Q k l' h n) rest) := by
      obtain ⟨v, h1, h2, h3, h4⟩ := quiet1 hti st sh d op ty pos af ht
      exact ⟨den ρ v, h2, quiet_sound hti sh rest _ _ (st.put _ v h1 (dok_lt h3)) h4⟩
    have skip (l : List (Nat × SV)) (st : SatT cx ρ l n a) (ht : Skp P ti cx Q k l h n true all rest d) : wpQuiet P all.toArray (SatH cx ρ h n) (fun a' => ∃ l', SatT cx ρ l' n a' ∧ T P ti cx Q k l' h n) rest (a.put d undef) :=
      quiet_sound hti sh rest _ _ (st.put _ (.raw undef) trivial (dok_lt ht.1)) ht.2
    unfold wpQuiet
    cases g with
    | none =>
      rw [if_pos (wanted_none rfl)]
      exact one none l st ht
    | some jw =>
      obtain ⟨j, want⟩ := jw
      rw [T_guardT] at ht
      unfold guardT at ht
      split at ht
      · rename_i t hs
        unfold guardU guardK at ht
        split at ht
        · rename_i b hb
          have hy := yields_of st hs (by rw [hb]; simp)
          rw [hb] at hy
          simp only [den] at hy
          by_cases hbw : b = want
          · rw [if_pos (by simp [Region.wanted, hy, hbw])]
            exact one _ _ (st.again (by rw [hb, hbw]) (by simp)) (ht.1 hbw)
          · have hbn : b = !want := by cases b <;> cases want <;> simp_all
            rw [if_neg (by simp [Region.wanted, hy, hbw])]
            exact skip _ (st.again (by rw [hb, hbn]) (by simp)) (ht.2 hbn)
        · rename_i u hu
          obtain ⟨rfl, ht⟩ := ht
          have hy := yields_of st hs (by rw [hu]; simp)
          rw [hu] at hy
          simp only [den, undef] at hy
          rw [if_neg (by simp [Region.wanted, hy])]
          exact skip _ st ht
        · exact ht.elim
      · exact ht.elim

/-- No quiet region's operations lie on the list. -/
def noQ : List It → Prop
  | [] => True
  | .ops true _ _ :: _ => False
  | _ :: k => noQ k
theorem noQ_tail {i : It} {k : List It} (h : noQ (i :: k)) : noQ k := by
  cases i with
  | ops q a r => cases q <;> first | exact h | exact h.elim
  | _ => exact h
theorem noQ_pop (id : Nat) : ∀ (k : List It), noQ k → noQ (popTo id k)
  | [], h => h
  | .inBlock j :: k, h => by
    simp only [popTo]; split
    · exact noQ_tail h
    · exact noQ_pop id k (noQ_tail h)
  | .code _ :: k, h => noQ_pop id k (noQ_tail h)
  | .inv _ :: k, h => noQ_pop id k (noQ_tail h)
  | .ops .. :: k, h => noQ_pop id k (noQ_tail h)

theorem T_sound (hti : ∀ t, TyOK P t (ti t)) (ρ0 : Rho) : ∀ (m : Nat) (todo : List It) (l : List (Nat × SV)) (h : List (Nat × Seg)) (n : Nat) (ρ : Rho) (a : Act) (w : World), tsize todo ≤ m →
    noQ todo → (∀ i, i < cx.n0 → ρ0 i = ρ i) → cx.n0 ≤ n → SatT cx ρ l n a → SatH cx ρ h n w → T P ti cx Q todo l h n → Cn P cx Q ρ0 todo .normal a w := by
  intro m
  induction m with
  | zero =>
    intro todo l h n ρ a w hm hq hr hn st sh ht
    cases todo with
    | nil => rw [T_nil] at ht; exact ⟨ρ, l, h, n, hr, st, sh, hn, ht⟩
    | cons i k => exfalso; cases i <;> simp [tsize, isize] at hm; exact absurd hm.1 (Nat.pos_iff_ne_zero.1 (csize_pos _))
  | succ m ih =>
    intro todo l h n ρ a w hm hq hr hn st sh ht
    cases todo with
    | nil => rw [T_nil] at ht; exact ⟨ρ, l, h, n, hr, st, sh, hn, ht⟩
    | cons i k =>
      have hqk := noQ_tail hq
      have fin (hQ : Q l h n) : Some3 cx ρ0 Q a w := ⟨ρ, l, h, n, hr, st, sh, hn, hQ⟩
      simp only [tsize] at hm
      cases i with
      | inBlock id => rw [T_inBlock] at ht; exact ih k l h n ρ a w (by simp [isize] at hm; omega) hqk hr hn st sh ht
      | inv R => rw [T_inv] at ht; exact ⟨ρ, l, h, n, hr, st, sh, hn, ht⟩
      | ops q all rest =>
        cases q with
        | true => exact hq.elim
        | false =>
          show wpList P all.toArray (Cn P cx Q ρ0 k) rest a w
          cases rest with
          | nil =>
            rw [T_ops_nil] at ht
            exact wpList_nil (ih k l h n ρ a w (by simp [isize] at hm; omega) hqk hr hn st sh ht)
          | cons o rest =>
            obtain ⟨d, op, ty, pos, af, g⟩ := o
            simp only [isize, List.length_cons] at hm
            have next {a' w'} (hs : Some3 cx ρ0 (T P ti cx Q (.ops false all rest :: k)) a' w') : wpList P all.toArray (Cn P cx Q ρ0 k) rest a' w' := by
              obtain ⟨ρ', l', h', n', h1, h2, h3, h4, h5⟩ := hs
              exact ih (.ops false all rest :: k) l' h' n' ρ' a' w' (by simp [tsize, isize]; omega) hqk h1 h4 h2 h3 h5
            have one (g : Option (Nat × Bool)) (l : List (Nat × SV)) (st : SatT cx ρ l n a) (ht : T P ti cx Q (.ops false all (⟨d, op, ty, pos, af, none⟩ :: rest) :: k) l h n) :
                (⟨d, op, ty, pos, af, g⟩ : Oper).wp P a w (wpList P all.toArray (Cn P cx Q ρ0 k) rest) (Cn P cx Q ρ0 k) := by
              have hw : (⟨d, op, ty, pos, af, g⟩ : Oper).wp P a w (Some3 cx ρ (T P ti cx Q (.ops false all rest :: k))) (fun _ _ _ => False) := by
                have := seq1 hti st sh hn d op ty pos af ht
                exact this
              exact Oper.wp_mono2 hw (fun a' w' hs => next (Some3.rho hs hr)) (fun _ _ _ h => h)
            have skip (l : List (Nat × SV)) (st : SatT cx ρ l n a) (ht : Skp P ti cx Q k l h n false all rest d) : wpList P all.toArray (Cn P cx Q ρ0 k) rest (a.put d undef) w :=
              next ⟨ρ, _, h, n, hr, st.put _ (.raw undef) trivial (dok_lt ht.1), sh, hn, ht.2⟩
            unfold wpList
            cases g with
            | none =>
              rw [if_pos (wanted_none rfl)]
              exact .inl (one none l st ht)
            | some jw =>
              obtain ⟨j, want⟩ := jw
              rw [T_guardT] at ht
              unfold guardT at ht
              split at ht
              · rename_i t hs
                unfold guardU guardK at ht
                split at ht
                · rename_i b hb
                  have hy := yields_of st hs (by rw [hb]; simp)
                  rw [hb] at hy
                  simp only [den] at hy
                  by_cases hbw : b = want
                  · rw [if_pos (by simp [Region.wanted, hy, hbw])]
                    exact .inl (one _ _ (st.again (by rw [hb, hbw]) (by simp)) (ht.1 hbw))
                  · have hbn : b = !want := by cases b <;> cases want <;> simp_all
                    rw [if_neg (by simp [Region.wanted, hy, hbw])]
                    exact skip _ (st.again (by rw [hb, hbn]) (by simp)) (ht.2 hbn)
                · rename_i u hu
                  obtain ⟨rfl, ht⟩ := ht
                  have hy := yields_of st hs (by rw [hu]; simp)
                  rw [hu] at hy
                  simp only [den, undef] at hy
                  rw [if_neg (by simp [Region.wanted, hy])]
                  exact skip _ st ht
                · exact ht.elim
              · exact ht.elim
      | code c =>
        show c.wp P (Cn P cx Q ρ0 k) a w
        simp only [isize] at hm
        cases c with
        | ret => rw [T_ret] at ht; exact wp_ret (Cn_ret ρ0 k a w (fin ht))
        | skip => rw [T_skip] at ht; simp only [csize] at hm; exact wp_skip (ih k l h n ρ a w (by omega) hqk hr hn st sh ht)
        | seq x y =>
          rw [T_seq] at ht
          simp only [csize] at hm
          have := ih (.code x :: .code y :: k) l h n ρ a w (by simp [tsize, isize]; omega) hqk hr hn st sh ht
          exact wp_seq (wp_mono this fun e a' w' he => by cases e <;> exact he)
        | cond c x y =>
          rw [T_cond] at ht
          simp only [csize] at hm
          unfold condT condK at ht
          split at ht
          · rename_i b hb
            obtain ⟨e1, _⟩ := ev_sound st c (by rw [hb]; simp)
            rw [hb] at e1
            cases b with
            | true => exact wp_cond_true e1 (ih (.code x :: k) l h n ρ a w (by simp [tsize, isize]; omega) hqk hr hn st sh (ht.1 rfl))
            | false => exact wp_cond_false e1 (ih (.code y :: k) l h n ρ a w (by simp [tsize, isize]; omega) hqk hr hn st sh (ht.2 rfl))
          · exact ht.elim
        | block id x =>
          rw [T_block] at ht
          simp only [csize] at hm
          have := ih (.code x :: .inBlock id :: k) l h n ρ a w (by simp [tsize, isize]; omega) hqk hr hn st sh ht
          exact wp_block (wp_mono this fun e a' w' he => by cases e <;> exact he)
        | exit id =>
          rw [T_exit] at ht
          obtain ⟨hb, ht⟩ := ht
          simp only [csize] at hm
          have := popTo_size id k
          exact wp_exit (Cn_exit ρ0 id k a w hb (ih (popTo id k) l h n ρ a w (by omega) (noQ_pop id k hqk) hr hn st sh ht))
        | loop x =>
          rw [T] at ht
          obtain ⟨ι, I, μ, x0, h0, hround⟩ := ht
          simp only [csize] at hm
          refine wp_loop_fam (fun i a w => Some3 cx ρ0 (fun l' h' n' => l' = (I i).1 ∧ h' = (I i).2.1 ∧ n' = (I i).2.2) a w) μ (fun i a w hi => ?_) x0 a w ?_
          · obtain ⟨ρ', l', h', n', h1, h2, h3, h4, rfl, rfl, rfl⟩ := hi
            have := ih (.code x :: .inv _ :: k) _ _ _ ρ' a w (by simp [tsize, isize]; omega) hqk h1 h4 h2 h3 (hround i)
            refine wp_mono this fun e a' w' he => ?_
            cases e <;> try exact he
            obtain ⟨ρ'', l'', h'', n'', g1, g2, g3, g4, j, hj, himp⟩ := he
            obtain ⟨ρ3, i1, i2, i3, i4⟩ := himp ρ'' a' w' g2 g3 g4
            exact ⟨j, hj, ρ3, _, _, _, fun i hi => (g1 i hi).trans (i1 i hi), i2, i3, i4, rfl, rfl, rfl⟩
          · obtain ⟨ρ3, i1, i2, i3, i4⟩ := h0 ρ a w st sh hn
            exact ⟨ρ3, _, _, _, fun i hi => (hr i hi).trans (i1 i hi), i2, i3, i4, rfl, rfl, rfl⟩
        | region id ops dr =>
          obtain ⟨ops⟩ := ops
          cases dr with
          | false =>
            rw [T_region] at ht
            simp only [csize] at hm
            exact wp_region_lit (ih (.ops false ops ops :: k) l h n ρ a w (by simp [tsize, isize] at hm ⊢; omega) hqk hr hn st sh ht)
          | true =>
            rw [T_reg] at ht
            simp only [csize] at hm
            refine wp_mono (ht ρ a w st sh hn) fun e a' w' he => ?_
            cases e with
            | normal =>
              obtain ⟨ρ', l', h', n', g1, g2, g3, g4, g5⟩ := he
              exact ih k l' h' n' ρ' a' w' (by omega) hqk (fun i hi => (hr i hi).trans (g1 i hi)) g4 g2 g3 g5
            | _ => exact he.elim
        | _ => first | (simp only [T] at ht; done) | (rw [T] at ht; exact ht.elim)

end
end Go.Proofs.YtfelopllfhcdpaaGreat.V
