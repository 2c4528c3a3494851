/- Part 5 of the texts that this proof stands on: a symbolic walk over the program, what its functions and the reference's do, plain laws. -/
import Derived.Test.YtcjgpkhdlobbbaaGreatZfed
import Derived.Test.YtcjgpkhdlobbbaaGreatZfea
import Derived.Test.YtcjgpkhdlobbbaaGreatZfec
import Derived.Test.YtcjgpkhdlobbbaaGreatV17
import Derived.Test.YtcjgpkhdlobbbaaGreatZfeb
import Derived.Sort.Walk13a
set_option linter.all false

/- The search for the fewest drops tries all: where it ends with nothing and was not stopped, no so short list makes the picture. For FnPeeled. -/
namespace Go.Proofs.YtcjgpkhdlobbbaaGreat.V
theorem goL_none {f : Gr → Nat → Sr} {P : Pc} {most : Nat} {O : Gr} : ∀ (L : List Dr) (t t' : Nat), goL f P most O L t = (none, t', false) → ∀ d ∈ L, ∃ t1 t2, f (openBy O (covL P.wide P.high d.1 d.2.1)) t1 = (none, t2, false)
  | [], _, _, _, d, hd => by cases hd
  | e :: R, t, t', h, d, hd => by
    by_cases et : t = most
    · subst et; rw [goL_stop] at h; cases h
    · match hf : f (openBy O (covL P.wide P.high e.1 e.2.1)) (t + 1) with
      | (some X, t1, s1) => rw [goL_some et hf] at h; cases h
      | (none, t1, true) => rw [goL_halt et hf] at h; cases h
      | (none, t1, false) =>
        rw [goL_next et hf] at h
        rcases List.mem_cons.1 hd with rfl | hd
        · exact ⟨_, _, hf⟩
        · exact goL_none R t1 t' h d hd
def covD (P : Pc) (d : Dr) (c : Int × Int) : Bool := decide (c ∈ covL P.wide P.high d.1 d.2.1)
def colD (d : Dr) : Int := d.2.2 + 1
def inPc (P : Pc) (c : Int × Int) : Prop := (0 ≤ c.1 ∧ c.1 < P.wide) ∧ 0 ≤ c.2 ∧ c.2 < P.high
/-- These drops make what is not open. -/
def MkP (P : Pc) (O : Gr) (L : List Dr) : Prop := ∀ c : Int × Int, inPc P c → O c.2 c.1 = false → P.ink c.2 c.1 = replay (covD P) colD L c
theorem covD_in {P : Pc} {d : Dr} {c : Int × Int} (h : covD P d c = true) : inPc P c := covL_in (of_decide_eq_true h)
open Classical in
/-- What a cell shows, none outside. -/
noncomputable def inkP (P : Pc) (c : Int × Int) : Int := if inPc P c then P.ink c.2 c.1 else 0
theorem MkP.ink {P : Pc} {O : Gr} {L : List Dr} (h : MkP P O L) (c : Int × Int) (hc : O c.2 c.1 = false) : inkP P c = replay (covD P) colD L c := by
  unfold inkP
  split
  · exact h c ‹_› hc
  · refine (replay_none _ _ fun d _ => ?_).symm
    cases hd : covD P d c with
    | false => rfl
    | true => exact absurd (covD_in hd) ‹_›
/-- One step: a drop that can be peeled, and drops, one less, that make the rest. -/
theorem mkP_step {P : Pc} {O : Gr} {L : List Dr} (h : MkP P O L) (hx : ∃ c, inPc P c ∧ O c.2 c.1 = false ∧ P.ink c.2 c.1 ≠ 0) :
    ∃ A d B, L = A ++ d :: B ∧ lastP P O d = true ∧ MkP P (openBy O (covL P.wide P.high d.1 d.2.1)) A := by
  obtain ⟨c, c1, c2, c3⟩ := hx
  obtain ⟨A, d, B, h1, h2, ⟨e, e1, e2⟩, h4⟩ := mk_step (covD P) colD (inkP P) (fun c => O c.2 c.1) L (fun c hc => h.ink c hc) ⟨c, c2, by unfold inkP; rw [if_pos c1]; exact c3⟩
  refine ⟨A, d, B, h1, ?_, fun c hc hO => ?_⟩
  · unfold lastP peelsB
    rw [Bool.and_eq_true]
    refine ⟨List.all_eq_true.2 fun c hc => ?_, decide_eq_true ?_⟩
    · unfold okP
      have hcd : covD P d c = true := decide_eq_true hc
      rcases h2 c hcd with hh | hh
      · rw [hh]; rfl
      · unfold inkP at hh
        rw [if_pos (covD_in hcd)] at hh
        rw [decide_eq_true (show P.ink c.2 c.1 = d.2.2 + 1 from hh), Bool.or_true]
    · refine List.length_pos_of_mem (a := e) (List.mem_filter.2 ⟨of_decide_eq_true e1, ?_⟩)
      unfold opP
      rw [e2]; rfl
  · unfold openBy at hO
    rw [Bool.or_eq_false_iff] at hO
    have := h4 c hO.1 (by unfold covD; exact hO.2)
    unfold inkP at this
    rwa [if_pos hc] at this
theorem one_le (a : Nat) : ∀ n : Nat, ((List.range n).filter fun q => decide (q = a)).length ≤ if a < n then 1 else 0
  | 0 => by simp
  | n + 1 => by
    have h := one_le a n
    rw [List.range_succ, List.filter_append, List.length_append]
    by_cases e : n = a
    · subst e
      rw [if_neg (by omega)] at h
      rw [if_pos (by omega)]
      have : ([n].filter fun q => decide (q = n)).length = 1 := by simp
      omega
    · have : ([n].filter fun q => decide (q = a)).length = 0 := by simp [e]
      split at h <;> split <;> omega
theorem mem_le (n : Nat) : ∀ M : List Nat, ((List.range n).filter fun q => decide (q ∈ M)).length ≤ M.length
  | [] => by simp
  | a :: M => by
    have h1 := mem_le n M
    have h2 := one_le a n
    have h3 := filter_or_len (fun q => decide (q = a)) (fun q => decide (q ∈ M)) (List.range n)
    have h4 : ((List.range n).filter fun q => decide (q ∈ a :: M)).length = ((List.range n).filter fun q => decide (q = a) || decide (q ∈ M)).length := by
      congr 2
      funext q
      simp [List.mem_cons]
    rw [h4, List.length_cons]
    split at h2 <;> omega
def cellW (W q : Nat) : Int × Int := (((q % W : Nat) : Int), ((q / W : Nat) : Int))
theorem cov5 (P : Pc) (W n : Nat) (d : Dr) : ((List.range n).filter fun q => covD P d (cellW W q)).length ≤ 5 := by
  have h1 : ((covL P.wide P.high d.1 d.2.1).map fun c => (c.2 * (W : Int) + c.1).toNat).length ≤ 5 := by
    rw [List.length_map]
    exact Nat.le_trans (List.length_filter_le _ _) (by simp)
  refine Nat.le_trans (filter_le_len (fun q hq => ?_) _) (Nat.le_trans (mem_le n _) h1)
  refine decide_eq_true (List.mem_map.2 ⟨cellW W q, of_decide_eq_true hq, ?_⟩)
  show (((q / W : Nat) : Int) * (W : Int) + ((q % W : Nat) : Int)).toNat = q
  have e : ((q / W : Nat) : Int) * (W : Int) + ((q % W : Nat) : Int) = (q : Int) := by
    have := Nat.div_add_mod' q W
    rw [← Int.natCast_mul, ← Int.natCast_add, this]
  rw [e]; rfl
theorem cellW_in {P : Pc} {W H q : Nat} (hW : P.wide = W) (hH : P.high = H) (hq : q < H * W) : inPc P (cellW W q) := by
  have w0 : 0 < W := by
    rcases Nat.eq_zero_or_pos W with e | e
    · rw [e, Nat.mul_zero] at hq; omega
    · exact e
  have h1 := Nat.mod_lt q w0
  have h2 : q / W < H := Nat.div_lt_of_lt_mul (by rw [Nat.mul_comm]; exact hq)
  show ((0 : Int) ≤ ((q % W : Nat) : Int) ∧ ((q % W : Nat) : Int) < P.wide) ∧ (0 : Int) ≤ ((q / W : Nat) : Int) ∧ ((q / W : Nat) : Int) < P.high
  generalize q % W = u at *
  generalize q / W = v at *
  omega
theorem left_pos {P : Pc} {O : Gr} {W H : Nat} (hW : P.wide = W) (hH : P.high = H) (h : leftN P O W (H * W) ≠ 0) : ∃ c, inPc P c ∧ O c.2 c.1 = false ∧ P.ink c.2 c.1 ≠ 0 := by
  obtain ⟨q, hq⟩ := List.exists_mem_of_length_pos (Nat.pos_of_ne_zero h)
  obtain ⟨h1, h2⟩ := List.mem_filter.1 hq
  have hq := List.mem_range.1 h1
  unfold leftB at h2
  rw [Bool.and_eq_true] at h2
  refine ⟨cellW W q, cellW_in hW hH hq, cast (Bool.not_eq_true' _) h2.2, ?_⟩
  have := of_decide_eq_true h2.1
  show P.ink ((q / W : Nat) : Int) ((q % W : Nat) : Int) ≠ 0
  omega
theorem left_le {P : Pc} {O : Gr} {L : List Dr} {W H : Nat} (hW : P.wide = W) (hH : P.high = H) (h : MkP P O L) : leftN P O W (H * W) ≤ 5 * L.length := by
  have hh := left_count (fun (d : Dr) (q : Nat) => covD P d (cellW W q)) colD (fun q => inkP P (cellW W q)) (fun q => O (cellW W q).2 (cellW W q).1) L (fun q hq => h.ink (cellW W q) hq) (List.range (H * W)) (fun d => cov5 P W _ d)
  refine Nat.le_trans ?_ hh
  unfold leftN
  have : ∀ M : List Nat, (∀ q ∈ M, q < H * W) → (M.filter (leftB P O W)).length ≤ (M.filter fun q => !O (cellW W q).2 (cellW W q).1 && decide (inkP P (cellW W q) ≠ 0)).length := fun M hM => by
    induction M with
    | nil => exact Nat.le_refl _
    | cons q M ih =>
      have i1 := ih fun a ha => hM a (List.mem_cons_of_mem _ ha)
      have hi : leftB P O W q = true → (!O (cellW W q).2 (cellW W q).1 && decide (inkP P (cellW W q) ≠ 0)) = true := fun hb => by
        unfold leftB at hb
        rw [Bool.and_eq_true] at hb ⊢
        refine ⟨hb.2, decide_eq_true ?_⟩
        have := of_decide_eq_true hb.1
        unfold inkP
        rw [if_pos (cellW_in hW hH (hM q (List.mem_cons_self ..)))]
        show P.ink ((q / W : Nat) : Int) ((q % W : Nat) : Int) ≠ 0
        omega
      simp only [List.filter_cons]
      cases hb : leftB P O W q with
      | true => rw [hi hb, if_pos rfl, if_pos rfl, List.length_cons, List.length_cons]; omega
      | false => rw [if_neg (by simp)]; split <;> (try rw [List.length_cons]) <;> omega
  exact this _ fun q hq => List.mem_range.1 hq
/-- The search tries all: no list so short makes the picture where it ends with nothing, not stopped. -/
theorem srch_none {P : Pc} {W H most : Nat} (hW : P.wide = W) (hH : P.high = H) : ∀ (m : Nat) (O : Gr) (t t' : Nat), srch P W H most m O t = (none, t', false) → ∀ L : List Dr, (∀ d ∈ L, d ∈ dropsL W H) → L.length ≤ m → ¬ MkP P O L := by
  intro m
  induction m with
  | zero =>
    intro O t t' h L hL hm hk
    have := left_le hW hH hk
    by_cases e : leftN P O W (H * W) = 0
    · rw [srch_0 e] at h; cases h
    · omega
  | succ m ih =>
    intro O t t' h L hL hm hk
    have hle := left_le hW hH hk
    by_cases e : leftN P O W (H * W) = 0
    · rw [srch_0 e] at h; cases h
    · rw [srch_go e (by omega)] at h
      obtain ⟨A, d, B, h1, h2, h3⟩ := mkP_step hk (left_pos hW hH e)
      have hd : d ∈ L := by rw [h1]; simp
      obtain ⟨t1, t2, h4⟩ := goL_none _ _ _ h d (List.mem_filter.2 ⟨hL d hd, h2⟩)
      have hl : A.length ≤ m := by
        have : L.length = A.length + (B.length + 1) := by rw [h1]; simp
        omega
      exact ih _ _ _ h4 A (fun a ha => hL a (by rw [h1]; simp [ha])) hl h3
theorem goL_mono {f : Gr → Nat → Sr} (hf : ∀ O t, t ≤ (f O t).2.1) {P : Pc} {most : Nat} {O : Gr} : ∀ (L : List Dr) (t : Nat), t ≤ (goL f P most O L t).2.1
  | [], t => Nat.le_refl _
  | e :: R, t => by
    by_cases et : t = most
    · subst et; rw [goL_stop]; exact Nat.le_refl _
    · have h0 := hf (openBy O (covL P.wide P.high e.1 e.2.1)) (t + 1)
      match hq : f (openBy O (covL P.wide P.high e.1 e.2.1)) (t + 1) with
      | (some X, t1, s1) => rw [goL_some et hq]; rw [hq] at h0; exact Nat.le_of_succ_le h0
      | (none, t1, true) => rw [goL_halt et hq]; rw [hq] at h0; exact Nat.le_of_succ_le h0
      | (none, t1, false) =>
        rw [goL_next et hq]
        rw [hq] at h0
        exact Nat.le_trans (Nat.le_of_succ_le h0) (goL_mono hf R t1)
theorem srch_mono (P : Pc) (W H most : Nat) : ∀ (m : Nat) (O : Gr) (t : Nat), t ≤ (srch P W H most m O t).2.1
  | 0, O, t => by rw [srch]; split <;> exact Nat.le_refl _
  | m + 1, O, t => by
    rw [srch]
    split
    · exact Nat.le_refl _
    · split
      · exact Nat.le_refl _
      · exact goL_mono (fun O t => srch_mono P W H most m O t) _ t
theorem goL_found {f : Gr → Nat → Sr} (hf : ∀ O t, t ≤ (f O t).2.1) {P : Pc} {most : Nat} {O : Gr} {X : List Dr} {t' : Nat} {s : Bool} : ∀ (L : List Dr) (t : Nat), goL f P most O L t = (some X, t', s) →
    ∃ d X' t1, d ∈ L ∧ X = d :: X' ∧ t ≤ t1 ∧ f (openBy O (covL P.wide P.high d.1 d.2.1)) (t1 + 1) = (some X', t', s)
  | [], t, h => by cases h
  | e :: R, t, h => by
    by_cases et : t = most
    · subst et; rw [goL_stop] at h; cases h
    · have h0 := hf (openBy O (covL P.wide P.high e.1 e.2.1)) (t + 1)
      match hq : f (openBy O (covL P.wide P.high e.1 e.2.1)) (t + 1) with
      | (some Y, t1, s1) =>
        rw [goL_some et hq] at h
        cases h
        exact ⟨e, Y, t, List.mem_cons_self .., rfl, Nat.le_refl _, hq⟩
      | (none, t1, true) => rw [goL_halt et hq] at h; cases h
      | (none, t1, false) =>
        rw [goL_next et hq] at h
        rw [hq] at h0
        obtain ⟨d, X', t2, h1, h2, h3, h4⟩ := goL_found hf R t1 h
        exact ⟨d, X', t2, List.mem_cons_of_mem _ h1, h2, Nat.le_trans (Nat.le_of_succ_le h0) h3, h4⟩
/-- One drop more: what it opened shows its ink. -/
theorem mkP_more {P : Pc} {O : Gr} {d : Dr} {L : List Dr} (h1 : lastP P O d = true) (h : MkP P (openBy O (covL P.wide P.high d.1 d.2.1)) L) : MkP P O (L ++ [d]) := fun c hc hO => by
  rw [replay_snoc]
  cases hd : covD P d c with
  | true =>
    rw [if_pos rfl]
    unfold lastP peelsB at h1
    rw [Bool.and_eq_true] at h1
    have := List.all_eq_true.1 h1.1 c (of_decide_eq_true hd)
    unfold okP at this
    rw [hO, Bool.false_or] at this
    exact of_decide_eq_true this
  | false =>
    rw [if_neg (by simp)]
    refine h c hc ?_
    unfold openBy
    rw [hO, Bool.false_or]
    exact hd
theorem mkP_zero {P : Pc} {O : Gr} {W H : Nat} (hR : PcR P) (hW : P.wide = W) (hH : P.high = H) (h : leftN P O W (H * W) = 0) : MkP P O [] := fun c hc hO => by
  obtain ⟨⟨a1, a2⟩, b1, b2⟩ := hc
  show P.ink c.2 c.1 = 0
  have h0 := (hR.ink c.2 c.1)
  by_cases hz : 0 < P.ink c.2 c.1
  · refine absurd h (Nat.ne_of_gt (List.length_pos_of_mem (a := c.2.toNat * W + c.1.toNat) (List.mem_filter.2 ⟨List.mem_range.2 ?_, ?_⟩)))
    · have h1 : c.1.toNat < W := by omega
      have h2 : c.2.toNat + 1 ≤ H := by omega
      have h3 := Nat.mul_le_mul_right W h2
      rw [Nat.add_mul] at h3
      omega
    · have h1 : c.1.toNat < W := by omega
      have e1 : (c.2.toNat * W + c.1.toNat) / W = c.2.toNat := by
        rw [Nat.add_comm, Nat.add_mul_div_right _ _ (by omega), Nat.div_eq_of_lt h1, Nat.zero_add]
      have e2 : (c.2.toNat * W + c.1.toNat) % W = c.1.toNat := by
        rw [Nat.add_comm, Nat.add_mul_mod_self_right, Nat.mod_eq_of_lt h1]
      unfold leftB
      rw [e1, e2, Int.toNat_of_nonneg a1, Int.toNat_of_nonneg b1, hO, decide_eq_true hz]
      rfl
  · omega
/-- What the search finds makes the picture. -/
theorem srch_found {P : Pc} {W H most : Nat} (hR : PcR P) (hW : P.wide = W) (hH : P.high = H) : ∀ (m : Nat) (O : Gr) (t t' : Nat) (s : Bool) (X : List Dr), srch P W H most m O t = (some X, t', s) → MkP P O X.reverse ∧ (∀ d ∈ X, d ∈ dropsL W H) ∧ t + X.length ≤ t' := by
  intro m
  induction m with
  | zero =>
    intro O t t' s X h
    by_cases e : leftN P O W (H * W) = 0
    · rw [srch_0 e] at h; cases h
      exact ⟨mkP_zero hR hW hH e, (fun d hd => by cases hd), Nat.le_refl _⟩
    · rw [srch, if_neg e] at h; cases h
  | succ m ih =>
    intro O t t' s X h
    by_cases e : leftN P O W (H * W) = 0
    · rw [srch_0 e] at h; cases h
      exact ⟨mkP_zero hR hW hH e, (fun d hd => by cases hd), Nat.le_refl _⟩
    · by_cases e5 : 5 * (m + 1) < leftN P O W (H * W)
      · rw [srch_far e e5] at h; cases h
      · rw [srch_go e e5] at h
        obtain ⟨d, X', t1, h1, rfl, h3, h4⟩ := goL_found (fun O t => srch_mono P W H most m O t) _ _ h
        obtain ⟨h5, h6⟩ := List.mem_filter.1 h1
        obtain ⟨i1, i2, i3⟩ := ih _ _ _ _ _ h4
        refine ⟨by rw [List.reverse_cons]; exact mkP_more h6 i1, fun a ha => ?_, by rw [List.length_cons]; omega⟩
        rcases List.mem_cons.1 ha with rfl | ha
        · exact h5
        · exact i2 a ha
theorem MkP.mono {P : Pc} {L : List Dr} (h : MkP P off L) (O : Gr) : MkP P O L := fun c hc _ => h c hc rfl
/-- Peeling: what makes the rest, and then the peeled drops from the last to the first, make the picture. -/
theorem peel_mk {P : Pc} {W H : Nat} : ∀ (j : Nat) (M : List Dr), MkP P (peelIt P W H j).1 M → MkP P off (M ++ (peelIt P W H j).2.reverse)
  | 0, M, h => by
    show MkP P off (M ++ ([] : List Dr).reverse)
    rw [List.reverse_nil, List.append_nil]
    exact h
  | j + 1, M, h => by
    match hf : frontL P W H (peelIt P W H j).1 with
    | [] =>
      have e := peel_stop hf 1
      rw [e] at h ⊢
      exact peel_mk j M h
    | d :: R =>
      have e := peel_some hf
      rw [e] at h ⊢
      have hd : lastP P (peelIt P W H j).1 d = true := (List.mem_filter.1 (by rw [show (dropsL W H).filter (lastP P (peelIt P W H j).1) = d :: R from hf]; exact List.mem_cons_self ..)).2
      have := peel_mk j (M ++ [d]) (mkP_more hd h)
      rw [List.reverse_append, List.reverse_singleton, ← List.append_assoc]
      exact this
theorem peel_end {P : Pc} (hP : PcOk P) (W H : Nat) : frontL P W H (peelF P W H).1 = [] := by
  have key : ∀ j, PeelInv P W H j ∨ ∃ i, i ≤ j ∧ frontL P W H (peelIt P W H i).1 = [] ∧ peelIt P W H j = peelIt P W H i := by
    intro j
    induction j with
    | zero => exact .inl (inv_0 P W H)
    | succ j ih =>
      rcases ih with hi | ⟨i, h1, h2, h3⟩
      · match hf : frontL P W H (peelIt P W H j).1 with
        | [] => exact .inr ⟨j, by omega, hf, peel_stop hf 1⟩
        | d :: R => exact .inl (inv_succ hP hf hi)
      · refine .inr ⟨i, by omega, h2, ?_⟩
        have := peel_stop h2 (j + 1 - i)
        rwa [show i + (j + 1 - i) = j + 1 by omega] at this
  unfold peelF
  rcases key 64 with hi | ⟨i, _, h2, h3⟩
  · match hf : frontL P W H (peelIt P W H 64).1 with
    | [] => rfl
    | d :: R =>
      have := (inv_succ hP hf hi).1
      omega
  · rw [h3]; exact h2
/-- A picture that drops make is peeled to its end. -/
theorem peel_all {P : Pc} (hP : PcOk P) {W H : Nat} (hW : P.wide = W) (hH : P.high = H) {L : List Dr} (hL : ∀ d ∈ L, d ∈ dropsL W H) (h : MkP P off L) : leftN P (peelF P W H).1 W (H * W) = 0 := by
  by_cases e : leftN P (peelF P W H).1 W (H * W) = 0
  · exact e
  · obtain ⟨A, d, B, h1, h2, _⟩ := mkP_step (h.mono _) (left_pos hW hH e)
    have : d ∈ frontL P W H (peelF P W H).1 := List.mem_filter.2 ⟨hL d (by rw [h1]; simp), h2⟩
    rw [peel_end hP] at this
    cases this
/-- What has been peeled makes the picture. -/
theorem peel_made {P : Pc} (hR : PcR P) {W H : Nat} (hW : P.wide = W) (hH : P.high = H) (h : leftN P (peelF P W H).1 W (H * W) = 0) : MkP P off (peelF P W H).2.reverse := by
  have := peel_mk 64 [] (mkP_zero hR hW hH h)
  rwa [List.nil_append] at this
/-- The last drop of a list that makes the picture can be the last one. -/
theorem last_can {P : Pc} {L : List Dr} {d : Dr} (h : MkP P off (L ++ [d])) (hd : 0 < (covL P.wide P.high d.1 d.2.1).length) : lastP P off d = true := by
  unfold lastP peelsB
  rw [Bool.and_eq_true]
  refine ⟨List.all_eq_true.2 fun c hc => ?_, decide_eq_true ?_⟩
  · have hcd : covD P d c = true := decide_eq_true hc
    have := h c (covD_in hcd) rfl
    rw [replay_snoc, if_pos hcd] at this
    unfold okP
    rw [decide_eq_true (show P.ink c.2 c.1 = d.2.2 + 1 from this), Bool.or_true]
  · have e : (covL P.wide P.high d.1 d.2.1).filter (opP off) = covL P.wide P.high d.1 d.2.1 := List.filter_eq_self.2 fun c _ => rfl
    rw [e]
    exact hd
/-- What is found is a least list; as many tries at least as drops, no more than allowed. -/
theorem fewL_least {P : Pc} {W H most : Nat} (hR : PcR P) (hW : P.wide = W) (hH : P.high = H) : ∀ (k m t : Nat) (X : List Dr) (n : Int), t ≤ most → (∀ L : List Dr, (∀ d ∈ L, d ∈ dropsL W H) → MkP P off L → m ≤ L.length) →
    fewL P W H most k m t = (X, n, 0) → MkP P off X ∧ (∀ d ∈ X, d ∈ dropsL W H) ∧ (∀ L : List Dr, (∀ d ∈ L, d ∈ dropsL W H) → MkP P off L → X.length ≤ L.length) ∧ ((t + X.length : Nat) : Int) ≤ n ∧ n ≤ most := by
  intro k
  induction k with
  | zero => intro m t X n _ _ h; rw [fewL] at h; cases h
  | succ k ih =>
    intro m t X n ht hm h
    have ho := srch_ok P W H most m off t ht
    match hr : srch P W H most m off t with
    | (some Y, t', s) =>
      rw [fewL_some hr] at h
      rw [hr] at ho
      obtain ⟨h1, h2, h3⟩ := srch_found hR hW hH m off t t' s Y hr
      cases h
      refine ⟨h1, fun d hd => h2 d (List.mem_reverse.1 hd), fun L hL hk => ?_, ?_, ?_⟩
      · rw [List.length_reverse]
        exact Nat.le_trans (ho.2 Y rfl).1 (hm L hL hk)
      · rw [List.length_reverse]
        exact Int.ofNat_le.2 h3
      · exact Int.ofNat_le.2 ho.1
    | (none, t', true) => rw [fewL_stop hr] at h; cases h
    | (none, t', false) =>
      rw [fewL_next hr] at h
      rw [hr] at ho
      have hmo := srch_mono P W H most m off t
      rw [hr] at hmo
      obtain ⟨a1, a2, a3, a4, a5⟩ := ih (m + 1) t' X n ho.1 (fun L hL hk => by
        have := hm L hL hk
        by_cases e : L.length ≤ m
        · exact absurd hk (srch_none hW hH m off t t' hr L hL e)
        · omega) h
      have hmo' : t ≤ t' := hmo
      exact ⟨a1, a2, a3, Int.le_trans (Int.ofNat_le.2 (Nat.add_le_add_right hmo' _)) a4, a5⟩
end Go.Proofs.YtcjgpkhdlobbbaaGreat.V

/- Drops made upon a white picture, told by the last drop that covers a cell. For FnPeeled. -/
namespace Go.Proofs.YtcjgpkhdlobbbaaGreat.V
theorem take_snoc {α : Type} (L : List α) (z : α) (j : Nat) (h : j < L.length) : L.take (j + 1) = L.take j ++ [L.getD j z] := by
  rw [List.take_succ, List.getElem?_eq_getElem h, List.getD_eq_getElem?_getD, List.getElem?_eq_getElem h]
  rfl
theorem dropN_ink (P : Pc) (M : List (Int × Int)) (v x y : Int) : ∀ j, j ≤ M.length → (dropN P M v j).ink y x = if (x, y) ∈ M.take j then v else P.ink y x
  | 0, _ => by simp [dropN]
  | j + 1, h => by
    have ih := dropN_ink P M v x y j (by omega)
    rw [take_snoc M (0, 0) j (by omega)]
    show (if y = (M.getD j (0, 0)).2 ∧ x = (M.getD j (0, 0)).1 then v else (dropN P M v j).ink y x) = _
    by_cases e : y = (M.getD j (0, 0)).2 ∧ x = (M.getD j (0, 0)).1
    · rw [if_pos e, if_pos (List.mem_append_right _ (by rw [e.1, e.2]; exact List.mem_cons_self ..))]
    · rw [if_neg e, ih]
      have : (x, y) ∈ M.take j ++ [M.getD j (0, 0)] ↔ (x, y) ∈ M.take j := by
        rw [List.mem_append]
        refine ⟨fun h => h.resolve_right fun h => e ?_, .inl⟩
        rw [← List.mem_singleton.1 h]
        exact ⟨rfl, rfl⟩
      by_cases hm : (x, y) ∈ M.take j
      · rw [if_pos hm, if_pos (this.2 hm)]
      · rw [if_neg hm, if_neg fun h => hm (this.1 h)]
theorem dropS_ink (P : Pc) (x y k a b : Int) : (dropS P x y k).ink b a = if (a, b) ∈ covL P.wide P.high x y then k + 1 else P.ink b a := by
  unfold dropS
  rw [dropN_ink _ _ _ _ _ _ (Nat.le_refl _), List.take_length]
theorem dropS_sides (P : Pc) (x y k : Int) : (dropS P x y k).wide = P.wide ∧ (dropS P x y k).high = P.high := dropN_sides _ _ _ _
theorem allN7_ink (P : Pc) (D : List Dr) (a b : Int) : ∀ j, j ≤ D.length → (allN7 ⟨P.wide, P.high, fun _ _ => 0⟩ D j).wide = P.wide ∧ (allN7 ⟨P.wide, P.high, fun _ _ => 0⟩ D j).high = P.high ∧ (allN7 ⟨P.wide, P.high, fun _ _ => 0⟩ D j).ink b a = replay (covD P) colD (D.take j) (a, b)
  | 0, _ => ⟨rfl, rfl, rfl⟩
  | j + 1, h => by
    obtain ⟨h1, h2, h3⟩ := allN7_ink P D a b j (by omega)
    obtain ⟨g1, g2⟩ := dropS_sides (allN7 ⟨P.wide, P.high, fun _ _ => 0⟩ D j) (D.getD j (0, 0, 0)).1 (D.getD j (0, 0, 0)).2.1 (D.getD j (0, 0, 0)).2.2
    refine ⟨g1.trans h1, g2.trans h2, ?_⟩
    rw [take_snoc D (0, 0, 0) j (by omega), replay_snoc]
    show (dropS _ _ _ _).ink b a = _
    rw [dropS_ink, h1, h2, h3]
    unfold covD colD
    by_cases e : (a, b) ∈ covL P.wide P.high (D.getD j (0, 0, 0)).1 (D.getD j (0, 0, 0)).2.1
    · rw [if_pos e, if_pos (decide_eq_true e)]
    · rw [if_neg e, if_neg (by rw [decide_eq_false e]; simp)]
/-- A list makes a picture where it shows what the picture shows. -/
theorem made_iff (P : Pc) (D : List Dr) : MkP P off D ↔ ∀ a b : Int, 0 ≤ a → a < P.wide → 0 ≤ b → b < P.high → (allN7 ⟨P.wide, P.high, fun _ _ => 0⟩ D D.length).ink b a = P.ink b a := by
  constructor
  · intro h a b a0 a1 b0 b1
    rw [(allN7_ink P D a b D.length (Nat.le_refl _)).2.2, List.take_length]
    exact (h (a, b) ⟨⟨a0, a1⟩, b0, b1⟩ rfl).symm
  · intro h c ⟨⟨a0, a1⟩, b0, b1⟩ _
    have := h c.1 c.2 a0 a1 b0 b1
    rw [(allN7_ink P D c.1 c.2 D.length (Nat.le_refl _)).2.2, List.take_length] at this
    exact this.symm
theorem dropsL_mem {W H x y k : Nat} (hx : x < W) (hy : y < H) (hk : k < 3) : (((x : Int), (y : Int), (k : Int)) : Dr) ∈ dropsL W H := by
  have h1 := Nat.mul_le_mul_right W (show y + 1 ≤ H by omega)
  rw [Nat.add_mul] at h1
  refine List.mem_map.2 ⟨(y * W + x) * 3 + k, List.mem_range.2 (by omega), ?_⟩
  have e1 : ((y * W + x) * 3 + k) / 3 = y * W + x := by omega
  have e2 : ((y * W + x) * 3 + k) % 3 = k := by omega
  have e3 : (y * W + x) / W = y := by rw [Nat.add_comm, Nat.add_mul_div_right _ _ (by omega), Nat.div_eq_of_lt hx, Nat.zero_add]
  have e4 : (y * W + x) % W = x := by rw [Nat.add_comm, Nat.add_mul_mod_self_right, Nat.mod_eq_of_lt hx]
  rw [e1, e2, e3, e4]
end Go.Proofs.YtcjgpkhdlobbbaaGreat.V

/- The laws of DropOn, CheckDrops, DropAll: the walks. -/
namespace Go.Proofs.YtcjgpkhdlobbbaaGreat.V
section
variable (cx : Cx) (h : List (Nat × Seg)) (n : Nat)
end
end Go.Proofs.YtcjgpkhdlobbbaaGreat.V

/- The law's brushes; lists of spots that are alike. -/
namespace Go.Proofs.YtcjgpkhdlobbbaaGreat.V
section
variable (cx : Cx) (h : List (Nat × Seg)) (n : Nat)
end
end Go.Proofs.YtcjgpkhdlobbbaaGreat.V

/- Dips of a brush: what is told, and the small functions of both codes. -/
namespace Go.Proofs.YtcjgpkhdlobbbaaGreat.V

/-- Numbers in a row. -/
def intsC (L : List Int) : Nat → SV := fun k => .int .i64 (L.getD k 0)
/-- A list of numbers that a call has made. -/
def IntsOut (h : List (Nat × Seg)) (lo n : Nat) (V : SV) (L : List Int) : Prop :=
  (V = .nils ∧ L = []) ∨ ∃ i cap s, V = .sl i 0 L.length cap ∧ lo ≤ i ∧ i < n ∧ hget h i = some s ∧ s.rw = true ∧ s.n = L.length ∧ ∀ k, k < L.length → s.c k = intsC L k

section
variable {cx : Cx} {h : List (Nat × Seg)} {n : Nat}
variable (cx) (h) (n)
variable (i : Nat) (S : Sh) (B : Br) (x y least : Int) (hs : hget h i = some (shS S)) (hi : i < n) (hR : ShR S) (hG : Good S) (hB : BrV B) (hx : 0 ≤ x) (hx8 : x < 8) (hy : 0 ≤ y) (hy8 : y < 8)
end
end Go.Proofs.YtcjgpkhdlobbbaaGreat.V

/- The law's lists of numbers: compared, marked, looked at again. -/
namespace Go.Proofs.YtcjgpkhdlobbbaaGreat.V
theorem IntsOut.ok {h : List (Nat × Seg)} {lo n : Nat} {V : SV} {L : List Int} (hA : IntsOut h lo n V L) : V.ok = True := by
  rcases hA with ⟨rfl, rfl⟩ | ⟨i, cap, s, rfl, _⟩ <;> rfl
theorem IntsOut.lt {h : List (Nat × Seg)} {lo n : Nat} {V : SV} {L : List Int} (hA : IntsOut h lo n V L) : V.lt n := by
  rcases hA with ⟨rfl, rfl⟩ | ⟨i, cap, s, rfl, h1, h2, _⟩
  · trivial
  · exact h2
theorem IntsOut.mono {h h' : List (Nat × Seg)} {lo n n' : Nat} {V : SV} {L : List Int} (hA : IntsOut h lo n V L) (hn : n ≤ n') (hx : ∀ i, lo ≤ i → i < n → ∀ t, hget h i = some t → hget h' i = some t) : IntsOut h' lo n' V L := by
  rcases hA with h1 | ⟨i, cap, s, rfl, h1, h2, h3, h4⟩
  · exact .inl h1
  · exact .inr ⟨i, cap, s, rfl, h1, by omega, hx i h1 h2 s h3, h4⟩
theorem IntsOut.ext {h h' : List (Nat × Seg)} {lo n n' : Nat} {V : SV} {L : List Int} (hA : IntsOut h lo n V L) (hn : n ≤ n') (hx : HExt n h h') : IntsOut h' lo n' V L := hA.mono hn fun i _ hi => hx i hi
/-- Numbers that were marked. -/
def IntsHeld (h : List (Nat × Seg)) (lo n : Nat) (V : SV) (len : Nat) : Prop :=
  (V = .nils ∧ len = 0) ∨ ∃ i cap s, V = .sl i 0 len cap ∧ lo ≤ i ∧ i < n ∧ hget h i = some s ∧ s.n = len ∧ ∀ k, k < len → s.c k = .int .i64 (k + 1)
theorem IntsHeld.ext {h h' : List (Nat × Seg)} {lo n n' : Nat} {V : SV} {len : Nat} (hA : IntsHeld h lo n V len) (hn : n ≤ n') (hx : HExt n h h') : IntsHeld h' lo n' V len := by
  rcases hA with h1 | ⟨i, cap, s, rfl, h1, h2, h3, h4⟩
  · exact .inl h1
  · exact .inr ⟨i, cap, s, rfl, h1, by omega, hx i h2 s h3, h4⟩
/-- Memory that is as it was but for one segment. -/
def HSame (j : Nat) (h h' : List (Nat × Seg)) : Prop := ∀ i, i ≠ j → hget h' i = hget h i
theorem HSame.ext {j m n : Nat} {h0 h h' : List (Nat × Seg)} (hs : HSame j h h') (hx : HExt m h0 h) (hj : m ≤ j) : HExt m h0 h' := fun i hi t ht => by
  rw [hs i (by omega)]; exact hx i hi t ht
section
variable (cx : Cx) (h : List (Nat × Seg)) (n : Nat)
end
end Go.Proofs.YtcjgpkhdlobbbaaGreat.V

/- A list of drops turned round in place. -/
namespace Go.Proofs.YtcjgpkhdlobbbaaGreat.V
theorem revL_0 (D : List Dr) {z : Nat} (h : z < D.length * 3) : dropsC (revL D 0) z = dropsC D z := by
  obtain ⟨q, e, he, rfl⟩ : ∃ q e, e < 3 ∧ z = q * 3 + e := ⟨z / 3, z % 3, by omega, by omega⟩
  rw [dropsC_z _ _ _ he, dropsC_z _ _ _ he, revL_get D 0 q (by omega), if_neg (by omega)]
theorem revL_end (D : List Dr) {q z : Nat} (hq : D.length ≤ 2 * q + 1) (h : z < D.length * 3) : dropsC (revL D q) z = dropsC D.reverse z := by
  obtain ⟨j, e, he, rfl⟩ : ∃ j e, e < 3 ∧ z = j * 3 + e := ⟨z / 3, z % 3, by omega, by omega⟩
  rw [dropsC_z _ _ _ he, dropsC_z _ _ _ he, revL_get D q j (by omega), rev_getD D (by omega)]
  split
  · rfl
  · rename_i hc
    rw [show D.length - 1 - j = j by omega]
theorem revL_step (D : List Dr) {q z : Nat} (hq : 2 * q + 1 < D.length) (h : z < D.length * 3) :
    putD (D.length - 1 - q) (D.getD q (0, 0, 0)) (putD q (D.getD (D.length - 1 - q) (0, 0, 0)) (dropsC (revL D q))) z = dropsC (revL D (q + 1)) z := by
  obtain ⟨j, e, he, rfl⟩ : ∃ j e, e < 3 ∧ z = j * 3 + e := ⟨z / 3, z % 3, by omega, by omega⟩
  by_cases h1 : j = D.length - 1 - q
  · subst h1
    rw [putD_in _ _ _ _ he, dropsC_z _ _ _ he, revL_get D (q + 1) _ (by omega), if_pos (by omega), show D.length - 1 - (D.length - 1 - q) = q by omega]
  · rw [putD_o _ _ _ _ (by omega)]
    by_cases h2 : j = q
    · subst h2
      rw [putD_in _ _ _ _ he, dropsC_z _ _ _ he, revL_get D (j + 1) _ (by omega), if_pos (by omega)]
    · rw [putD_o _ _ _ _ (by omega), dropsC_z _ _ _ he, dropsC_z _ _ _ he, revL_get D (q + 1) _ (by omega), revL_get D q _ (by omega)]
      by_cases h3 : j < q ∨ D.length ≤ j + q
      · rw [if_pos h3, if_pos (by omega)]
      · rw [if_neg h3, if_neg (by omega)]
section
variable (cx : Cx) (h : List (Nat × Seg)) (n : Nat)
theorem reverseDr_E (i cap : Nat) (D : List Dr) (own : Option (Nat × Nat)) (hs : hget h i = some ⟨D.length * 3, dropsC D, true, own⟩) (hi : i < n) (hm9 : D.length ≤ 1000) (K : HK)
    (hK : K (.tup 0 (cl [])) (hset h i ⟨D.length * 3, dropsC D.reverse, true, own⟩) n) :
    CallE Tryz.prog cx 32 [.sl i 0 D.length cap] h n K := by
  have hgi : ∀ t, hget (hset h i t) i = some t := hget_hset_self hs
  have hbut : ∀ t, HBut i n h (hset h i t) := fun t j hj hji u hu => by rw [hget_hset, if_neg (Ne.symm hji)]; exact hu
  refine CallE.imp0 (K := fun r h' n' => n ≤ n' ∧ r = .tup 0 (cl []) ∧ HBut i n h h' ∧ ∃ t, hget h' i = some t ∧ t.n = D.length * 3 ∧ t.rw = true ∧ t.own = own ∧ ∀ k, k < D.length * 3 → t.c k = dropsC D.reverse k) ?_ ?_
  rotate_left
  · rintro hok r h' n' ⟨h0, rfl, hx, t, ht, h1, h2, h3, h4⟩
    exact ⟨.tup 0 (cl []), _, n, Nat.le_refl _, by simp only [ren_nil], by simp only [go_sem], impH.set0 hok (Nat.le_refl n) hs hx ht (SegLe.flat (by rw [h1]; exact Nat.le_refl _) (fun _ => h2) (.inr h3.symm) fun k hk => ⟨h4 k hk, dropsC_flat _ _⟩), hK⟩
  refine callE_of_T (P := Tryz.prog) hti (nt := 28) (rs := []) rfl rfl Tryz.call32 Tryz.func32 rfl _ (by simp only [go_sem, and_self]) (Nat.le_of_ble_eq_true rfl) _ fun hok => ?_
  simp only [go_sem, Nat.reduceLT]
  refine T_lp (ι := { q : Nat // 2 * q ≤ D.length + 1 })
    (fun q => ([(0, .sl i 0 D.length cap), (2, .int .i64 q.1), (3, .int .i64 ((D.length : Int) - 1 - q.1))], hset h i ⟨D.length * 3, dropsC (revL D q.1), true, own⟩, n)) (fun q => D.length - q.1) ⟨0, by omega⟩ ?_ ?_
  · refine Imp.id (by simp) ?_ ?_
    · simp only [go_sem, Nat.reduceLT, w64 (n := (D.length : Int) - 1) (by omega), Int.natCast_zero, Int.sub_zero]
      (repeat' apply And.intro) <;> first | omega | rfl | trivial | assumption | skip
    · exact impH.set0 hok (Nat.le_refl n) hs (fun _ _ _ _ h => h) hs (SegLe.flat (Nat.le_refl _) id (.inr rfl) fun z hz => ⟨(revL_0 D hz).symm, dropsC_flat _ _⟩)
  · rintro ⟨q, hq⟩
    simp only [go_sem, Nat.reduceLT, decide_eq_true_eq, decide_eq_false_iff_not]
    refine ⟨fun h1 => ?_, fun h1 => ?_⟩
    · obtain ⟨m, hm⟩ : ∃ m : Nat, D.length = q + 1 + m := ⟨D.length - q - 1, by omega⟩
      have hv : (D.length : Int) - 1 - q = (m : Int) := by omega
      have hqm : q < m := by omega
      have r1 : (0 : Int) ≤ m ∧ (m : Int) < D.length := ⟨by omega, by omega⟩
      have r2 : (0 : Int) ≤ q ∧ (q : Int) < D.length := ⟨by omega, by omega⟩
      have b1 : m * 3 ≤ D.length * 3 - 3 := by omega
      have b2 : q * 3 ≤ D.length * 3 - 3 := by omega
      have b3 : 3 ≤ D.length * 3 := by omega
      have b6 : m * 3 + 3 ≤ D.length * 3 := by omega
      have b7 : q * 3 + 3 ≤ D.length * 3 := by omega
      have hm2 : D.length - 1 - q = m := by omega
      have em : (revL D q).getD m (0, 0, 0) = D.getD m (0, 0, 0) := by rw [revL_get D q m (by omega), if_neg (by omega)]
      have eq : (revL D q).getD q (0, 0, 0) = D.getD q (0, 0, 0) := by rw [revL_get D q q (by omega), if_neg (by omega)]
      have hst := fun z => revL_step D (q := q) (z := z) (by omega)
      rw [hm2] at hst
      simp only [hv]
      have n1 : ¬(m * 3 = 0 ∧ 3 = D.length * 3) := by omega
      have n2 : ¬(q * 3 = 0 ∧ 3 = D.length * 3) := by omega
      refine T_drawG hti 16 [13, 15] (.b 0 0 (.b 0 1 (.b 0 2 (.b 0 3 (.b 0 4 (.b 0 5 (.b 0 6 (.b 0 7 (.b 0 8 (.b 0 9 (.b 0 10 (.b 0 11 (.b 0 12 (.b 4 13 (.b 0 14 (.b 4 15 (.f) .o) .o) .o) .o) .o) .o) .o) .o) .o) .o) .o) .o) .o) .o) .o) .o) _ _ (by kernel_rfl) (by kernel_rfl) ?_
      simp only [go_sem, Nat.reduceLT, reduceIte, hgi, hi, r1, r2, b1, b2, b3, b6, b7, dropsC_0, dropsC_1, dropsC_2, em, eq, hset_hset, n1, n2]
      refine ⟨⟨q + 1, by omega⟩, by show D.length - (q + 1) < D.length - q; omega, ?_⟩
      refine Imp.id (by simp) ?_ ?_
      · simp only [go_sem, Nat.reduceLT, hi, w64 (n := (m : Int) - 1) (by omega), w64 (n := (q : Int) + 1) (by omega), show (((q + 1 : Nat) : Int)) = (q : Int) + 1 by omega, show ((D.length : Int) - 1 - ((q : Int) + 1)) = (m : Int) - 1 by omega]
      · exact impH.set0 hok (Nat.le_refl n) hs (hbut _) (hgi _) (SegLe.flat (Nat.le_refl _) id (.inr rfl) fun z hz => ⟨hst z hz, dropsC_flat _ _⟩)
    · exact ⟨hbut _, _, hgi _, rfl, rfl, rfl, fun z hz => revL_end D (by omega) hz⟩
end
end Go.Proofs.YtcjgpkhdlobbbaaGreat.V

/- PeelAll of both codes. -/
namespace Go.Proofs.YtcjgpkhdlobbbaaGreat.V
noncomputable def peelR (P : Pc) : List Dr × Int := haveI := Classical.propDecidable
  if pcokB P then (if 0 < leftN P (peelF P P.wide.toNat P.high.toNat).1 P.wide.toNat (P.high.toNat * P.wide.toNat) then ([], 6) else ((peelF P P.wide.toNat P.high.toNat).2.reverse, 0)) else ([], 1)
theorem peelR_1 {P : Pc} (h : ¬ pcokB P = true) : peelR P = ([], 1) := by unfold peelR; rw [if_neg h]
theorem peelR_6 {P : Pc} (h : pcokB P = true) (hl : 0 < leftN P (peelF P P.wide.toNat P.high.toNat).1 P.wide.toNat (P.high.toNat * P.wide.toNat)) : peelR P = ([], 6) := by unfold peelR; rw [if_pos h, if_pos hl]
theorem peelR_0 {P : Pc} (h : pcokB P = true) (hl : ¬ 0 < leftN P (peelF P P.wide.toNat P.high.toNat).1 P.wide.toNat (P.high.toNat * P.wide.toNat)) : peelR P = ((peelF P P.wide.toNat P.high.toNat).2.reverse, 0) := by unfold peelR; rw [if_pos h, if_neg hl]
theorem peel_len (P : Pc) (W H : Nat) : ∀ j, (peelIt P W H j).2.length ≤ j
  | 0 => Nat.le_refl _
  | j + 1 => by
    have := peel_len P W H j
    rw [peelIt]
    split
    · omega
    · rw [List.length_append, List.length_singleton]; omega
theorem peelR_len (P : Pc) : (peelR P).1.length ≤ 64 := by
  by_cases h : pcokB P = true
  · by_cases hl : 0 < leftN P (peelF P P.wide.toNat P.high.toNat).1 P.wide.toNat (P.high.toNat * P.wide.toNat)
    · rw [peelR_6 h hl]; simp
    · rw [peelR_0 h hl]
      simp only [List.length_reverse]
      exact peel_len P _ _ 64
  · rw [peelR_1 h]; simp
theorem front_in {P : Pc} {W H : Nat} {O : Gr} {d : Dr} {R : List Dr} (h : frontL P W H O = d :: R) (hW8 : W ≤ 8) (hH8 : H ≤ 8) : (0 ≤ d.1 ∧ d.1 < W) ∧ (0 ≤ d.2.1 ∧ d.2.1 < H) ∧ 0 ≤ d.2.2 ∧ d.2.2 < 3 := by
  have hm : d ∈ dropsL W H := (List.mem_filter.1 (show d ∈ frontL P W H O by rw [h]; exact List.mem_cons_self)).1
  obtain ⟨k, hk, rfl⟩ := List.mem_iff_getElem.1 hm
  have := dropsL_in (W := W) (H := H) (j := k) (by rw [← dropsL_len]; exact hk) hW8 hH8
  rwa [List.getD_eq_getElem?_getD, List.getElem?_eq_getElem hk] at this
theorem Imp.of2 {cx : Cx} {l : List (Nat × SV)} {h : List (Nat × Seg)} {n : Nat} {l' : List (Nat × SV)} {h' : List (Nat × Seg)} {n' : Nat} (a b a' b' : Nat) (ha : cx.n0 ≤ a) (ha' : cx.n0 ≤ a') (hb : n' ≤ b) (hb' : n' ≤ b') (hbb : b ≠ b') (hn : cx.n0 ≤ n') (hl : impL l (sig [(a, b), (a', b')]) n' l') (hh : impH h (sig [(a, b), (a', b')]) n' h') : Imp cx l h n l' h' n' := by
  refine Imp.of [(a, b), (a', b')] (fun i hi => ?_) hn hl hh (fun i j s t hi hj hij => ?_)
  · have : a ≠ i := by omega
    have : a' ≠ i := by omega
    simp [sig, *]
  · have h1 := (hh i s hi).1
    have h2 := (hh j t hj).1
    simp only [sig]
    (repeat' split) <;> omega
section
variable (cx : Cx) (h : List (Nat × Seg)) (n : Nat)
set_option maxHeartbeats 1600000 in
theorem peelAll2_S (P : Pc) (hR : PcR P) (K : HK)
    (hK : ∀ V h' n', n ≤ n' → HExt n h h' → HOk n' h' → DrSl h' n n' V (peelR P).1 → K (.tup 2 (cl [V, .int .i64 (peelR P).2])) h' n') :
    CallE Tryz.prog cx 7 [.agg 66 (pcC P)] h n K := by
  refine CallE.hokE ?_
  refine callE_of_T (P := Tryz.prog) hti (nt := 33) (rs := [.tmp 2, .tmp 3]) rfl rfl Tryz.call7 Tryz.func7 rfl _ (by simp only [go_sem, and_self]) (Nat.le_of_ble_eq_true rfl) _ fun hok => ?_
  simp only [go_sem, Nat.reduceLT]
  refine (ok7_Q _ _ _ n P (by first | (simp only [go_sem]; done) | (simp only [go_sem, Nat.reduceBEq, Nat.reduceLT, Nat.reduceLeDiff, Nat.reduceAdd, Nat.reduceMul, Nat.reduceSub, Nat.reduceMod, Nat.reduceDiv, Nat.reduceEqDiff, Int.reduceToNat, reduceIte, reduceCtorEq, Int.reduceLE, Int.reduceLT, Int.reduceEq, Int.reduceNeg, Int.reduceAdd, Int.reduceSub, Int.reduceMul]; rfl)) (by omega) hR).A ?_
  by_cases hk : pcokB P = true
  rotate_left
  · rw [peelR_1 hk] at hK
    simp only [go_sem, Nat.reduceLT, Nat.reduceMul, hk]
    exact fun hok' => hK _ _ _ (by omega) (by simp only [go_sem, HExt_cons]) hok' (⟨n + 1, 0, _, rfl, by omega, by omega, (by first | (simp only [go_sem]; done) | (simp only [go_sem]; rfl)), rfl, rfl, fun k hk => by simp at hk⟩)
  have hP : PcOk P := by simpa [pcokB] using hk
  have hs8 := hP.1
  obtain ⟨W, hW⟩ : ∃ W : Nat, P.wide = W := ⟨P.wide.toNat, by omega⟩
  obtain ⟨H, hH⟩ : ∃ H : Nat, P.high = H := ⟨P.high.toNat, by omega⟩
  have hW8 : W ≤ 8 := by omega
  have hH8 : H ≤ 8 := by omega
  have hWt : P.wide.toNat = W := by omega
  have hHt : P.high.toNat = H := by omega
  have o64 : ones (.agg 64 zz_a010c9) = True := eq_true fun j hj => trivial
  simp only [go_sem, Nat.reduceLT, Nat.reduceMul, reduceIte, hk, o64]
  refine callA_false (next7_E _ _ _ n (n + 1) P off _ W H (by first | (simp only [go_sem]; done) | (simp only [go_sem, Nat.reduceBEq, Nat.reduceLT, Nat.reduceLeDiff, Nat.reduceAdd, Nat.reduceMul, Nat.reduceSub, Nat.reduceMod, Nat.reduceDiv, Nat.reduceEqDiff, Int.reduceToNat, reduceIte, reduceCtorEq, Int.reduceLE, Int.reduceLT, Int.reduceEq, Int.reduceNeg, Int.reduceAdd, Int.reduceSub, Int.reduceMul]; rfl)) (by omega) (by first | (simp only [go_sem, Nat.reduceLT]; done) | (simp only [go_sem, Nat.reduceLT]; rfl)) (by omega) ⟨rfl, fun j hj => rfl⟩ hR hP hW hH _ fun cap0 => ?_)
  simp only [go_sem, Nat.reduceLT]
  refine T_lp (ι := { q : Nat × Nat × Nat // (PeelInv P W H q.1 ∧ q.1 ≤ 64) ∧ q.1 ≤ q.2.1 ∧ q.2.1 ≤ maxLen })
    (fun q => ([(1, .ptr n 0), (4, .ptr (n + 1) 0), (5, .sl (n + 2) 0 q.1.1 q.1.2.1), (6, .sl (n + 3) 0 (frontL P W H (peelIt P W H q.1.1).1).length q.1.2.2)],
      (n + 3, ⟨(frontL P W H (peelIt P W H q.1.1).1).length * 3, dropsC (frontL P W H (peelIt P W H q.1.1).1), true, none⟩) ::
      (n + 2, ⟨q.1.1 * 3, dropsC (peelIt P W H q.1.1).2, true, some (48, q.1.2.1 * 3)⟩) ::
      (n + 1, grS (peelIt P W H q.1.1).1) :: (n, pcS P) :: h, n + 4)) (fun q => 64 - q.1.1) ⟨(0, 0, cap0), ⟨inv_0 P W H, by simp⟩, Nat.le_refl 0, Nat.zero_le _⟩ ?_ ?_
  · refine Imp.id (by simp) ?_ ?_
    · simp only [go_sem, Nat.reduceLT]
      (repeat' apply And.intro) <;> first | omega | rfl | trivial | assumption | skip
    · exact impH.cons0 (hget_hit _ _ _) (by simp) (SegLe.flat (Nat.le_refl _) id (.inr rfl) fun k hk => ⟨rfl, dropsC_flat _ _⟩) (impH.cons0 (s := ⟨0, zrow (ti 48), true, some (48, 0)⟩) (by first | (simp only [go_sem, Nat.reduceLT]; done) | (simp only [go_sem, Nat.reduceBEq, Nat.reduceLT, Nat.reduceLeDiff, Nat.reduceAdd, Nat.reduceMul, Nat.reduceSub, Nat.reduceMod, Nat.reduceDiv, Nat.reduceEqDiff, Int.reduceToNat, reduceIte, reduceCtorEq, Int.reduceLE, Int.reduceLT, Int.reduceEq, Int.reduceNeg, Int.reduceAdd, Int.reduceSub, Int.reduceMul]; rfl)) (by simp) (SegLe.flat (by simp) id (.inr (by simp)) fun k hk => by simp at hk) (impH.cons0 (by first | (simp only [go_sem, Nat.reduceLT]; done) | (simp only [go_sem, Nat.reduceLT]; rfl)) (by simp) (SegLe.flat (Nat.le_refl _) id (.inr rfl) fun k hk => ⟨rfl, gridC_flat _ _⟩) (impH.cons0 (by first | (simp only [go_sem]; done) | (simp only [go_sem, Nat.reduceBEq, Nat.reduceLT, Nat.reduceLeDiff, Nat.reduceAdd, Nat.reduceMul, Nat.reduceSub, Nat.reduceMod, Nat.reduceDiv, Nat.reduceEqDiff, Int.reduceToNat, reduceIte, reduceCtorEq, Int.reduceLE, Int.reduceLT, Int.reduceEq, Int.reduceNeg, Int.reduceAdd, Int.reduceSub, Int.reduceMul]; rfl)) (by simp) (SegLe.flat (Nat.le_refl _) id (.inr rfl) fun k hk => ⟨rfl, pcC_flat _ _⟩) (impH.base0 hok (by simp) (by simp only [go_sem, HExt_cons])))))
  · rintro ⟨⟨j, cap1, cap2⟩, ⟨hinv, hj64⟩, hcap, hmx⟩
    simp only at hinv hj64 hcap hmx
    generalize hFF : frontL P W H (peelIt P W H j).1 = F
    generalize hst : peelIt P W H j = st at *
    simp only [go_sem, Nat.reduceLT, Nat.reduceMul, Int.reduceToNat, reduceCtorEq, Int.reduceLE, decide_eq_true_eq, decide_eq_false_iff_not]
    refine ⟨fun h1 => ?_, fun h1 => ?_⟩
    · obtain ⟨d, R, hF⟩ : ∃ d R, F = d :: R := by
        cases F with
        | nil => simp at h1
        | cons d R => exact ⟨d, R, rfl⟩
      have hin := front_in (hFF.trans hF) hW8 hH8
      have hinv' : PeelInv P W H (j + 1) := inv_succ hP (by rw [hst]; exact hFF.trans hF) hinv
      have g2 : 2 ≤ F.length * 3 := by omega
      have g3 : 3 ≤ F.length * 3 := by omega
      have hj1 : j + 1 ≤ 64 := by have := hinv'.1; omega
      have hnx : peelIt P W H (j + 1) = (openBy st.1 (covL P.wide P.high d.1 d.2.1), st.2 ++ [d]) := by
        have := peel_some (P := P) (W := W) (H := H) (j := j) (d := d) (R := R) (by rw [hst]; exact hFF.trans hF)
        rwa [hst] at this
      have hlen : st.2.length = j := by have := hinv.2; rwa [hst] at this
      have f0 : dropsC F 0 = .int .i8 d.1 := by rw [hF]; rfl
      have f1 : dropsC F 1 = .int .i8 d.2.1 := by rw [hF]; rfl
      have f2 : dropsC F 2 = .int .u8 d.2.2 := by rw [hF]; rfl
      have hd2 : hdel h (n + 2) = h := hok.del (by omega)
      simp only [go_sem, h1, g2, f0, f1]
      refine callA_false (peel7_E _ _ _ n (n + 1) P st.1 d.1 d.2.1 (by first | (simp only [go_sem]; done) | (simp only [go_sem, Nat.reduceBEq, Nat.reduceLT, Nat.reduceLeDiff, Nat.reduceAdd, Nat.reduceMul, Nat.reduceSub, Nat.reduceMod, Nat.reduceDiv, Nat.reduceEqDiff, Int.reduceToNat, reduceIte, reduceCtorEq, Int.reduceLE, Int.reduceLT, Int.reduceEq, Int.reduceNeg, Int.reduceAdd, Int.reduceSub, Int.reduceMul]; rfl)) (by omega) (by first | (simp only [go_sem, Nat.reduceLT]; done) | (simp only [go_sem, Nat.reduceBEq, Nat.reduceLT, Nat.reduceLeDiff, Nat.reduceAdd, Nat.reduceMul, Nat.reduceSub, Nat.reduceMod, Nat.reduceDiv, Nat.reduceEqDiff, Int.reduceToNat, reduceIte, reduceCtorEq, Int.reduceLE, Int.reduceLT, Int.reduceEq, Int.reduceNeg, Int.reduceAdd, Int.reduceSub, Int.reduceMul]; rfl)) (by omega) (by omega) hR hP (by omega) (by omega) _ ?_)
      simp only [go_sem, Nat.reduceLT, Nat.reduceLeDiff, Nat.reduceMul, Nat.reduceSub, Nat.reduceMod, Int.reduceToNat, reduceIte, Int.reduceLE, h1, g3, f0, f1, f2, hd2]
      refine ⟨⟨hcap, hmx, by omega⟩, fun cap' h3 h4 => ?_⟩
      refine callA_false (next7_E _ _ _ n (n + 1) P (openBy st.1 (covL P.wide P.high d.1 d.2.1)) (grS (openBy st.1 (covL P.wide P.high d.1 d.2.1))) W H (by first | (simp only [go_sem]; done) | (simp only [go_sem, Nat.reduceBEq, Nat.reduceLT, Nat.reduceLeDiff, Nat.reduceAdd, Nat.reduceMul, Nat.reduceSub, Nat.reduceMod, Nat.reduceDiv, Nat.reduceEqDiff, Int.reduceToNat, reduceIte, reduceCtorEq, Int.reduceLE, Int.reduceLT, Int.reduceEq, Int.reduceNeg, Int.reduceAdd, Int.reduceSub, Int.reduceMul]; rfl)) (by omega) (by first | (simp only [go_sem, Nat.reduceLT]; done) | (simp only [go_sem, Nat.reduceBEq, Nat.reduceLT, Nat.reduceLeDiff, Nat.reduceAdd, Nat.reduceMul, Nat.reduceSub, Nat.reduceMod, Nat.reduceDiv, Nat.reduceEqDiff, Int.reduceToNat, reduceIte, reduceCtorEq, Int.reduceLE, Int.reduceLT, Int.reduceEq, Int.reduceNeg, Int.reduceAdd, Int.reduceSub, Int.reduceMul]; rfl)) (by omega) (grAt_grS _) hR hP hW hH _ fun cap3 => ?_)
      simp only [go_sem, Nat.reduceLT]
      refine ⟨⟨(j + 1, cap', cap3), ⟨hinv', hj1⟩, h3, h4⟩, by show 64 - (j + 1) < 64 - j; omega, ?_⟩
      refine Imp.of2 (n + 2) (n + 5) (n + 3) (n + 6) (by simp) (by simp) (by omega) (by omega) (by omega) (by simp) ?_ ?_
      · simp only [go_sem, Nat.reduceLT, hnx]
        (repeat' apply And.intro) <;> first | omega | rfl | trivial | assumption | skip
      · simp only [hnx]
        refine impH.cons (by omega) (by first | (simp only [go_sem, Nat.reduceLT]; done) | (simp only [go_sem, Nat.reduceLT]; rfl)) (SegLe.flat (Nat.le_refl _) id (.inr rfl) fun z hz => ⟨rfl, dropsC_flat _ _⟩) (impH.cons (s := ⟨(j + 1) * 3, both (j * 3) (dropsC st.2) (news (fun z => if z < 3 then cl [.int .i8 d.1, .int .i8 d.2.1, .int .u8 d.2.2] (z - 0) else cl [.int .i8 0, .int .i8 0, .int .u8 0] (z % 3)) 0), true, some (48, cap' * 3)⟩) (by omega) (by first | (simp only [go_sem, Nat.reduceLT]; done) | (simp only [go_sem, Nat.reduceBEq, Nat.reduceLT, Nat.reduceLeDiff, Nat.reduceAdd, Nat.reduceMul, Nat.reduceSub, Nat.reduceMod, Nat.reduceDiv, Nat.reduceEqDiff, Int.reduceToNat, reduceIte, reduceCtorEq, Int.reduceLE, Int.reduceLT, Int.reduceEq, Int.reduceNeg, Int.reduceAdd, Int.reduceSub, Int.reduceMul]; rfl)) (SegLe.flat (Nat.le_refl _) id (.inr rfl) fun z hz => ⟨?_, dropsC_flat _ _⟩) (impH.cons (by omega) (by first | (simp only [go_sem, Nat.reduceBEq, Nat.reduceLT]; done) | (simp only [go_sem, Nat.reduceBEq, Nat.reduceLT, Nat.reduceLeDiff, Nat.reduceAdd, Nat.reduceMul, Nat.reduceSub, Nat.reduceMod, Nat.reduceDiv, Nat.reduceEqDiff, Int.reduceToNat, reduceIte, reduceCtorEq, Int.reduceLE, Int.reduceLT, Int.reduceEq, Int.reduceNeg, Int.reduceAdd, Int.reduceSub, Int.reduceMul]; rfl)) (SegLe.flat (Nat.le_refl _) id (.inr rfl) fun k hk => ⟨rfl, gridC_flat _ _⟩) (impH.cons (by omega) (by first | (simp only [go_sem]; done) | (simp only [go_sem, Nat.reduceBEq, Nat.reduceLT, Nat.reduceLeDiff, Nat.reduceAdd, Nat.reduceMul, Nat.reduceSub, Nat.reduceMod, Nat.reduceDiv, Nat.reduceEqDiff, Int.reduceToNat, reduceIte, reduceCtorEq, Int.reduceLE, Int.reduceLT, Int.reduceEq, Int.reduceNeg, Int.reduceAdd, Int.reduceSub, Int.reduceMul]; rfl)) (SegLe.flat (Nat.le_refl _) id (.inr rfl) fun k hk => ⟨rfl, pcC_flat _ _⟩) (impH.base hok (by omega) (fun i hi => by rw [sig_miss _ _ _ _ (by simp; omega), sig_miss _ _ _ _ (by simp; omega)]; rfl) (by simp only [go_sem, HExt_cons])))))
        have hz : z < (j + 1) * 3 := hz
        rw [← hlen] at hz ⊢
        exact both_drop _ _ _ rfl rfl rfl hz
    · have hF0 : F = [] := by
        cases F with
        | nil => rfl
        | cons d R => exact absurd (show (0 : Int) < ((d :: R).length : Int) by simp) h1
      subst hF0
      have hfin : st = peelF P W H := by
        have := inv_stop (P := P) (W := W) (H := H) (j := j) (by rw [hst]; exact hFF) hinv
        rwa [hst] at this
      have hlen : st.2.length = j := by have := hinv.2; rwa [hst] at this
      simp only [go_sem, Nat.reduceMul, Int.reduceLT]
      refine (left7_Q _ _ _ n (n + 1) P st.1 (grS st.1) W H (by first | (simp only [go_sem]; done) | (simp only [go_sem, Nat.reduceBEq, Nat.reduceLT, Nat.reduceLeDiff, Nat.reduceAdd, Nat.reduceMul, Nat.reduceSub, Nat.reduceMod, Nat.reduceDiv, Nat.reduceEqDiff, Int.reduceToNat, reduceIte, reduceCtorEq, Int.reduceLE, Int.reduceLT, Int.reduceEq, Int.reduceNeg, Int.reduceAdd, Int.reduceSub, Int.reduceMul]; rfl)) (by omega) (by first | (simp only [go_sem, Nat.reduceLT]; done) | (simp only [go_sem, Nat.reduceBEq, Nat.reduceLT, Nat.reduceLeDiff, Nat.reduceAdd, Nat.reduceMul, Nat.reduceSub, Nat.reduceMod, Nat.reduceDiv, Nat.reduceEqDiff, Int.reduceToNat, reduceIte, reduceCtorEq, Int.reduceLE, Int.reduceLT, Int.reduceEq, Int.reduceNeg, Int.reduceAdd, Int.reduceSub, Int.reduceMul]; rfl)) (by omega) (grAt_grS _) hR hP hW hH).A ?_
      by_cases hl : 0 < leftN P st.1 W (H * W)
      · rw [peelR_6 hk (by rw [hWt, hHt, ← hfin]; exact hl)] at hK
        simp only [go_sem, Nat.reduceLT, Nat.reduceMul, show (0 : Int) < (leftN P st.1 W (H * W) : Int) by omega]
        exact fun hok' => hK _ _ _ (by omega) (by simp only [go_sem, HExt_cons]) hok' (⟨n + 4, 0, _, rfl, by omega, by omega, (by first | (simp only [go_sem]; done) | (simp only [go_sem]; rfl)), rfl, rfl, fun k hk => by simp at hk⟩)
      · rw [peelR_0 hk (by rw [hWt, hHt, ← hfin]; exact hl), hWt, hHt, ← hfin] at hK
        simp only [go_sem, Nat.reduceLT, show ¬ (0 : Int) < (leftN P st.1 W (H * W) : Int) by omega]
        subst hlen
        refine callA_false (back7_E _ _ _ (n + 2) _ st.2 _ (by first | (simp only [go_sem, Nat.reduceLT]; done) | (simp only [go_sem, Nat.reduceLT]; rfl)) (by omega) ⟨Nat.le_refl _, fun _ _ => rfl⟩ (by omega) _ fun cap5 => ?_)
        simp only [go_sem, Nat.reduceLT]
        exact fun hok' => hK _ _ _ (by omega) (by simp only [go_sem, HExt_cons]) hok' (⟨n + 4, cap5, _, rfl, by omega, by omega, (by first | (simp only [go_sem]; done) | (simp only [go_sem]; rfl)), rfl, rfl, fun _ _ => rfl⟩)
end
end Go.Proofs.YtcjgpkhdlobbbaaGreat.V

/- The cells to which one can go. -/
namespace Go.Proofs.YtcjgpkhdlobbbaaGreat.V
def addB (is : Int → Int → Bool) (out : List (Int × Int)) (q : Int × Int) : List (Int × Int) := if is q.1 q.2 = true ∧ q ∉ out then out ++ [q] else out
theorem addB_new {is : Int → Int → Bool} {out : List (Int × Int)} {q : Int × Int} (h1 : is q.1 q.2 = true) (h2 : q ∉ out) : addB is out q = out ++ [q] := if_pos ⟨h1, h2⟩
theorem addB_old {is : Int → Int → Bool} {out : List (Int × Int)} {q : Int × Int} (h : ¬ (is q.1 q.2 = true ∧ q ∉ out)) : addB is out q = out := if_neg h
/-- What is kept: cells of the sheet, each one once. -/
structure BOk (out : List (Int × Int)) : Prop where
  nd : out.Nodup
  in8 : In8s out
theorem BOk.len {out : List (Int × Int)} (h : BOk out) : out.length ≤ 64 := by
  have h1 : Strict (setL out) := setL_strict out
  have h2 := strict_len h1 h.in8.setL
  have h3 : setL out = srtS out := setL_eq (srtS_nodup h.nd) fun a => (srtS_perm out).mem_iff
  rw [h3] at h2
  exact Nat.le_trans (Nat.le_of_eq (srtS_perm out).length_eq.symm) h2
theorem BOk.add {is : Int → Int → Bool} (his : ∀ x y, is x y = true → In8 (x, y)) {out : List (Int × Int)} (h : BOk out) (q : Int × Int) : BOk (addB is out q) := by
  by_cases hq : is q.1 q.2 = true ∧ q ∉ out
  · rw [addB_new hq.1 hq.2]
    refine ⟨List.nodup_append.2 ⟨h.nd, by simp, fun a ha b hb => ?_⟩, fun p hp => ?_⟩
    · rw [List.mem_singleton] at hb; subst hb; exact fun e => hq.2 (e ▸ ha)
    · rcases List.mem_append.1 hp with hp | hp
      · exact h.in8 p hp
      · rw [List.mem_singleton] at hp; subst hp; exact his _ _ hq.1
  · rw [addB_old hq]; exact h
theorem BOk.one {p : Int × Int} (h : In8 p) : BOk [p] := ⟨by simp, fun q hq => by rw [List.mem_singleton] at hq; subst hq; exact h⟩
end Go.Proofs.YtcjgpkhdlobbbaaGreat.V

/- The library's heap sort over spots. -/
namespace Go.Proofs.YtcjgpkhdlobbbaaGreat.V
open Go.Sort (swp siftDown heapBuild heapPop heapSort)
section
variable (cx : Cx) (h : List (Nat × Seg)) (n : Nat)
end
end Go.Proofs.YtcjgpkhdlobbbaaGreat.V

/- The library's heap sort over spots. -/
namespace Go.Proofs.YtcjgpkhdlobbbaaGreat.V
open Go.Sort (swp siftDown heapBuild heapPop heapSort)
section
variable (cx : Cx) (h : List (Nat × Seg)) (n : Nat)
theorem Cmps.set {cx : Cx} {h : List (Nat × Seg)} {n i f p q : Nat} {G F : Nat → SV} {cI : Int × Int → Int × Int → Int} (hcmp : Cmps cx h n i f p q G F cI) (t : Seg) : Cmps cx (hset h i t) n i f p q G F cI :=
  fun a b nt n0 h' n' hn hb => hcmp a b nt n0 h' n' hn fun j hj hji u hu => hb j hj hji u (by rw [hget_hset, if_neg (Ne.symm hji)]; exact hu)
theorem Cmps.nt {cx : Cx} {h : List (Nat × Seg)} {n i f p q : Nat} {G F : Nat → SV} {cI : Int × Int → Int × Int → Int} (hcmp : Cmps cx h n i f p q G F cI) (t m : Nat) : Cmps ⟨cx.w0, cx.W, t, m⟩ h n i f p q G F cI :=
  fun a b nt n0 h' n' hn hb => hcmp a b nt n0 h' n' hn hb
end
end Go.Proofs.YtcjgpkhdlobbbaaGreat.V

/- The law's lists of spots that were made: compared, marked, looked at again. -/
namespace Go.Proofs.YtcjgpkhdlobbbaaGreat.V
/-- A list of spots that a call has made. -/
def SpsOut (h : List (Nat × Seg)) (lo n : Nat) (V : SV) (L : List (Int × Int)) : Prop :=
  (V = .nils ∧ L = []) ∨ ∃ i cap s, V = .sl i 0 L.length cap ∧ lo ≤ i ∧ i < n ∧ hget h i = some s ∧ s.rw = true ∧ s.n = L.length * 2 ∧ ∀ k, k < L.length * 2 → s.c k = spotsC L k
theorem SpsOut.ok {h : List (Nat × Seg)} {lo n : Nat} {V : SV} {L : List (Int × Int)} (hA : SpsOut h lo n V L) : V.ok = True := by
  rcases hA with ⟨rfl, rfl⟩ | ⟨i, cap, s, rfl, _⟩ <;> rfl
theorem SpsOut.mono {h h' : List (Nat × Seg)} {lo n n' : Nat} {V : SV} {L : List (Int × Int)} (hA : SpsOut h lo n V L) (hn : n ≤ n') (hx : ∀ i, lo ≤ i → i < n → ∀ t, hget h i = some t → hget h' i = some t) : SpsOut h' lo n' V L := by
  rcases hA with h1 | ⟨i, cap, s, rfl, h1, h2, h3, h4⟩
  · exact .inl h1
  · exact .inr ⟨i, cap, s, rfl, h1, by omega, hx i h1 h2 s h3, h4⟩
theorem SpsOut.ext {h h' : List (Nat × Seg)} {lo n n' : Nat} {V : SV} {L : List (Int × Int)} (hA : SpsOut h lo n V L) (hn : n ≤ n') (hx : HExt n h h') : SpsOut h' lo n' V L := hA.mono hn fun i _ hi => hx i hi
/-- Spots that were marked. -/
def SpsHeld (h : List (Nat × Seg)) (lo n : Nat) (V : SV) (len : Nat) : Prop :=
  (V = .nils ∧ len = 0) ∨ ∃ i cap s, V = .sl i 0 len cap ∧ lo ≤ i ∧ i < n ∧ hget h i = some s ∧ s.n = len * 2 ∧ ∀ k : Nat, k < len → s.c (k * 2) = .int .i8 (IntKind.i8.wrap (2 * (k : Int) + 1)) ∧ s.c (k * 2 + 1) = .int .i8 (IntKind.i8.wrap (2 * (k : Int) + 1 + 1))
theorem SpsHeld.ext {h h' : List (Nat × Seg)} {lo n n' : Nat} {V : SV} {len : Nat} (hA : SpsHeld h lo n V len) (hn : n ≤ n') (hx : HExt n h h') : SpsHeld h' lo n' V len := by
  rcases hA with h1 | ⟨i, cap, s, rfl, h1, h2, h3, h4⟩
  · exact .inl h1
  · exact .inr ⟨i, cap, s, rfl, h1, by omega, hx i h2 s h3, h4⟩
section
variable (cx : Cx) (h : List (Nat × Seg)) (n : Nat)
end
end Go.Proofs.YtcjgpkhdlobbbaaGreat.V

/- What is stained: the program's own walk. -/
namespace Go.Proofs.YtcjgpkhdlobbbaaGreat.V

section
variable (cx : Cx) (h : List (Nat × Seg)) (n : Nat)
end
end Go.Proofs.YtcjgpkhdlobbbaaGreat.V

/- StainOf by the program's own code: the walk. -/
namespace Go.Proofs.YtcjgpkhdlobbbaaGreat.V
section
variable (cx : Cx) (h : List (Nat × Seg)) (n : Nat)
def dropB (S : Sh) (x y ink amount water : Int) : Bool := hasB S x y && decide (0 ≤ ink ∧ ink ≤ 2) && decide (0 ≤ amount ∧ amount ≤ 1000) && decide (0 ≤ water ∧ water ≤ 200)
end
end Go.Proofs.YtcjgpkhdlobbbaaGreat.V

/- What is stained, by the reference: sums of dyes, running until nothing is given, cells with dye. -/
namespace Go.Proofs.YtcjgpkhdlobbbaaGreat.V
section
variable (cx : Cx) (h : List (Nat × Seg)) (n : Nat)
end
end Go.Proofs.YtcjgpkhdlobbbaaGreat.V

/- StainOf by the reference: the walk. -/
namespace Go.Proofs.YtcjgpkhdlobbbaaGreat.V
section
variable (cx : Cx) (h : List (Nat × Seg)) (n : Nat)
end
end Go.Proofs.YtcjgpkhdlobbbaaGreat.V

/- Plain laws of running: water and dye are kept, the squares of the water fall, so running stops. -/
namespace Go.Proofs.YtcjgpkhdlobbbaaGreat.V
/-- A sum over all places of what stands there. -/
def allS (f : Int → Int → Int) : Int := sumN (fun k => f ((k / 8 : Nat) : Int) ((k % 8 : Nat) : Int)) 64
def watS (S : Sh) : Int := allS S.wet
def sqS (S : Sh) : Int := allS fun y x => S.wet y x * S.wet y x
def dyeS (S : Sh) (i : Int) : Int := allS fun y x => S.dye y x i
section
variable {S : Sh} {fx fy tx ty : Int} (hG : Good S) (hfx : 0 ≤ fx) (hfx8 : fx < 8) (hfy : 0 ≤ fy) (hfy8 : fy < 8) (htx : 0 ≤ tx) (htx8 : tx < 8) (hty : 0 ≤ ty) (hty8 : ty < 8) (h2 : 2 ≤ S.wet fy fx - S.wet ty tx)
include hG hfx hfx8 hfy hfy8 htx htx8 hty hty8 h2
end
/-- Water and dyes are as they were; the squares of the water have fallen by two for each unit given. -/
structure Kept (a b : Sh × Int) : Prop where
  wat : watS b.1 = watS a.1
  dye : ∀ i, dyeS b.1 i = dyeS a.1 i
  sq : sqS b.1 + 2 * (b.2 - a.2) ≤ sqS a.1
  al : Alike' a.1 b.1
  out : ∀ y x, hasB a.1 x y = false → b.1.wet y x = a.1.wet y x ∧ ∀ i, b.1.dye y x i = a.1.dye y x i
theorem Kept.rfl' (a : Sh × Int) : Kept a a := ⟨rfl, fun _ => rfl, by omega, .refl _, fun _ _ _ => ⟨rfl, fun _ => rfl⟩⟩
theorem Kept.tr {a b c : Sh × Int} (h1 : Kept a b) (h2 : Kept b c) : Kept a c := ⟨h2.wat.trans h1.wat, fun i => (h2.dye i).trans (h1.dye i), by have := h1.sq; have := h2.sq; omega, h1.al.trans h2.al, fun y x h => by
  have e1 := h1.out y x h
  have e2 := h2.out y x (by rw [h1.al.hasB]; exact h)
  exact ⟨e2.1.trans e1.1, fun i => (e2.2 i).trans (e1.2 i)⟩⟩
end Go.Proofs.YtcjgpkhdlobbbaaGreat.V

/- PeelAll: the program's walk; its law: the walk. -/
namespace Go.Proofs.YtcjgpkhdlobbbaaGreat.V
theorem ptr_le {σ : Nat → Nat} {a n' : Nat} {s : Seg} (hn : s.n = 1) (hrw : s.rw = true) (hc : s.c 0 = .ptr a 0) (hσ : σ a = a) (ha : a < n') : SegLe σ n' s ⟨1, cl [.ptr a 0], true, none⟩ :=
  SegLe.mk' (by rw [hn]; exact Nat.le_refl _) (fun _ => hrw) (.inl rfl) (fun k hk => by
    have hk : k < 1 := hk
    obtain rfl : k = 0 := by omega
    rw [hc]
    show _ = ren σ (.ptr a 0)
    rw [ren_ptr, hσ]) fun k hk => by
    have hk : k < 1 := hk
    obtain rfl : k = 0 := by omega
    exact ha
theorem pel_new (i k : Nat) : upd zz_a5868c 0 (.ptr i 0) k = pelC (.ptr i 0) off k := by
  unfold upd pelC
  by_cases h : k = 0
  · rw [if_pos h, if_pos (by omega)]
  · rw [if_neg h, if_neg (by omega), zz_a5868c_eq, if_neg (by omega)]; rfl
section
variable (cx : Cx) (h : List (Nat × Seg)) (n : Nat)
theorem peelAll1_Q (iv g i : Nat) (P : Pc) (O : Gr) (x y k : Int) (hv : hget h iv = some ⟨1, cl [.ptr g 0], true, none⟩) (hvi : iv < n) (hg : hget h g = some (pelS i O)) (hgn : g < n) (hs : hget h i = some (pcS P)) (hi : i < n) (hR : PcR P) (hP : PcOk P) (hx : 0 ≤ x) (hx1 : x < P.wide) (hy : 0 ≤ y) (hy1 : y < P.high) (hk : 0 ≤ k ∧ k < 3) :
    CallQ Tryz.prog cx 28 [dropV x y k, .ptr iv 0] h n (.bool (lastP P O (x, y, k))) := by
  have e : lastP P O (x, y, k) = (okAll P O x y k && decide (0 < (opF P O x y).length)) := rfl
  rw [e]
  refine callQ_of_T (P := Tryz.prog) hti (nt := 13) (rs := [.tmp 3]) rfl rfl Tryz.call28 Tryz.func28 rfl _ (by simp only [go_sem, and_self]) (Nat.le_of_ble_eq_true rfl) _ (by first | exact trivial | (refine lt_flat rfl ?_; simp [SV.flat]; done) | simp only [go_sem]) fun hok => ?_
  simp only [go_sem, Nat.reduceLT, hv, hvi]
  refine callA_false (can_E _ _ _ i g P O x y k (pelS i O) (by first | (simp only [go_sem, hs, hi]; done) | (simp only [go_sem, Nat.reduceBEq, Nat.reduceLT, Nat.reduceLeDiff, Nat.reduceAdd, Nat.reduceMul, Nat.reduceSub, Nat.reduceMod, Nat.reduceDiv, Nat.reduceEqDiff, Int.reduceToNat, reduceIte, reduceCtorEq, Int.reduceLE, Int.reduceLT, Int.reduceEq, Int.reduceNeg, Int.reduceAdd, Int.reduceSub, Int.reduceMul, hs, hi]; rfl)) (by omega) (by first | (simp only [go_sem, hg, hgn]; done) | (simp only [go_sem, Nat.reduceBEq, Nat.reduceLT, Nat.reduceLeDiff, Nat.reduceAdd, Nat.reduceMul, Nat.reduceSub, Nat.reduceMod, Nat.reduceDiv, Nat.reduceEqDiff, Int.reduceToNat, reduceIte, reduceCtorEq, Int.reduceLE, Int.reduceLT, Int.reduceEq, Int.reduceNeg, Int.reduceAdd, Int.reduceSub, Int.reduceMul, hg, hgn]; rfl)) (by omega) (pelAt_pelS _ _) hR hP hx hx1 hy hy1 hk _ (fun ha => ?_) (fun ha cap => ?_))
  · simp only [go_sem, Nat.reduceLT, ha, Bool.false_and]
  · simp only [go_sem, Nat.reduceLT, ha, Bool.true_and]
set_option maxHeartbeats 1600000 in
theorem peelAll_E (P : Pc) (hR : PcR P) (K : HK)
    (hK : ∀ V h' n', n ≤ n' → HExt n h h' → HOk n' h' → DrOut h' n n' V (peelR P).1 → K (.tup 2 (cl [V, .int .i64 (peelR P).2])) h' n') :
    CallE Tryz.prog cx 6 [.agg 66 (pcC P)] h n K := by
  refine CallE.hokE ?_
  refine callE_of_T (P := Tryz.prog) hti (nt := 46) (rs := [.tmp 2, .tmp 3]) rfl rfl Tryz.call6 Tryz.func6 rfl _ (by simp only [go_sem, and_self]) (Nat.le_of_ble_eq_true rfl) _ fun hok => ?_
  simp only [go_sem, Nat.reduceLT]
  refine (codePc_Q _ _ _ n P (by first | (simp only [go_sem]; done) | (simp only [go_sem, Nat.reduceBEq, Nat.reduceLT, Nat.reduceLeDiff, Nat.reduceAdd, Nat.reduceMul, Nat.reduceSub, Nat.reduceMod, Nat.reduceDiv, Nat.reduceEqDiff, Int.reduceToNat, reduceIte, reduceCtorEq, Int.reduceLE, Int.reduceLT, Int.reduceEq, Int.reduceNeg, Int.reduceAdd, Int.reduceSub, Int.reduceMul]; rfl)) (by omega) hR true).A ?_
  by_cases hk : pcokB P = true
  rotate_left
  · rw [peelR_1 hk] at hK
    have e : codePc P true = 1 := by unfold codePc; simp [hk]
    simp only [go_sem, Nat.reduceLT, Int.reduceEq, e]
    exact fun hok' => hK _ _ _ (by omega) (by simp only [go_sem, HExt_cons]) hok' (.inl ⟨rfl, rfl⟩)
  have e : codePc P true = 0 := by unfold codePc; simp [hk]
  have hP : PcOk P := by simpa [pcokB] using hk
  have hs8 := hP.1
  obtain ⟨W, hW⟩ : ∃ W : Nat, P.wide = W := ⟨P.wide.toNat, by omega⟩
  obtain ⟨H, hH⟩ : ∃ H : Nat, P.high = H := ⟨P.high.toNat, by omega⟩
  have hW8 : W ≤ 8 := by omega
  have hH8 : H ≤ 8 := by omega
  have hWt : P.wide.toNat = W := by omega
  have hHt : P.high.toNat = H := by omega
  have hle := dropsL_le hP
  rw [hWt, hHt] at hle
  have hDl := dropsL_len W H
  simp only [go_sem, Nat.reduceLT, Nat.reduceLeDiff, Nat.reduceMul, reduceIte, e]
  refine T_lp (ι := { q : Nat × Nat // (PeelInv P W H q.1 ∧ q.1 ≤ 64) ∧ q.1 ≤ q.2 ∧ q.2 ≤ maxLen })
    (fun q => ([(1, .ptr n 0), (5, .ptr (n + 3) 0), (6, .sl (n + 2) 0 q.1.1 q.1.2)],
      (n + 3, ⟨1, cl [.ptr (n + 1) 0], true, none⟩) ::
      (n + 2, ⟨q.1.1 * 3, dropsC (peelIt P W H q.1.1).2, true, some (48, q.1.2 * 3)⟩) ::
      (n + 1, pelS n (peelIt P W H q.1.1).1) :: (n, pcS P) :: h, n + 4)) (fun q => 64 - q.1.1) ⟨(0, 0), ⟨inv_0 P W H, by simp⟩, Nat.le_refl 0, Nat.zero_le _⟩ ?_ ?_
  · refine Imp.id (by simp) ?_ ?_
    · simp only [go_sem, Nat.reduceLT]
      (repeat' apply And.intro) <;> first | omega | rfl | trivial | assumption | skip
    · exact impH.cons0 (hget_hit _ _ _) (by simp) (ptr_le (a := n + 1) (n' := n + 4) rfl rfl rfl rfl (by omega)) (impH.cons0 (s := ⟨0, zrow (ti 48), true, some (48, 0)⟩) (by first | (simp only [go_sem, Nat.reduceLT]; done) | (simp only [go_sem, Nat.reduceBEq, Nat.reduceLT, Nat.reduceLeDiff, Nat.reduceAdd, Nat.reduceMul, Nat.reduceSub, Nat.reduceMod, Nat.reduceDiv, Nat.reduceEqDiff, Int.reduceToNat, reduceIte, reduceCtorEq, Int.reduceLE, Int.reduceLT, Int.reduceEq, Int.reduceNeg, Int.reduceAdd, Int.reduceSub, Int.reduceMul]; rfl)) (by simp) (SegLe.flat (by simp) id (.inr (by simp)) fun k hk => by simp at hk) (impH.cons0 (s := ⟨65, upd zz_a5868c 0 (.ptr n 0), true, none⟩) (by first | (simp only [go_sem, Nat.reduceLT]; done) | (simp only [go_sem, Nat.reduceBEq, Nat.reduceLT, Nat.reduceLeDiff, Nat.reduceAdd, Nat.reduceMul, Nat.reduceSub, Nat.reduceMod, Nat.reduceDiv, Nat.reduceEqDiff, Int.reduceToNat, reduceIte, reduceCtorEq, Int.reduceLE, Int.reduceLT, Int.reduceEq, Int.reduceNeg, Int.reduceAdd, Int.reduceSub, Int.reduceMul]; rfl)) (by simp) (pel_le (i := n) (n' := n + 4) rfl rfl (fun k _ => pel_new n k) rfl (by omega)) (impH.cons0 (by first | (simp only [go_sem]; done) | (simp only [go_sem, Nat.reduceBEq, Nat.reduceLT, Nat.reduceLeDiff, Nat.reduceAdd, Nat.reduceMul, Nat.reduceSub, Nat.reduceMod, Nat.reduceDiv, Nat.reduceEqDiff, Int.reduceToNat, reduceIte, reduceCtorEq, Int.reduceLE, Int.reduceLT, Int.reduceEq, Int.reduceNeg, Int.reduceAdd, Int.reduceSub, Int.reduceMul]; rfl)) (by simp) (SegLe.flat (Nat.le_refl _) id (.inr rfl) fun k hk => ⟨rfl, pcC_flat _ _⟩) (impH.base0 hok (by simp) (by simp only [go_sem, HExt_cons])))))
  · rintro ⟨⟨j, cap1⟩, ⟨hinv, hj64⟩, hcap, hmx⟩
    simp only at hinv hj64 hcap hmx
    generalize hst : peelIt P W H j = st at *
    have hlen : st.2.length = j := by have := hinv.2; rwa [hst] at this
    simp only [go_sem, Nat.reduceLT, decide_eq_true_eq, decide_eq_false_iff_not]
    refine callA_false (drops7_E _ _ _ n P W H (by first | (simp only [go_sem]; done) | (simp only [go_sem, Nat.reduceBEq, Nat.reduceLT, Nat.reduceLeDiff, Nat.reduceAdd, Nat.reduceMul, Nat.reduceSub, Nat.reduceMod, Nat.reduceDiv, Nat.reduceEqDiff, Int.reduceToNat, reduceIte, reduceCtorEq, Int.reduceLE, Int.reduceLT, Int.reduceEq, Int.reduceNeg, Int.reduceAdd, Int.reduceSub, Int.reduceMul]; rfl)) (by omega) hR hP hW hH _ fun capL hcapL => ?_)
    obtain ⟨r, hr0, hr1⟩ := fst_ex (fun q => lastP P st.1 ((dropsL W H).getD q (0, 0, 0))) (dropsL W H).length
    have hdin := fun q (hq : q < (dropsL W H).length) => dropsL_in (W := W) (H := H) (j := q) (by rw [← hDl]; exact hq) hW8 hH8
    simp only [go_sem, Nat.reduceLT]
    refine (indexDr_Q _ _ _ (n + 4) capL (dropsL W H) _ _ 0 1 (cl []) (cl [.ptr (n + 3) 0]) (fun q => lastP P st.1 ((dropsL W H).getD q (0, 0, 0))) r (by first | (simp only [go_sem]; done) | (simp only [go_sem]; rfl)) (by omega) (by omega) ⟨Nat.le_refl _, fun _ _ => rfl⟩
      (fn_lt (xs := []) (ys := [.ptr (n + 3) 0]) (fun v hv => by cases hv) (fun v hv => by simp at hv; subst hv; show n + 3 < _; omega)) hr0 hr1
      (fun q hq nt n0 => by
        obtain ⟨a1, a2, a3⟩ := hdin q hq
        exact peelAll1_Q _ _ _ (n + 3) (n + 1) n P st.1 _ _ _ (by first | (simp only [go_sem, Nat.reduceLT]; done) | (simp only [go_sem, Nat.reduceBEq, Nat.reduceLT, Nat.reduceLeDiff, Nat.reduceAdd, Nat.reduceMul, Nat.reduceSub, Nat.reduceMod, Nat.reduceDiv, Nat.reduceEqDiff, Int.reduceToNat, reduceIte, reduceCtorEq, Int.reduceLE, Int.reduceLT, Int.reduceEq, Int.reduceNeg, Int.reduceAdd, Int.reduceSub, Int.reduceMul]; rfl)) (by omega) (by first | (simp only [go_sem, Nat.reduceLT]; done) | (simp only [go_sem, Nat.reduceBEq, Nat.reduceLT, Nat.reduceLeDiff, Nat.reduceAdd, Nat.reduceMul, Nat.reduceSub, Nat.reduceMod, Nat.reduceDiv, Nat.reduceEqDiff, Int.reduceToNat, reduceIte, reduceCtorEq, Int.reduceLE, Int.reduceLT, Int.reduceEq, Int.reduceNeg, Int.reduceAdd, Int.reduceSub, Int.reduceMul]; rfl)) (by omega) (by first | (simp only [go_sem]; done) | (simp only [go_sem, Nat.reduceBEq, Nat.reduceLT, Nat.reduceLeDiff, Nat.reduceAdd, Nat.reduceMul, Nat.reduceSub, Nat.reduceMod, Nat.reduceDiv, Nat.reduceEqDiff, Int.reduceToNat, reduceIte, reduceCtorEq, Int.reduceLE, Int.reduceLT, Int.reduceEq, Int.reduceNeg, Int.reduceAdd, Int.reduceSub, Int.reduceMul]; rfl)) (by omega) hR hP a1.1 (by omega) a2.1 (by omega) a3)).A ?_
    by_cases hrr : r = -1
    · have hF0 : frontL P W H st.1 = [] := front_none (hr0 hrr)
      have hfin : st = peelF P W H := by
        have := inv_stop (P := P) (W := W) (H := H) (j := j) (by rw [hst]; exact hF0) hinv
        rwa [hst] at this
      subst hrr
      simp only [go_sem, Nat.reduceLT, Int.reduceLT, Int.reduceNeg]
      refine (leftP_Q _ _ _ n (n + 1) P st.1 (pelS n st.1) W H (by first | (simp only [go_sem]; done) | (simp only [go_sem, Nat.reduceBEq, Nat.reduceLT, Nat.reduceLeDiff, Nat.reduceAdd, Nat.reduceMul, Nat.reduceSub, Nat.reduceMod, Nat.reduceDiv, Nat.reduceEqDiff, Int.reduceToNat, reduceIte, reduceCtorEq, Int.reduceLE, Int.reduceLT, Int.reduceEq, Int.reduceNeg, Int.reduceAdd, Int.reduceSub, Int.reduceMul]; rfl)) (by omega) (by first | (simp only [go_sem, Nat.reduceLT]; done) | (simp only [go_sem, Nat.reduceBEq, Nat.reduceLT, Nat.reduceLeDiff, Nat.reduceAdd, Nat.reduceMul, Nat.reduceSub, Nat.reduceMod, Nat.reduceDiv, Nat.reduceEqDiff, Int.reduceToNat, reduceIte, reduceCtorEq, Int.reduceLE, Int.reduceLT, Int.reduceEq, Int.reduceNeg, Int.reduceAdd, Int.reduceSub, Int.reduceMul]; rfl)) (by omega) (pelAt_pelS _ _) hR hP hW hH).A ?_
      by_cases hl : 0 < leftN P st.1 W (H * W)
      · rw [peelR_6 hk (by rw [hWt, hHt, ← hfin]; exact hl)] at hK
        simp only [go_sem, Nat.reduceLT, Int.reduceNeg, show (0 : Int) < (leftN P st.1 W (H * W) : Int) by omega]
        exact fun hok' => hK _ _ _ (by omega) (by simp only [go_sem, HExt_cons]) hok' (.inl ⟨rfl, rfl⟩)
      · rw [peelR_0 hk (by rw [hWt, hHt, ← hfin]; exact hl), hWt, hHt, ← hfin] at hK
        simp only [go_sem, Nat.reduceLT, Int.reduceNeg, show ¬ (0 : Int) < (leftN P st.1 W (H * W) : Int) by omega]
        subst hlen
        refine callA_false (reverseDr_E _ _ _ (n + 2) _ st.2 _ (by first | (simp only [go_sem, Nat.reduceLT]; done) | (simp only [go_sem, Nat.reduceLT]; rfl)) (by omega) (by omega) _ ?_)
        simp only [go_sem, Nat.reduceLT, Int.reduceNeg]
        have hrl : st.2.reverse.length = st.2.length := List.length_reverse
        exact fun hok' => hK _ _ _ (by omega) (by simp only [go_sem, HExt_cons]) hok' (.inr ⟨n + 2, cap1, _, by rw [hrl], by omega, by omega, (by first | (simp only [go_sem, Nat.reduceLT]; done) | (simp only [go_sem, Nat.reduceLT]; rfl)), rfl, by rw [hrl], fun _ _ => rfl⟩)
    · obtain ⟨q0, q1, q2, q3⟩ := hr1 hrr
      obtain ⟨rn, rfl⟩ : ∃ rn : Nat, r = rn := ⟨r.toNat, by omega⟩
      rw [Int.toNat_natCast] at q2
      have hrn : rn < (dropsL W H).length := by omega
      obtain ⟨R, hF⟩ := front_at (P := P) (W := W) (H := H) (O := st.1) hrn q2 (fun j hj => q3 j (by omega))
      obtain ⟨a1, a2, a3⟩ := hdin rn hrn
      have hinv' : PeelInv P W H (j + 1) := inv_succ hP (by rw [hst]; exact hF) hinv
      have hj1 : j + 1 ≤ 64 := by have := hinv'.1; omega
      have hnx := peel_some (P := P) (W := W) (H := H) (j := j) (by rw [hst]; exact hF)
      rw [hst] at hnx
      have f0 := dropsC_0 (dropsL W H) rn
      have f1 := dropsC_1 (dropsL W H) rn
      have f2 := dropsC_2 (dropsL W H) rn
      have r1 : (0 : Int) ≤ rn ∧ (rn : Int) < (dropsL W H).length := ⟨by omega, by omega⟩
      have b1 : rn * 3 ≤ (dropsL W H).length * 3 - 3 := by omega
      have b3 : 3 ≤ (dropsL W H).length * 3 := by omega
      have b6 : rn * 3 + 3 ≤ (dropsL W H).length * 3 := by omega
      generalize hdd : (dropsL W H).getD rn (0, 0, 0) = d at *
      have hok1 : okAll P st.1 d.1 d.2.1 d.2.2 = true := by
        have : (okAll P st.1 d.1 d.2.1 d.2.2 && decide (0 < (opF P st.1 d.1 d.2.1).length)) = true := q2
        rw [Bool.and_eq_true] at this
        exact this.1
      simp only [go_sem, Nat.reduceLT, show ¬ ((rn : Int) < 0) by omega]
      refine callA_false (drops7_E _ _ _ n P W H (by first | (simp only [go_sem]; done) | (simp only [go_sem, Nat.reduceBEq, Nat.reduceLT, Nat.reduceLeDiff, Nat.reduceAdd, Nat.reduceMul, Nat.reduceSub, Nat.reduceMod, Nat.reduceDiv, Nat.reduceEqDiff, Int.reduceToNat, reduceIte, reduceCtorEq, Int.reduceLE, Int.reduceLT, Int.reduceEq, Int.reduceNeg, Int.reduceAdd, Int.reduceSub, Int.reduceMul]; rfl)) (by omega) hR hP hW hH _ fun capL2 _ => ?_)
      simp only [go_sem, Nat.reduceLT, reduceIte, r1, b1, b3, b6, f0, f1, f2]
      refine callA_false (can_E _ _ _ n (n + 1) P st.1 d.1 d.2.1 d.2.2 (pelS n st.1) (by first | (simp only [go_sem]; done) | (simp only [go_sem, Nat.reduceBEq, Nat.reduceLT, Nat.reduceLeDiff, Nat.reduceAdd, Nat.reduceMul, Nat.reduceSub, Nat.reduceMod, Nat.reduceDiv, Nat.reduceEqDiff, Int.reduceToNat, reduceIte, reduceCtorEq, Int.reduceLE, Int.reduceLT, Int.reduceEq, Int.reduceNeg, Int.reduceAdd, Int.reduceSub, Int.reduceMul]; rfl)) (by omega) (by first | (simp only [go_sem, Nat.reduceLT]; done) | (simp only [go_sem, Nat.reduceBEq, Nat.reduceLT, Nat.reduceLeDiff, Nat.reduceAdd, Nat.reduceMul, Nat.reduceSub, Nat.reduceMod, Nat.reduceDiv, Nat.reduceEqDiff, Int.reduceToNat, reduceIte, reduceCtorEq, Int.reduceLE, Int.reduceLT, Int.reduceEq, Int.reduceNeg, Int.reduceAdd, Int.reduceSub, Int.reduceMul]; rfl)) (by omega) (pelAt_pelS _ _) hR hP a1.1 (by omega) a2.1 (by omega) a3 _ (fun ha => ?_) (fun ha cap4 => ?_))
      · rw [ha] at hok1; cases hok1
      have hl5 := opF_len P st.1 d.1 d.2.1
      simp only [go_sem, Nat.reduceLT]
      refine callA_false (mark7_E _ _ _ n (n + 1) (n + 7) cap4 st.1 (opF P st.1 d.1 d.2.1) _ (by omega) (by first | (simp only [go_sem, Nat.reduceLT]; done) | (simp only [go_sem, Nat.reduceBEq, Nat.reduceLT, Nat.reduceLeDiff, Nat.reduceAdd, Nat.reduceMul, Nat.reduceSub, Nat.reduceMod, Nat.reduceDiv, Nat.reduceEqDiff, Int.reduceToNat, reduceIte, reduceCtorEq, Int.reduceLE, Int.reduceLT, Int.reduceEq, Int.reduceNeg, Int.reduceAdd, Int.reduceSub, Int.reduceMul]; rfl)) (by omega) (by first | (simp only [go_sem]; done) | (simp only [go_sem]; rfl)) (by omega) (by omega) ⟨Nat.le_refl _, fun _ _ => rfl⟩ (by omega) (fun q hq => by
        have hm : (opF P st.1 d.1 d.2.1).getD q (0, 0) ∈ opF P st.1 d.1 d.2.1 := by rw [List.getD_eq_getElem?_getD, List.getElem?_eq_getElem hq]; exact List.getElem_mem hq
        have := covL_in (List.mem_filter.1 hm).1
        omega) _ ?_)
      have hob : openBy st.1 (opF P st.1 d.1 d.2.1) = openBy st.1 (covL P.wide P.high d.1 d.2.1) := openBy_filter _ _
      rw [hob]
      have hd2 : hdel h (n + 2) = h := hok.del (by omega)
      simp only [go_sem, Nat.reduceLT, Nat.reduceLeDiff, Nat.reduceMul, Nat.reduceSub, Nat.reduceMod, reduceIte, hd2]
      refine ⟨⟨hcap, hmx, by omega⟩, fun cap' h3 h4 => ?_⟩
      refine ⟨⟨(j + 1, cap'), ⟨hinv', hj1⟩, h3, h4⟩, by show 64 - (j + 1) < 64 - j; omega, ?_⟩
      refine Imp.of1 (n + 2) (n + 9) (by simp) (by omega) (by simp) ?_ ?_
      · simp only [go_sem, Nat.reduceLT, hnx]
        (repeat' apply And.intro) <;> first | omega | rfl | trivial | assumption | skip
      · simp only [hnx]
        refine impH.cons2 (by first | (simp only [go_sem, Nat.reduceLT]; done) | (simp only [go_sem, Nat.reduceLT]; rfl)) (by simp) (by omega) (ptr_le (a := n + 1) (n' := n + 4) rfl rfl rfl (by simp only [go_sem, Nat.reduceLT]) (by omega)) (impH.cons1 (hget_hit _ _ _) (by simp) (SegLe.flat (Nat.le_refl _) id (.inr rfl) fun z hz => ⟨?_, dropsC_flat _ _⟩) (impH.cons2 (s := pelS n (openBy st.1 (covL P.wide P.high d.1 d.2.1))) (by first | (simp only [go_sem, Nat.reduceLT]; done) | (simp only [go_sem, Nat.reduceBEq, Nat.reduceLT, Nat.reduceLeDiff, Nat.reduceAdd, Nat.reduceMul, Nat.reduceSub, Nat.reduceMod, Nat.reduceDiv, Nat.reduceEqDiff, Int.reduceToNat, reduceIte, reduceCtorEq, Int.reduceLE, Int.reduceLT, Int.reduceEq, Int.reduceNeg, Int.reduceAdd, Int.reduceSub, Int.reduceMul]; rfl)) (by simp) (by omega) (pel_le (i := n) (n' := n + 4) rfl rfl (fun k _ => rfl) (by simp only [go_sem]) (by omega)) (impH.cons2 (by first | (simp only [go_sem]; done) | (simp only [go_sem, Nat.reduceBEq, Nat.reduceLT, Nat.reduceLeDiff, Nat.reduceAdd, Nat.reduceMul, Nat.reduceSub, Nat.reduceMod, Nat.reduceDiv, Nat.reduceEqDiff, Int.reduceToNat, reduceIte, reduceCtorEq, Int.reduceLE, Int.reduceLT, Int.reduceEq, Int.reduceNeg, Int.reduceAdd, Int.reduceSub, Int.reduceMul]; rfl)) (by simp) (by omega) (SegLe.flat (Nat.le_refl _) id (.inr rfl) fun k hk => ⟨rfl, pcC_flat _ _⟩) (impH.base1 hok (by omega) (by omega) (by simp only [go_sem, HExt_cons])))))
        have hz : z < (j + 1) * 3 := hz
        rw [← hlen] at hz ⊢
        exact both_drop _ _ _ rfl rfl rfl hz
end
end Go.Proofs.YtcjgpkhdlobbbaaGreat.V

/- The search for the fewest drops: memory. -/
namespace Go.Proofs.YtcjgpkhdlobbbaaGreat.V
/-- A slice that holds drops. -/
def DrRes (h : List (Nat × Seg)) (no n : Nat) (V : SV) (L : List Dr) : Prop := ∃ i cap s, V = .sl i 0 L.length cap ∧ i < n ∧ i ≠ no ∧ hget h i = some s ∧ DrAt s L
def sgS (ip most t : Nat) (b : Bool) : Seg := ⟨4, cl [.ptr ip 0, .int .i64 most, .int .i64 t, .bool b], true, none⟩
@[go_sem] theorem sgS_eq (ip most t : Nat) (b : Bool) : sgS ip most t b = ⟨4, cl [.ptr ip 0, .int .i64 most, .int .i64 t, .bool b], true, none⟩ := rfl
theorem sg_le {σ : Nat → Nat} {ip n' most t : Nat} {b : Bool} {s : Seg} (hn : s.n = 4) (hrw : s.rw = true) (h0 : s.c 0 = .ptr ip 0) (h1 : s.c 1 = .int .i64 most) (h2 : s.c 2 = .int .i64 t) (h3 : s.c 3 = .bool b) (hσ : σ ip = ip) (hi : ip < n') : SegLe σ n' s (sgS ip most t b) :=
  SegLe.mk' (by rw [hn]; exact Nat.le_refl _) (fun _ => hrw) (.inl rfl) (fun k hk => by
    have hk : k < 4 := hk
    rcases (by omega : k = 0 ∨ k = 1 ∨ k = 2 ∨ k = 3) with rfl | rfl | rfl | rfl
    · rw [h0]; show _ = ren σ (.ptr ip 0); rw [ren_ptr, hσ]
    · exact h1
    · exact h2
    · exact h3) fun k hk => by
    have hk : k < 4 := hk
    rcases (by omega : k = 0 ∨ k = 1 ∨ k = 2 ∨ k = 3) with rfl | rfl | rfl | rfl
    · exact hi
    · trivial
    · trivial
    · trivial
theorem sg_lt {ip n most t : Nat} {b : Bool} (hi : ip < n) (k : Nat) (hk : k < 4) : ((sgS ip most t b).c k).lt n := by
  rcases (by omega : k = 0 ∨ k = 1 ∨ k = 2 ∨ k = 3) with rfl | rfl | rfl | rfl
  · exact hi
  · trivial
  · trivial
  · trivial
end Go.Proofs.YtcjgpkhdlobbbaaGreat.V

/- The reference's search: the walk. -/
namespace Go.Proofs.YtcjgpkhdlobbbaaGreat.V
set_option maxHeartbeats 3200000 in
theorem from_E (P : Pc) (W H most : Nat) (hR : PcR P) (hP : PcOk P) (hW : P.wide = W) (hH : P.high = H) (hmost : most ≤ 20000) : ∀ (m : Nat) (cx : Cx) (h : List (Nat × Seg)) (n sg ip j cap : Nat) (O : Gr) (t : Nat) (so : List Dr) (s : Seg)
    (hs : hget h sg = some (sgS ip most t false)) (hsn : sg < n) (hp : hget h ip = some (pcS P)) (hpn : ip < n) (hsp : ip ≠ sg) (hl : hget h j = some s) (hjn : j < n) (hjs : j ≠ sg) (hD : DrAt s so) (hm9 : so.length + m ≤ 100) (ht : t ≤ most) (K : HK)
    (hK : ∀ V h' n', n ≤ n' → HBut sg n h h' → HOk n' h' → hget h' sg = some (sgS ip most (srch P W H most m O t).2.1 (srch P W H most m O t).2.2) → V.ok = True → V.lt n' → (∀ X, (srch P W H most m O t).1 = some X → DrRes h' sg n' V (so ++ X)) → K (.tup 2 (cl [V, .bool (srch P W H most m O t).1.isSome])) h' n'),
    CallE Tryz.prog cx 46 [.ptr sg 0, .agg 64 (gridC O), .int .i64 m, .sl j 0 so.length cap] h n K := by
  intro m
  induction m with
  | zero =>
    intro cx h n sg ip j cap O t so s hs hsn hp hpn hsp hl hjn hjs hD hm9 ht K hK
    have hs8 := hP.1
    have hW8 : W ≤ 8 := by omega
    have hH8 : H ≤ 8 := by omega
    have hm64 : H * W ≤ 8 * 8 := Nat.mul_le_mul hH8 hW8
    have hll := leftN_le P O W (H * W)
    refine CallE.hokE ?_
    refine callE_of_T (P := Tryz.prog) hti (nt := 98) (rs := [.tmp 8, .tmp 9]) rfl rfl Tryz.call46 Tryz.func46 rfl _ (by simp only [go_sem, and_self]) (Nat.le_of_ble_eq_true rfl) _ fun hok => ?_
    simp only [go_sem, Nat.reduceLT, Nat.reduceLeDiff, reduceCtorEq, hs, hsn]
    refine (left7_Q _ _ _ ip n P O _ W H (by first | (simp only [go_sem, hp, hpn]; done) | (simp only [go_sem, Nat.reduceBEq, Nat.reduceLT, Nat.reduceLeDiff, Nat.reduceAdd, Nat.reduceMul, Nat.reduceSub, Nat.reduceMod, Nat.reduceDiv, Nat.reduceEqDiff, Int.reduceToNat, reduceIte, reduceCtorEq, Int.reduceLE, Int.reduceLT, Int.reduceEq, Int.reduceNeg, Int.reduceAdd, Int.reduceSub, Int.reduceMul, hp, hpn]; rfl)) (by omega) (by first | (simp only [go_sem]; done) | (simp only [go_sem]; rfl)) (by omega) ⟨rfl, fun _ _ => rfl⟩ hR hP hW hH).A ?_
    by_cases h0 : leftN P O W (H * W) = 0
    · rw [srch_0 h0] at hK
      simp only [go_sem, Nat.reduceLT, h0, Int.natCast_zero]
      refine fun hok' => hK _ _ _ (by omega) (by intro i hi hne t ht; simp only [go_sem, ht, hi]) hok' (by first | (simp only [go_sem, hs, hsn]; done) | (simp only [go_sem, Nat.reduceBEq, Nat.reduceLT, Nat.reduceLeDiff, Nat.reduceAdd, Nat.reduceMul, Nat.reduceSub, Nat.reduceMod, Nat.reduceDiv, Nat.reduceEqDiff, Int.reduceToNat, reduceIte, reduceCtorEq, Int.reduceLE, Int.reduceLT, Int.reduceEq, Int.reduceNeg, Int.reduceAdd, Int.reduceSub, Int.reduceMul, hs, hsn]; rfl)) (by simp only [go_sem]) (by simp only [go_sem, hjn]) fun X hX => ?_
      cases hX
      rw [List.append_nil]
      exact ⟨j, cap, s, rfl, by omega, hjs, (by first | (simp only [go_sem, hl, hjn]; done) | (simp only [go_sem, Nat.reduceBEq, Nat.reduceLT, Nat.reduceLeDiff, Nat.reduceAdd, Nat.reduceMul, Nat.reduceSub, Nat.reduceMod, Nat.reduceDiv, Nat.reduceEqDiff, Int.reduceToNat, reduceIte, reduceCtorEq, Int.reduceLE, Int.reduceLT, Int.reduceEq, Int.reduceNeg, Int.reduceAdd, Int.reduceSub, Int.reduceMul, hl, hjn]; rfl)), hD⟩
    have h0' : ¬ ((leftN P O W (H * W) : Int) = 0) := by omega
    rw [srch_far h0 (by omega)] at hK
    simp only [go_sem, Nat.reduceLT, h0', w64 (n := 5 * (0 : Int)) (by omega), Int.natCast_zero, Int.mul_zero, w64 (n := (0 : Int)) (by omega), show ((0 : Int) < (leftN P O W (H * W) : Int)) by omega]
    exact fun hok' => hK _ _ _ (by omega) (by intro i hi hne t ht; simp only [go_sem, ht, hi]) hok' (by first | (simp only [go_sem, hs, hsn]; done) | (simp only [go_sem, Nat.reduceBEq, Nat.reduceLT, Nat.reduceLeDiff, Nat.reduceAdd, Nat.reduceMul, Nat.reduceSub, Nat.reduceMod, Nat.reduceDiv, Nat.reduceEqDiff, Int.reduceToNat, reduceIte, reduceCtorEq, Int.reduceLE, Int.reduceLT, Int.reduceEq, Int.reduceNeg, Int.reduceAdd, Int.reduceSub, Int.reduceMul, hs, hsn]; rfl)) (by simp only [go_sem]) (by simp only [go_sem, hjn]) fun X hX => by cases hX
  | succ m ih =>
    intro cx h n sg ip j cap O t so s hs hsn hp hpn hsp hl hjn hjs hD hm9 ht K hK
    have hs8 := hP.1
    have hW8 : W ≤ 8 := by omega
    have hH8 : H ≤ 8 := by omega
    have hm64 : H * W ≤ 8 * 8 := Nat.mul_le_mul hH8 hW8
    have hll := leftN_le P O W (H * W)
    refine CallE.hokE ?_
    refine callE_of_T (P := Tryz.prog) hti (nt := 98) (rs := [.tmp 8, .tmp 9]) rfl rfl Tryz.call46 Tryz.func46 rfl _ (by simp only [go_sem, and_self]) (Nat.le_of_ble_eq_true rfl) _ fun hok => ?_
    simp only [go_sem, Nat.reduceLT, Nat.reduceLeDiff, reduceCtorEq, hs, hsn]
    refine (left7_Q _ _ _ ip n P O _ W H (by first | (simp only [go_sem, hp, hpn]; done) | (simp only [go_sem, Nat.reduceBEq, Nat.reduceLT, Nat.reduceLeDiff, Nat.reduceAdd, Nat.reduceMul, Nat.reduceSub, Nat.reduceMod, Nat.reduceDiv, Nat.reduceEqDiff, Int.reduceToNat, reduceIte, reduceCtorEq, Int.reduceLE, Int.reduceLT, Int.reduceEq, Int.reduceNeg, Int.reduceAdd, Int.reduceSub, Int.reduceMul, hp, hpn]; rfl)) (by omega) (by first | (simp only [go_sem]; done) | (simp only [go_sem]; rfl)) (by omega) ⟨rfl, fun _ _ => rfl⟩ hR hP hW hH).A ?_
    by_cases h0 : leftN P O W (H * W) = 0
    · rw [srch_0 h0] at hK
      simp only [go_sem, Nat.reduceLT, h0, Int.natCast_zero]
      refine fun hok' => hK _ _ _ (by omega) (by intro i hi hne t ht; simp only [go_sem, ht, hi]) hok' (by first | (simp only [go_sem, hs, hsn]; done) | (simp only [go_sem, Nat.reduceBEq, Nat.reduceLT, Nat.reduceLeDiff, Nat.reduceAdd, Nat.reduceMul, Nat.reduceSub, Nat.reduceMod, Nat.reduceDiv, Nat.reduceEqDiff, Int.reduceToNat, reduceIte, reduceCtorEq, Int.reduceLE, Int.reduceLT, Int.reduceEq, Int.reduceNeg, Int.reduceAdd, Int.reduceSub, Int.reduceMul, hs, hsn]; rfl)) (by simp only [go_sem]) (by simp only [go_sem, hjn]) fun X hX => ?_
      cases hX
      rw [List.append_nil]
      exact ⟨j, cap, s, rfl, by omega, hjs, (by first | (simp only [go_sem, hl, hjn]; done) | (simp only [go_sem, Nat.reduceBEq, Nat.reduceLT, Nat.reduceLeDiff, Nat.reduceAdd, Nat.reduceMul, Nat.reduceSub, Nat.reduceMod, Nat.reduceDiv, Nat.reduceEqDiff, Int.reduceToNat, reduceIte, reduceCtorEq, Int.reduceLE, Int.reduceLT, Int.reduceEq, Int.reduceNeg, Int.reduceAdd, Int.reduceSub, Int.reduceMul, hl, hjn]; rfl)), hD⟩
    have h0' : ¬ ((leftN P O W (H * W) : Int) = 0) := by omega
    by_cases h5 : 5 * (m + 1) < leftN P O W (H * W)
    · rw [srch_far h0 h5] at hK
      simp only [go_sem, Nat.reduceLT, h0', w64 (n := 5 * ((m : Int) + 1)) (by omega), Int.natCast_add, Int.natCast_one, show (5 * ((m : Int) + 1) < (leftN P O W (H * W) : Int)) by omega]
      exact fun hok' => hK _ _ _ (by omega) (by intro i hi hne t ht; simp only [go_sem, ht, hi]) hok' (by first | (simp only [go_sem, hs, hsn]; done) | (simp only [go_sem, Nat.reduceBEq, Nat.reduceLT, Nat.reduceLeDiff, Nat.reduceAdd, Nat.reduceMul, Nat.reduceSub, Nat.reduceMod, Nat.reduceDiv, Nat.reduceEqDiff, Int.reduceToNat, reduceIte, reduceCtorEq, Int.reduceLE, Int.reduceLT, Int.reduceEq, Int.reduceNeg, Int.reduceAdd, Int.reduceSub, Int.reduceMul, hs, hsn]; rfl)) (by simp only [go_sem]) (by simp only [go_sem, hjn]) fun X hX => by cases hX
    rw [srch_go h0 h5] at hK
    simp only [go_sem, Nat.reduceLT, Nat.reduceLeDiff, reduceCtorEq, h0', hs, hsn, w64 (n := 5 * ((m : Int) + 1)) (by omega), Int.natCast_add, Int.natCast_one, show ¬ (5 * ((m : Int) + 1) < (leftN P O W (H * W) : Int)) by omega]
    refine callA_false (next7_E _ _ _ ip n P O _ W H (by first | (simp only [go_sem, hp, hpn]; done) | (simp only [go_sem, Nat.reduceBEq, Nat.reduceLT, Nat.reduceLeDiff, Nat.reduceAdd, Nat.reduceMul, Nat.reduceSub, Nat.reduceMod, Nat.reduceDiv, Nat.reduceEqDiff, Int.reduceToNat, reduceIte, reduceCtorEq, Int.reduceLE, Int.reduceLT, Int.reduceEq, Int.reduceNeg, Int.reduceAdd, Int.reduceSub, Int.reduceMul, hp, hpn]; rfl)) (by omega) (by first | (simp only [go_sem]; done) | (simp only [go_sem]; rfl)) (by omega) ⟨rfl, fun _ _ => rfl⟩ hR hP hW hH _ fun capF => ?_)
    have hgs : ∀ t, hget (hset h sg t) sg = some t := hget_hset_self hs
    have hgp : ∀ t, hget (hset h sg t) ip = some (pcS P) := fun t => by rw [hget_hset, if_neg (by omega)]; exact hp
    have hgj : ∀ t, hget (hset h sg t) j = some s := fun t => by rw [hget_hset, if_neg (by omega)]; exact hl
    have hFo : ones (.agg 64 fun j => gridC O j) = True := eq_true fun j hj => trivial
    have hFl : (frontL P W H O).length ≤ 192 := Nat.le_trans (List.length_filter_le _ _) (by rw [dropsL_len]; omega)
    have hmem : ∀ d ∈ frontL P W H O, (0 ≤ d.1 ∧ d.1 < W) ∧ (0 ≤ d.2.1 ∧ d.2.1 < H) ∧ 0 ≤ d.2.2 ∧ d.2.2 < 3 := fun d hd => by
      obtain ⟨k, hk, rfl⟩ := List.mem_iff_getElem.1 (List.mem_filter.1 hd).1
      have := dropsL_in (W := W) (H := H) (j := k) (by rw [← dropsL_len]; exact hk) hW8 hH8
      rwa [List.getD_eq_getElem?_getD, List.getElem?_eq_getElem hk] at this
    generalize hRR : goL (srch P W H most m) P most O (frontL P W H O) t = R0 at hK
    generalize hLL : frontL P W H O = L at *
    have hLf : (dropsL W H).filter (lastP P O) = L := hLL
    simp only [go_sem, Nat.reduceLT, hLf]
    refine T_lp (ι := { q : Nat × Nat // (q.1 ≤ L.length ∧ q.2 ≤ most) ∧ goL (srch P W H most m) P most O (L.drop q.1) q.2 = R0 })
      (fun q => ([(0, .ptr sg 0), (2, .int .i64 ((m : Int) + 1)), (3, .sl j 0 so.length cap), (5, .ptr n 0), (11, .sl (n + 1) 0 L.length capF), (12, .int .i64 q.1.1)],
        (n + 1, ⟨L.length * 3, dropsC L, true, none⟩) :: (n, ⟨64, gridC O, true, none⟩) :: hset h sg (sgS ip most q.1.2 false), n + 2)) (fun q => L.length - q.1.1) ⟨(0, t), ⟨by omega, ht⟩, by rw [List.drop_zero]; exact hRR⟩ ?_ ?_
    · refine Imp.id (by simp) ?_ ?_
      · simp only [go_sem, Nat.reduceLT, Int.natCast_add, Int.natCast_one]
        (repeat' apply And.intro) <;> first | omega | rfl | trivial | assumption | skip
      · simp only
        rw [hset_self hs]
        exact impH.cons0 (by first | (simp only [go_sem]; done) | (simp only [go_sem, Nat.reduceBEq, Nat.reduceLT, Nat.reduceLeDiff, Nat.reduceAdd, Nat.reduceMul, Nat.reduceSub, Nat.reduceMod, Nat.reduceDiv, Nat.reduceEqDiff, Int.reduceToNat, reduceIte, reduceCtorEq, Int.reduceLE, Int.reduceLT, Int.reduceEq, Int.reduceNeg, Int.reduceAdd, Int.reduceSub, Int.reduceMul]; rfl)) (by simp) (SegLe.flat (Nat.le_refl _) id (.inr rfl) fun k hk => ⟨rfl, dropsC_flat _ _⟩) (impH.cons0 (by first | (simp only [go_sem]; done) | (simp only [go_sem, Nat.reduceBEq, Nat.reduceLT, Nat.reduceLeDiff, Nat.reduceAdd, Nat.reduceMul, Nat.reduceSub, Nat.reduceMod, Nat.reduceDiv, Nat.reduceEqDiff, Int.reduceToNat, reduceIte, reduceCtorEq, Int.reduceLE, Int.reduceLT, Int.reduceEq, Int.reduceNeg, Int.reduceAdd, Int.reduceSub, Int.reduceMul]; rfl)) (by simp) (SegLe.flat (Nat.le_refl _) id (.inr rfl) fun k hk => ⟨rfl, gridC_flat _ _⟩) (impH.base0 hok (by simp) (by simp only [go_sem, HExt_cons])))
    · rintro ⟨⟨q, tq⟩, ⟨hq, htq⟩, hres⟩
      simp only at hq htq hres
      simp only [go_sem, Nat.reduceLT, decide_eq_true_eq, decide_eq_false_iff_not]
      refine ⟨fun h1 => ?_, fun h1 => ?_⟩
      rotate_left
      · have hq2 : q = L.length := by omega
        subst hq2
        rw [List.drop_length, goL] at hres
        subst hres
        exact fun hok' => hK _ _ _ (by omega) (by intro i hi hne t ht; simp only [go_sem, reduceIte, ht, hi, hget_hset, show (sg = i) = False from eq_false (Ne.symm hne)]) hok' (by first | (simp only [go_sem, hgs, hsn]; done) | (simp only [go_sem, Nat.reduceBEq, Nat.reduceLT, Nat.reduceLeDiff, Nat.reduceAdd, Nat.reduceMul, Nat.reduceSub, Nat.reduceMod, Nat.reduceDiv, Nat.reduceEqDiff, Int.reduceToNat, reduceIte, reduceCtorEq, Int.reduceLE, Int.reduceLT, Int.reduceEq, Int.reduceNeg, Int.reduceAdd, Int.reduceSub, Int.reduceMul, hgs, hsn]; rfl)) (by simp only [go_sem]) (by first | (simp only [go_sem, hjn]; done) | (simp only [go_sem, Nat.reduceBEq, Nat.reduceLT, Nat.reduceLeDiff, Nat.reduceAdd, Nat.reduceMul, Nat.reduceSub, Nat.reduceMod, Nat.reduceDiv, Nat.reduceEqDiff, Int.reduceToNat, reduceIte, reduceCtorEq, Int.reduceLE, Int.reduceLT, Int.reduceEq, Int.reduceNeg, Int.reduceAdd, Int.reduceSub, Int.reduceMul, hjn]; omega)) fun X hX => by cases hX
      have hqL : q < L.length := by omega
      have hdr : L.drop q = L.getD q (0, 0, 0) :: L.drop (q + 1) := by
        rw [List.getD_eq_getElem?_getD, List.getElem?_eq_getElem hqL, Option.getD_some, ← List.drop_eq_getElem_cons hqL]
      rw [hdr] at hres
      have hdm := hmem (L.getD q (0, 0, 0)) (by rw [List.getD_eq_getElem?_getD, List.getElem?_eq_getElem hqL]; exact List.getElem_mem hqL)
      have f0 := dropsC_0 L q
      have f1 := dropsC_1 L q
      have f2 := dropsC_2 L q
      have r1 : (0 : Int) ≤ q ∧ (q : Int) < L.length := ⟨by omega, by omega⟩
      have b1 : q * 3 ≤ L.length * 3 - 3 := by omega
      have b2 : q * 3 ≤ L.length * 3 - 2 := by omega
      have b3 : 3 ≤ L.length * 3 := by omega
      have b4 : 2 ≤ L.length * 3 := by omega
      have b6 : q * 3 + 3 ≤ L.length * 3 := by omega
      have b7 : q * 3 + 2 ≤ L.length * 3 := by omega
      generalize hdd : L.getD q (0, 0, 0) = d at *
      refine T_draw hti _ _ (by kernel_rfl) (by kernel_rfl) ?_
      simp only [go_sem, Nat.reduceLT, Nat.reduceLeDiff, Nat.reduceEqDiff, reduceIte, reduceCtorEq, hgs, hsn]
      by_cases htm : tq = most
      · subst htm
        rw [goL_stop] at hres
        subst hres
        simp only [go_sem, reduceCtorEq, hgs, hsn]
        exact fun hok' => hK _ _ _ (by omega) (by intro i hi hne t ht; simp only [go_sem, reduceIte, ht, hi, hget_hset, show (sg = i) = False from eq_false (Ne.symm hne)]) hok' (by first | (simp only [go_sem, hgs, hsn]; done) | (simp only [go_sem, Nat.reduceBEq, Nat.reduceLT, Nat.reduceLeDiff, Nat.reduceAdd, Nat.reduceMul, Nat.reduceSub, Nat.reduceMod, Nat.reduceDiv, Nat.reduceEqDiff, Int.reduceToNat, reduceIte, reduceCtorEq, Int.reduceLE, Int.reduceLT, Int.reduceEq, Int.reduceNeg, Int.reduceAdd, Int.reduceSub, Int.reduceMul, hgs, hsn]; rfl)) (by simp only [go_sem]) (by first | (simp only [go_sem, hjn]; done) | (simp only [go_sem, Nat.reduceBEq, Nat.reduceLT, Nat.reduceLeDiff, Nat.reduceAdd, Nat.reduceMul, Nat.reduceSub, Nat.reduceMod, Nat.reduceDiv, Nat.reduceEqDiff, Int.reduceToNat, reduceIte, reduceCtorEq, Int.reduceLE, Int.reduceLT, Int.reduceEq, Int.reduceNeg, Int.reduceAdd, Int.reduceSub, Int.reduceMul, hjn]; omega)) fun X hX => by cases hX
      · simp only [go_sem, hgs, hsn, hFo, w64 (n := (tq : Int) + 1) (by omega), show ¬ ((tq : Int) = (most : Int)) by omega]
        refine T_drawG hti 10 [9] (.b 0 0 (.b 0 1 (.b 0 2 (.b 0 3 (.b 0 4 (.b 0 5 (.b 0 6 (.b 0 7 (.b 0 8 (.b 4 9 (.f) .o) .o) .o) .o) .o) .o) .o) .o) .o) .o) _ _ (by kernel_rfl) (by kernel_rfl) ?_
        simp only [go_sem, Nat.reduceLT, Nat.reduceLeDiff, reduceCtorEq, hgs, hsn, r1, b1, b2, b3, b4, b6, b7, f0, f1, f2]
        refine callA_false (peel7_E _ _ _ ip (n + 2) P O d.1 d.2.1 (by first | (simp only [go_sem, hgp, hpn]; done) | (simp only [go_sem, Nat.reduceBEq, Nat.reduceLT, Nat.reduceLeDiff, Nat.reduceAdd, Nat.reduceMul, Nat.reduceSub, Nat.reduceMod, Nat.reduceDiv, Nat.reduceEqDiff, Int.reduceToNat, reduceIte, reduceCtorEq, Int.reduceLE, Int.reduceLT, Int.reduceEq, Int.reduceNeg, Int.reduceAdd, Int.reduceSub, Int.reduceMul, hgp, hpn]; rfl)) (by omega) (by first | (simp only [go_sem]; done) | (simp only [go_sem, Nat.reduceBEq, Nat.reduceLT, Nat.reduceLeDiff, Nat.reduceAdd, Nat.reduceMul, Nat.reduceSub, Nat.reduceMod, Nat.reduceDiv, Nat.reduceEqDiff, Int.reduceToNat, reduceIte, reduceCtorEq, Int.reduceLE, Int.reduceLT, Int.reduceEq, Int.reduceNeg, Int.reduceAdd, Int.reduceSub, Int.reduceMul]; rfl)) (by omega) (by omega) hR hP (by omega) (by omega) _ ?_)
        generalize hOO : openBy O (covL P.wide P.high d.1 d.2.1) = O'
        simp only [go_sem]
        refine T_drawG hti 19 [6, 12, 13] (.b 0 0 (.b 0 2 (.b 0 3 (.b 0 5 (.b 0 7 (.b 0 8 (.b 0 9 (.b 2 1 (.b 2 4 (.b 4 6 (.b 2 10 (.b 2 11 (.b 4 12 (.b 4 13 (.b 0 14 (.b 0 15 (.b 0 16 (.b 0 17 (.b 0 18 (.f) .o) .o) .o) .o) .o) .o) .o) .o) .o) (.b 2 10 (.b 4 6 (.b 2 11 (.b 4 12 (.b 4 13 (.b 0 14 (.b 0 15 (.b 0 16 (.b 0 17 (.b 0 18 (.f) .o) .o) .o) .o) .o) .o) .o) .o) (.b 2 11 (.b 4 6 (.b 4 12 (.b 4 13 (.b 0 14 (.b 0 15 (.b 0 16 (.b 0 17 (.b 0 18 (.f) .o) .o) .o) .o) .o) .o) .o) .o) .o)) .o)) (.b 2 10 (.b 2 4 (.b 4 6 (.b 2 11 (.b 4 12 (.b 4 13 (.b 0 14 (.b 0 15 (.b 0 16 (.b 0 17 (.b 0 18 (.f) .o) .o) .o) .o) .o) .o) .o) .o) (.b 2 11 (.b 4 6 (.b 4 12 (.b 4 13 (.b 0 14 (.b 0 15 (.b 0 16 (.b 0 17 (.b 0 18 (.f) .o) .o) .o) .o) .o) .o) .o) .o) .o)) (.b 2 11 (.b 2 4 (.b 4 6 (.b 4 12 (.b 4 13 (.b 0 14 (.b 0 15 (.b 0 16 (.b 0 17 (.b 0 18 (.f) .o) .o) .o) .o) .o) .o) .o) .o) .o) .o)) .o)) (.b 2 4 (.b 2 1 (.b 4 6 (.b 2 10 (.b 2 11 (.b 4 12 (.b 4 13 (.b 0 14 (.b 0 15 (.b 0 16 (.b 0 17 (.b 0 18 (.f) .o) .o) .o) .o) .o) .o) .o) .o) .o) (.b 2 10 (.b 4 6 (.b 2 11 (.b 4 12 (.b 4 13 (.b 0 14 (.b 0 15 (.b 0 16 (.b 0 17 (.b 0 18 (.f) .o) .o) .o) .o) .o) .o) .o) .o) (.b 2 11 (.b 4 6 (.b 4 12 (.b 4 13 (.b 0 14 (.b 0 15 (.b 0 16 (.b 0 17 (.b 0 18 (.f) .o) .o) .o) .o) .o) .o) .o) .o) .o)) .o)) (.b 4 6 (.b 2 1 (.b 2 10 (.b 2 11 (.b 4 12 (.b 4 13 (.b 0 14 (.b 0 15 (.b 0 16 (.b 0 17 (.b 0 18 (.f) .o) .o) .o) .o) .o) .o) .o) .o) .o) (.b 2 10 (.b 2 1 (.b 2 11 (.b 4 12 (.b 4 13 (.b 0 14 (.b 0 15 (.b 0 16 (.b 0 17 (.b 0 18 (.f) .o) .o) .o) .o) .o) .o) .o) .o) (.b 2 11 (.b 2 1 (.b 4 12 (.b 4 13 (.b 0 14 (.b 0 15 (.b 0 16 (.b 0 17 (.b 0 18 (.f) .o) .o) .o) .o) .o) .o) .o) (.b 4 12 (.b 2 1 (.b 4 13 (.b 0 14 (.b 0 15 (.b 0 16 (.b 0 17 (.b 0 18 (.f) .o) .o) .o) .o) .o) .o) .o) .o)) .o)) .o)) (.b 2 10 (.b 2 1 (.b 4 6 (.b 2 11 (.b 4 12 (.b 4 13 (.b 0 14 (.b 0 15 (.b 0 16 (.b 0 17 (.b 0 18 (.f) .o) .o) .o) .o) .o) .o) .o) .o) (.b 2 11 (.b 4 6 (.b 4 12 (.b 4 13 (.b 0 14 (.b 0 15 (.b 0 16 (.b 0 17 (.b 0 18 (.f) .o) .o) .o) .o) .o) .o) .o) .o) .o)) (.b 4 6 (.b 2 1 (.b 2 11 (.b 4 12 (.b 4 13 (.b 0 14 (.b 0 15 (.b 0 16 (.b 0 17 (.b 0 18 (.f) .o) .o) .o) .o) .o) .o) .o) .o) (.b 2 11 (.b 2 1 (.b 4 12 (.b 4 13 (.b 0 14 (.b 0 15 (.b 0 16 (.b 0 17 (.b 0 18 (.f) .o) .o) .o) .o) .o) .o) .o) (.b 4 12 (.b 2 1 (.b 4 13 (.b 0 14 (.b 0 15 (.b 0 16 (.b 0 17 (.b 0 18 (.f) .o) .o) .o) .o) .o) .o) .o) .o)) .o)) (.b 2 11 (.b 2 1 (.b 4 6 (.b 4 12 (.b 4 13 (.b 0 14 (.b 0 15 (.b 0 16 (.b 0 17 (.b 0 18 (.f) .o) .o) .o) .o) .o) .o) .o) .o) (.b 4 6 (.b 2 1 (.b 4 12 (.b 4 13 (.b 0 14 (.b 0 15 (.b 0 16 (.b 0 17 (.b 0 18 (.f) .o) .o) .o) .o) .o) .o) .o) (.b 4 12 (.b 2 1 (.b 4 13 (.b 0 14 (.b 0 15 (.b 0 16 (.b 0 17 (.b 0 18 (.f) .o) .o) .o) .o) .o) .o) .o) .o)) .o)) .o))) .o))) (.b 2 10 (.b 2 1 (.b 2 4 (.b 4 6 (.b 2 11 (.b 4 12 (.b 4 13 (.b 0 14 (.b 0 15 (.b 0 16 (.b 0 17 (.b 0 18 (.f) .o) .o) .o) .o) .o) .o) .o) .o) (.b 2 11 (.b 4 6 (.b 4 12 (.b 4 13 (.b 0 14 (.b 0 15 (.b 0 16 (.b 0 17 (.b 0 18 (.f) .o) .o) .o) .o) .o) .o) .o) .o) .o)) (.b 2 11 (.b 2 4 (.b 4 6 (.b 4 12 (.b 4 13 (.b 0 14 (.b 0 15 (.b 0 16 (.b 0 17 (.b 0 18 (.f) .o) .o) .o) .o) .o) .o) .o) .o) .o) .o)) (.b 2 4 (.b 2 1 (.b 4 6 (.b 2 11 (.b 4 12 (.b 4 13 (.b 0 14 (.b 0 15 (.b 0 16 (.b 0 17 (.b 0 18 (.f) .o) .o) .o) .o) .o) .o) .o) .o) (.b 2 11 (.b 4 6 (.b 4 12 (.b 4 13 (.b 0 14 (.b 0 15 (.b 0 16 (.b 0 17 (.b 0 18 (.f) .o) .o) .o) .o) .o) .o) .o) .o) .o)) (.b 4 6 (.b 2 1 (.b 2 11 (.b 4 12 (.b 4 13 (.b 0 14 (.b 0 15 (.b 0 16 (.b 0 17 (.b 0 18 (.f) .o) .o) .o) .o) .o) .o) .o) .o) (.b 2 11 (.b 2 1 (.b 4 12 (.b 4 13 (.b 0 14 (.b 0 15 (.b 0 16 (.b 0 17 (.b 0 18 (.f) .o) .o) .o) .o) .o) .o) .o) (.b 4 12 (.b 2 1 (.b 4 13 (.b 0 14 (.b 0 15 (.b 0 16 (.b 0 17 (.b 0 18 (.f) .o) .o) .o) .o) .o) .o) .o) .o)) .o)) (.b 2 11 (.b 2 1 (.b 4 6 (.b 4 12 (.b 4 13 (.b 0 14 (.b 0 15 (.b 0 16 (.b 0 17 (.b 0 18 (.f) .o) .o) .o) .o) .o) .o) .o) .o) (.b 4 6 (.b 2 1 (.b 4 12 (.b 4 13 (.b 0 14 (.b 0 15 (.b 0 16 (.b 0 17 (.b 0 18 (.f) .o) .o) .o) .o) .o) .o) .o) (.b 4 12 (.b 2 1 (.b 4 13 (.b 0 14 (.b 0 15 (.b 0 16 (.b 0 17 (.b 0 18 (.f) .o) .o) .o) .o) .o) .o) .o) .o)) .o)) .o))) (.b 2 11 (.b 2 1 (.b 2 4 (.b 4 6 (.b 4 12 (.b 4 13 (.b 0 14 (.b 0 15 (.b 0 16 (.b 0 17 (.b 0 18 (.f) .o) .o) .o) .o) .o) .o) .o) .o) .o) (.b 2 4 (.b 2 1 (.b 4 6 (.b 4 12 (.b 4 13 (.b 0 14 (.b 0 15 (.b 0 16 (.b 0 17 (.b 0 18 (.f) .o) .o) .o) .o) .o) .o) .o) .o) (.b 4 6 (.b 2 1 (.b 4 12 (.b 4 13 (.b 0 14 (.b 0 15 (.b 0 16 (.b 0 17 (.b 0 18 (.f) .o) .o) .o) .o) .o) .o) .o) (.b 4 12 (.b 2 1 (.b 4 13 (.b 0 14 (.b 0 15 (.b 0 16 (.b 0 17 (.b 0 18 (.f) .o) .o) .o) .o) .o) .o) .o) .o)) .o)) .o)) .o))) .o))) .o) .o) .o) .o) .o) .o) .o) _ _ (by kernel_rfl) (by kernel_rfl) ?_
        simp only [go_sem, Nat.reduceLT, Nat.reduceLeDiff, Nat.reduceMul, Nat.reduceSub, Nat.reduceMod, reduceIte, hgs, hsn, hgj, hjn, r1, b1, b2, b3, b4, b6, b7, f0, f1, f2, w64 (n := (m : Int)) (by omega), show ((m : Int) + 1 - 1) = (m : Int) by omega]
        have hd3 : hdel h (n + 3) = h := hok.del (by omega)
        have hsrc : ∀ x : TI, x.k.kn → x.sz = 3 → okSrc x s 0 so.length := fun x hk hx => by
          unfold okSrc
          have hn := hD.1
          refine ⟨hk, by omega, by rw [hx]; omega, allP_iff.2 fun z hz => ?_⟩
          rw [hx] at hz
          rw [Nat.zero_add, hD.2 z hz]
          exact (dropsC_flat so z).one
        have hnew : ∀ (c c' : Nat → SV) (z : Nat), (∀ k, k < 3 → c' k = cl [.int .i8 d.1, .int .i8 d.2.1, .int .u8 d.2.2] k) → z < (so ++ [d]).length * 3 → both (so.length * 3) (both 0 c (news s.c 0)) (news c' 0) z = dropsC (so ++ [d]) z := fun c c' z hc hz => by
          rw [List.length_append, List.length_singleton] at hz
          rw [← both_drop so d c' (hc 0 (by omega)) (hc 1 (by omega)) (hc 2 (by omega)) hz]
          unfold both
          split
          · rw [if_neg (by omega)]
            unfold news
            rw [Nat.zero_add, Nat.sub_zero]
            exact hD.2 z (by omega)
          · rfl
        have hsol : so.length + 1 = (so ++ [d]).length := by rw [List.length_append, List.length_singleton]
        have hds : ∀ k, n ≤ k → hdel (hset h sg ⟨4, cl [.ptr ip 0, .int .i64 most, .int .i64 ((tq : Int) + 1), .bool false], true, none⟩) k = hset h sg ⟨4, cl [.ptr ip 0, .int .i64 most, .int .i64 ((tq : Int) + 1), .bool false], true, none⟩ := fun k hk => (HOk.hset hok (s := sgS ip most (tq + 1) false) fun k hk => sg_lt hpn k hk).del hk
        (repeat' (first | (with_reducible apply And.intro) | (with_reducible intro c1 c2 c3))) <;> first | omega | skip
        all_goals first
          | trivial
          | exact hsrc _ trivial rfl
          | (show (0 : Nat) < 3; omega)
          | (show 0 + so.length * 3 ≤ s.n; have := hD.1; omega)
          | exact (hsrc (ti 48) trivial rfl).2.2.2
          | skip
        all_goals
          rw [hsol]
          refine callA_false (ih _ _ _ sg ip _ _ O' (tq + 1) (so ++ [d]) _ (by first | (simp only [go_sem, hds, hgs, hsn, Int.natCast_add, Int.natCast_one]; done) | (simp only [go_sem, Nat.reduceBEq, Nat.reduceLT, Nat.reduceLeDiff, Nat.reduceAdd, Nat.reduceMul, Nat.reduceSub, Nat.reduceMod, Nat.reduceDiv, Nat.reduceEqDiff, Int.reduceToNat, reduceIte, reduceCtorEq, Int.reduceLE, Int.reduceLT, Int.reduceEq, Int.reduceNeg, Int.reduceAdd, Int.reduceSub, Int.reduceMul, hds, hgs, hsn, Int.natCast_add, Int.natCast_one]; rfl)) (by omega) (by first | (simp only [go_sem, hds, hgp, hpn]; done) | (simp only [go_sem, Nat.reduceBEq, Nat.reduceLT, Nat.reduceLeDiff, Nat.reduceAdd, Nat.reduceMul, Nat.reduceSub, Nat.reduceMod, Nat.reduceDiv, Nat.reduceEqDiff, Int.reduceToNat, reduceIte, reduceCtorEq, Int.reduceLE, Int.reduceLT, Int.reduceEq, Int.reduceNeg, Int.reduceAdd, Int.reduceSub, Int.reduceMul, hds, hgp, hpn]; rfl)) (by omega) hsp (by first | (simp only [go_sem]; done) | (simp only [go_sem]; rfl)) (by omega) (by omega) ⟨Nat.le_refl _, fun z hz => hnew _ _ z (fun k hk => if_pos hk) hz⟩ (by rw [← hsol]; omega) (by omega) _ ?_)
          intro V h' n' hn' hb' hok' hsg' hVo hVl hX'
          have kp : HBut sg n h h' := fun i hi hne u hu => hb' i (by omega) hne u (by first | (simp only [go_sem, reduceIte, hds, hi, hu, hget_hset, show (sg = i) = False from eq_false (Ne.symm hne)]; done) | (simp only [go_sem, Nat.reduceBEq, Nat.reduceLT, Nat.reduceLeDiff, Nat.reduceAdd, Nat.reduceMul, Nat.reduceSub, Nat.reduceMod, Nat.reduceDiv, Nat.reduceEqDiff, Int.reduceToNat, reduceIte, reduceCtorEq, Int.reduceLE, Int.reduceLT, Int.reduceEq, Int.reduceNeg, Int.reduceAdd, Int.reduceSub, Int.reduceMul, hds, hi, hu, hget_hset, show (sg = i) = False from eq_false (Ne.symm hne)]; rfl))
          have k0 : hget h' n = some ⟨64, gridC O, true, none⟩ := hb' n (by omega) (by omega) _ (by first | (simp only [go_sem, hds]; done) | (simp only [go_sem, Nat.reduceBEq, Nat.reduceLT, Nat.reduceLeDiff, Nat.reduceAdd, Nat.reduceMul, Nat.reduceSub, Nat.reduceMod, Nat.reduceDiv, Nat.reduceEqDiff, Int.reduceToNat, reduceIte, reduceCtorEq, Int.reduceLE, Int.reduceLT, Int.reduceEq, Int.reduceNeg, Int.reduceAdd, Int.reduceSub, Int.reduceMul, hds]; rfl))
          have k1 : hget h' (n + 1) = some ⟨L.length * 3, dropsC L, true, none⟩ := hb' (n + 1) (by omega) (by omega) _ (by first | (simp only [go_sem, Nat.reduceLT, hds]; done) | (simp only [go_sem, Nat.reduceBEq, Nat.reduceLT, Nat.reduceLeDiff, Nat.reduceAdd, Nat.reduceMul, Nat.reduceSub, Nat.reduceMod, Nat.reduceDiv, Nat.reduceEqDiff, Int.reduceToNat, reduceIte, reduceCtorEq, Int.reduceLE, Int.reduceLT, Int.reduceEq, Int.reduceNeg, Int.reduceAdd, Int.reduceSub, Int.reduceMul, hds]; rfl))
          have hsgn : sg < n' := by omega
          rcases hr : srch P W H most m O' (tq + 1) with ⟨_ | X, t', s'⟩
          · rw [hr] at hsg' hX'
            have hr' := hr
            rw [← hOO] at hr'
            cases s' with
            | true =>
              rw [goL_halt htm hr'] at hres
              subst hres
              simp only [go_sem, Nat.reduceLT, reduceCtorEq, hr, Option.isSome_none, hVo, hsg', hsgn]
              exact fun hok2 => hK _ _ _ (by omega) kp hok2 hsg' (by first | exact hVo | simp only [go_sem, Nat.reduceBEq, Nat.reduceLT, Nat.reduceLeDiff, Nat.reduceAdd, Nat.reduceMul, Nat.reduceSub, Nat.reduceMod, Nat.reduceDiv, Nat.reduceEqDiff, Int.reduceToNat, reduceIte, reduceCtorEq, Int.reduceLE, Int.reduceLT, Int.reduceEq, Int.reduceNeg, Int.reduceAdd, Int.reduceSub, Int.reduceMul, hVo]) hVl fun X hX => by cases hX
            | false =>
              rw [goL_next htm hr'] at hres
              simp only [go_sem, Nat.reduceLT, reduceCtorEq, hr, Option.isSome_none, hVo, hsg', hsgn]
              have hto := (srch_ok P W H most m O' (tq + 1) (by omega)).1
              rw [hr] at hto
              refine ⟨⟨(q + 1, t'), ⟨by omega, hto⟩, hres⟩, by show L.length - (q + 1) < L.length - q; omega, ?_⟩
              refine Imp.id (by simp) ?_ ?_
              · simp only [go_sem, Nat.reduceLT, hsn, hjn, w64 (n := (q : Int) + 1) (by omega), Int.natCast_add, Int.natCast_one]
                (repeat' apply And.intro) <;> first | omega | rfl | trivial | assumption | skip
              · exact impH.cons0 k1 (by simp) (SegLe.flat (Nat.le_refl _) id (.inr rfl) fun k hk => ⟨rfl, dropsC_flat _ _⟩) (impH.cons0 k0 (by simp) (SegLe.flat (Nat.le_refl _) id (.inr rfl) fun k hk => ⟨rfl, gridC_flat _ _⟩) (impH.set0 hok (by simp) hs kp hsg' (sg_le (n' := n + 2) rfl rfl rfl rfl rfl rfl rfl (by omega))))
          · rw [hr] at hsg' hX'
            have hr' := hr
            rw [← hOO] at hr'
            rw [goL_some htm hr'] at hres
            subst hres
            simp only [go_sem, Nat.reduceLT, hr, Option.isSome_some, hVo, hsg', hsgn]
            exact fun hok2 => hK _ _ _ (by omega) kp hok2 hsg' (by first | exact hVo | simp only [go_sem, Nat.reduceBEq, Nat.reduceLT, Nat.reduceLeDiff, Nat.reduceAdd, Nat.reduceMul, Nat.reduceSub, Nat.reduceMod, Nat.reduceDiv, Nat.reduceEqDiff, Int.reduceToNat, reduceIte, reduceCtorEq, Int.reduceLE, Int.reduceLT, Int.reduceEq, Int.reduceNeg, Int.reduceAdd, Int.reduceSub, Int.reduceMul, hVo]) hVl fun Y hY => by
              cases hY
              have := hX' X rfl
              rwa [List.append_assoc] at this
end Go.Proofs.YtcjgpkhdlobbbaaGreat.V

/- A peeler that counts its tries: its cells; marking them. -/
namespace Go.Proofs.YtcjgpkhdlobbbaaGreat.V
/-- The cells of the struct: peeler, list, tries, budget, spent. -/
def plC (v : SV) (O : Gr) (V : SV) (t b : Int) (sp : Bool) : Nat → SV := fun j => if j < 65 then pelC v O j else cl [V, .int .i64 t, .int .i64 b, .bool sp] (j - 65)
def plS (i : Nat) (O : Gr) (V : SV) (t b : Int) (sp : Bool) : Seg := ⟨69, plC (.ptr i 0) O V t b sp, true, none⟩
@[go_sem] theorem plS_eq (i : Nat) (O : Gr) (V : SV) (t b : Int) (sp : Bool) : plS i O V t b sp = ⟨69, plC (.ptr i 0) O V t b sp, true, none⟩ := rfl
section
variable (v : SV) (O : Gr) (V : SV) (t b : Int) (sp : Bool)
@[go_sem] theorem plC_0 : plC v O V t b sp 0 = v := rfl
@[go_sem] theorem plC_65 : plC v O V t b sp 65 = V := rfl
@[go_sem] theorem plC_66 : plC v O V t b sp 66 = .int .i64 t := rfl
@[go_sem] theorem plC_67 : plC v O V t b sp 67 = .int .i64 b := rfl
@[go_sem] theorem plC_68 : plC v O V t b sp 68 = .bool sp := rfl
theorem plC_upd (w : SV) {k : Nat} (hk : 65 ≤ k) (hk2 : k < 69) : upd (plC v O V t b sp) k w = fun j => if j < 65 then pelC v O j else cl ([V, .int .i64 t, .int .i64 b, .bool sp].set (k - 65) w) (j - 65) := by
  funext j
  rw [← upd_cl _ _ _ (show k - 65 < [V, SV.int .i64 t, SV.int .i64 b, SV.bool sp].length by simp; omega)]
  unfold upd plC
  by_cases h : j < 65
  · rw [if_neg (by omega), if_pos h, if_pos h]
  · rw [if_neg h, if_neg h]
    by_cases e : j = k
    · subst e; rw [if_pos rfl, if_pos rfl]
    · rw [if_neg e, if_neg (by omega)]
@[go_sem] theorem plC_set65 (w : SV) : upd (plC v O V t b sp) 65 w = plC v O w t b sp := by rw [plC_upd _ _ _ _ _ _ _ (by omega) (by omega)]; rfl
@[go_sem] theorem plC_set66 (w : Int) : upd (plC v O V t b sp) 66 (.int .i64 w) = plC v O V w b sp := by rw [plC_upd _ _ _ _ _ _ _ (by omega) (by omega)]; rfl
@[go_sem] theorem plC_set68 (w : Bool) : upd (plC v O V t b sp) 68 (.bool w) = plC v O V t b w := by rw [plC_upd _ _ _ _ _ _ _ (by omega) (by omega)]; rfl
end
theorem plC_lt {i n : Nat} {V : SV} (O : Gr) (t b : Int) (sp : Bool) (hi : i < n) (hV : V.lt n) (k : Nat) : (plC (.ptr i 0) O V t b sp k).lt n := by
  unfold plC; split
  · exact pelC_lt O hi k
  · obtain ⟨j, hj⟩ : ∃ j, k - 65 = j := ⟨_, rfl⟩
    rw [hj]
    match j with
    | 0 => exact hV
    | 1 => trivial
    | 2 => trivial
    | 3 => trivial
    | _ + 4 => trivial
theorem pelAt_plS (i : Nat) (O : Gr) (V : SV) (t b : Int) (sp : Bool) : PelAt (plS i O V t b sp) (.ptr i 0) O := ⟨by show 65 ≤ 69; omega, rfl, fun j hj => by
  show plC _ _ _ _ _ _ (1 + j) = _
  unfold plC pelC; rw [if_pos (by omega), if_neg (by omega), Nat.add_sub_cancel_left]⟩
/-- One cell opened or closed. -/
def setG (O : Gr) (b : Bool) (y x : Int) : Gr := fun y' x' => if y' = y ∧ x' = x then b else O y' x'
def markG (O : Gr) (b : Bool) (M : List (Int × Int)) : Nat → Gr
  | 0 => O
  | j + 1 => setG (markG O b M j) b (M.getD j (0, 0)).2 (M.getD j (0, 0)).1
def markA (O : Gr) (b : Bool) (M : List (Int × Int)) : Gr := fun y x => if (x, y) ∈ M then b else O y x
theorem markG_take (O : Gr) (b : Bool) (M : List (Int × Int)) : ∀ j, j ≤ M.length → markG O b M j = markA O b (M.take j)
  | 0, _ => by funext y x; simp [markG, markA]
  | j + 1, hj => by
    have hj' : j < M.length := hj
    funext y x
    show setG (markG O b M j) b _ _ y x = _
    rw [markG_take O b M j (by omega)]
    unfold setG markA
    rw [List.take_succ, List.getElem?_eq_getElem hj', List.getD_eq_getElem?_getD, List.getElem?_eq_getElem hj']
    simp only [Option.getD_some, Option.toList_some, List.mem_append, List.mem_singleton, Prod.ext_iff]
    by_cases h1 : y = M[j].2 ∧ x = M[j].1
    · rw [if_pos h1, if_pos (.inr ⟨h1.2, h1.1⟩)]
    · rw [if_neg h1]
      by_cases h2 : (x, y) ∈ M.take j
      · rw [if_pos h2, if_pos (.inl h2)]
      · rw [if_neg h2, if_neg (fun h => h.elim h2 fun h => h1 ⟨h.2, h.1⟩)]
theorem markG_all (O : Gr) (b : Bool) (M : List (Int × Int)) : markG O b M M.length = markA O b M := by rw [markG_take O b M _ (Nat.le_refl _), List.take_length]
theorem markA_true (O : Gr) (M : List (Int × Int)) : markA O true M = openBy O M := by
  funext y x
  unfold markA openBy
  by_cases h : (x, y) ∈ M
  · rw [if_pos h, decide_eq_true h, Bool.or_true]
  · rw [if_neg h, decide_eq_false h, Bool.or_false]
theorem markA_back (O : Gr) (M : List (Int × Int)) : markA (openBy O (M.filter (opP O))) false (M.filter (opP O)) = O := by
  funext y x
  unfold markA openBy
  by_cases h : (x, y) ∈ M.filter (opP O)
  · have := (List.mem_filter.1 h).2
    unfold opP at this
    simp only [Bool.not_eq_true'] at this
    rw [if_pos h, this]
  · rw [if_neg h, decide_eq_false h, Bool.or_false]
theorem plC_mark (v : SV) (O : Gr) (V : SV) (t b : Int) (sp c : Bool) {y x : Int} (h1 : 0 ≤ y) (h2 : y < 8) (h3 : 0 ≤ x) (h4 : x < 8) : upd (plC v O V t b sp) (1 + y.toNat * 8 + x.toNat) (.bool c) = plC v (setG O c y x) V t b sp := by
  funext z
  unfold upd plC
  by_cases hz : z < 65
  · rw [if_pos hz, if_pos hz]
    unfold pelC
    by_cases h : z < 1
    · rw [if_neg (by omega), if_pos h, if_pos h]
    · rw [if_neg h, if_neg h]
      unfold gridC setG
      by_cases e : z = 1 + y.toNat * 8 + x.toNat
      · rw [if_pos e, if_pos (by omega)]
      · rw [if_neg e, if_neg (by omega)]
  · rw [if_neg (by omega), if_neg hz, if_neg hz]
section
variable (cx : Cx) (h : List (Nat × Seg)) (n : Nat)
theorem mark8_E (i g f cap : Nat) (O : Gr) (V : SV) (tt bb : Int) (sp : Bool) (b : Bool) (M : List (Int × Int)) (s : Seg) (hi : i < n) (hV : V.lt n) (hg : hget h g = some (plS i O V tt bb sp)) (hgn : g < n) (hf : hget h f = some s) (hfn : f < n) (hfg : f ≠ g) (hM : SpsAt s M) (hm9 : M.length ≤ 1000) (hin : ∀ j, j < M.length → (0 ≤ (M.getD j (0, 0)).1 ∧ (M.getD j (0, 0)).1 < 8) ∧ 0 ≤ (M.getD j (0, 0)).2 ∧ (M.getD j (0, 0)).2 < 8) (K : HK)
    (hK : K (.tup 0 (cl [])) (hset h g (plS i (markA O b M) V tt bb sp)) n) : CallE Tryz.prog cx 30 [.ptr g 0, .sl f 0 M.length cap, .bool b] h n K := by
  have hn := hM.1
  refine CallE.to _ _ (by simp only [go_sem]) (fun hok => HOk.hset hok fun k hk => plC_lt _ _ _ _ hi hV _) hK ?_
  have hgi : ∀ t, hget (hset h g t) g = some t := hget_hset_self hg
  have hgf : ∀ t, hget (hset h g t) f = some s := fun t => by rw [hget_hset, if_neg (by omega)]; exact hf
  rw [← markG_all]
  refine callE_of_T (P := Tryz.prog) hti (nt := 25) (rs := []) rfl rfl Tryz.call30 Tryz.func30 rfl _ (by simp only [go_sem, and_self]) (Nat.le_of_ble_eq_true rfl) _ fun hok => ?_
  simp only [go_sem, Nat.reduceLT]
  refine T_lp (ι := { j : Nat // j ≤ M.length })
    (fun j => ([(0, .ptr g 0), (2, .bool b), (8, .sl f 0 M.length cap), (9, .int .i64 M.length), (10, .int .i64 j.1)], hset h g (plS i (markG O b M j.1) V tt bb sp), n)) (fun j => M.length - j.1) ⟨0, Nat.zero_le _⟩ ?_ ?_
  · refine Imp.id (by simp) ?_ ?_
    · simp only [go_sem, Nat.reduceLT]
      omega
    · show impH h (sig []) n (hset h g (plS i O V tt bb sp))
      rw [hset_self hg]
      exact impH.base0 hok (by simp) HExt.rfl
  · rintro ⟨j, hj⟩
    simp only [go_sem, Nat.reduceLT, decide_eq_true_eq, decide_eq_false_iff_not]
    refine ⟨fun h1 => ?_, fun h1 => ?_⟩
    · have r1 : (0 : Int) ≤ j ∧ (j : Int) < M.length := ⟨by omega, by omega⟩
      have b1 : j * 2 ≤ s.n - 2 := by omega
      have b2 : j * 2 + 2 ≤ s.n := by omega
      have b3 : 2 ≤ s.n := by omega
      obtain ⟨⟨c1, c5⟩, c3, c6⟩ := hin j (by omega)
      have d1 : 1 + (M.getD j (0, 0)).2.toNat * 8 + (M.getD j (0, 0)).1.toNat ≤ 68 := by omega
      have d2 : 1 + (M.getD j (0, 0)).2.toNat * 8 + (M.getD j (0, 0)).1.toNat + 1 ≤ 69 := by omega
      simp only [go_sem, Nat.reduceLT, reduceIte, hgf, hfn, r1, b1, b2, b3, hM.x (j := j) (by omega), hM.y (j := j) (by omega)]
      refine T_drawT hti 10 _ _ (by kernel_rfl) (by kernel_rfl) ?_
      simp only [go_sem, Nat.reduceLT, Nat.reduceLeDiff, Nat.reduceEqDiff, reduceIte, reduceCtorEq, hgi, hgn, c1, c3, c5, c6, d1, d2, plC_mark _ _ _ _ _ _ _ c3 c6 c1 c5]
      refine ⟨⟨j + 1, by omega⟩, by show M.length - (j + 1) < M.length - j; omega, ?_⟩
      refine Imp.id (by simp) ?_ ?_
      · simp only [go_sem, Nat.reduceLT, w64 (n := (j : Int) + 1) (by omega), Int.natCast_add, Int.natCast_one]
        omega
      · exact impH.base0 (HOk.hset hok fun k hk => plC_lt _ _ _ _ hi hV _) (by simp) (by first | (simp only [go_sem, HExt_cons]; done) | (simp only [go_sem, HExt_cons]; exact HExt.rfl))
    · have hj2 : j = M.length := by omega
      subst hj2
      simp only [go_sem]
end
end Go.Proofs.YtcjgpkhdlobbbaaGreat.V

/- The program's own search for the fewest drops: the walk. -/
namespace Go.Proofs.YtcjgpkhdlobbbaaGreat.V
def notSl (V : SV) (j : Nat) : Prop := ∀ o l c, V ≠ .sl j o l c
theorem notSl_sl {i o l c j : Nat} (h : j ≠ i) : notSl (.sl i o l c) j := fun _ _ _ e => h (by cases e; rfl)
/-- A list of drops to which one may append. -/
def DrOwn (h : List (Nat × Seg)) (g n : Nat) (V : SV) (L : List Dr) : Prop :=
  (V = .nils ∧ L = []) ∨ ∃ j cap s, V = .sl j 0 L.length cap ∧ j < n ∧ j ≠ g ∧ hget h j = some s ∧ s.own = some (48, cap * 3) ∧ L.length ≤ cap ∧ cap ≤ maxLen ∧ L.length * 3 ≤ s.n ∧ s.rw = true ∧ ∀ z, z < L.length * 3 → s.c z = dropsC L z
theorem DrOwn.not {h : List (Nat × Seg)} {g n j : Nat} {V : SV} {L : List Dr} {t : Seg} (hV : DrOwn h g n V L) (ht : hget h j = some t) (ho : t.own = none) : notSl V j := by
  rcases hV with ⟨rfl, _⟩ | ⟨i, cap, s, rfl, _, _, hs, hown, _⟩
  · exact fun _ _ _ e => by cases e
  · refine notSl_sl fun e => ?_
    subst e
    rw [hs] at ht; cases ht
    rw [ho] at hown; cases hown
theorem DrOwn.mono {h h' : List (Nat × Seg)} {g n n' : Nat} {V : SV} {L : List Dr} (hV : DrOwn h g n V L) (hn : n ≤ n') (hx : ∀ j, j < n → j ≠ g → ∀ t, hget h j = some t → hget h' j = some t) : DrOwn h' g n' V L := by
  rcases hV with h1 | ⟨i, cap, s, rfl, h1, h2, h3, h4⟩
  · exact .inl h1
  · exact .inr ⟨i, cap, s, rfl, by omega, h2, hx i h1 h2 s h3, h4⟩
theorem DrOwn.ok {h : List (Nat × Seg)} {g n : Nat} {V : SV} {L : List Dr} (hV : DrOwn h g n V L) : V.ok = True := by
  rcases hV with ⟨rfl, _⟩ | ⟨i, cap, s, rfl, _⟩ <;> rfl
def HBut2 (g : Nat) (V : SV) (n : Nat) (h h' : List (Nat × Seg)) : Prop := ∀ j, j < n → j ≠ g → notSl V j → ∀ t, hget h j = some t → hget h' j = some t
theorem HOk.consFU {n : Nat} {h : List (Nat × Seg)} {s : Seg} (hok : HOk n h) (hs : ∀ k, k < s.n → (s.c k).flat) : HOk (n + 1) ((n, s) :: h) := fun i t hi => by
  simp only [hget] at hi
  by_cases e : n = i
  · rw [if_pos e] at hi; cases hi
    exact ⟨by omega, fun k hk => (hs k hk).below _⟩
  · rw [if_neg e] at hi
    obtain ⟨g1, g2⟩ := hok i t hi
    exact ⟨by omega, fun k hk => SV.lt_mono (by omega) _ (g2 k hk)⟩
/-- The state of a round. -/
structure TryI (P : Pc) (W H most : Nat) (f : Gr → Nat → Sr) (h : List (Nat × Seg)) (n g ip : Nat) (O : Gr) (V : SV) (so : List Dr) (R0 : Sr) (q t : Nat) (hq : List (Nat × Seg)) (nq : Nat) (Vq : SV) : Prop where
  hqL : q ≤ (dropsL W H).length
  ht : t ≤ most
  hn : n + 1 ≤ nq
  ok : HOk nq hq
  hg : hget hq g = some (plS ip O Vq t most false)
  hl : hget hq n = some ⟨(dropsL W H).length * 3, dropsC (dropsL W H), true, none⟩
  hV : DrOwn hq g nq Vq so
  lt : Vq.lt nq
  hb : HBut2 g V n h hq
  nm : ∀ i, i < n → notSl V i → notSl Vq i
  go : goL f P most O (((dropsL W H).drop q).filter (lastP P O)) t = R0
theorem drop_step (L : List Dr) {q : Nat} (hq : q < L.length) (p : Dr → Bool) : (L.drop q).filter p = if p (L.getD q (0, 0, 0)) then L.getD q (0, 0, 0) :: (L.drop (q + 1)).filter p else (L.drop (q + 1)).filter p := by
  rw [List.drop_eq_getElem_cons hq, List.filter_cons, List.getD_eq_getElem?_getD, List.getElem?_eq_getElem hq, Option.getD_some]
set_option maxHeartbeats 3200000 in
theorem try_E (P : Pc) (W H most : Nat) (hR : PcR P) (hP : PcOk P) (hW : P.wide = W) (hH : P.high = H) (hmost : most ≤ 20000) : ∀ (m : Nat) (cx : Cx) (h : List (Nat × Seg)) (n g ip : Nat) (O : Gr) (V : SV) (t : Nat) (so : List Dr)
    (hs : hget h g = some (plS ip O V t most false)) (hsn : g < n) (hp : hget h ip = some (pcS P)) (hpn : ip < n) (hip : ip ≠ g) (hV : DrOwn h g n V so) (hVl : V.lt n) (hm9 : so.length + m ≤ 100) (ht : t ≤ most) (K : HK)
    (hK : ∀ h' n' O' V', n ≤ n' → HOk n' h' → HBut2 g V n h h' → (∀ i, i < n → notSl V i → notSl V' i) → V'.lt n' → hget h' g = some (plS ip O' V' (srch P W H most m O t).2.1 most (srch P W H most m O t).2.2) →
      (∀ X, (srch P W H most m O t).1 = some X → DrOwn h' g n' V' (so ++ X)) → ((srch P W H most m O t).1 = none → (srch P W H most m O t).2.2 = false → O' = O ∧ DrOwn h' g n' V' so) → K (.bool (srch P W H most m O t).1.isSome) h' n'),
    CallE Tryz.prog cx 44 [.ptr g 0, .int .i64 m] h n K := by
  intro m
  induction m with
  | zero =>
    intro cx h n g ip O V t so hs hsn hp hpn hip hV hVl hm9 ht K hK
    have hs8 := hP.1
    have hW8 : W ≤ 8 := by omega
    have hH8 : H ≤ 8 := by omega
    have hm64 : H * W ≤ 8 * 8 := Nat.mul_le_mul hH8 hW8
    have hll := leftN_le P O W (H * W)
    refine CallE.hokE ?_
    refine callE_of_T (P := Tryz.prog) hti (nt := 103) (rs := [.tmp 4]) rfl rfl Tryz.call44 Tryz.func44 rfl _ (by simp only [go_sem, and_self]) (Nat.le_of_ble_eq_true rfl) _ fun hok => ?_
    simp only [go_sem, Nat.reduceLT, reduceCtorEq, hs, hsn]
    refine (leftP_Q _ _ _ ip g P O (plS ip O V t most false) W H (by first | (simp only [go_sem, hp, hpn]; done) | (simp only [go_sem, Nat.reduceBEq, Nat.reduceLT, Nat.reduceLeDiff, Nat.reduceAdd, Nat.reduceMul, Nat.reduceSub, Nat.reduceMod, Nat.reduceDiv, Nat.reduceEqDiff, Int.reduceToNat, reduceIte, reduceCtorEq, Int.reduceLE, Int.reduceLT, Int.reduceEq, Int.reduceNeg, Int.reduceAdd, Int.reduceSub, Int.reduceMul, hp, hpn]; rfl)) (by omega) (by first | (simp only [go_sem, hs, hsn]; done) | (simp only [go_sem, Nat.reduceBEq, Nat.reduceLT, Nat.reduceLeDiff, Nat.reduceAdd, Nat.reduceMul, Nat.reduceSub, Nat.reduceMod, Nat.reduceDiv, Nat.reduceEqDiff, Int.reduceToNat, reduceIte, reduceCtorEq, Int.reduceLE, Int.reduceLT, Int.reduceEq, Int.reduceNeg, Int.reduceAdd, Int.reduceSub, Int.reduceMul, hs, hsn]; rfl)) (by omega) (pelAt_plS _ _ _ _ _ _) hR hP hW hH).A ?_
    by_cases h0 : leftN P O W (H * W) = 0
    · rw [srch_0 h0] at hK
      simp only [go_sem, Nat.reduceLT, h0, Int.natCast_zero]
      refine fun hok' => hK _ _ O V (Nat.le_refl _) hok' (fun _ _ _ _ _ h => h) (fun _ _ h => h) hVl hs (fun X hX => ?_) (fun h => by cases h)
      cases hX
      rw [List.append_nil]
      exact hV
    have h0' : ¬ ((leftN P O W (H * W) : Int) = 0) := by omega
    rw [srch_far h0 (by omega)] at hK
    simp only [go_sem, Nat.reduceLT, h0', w64 (n := 5 * (0 : Int)) (by omega), Int.natCast_zero, Int.mul_zero, w64 (n := (0 : Int)) (by omega), show ((0 : Int) < (leftN P O W (H * W) : Int)) by omega]
    exact fun hok' => hK _ _ O V (Nat.le_refl _) hok' (fun _ _ _ _ _ h => h) (fun _ _ h => h) hVl hs (fun X hX => by cases hX) (fun _ _ => ⟨rfl, hV⟩)
  | succ m ih =>
    intro cx h n g ip O V t so hs hsn hp hpn hip hV hVl hm9 ht K hK
    have hs8 := hP.1
    have hW8 : W ≤ 8 := by omega
    have hH8 : H ≤ 8 := by omega
    have hm64 : H * W ≤ 8 * 8 := Nat.mul_le_mul hH8 hW8
    have hll := leftN_le P O W (H * W)
    have hDl := dropsL_len W H
    have hnp : notSl V ip := hV.not hp rfl
    refine CallE.hokE ?_
    refine callE_of_T (P := Tryz.prog) hti (nt := 103) (rs := [.tmp 4]) rfl rfl Tryz.call44 Tryz.func44 rfl _ (by simp only [go_sem, and_self]) (Nat.le_of_ble_eq_true rfl) _ fun hok => ?_
    simp only [go_sem, Nat.reduceLT, reduceCtorEq, hs, hsn]
    refine (leftP_Q _ _ _ ip g P O (plS ip O V t most false) W H (by first | (simp only [go_sem, hp, hpn]; done) | (simp only [go_sem, Nat.reduceBEq, Nat.reduceLT, Nat.reduceLeDiff, Nat.reduceAdd, Nat.reduceMul, Nat.reduceSub, Nat.reduceMod, Nat.reduceDiv, Nat.reduceEqDiff, Int.reduceToNat, reduceIte, reduceCtorEq, Int.reduceLE, Int.reduceLT, Int.reduceEq, Int.reduceNeg, Int.reduceAdd, Int.reduceSub, Int.reduceMul, hp, hpn]; rfl)) (by omega) (by first | (simp only [go_sem, hs, hsn]; done) | (simp only [go_sem, Nat.reduceBEq, Nat.reduceLT, Nat.reduceLeDiff, Nat.reduceAdd, Nat.reduceMul, Nat.reduceSub, Nat.reduceMod, Nat.reduceDiv, Nat.reduceEqDiff, Int.reduceToNat, reduceIte, reduceCtorEq, Int.reduceLE, Int.reduceLT, Int.reduceEq, Int.reduceNeg, Int.reduceAdd, Int.reduceSub, Int.reduceMul, hs, hsn]; rfl)) (by omega) (pelAt_plS _ _ _ _ _ _) hR hP hW hH).A ?_
    by_cases h0 : leftN P O W (H * W) = 0
    · rw [srch_0 h0] at hK
      simp only [go_sem, Nat.reduceLT, h0, Int.natCast_zero]
      refine fun hok' => hK _ _ O V (Nat.le_refl _) hok' (fun _ _ _ _ _ h => h) (fun _ _ h => h) hVl hs (fun X hX => ?_) (fun h => by cases h)
      cases hX
      rw [List.append_nil]
      exact hV
    have h0' : ¬ ((leftN P O W (H * W) : Int) = 0) := by omega
    by_cases h5 : 5 * (m + 1) < leftN P O W (H * W)
    · rw [srch_far h0 h5] at hK
      simp only [go_sem, Nat.reduceLT, h0', w64 (n := 5 * ((m : Int) + 1)) (by omega), Int.natCast_add, Int.natCast_one, show (5 * ((m : Int) + 1) < (leftN P O W (H * W) : Int)) by omega]
      exact fun hok' => hK _ _ O V (Nat.le_refl _) hok' (fun _ _ _ _ _ h => h) (fun _ _ h => h) hVl hs (fun X hX => by cases hX) (fun _ _ => ⟨rfl, hV⟩)
    rw [srch_go h0 h5] at hK
    simp only [go_sem, Nat.reduceLT, Nat.reduceLeDiff, reduceCtorEq, h0', hs, hsn, w64 (n := 5 * ((m : Int) + 1)) (by omega), Int.natCast_add, Int.natCast_one, show ¬ (5 * ((m : Int) + 1) < (leftN P O W (H * W) : Int)) by omega]
    refine callA_false (drops7_E _ _ _ ip P W H (by first | (simp only [go_sem, hp, hpn]; done) | (simp only [go_sem, Nat.reduceBEq, Nat.reduceLT, Nat.reduceLeDiff, Nat.reduceAdd, Nat.reduceMul, Nat.reduceSub, Nat.reduceMod, Nat.reduceDiv, Nat.reduceEqDiff, Int.reduceToNat, reduceIte, reduceCtorEq, Int.reduceLE, Int.reduceLT, Int.reduceEq, Int.reduceNeg, Int.reduceAdd, Int.reduceSub, Int.reduceMul, hp, hpn]; rfl)) (by omega) hR hP hW hH _ fun capL hcapL => ?_)
    have hdin := fun q (hq : q < (dropsL W H).length) => dropsL_in (W := W) (H := H) (j := q) (by rw [← hDl]; exact hq) hW8 hH8
    generalize hRR : goL (srch P W H most m) P most O (frontL P W H O) t = R0 at hK
    have I0 : TryI P W H most (srch P W H most m) h n g ip O V so R0 0 t ((n, ⟨(dropsL W H).length * 3, dropsC (dropsL W H), true, none⟩) :: h) (n + 1) V :=
      ⟨Nat.zero_le _, ht, Nat.le_refl _, hok.consFU fun k _ => dropsC_flat _ _, (by first | (simp only [go_sem, hs, hsn]; done) | (simp only [go_sem, Nat.reduceBEq, Nat.reduceLT, Nat.reduceLeDiff, Nat.reduceAdd, Nat.reduceMul, Nat.reduceSub, Nat.reduceMod, Nat.reduceDiv, Nat.reduceEqDiff, Int.reduceToNat, reduceIte, reduceCtorEq, Int.reduceLE, Int.reduceLT, Int.reduceEq, Int.reduceNeg, Int.reduceAdd, Int.reduceSub, Int.reduceMul, hs, hsn]; rfl)), hget_hit _ _ _, hV.mono (by omega) (fun j hj _ t ht => by simp only [go_sem, ht, hj]), SV.lt_mono (by omega) _ hVl, fun j hj _ _ t ht => (by simp only [go_sem, ht, hj]), fun _ _ h => h, hRR⟩
    have hLL : (dropsL W H).length ≤ 192 := by omega
    simp only [go_sem, Nat.reduceLT]
    refine T_lp (ι := { q : (Nat × Nat) × List (Nat × Seg) × Nat × SV // TryI P W H most (srch P W H most m) h n g ip O V so R0 q.1.1 q.1.2 q.2.1 q.2.2.1 q.2.2.2 })
      (fun q => ([(0, .ptr g 0), (1, .int .i64 ((m : Int) + 1)), (25, .sl n 0 (dropsL W H).length capL), (26, .int .i64 (dropsL W H).length), (27, .int .i64 q.1.1.1)], q.1.2.1, q.1.2.2.1)) (fun q => (dropsL W H).length - q.1.1.1) ⟨((0, t), _, n + 1, V), I0⟩ ?_ ?_
    · refine Imp.id (by simp) ?_ (impH.base0 (hok.consFU fun k _ => dropsC_flat _ _) (Nat.le_refl _) HExt.rfl)
      simp only [go_sem, Nat.reduceLT, Int.natCast_add, Int.natCast_one]
      (repeat' apply And.intro) <;> first | omega | rfl | trivial | assumption | skip
    · rintro ⟨⟨⟨q, tq⟩, hq, nq, Vq⟩, I⟩
      obtain ⟨hqL, htq, hnq, hokq, hgq, hlq, hVq, hltq, hbq, hnm, hres⟩ := I
      simp only at hqL htq hnq hokq hgq hlq hVq hltq hbq hnm hres
      have hgn : g < nq := by omega
      have hnn : n < nq := by omega
      have hipn : ip < nq := by omega
      have hpq : hget hq ip = some (pcS P) := hbq ip hpn hip hnp _ hp
      have hVo := hVq.ok
      simp only [go_sem, Nat.reduceLT, decide_eq_true_eq, decide_eq_false_iff_not]
      refine ⟨fun h1 => ?_, fun h1 => ?_⟩
      rotate_left
      · have hq2 : q = (dropsL W H).length := by omega
        subst hq2
        rw [List.drop_length, List.filter_nil, goL] at hres
        subst hres
        exact fun hok' => hK _ _ O Vq (by omega) hok' hbq hnm hltq hgq (fun X hX => by cases hX) (fun _ _ => ⟨rfl, hVq⟩)
      have hqL' : q < (dropsL W H).length := by omega
      rw [drop_step _ hqL'] at hres
      obtain ⟨a1, a2, a3⟩ := hdin q hqL'
      have f0 := dropsC_0 (dropsL W H) q
      have f1 := dropsC_1 (dropsL W H) q
      have f2 := dropsC_2 (dropsL W H) q
      have r1 : (0 : Int) ≤ q ∧ (q : Int) < (dropsL W H).length := ⟨by omega, by omega⟩
      have b1 : q * 3 ≤ (dropsL W H).length * 3 - 3 := by omega
      have b3 : 3 ≤ (dropsL W H).length * 3 := by omega
      have b6 : q * 3 + 3 ≤ (dropsL W H).length * 3 := by omega
      generalize hLg : dropsL W H = L at *
      generalize hdd : L.getD q (0, 0, 0) = d at *
      simp only [go_sem, Nat.reduceLT, reduceIte, hlq, hnn, r1, b1, b3, b6, f0, f1, f2]
      refine T_drawG hti 10 [] (.b 0 0 (.b 0 1 (.b 0 2 (.b 0 3 (.b 2 4 (.b 0 5 (.b 0 6 (.b 0 7 (.b 0 8 (.b 0 9 (.f) .o) .o) .o) .o) .o) .o) .o) .o) .o) .o) _ _ (by kernel_rfl) (by kernel_rfl) ?_
      simp only [go_sem, Nat.reduceLT, reduceCtorEq, hgq, hgn]
      have again : ∀ (hx : List (Nat × Seg)) (nx : Nat), nq ≤ nx → HOk nx hx → HExt nq hq hx → (lastP P O d = false) → ∃ j : { q : (Nat × Nat) × List (Nat × Seg) × Nat × SV // TryI P W H most (srch P W H most m) h n g ip O V so R0 q.1.1 q.1.2 q.2.1 q.2.2.1 q.2.2.2 }, j.1 = ((q + 1, tq), hx, nx, Vq) := fun hx nx hnx okx xx hf => by
        rw [hf] at hres
        exact ⟨⟨((q + 1, tq), hx, nx, Vq), ⟨by rw [hLg]; exact hqL', htq, by show n + 1 ≤ nx; omega, okx, xx g hgn _ hgq, by rw [hLg]; exact xx n hnn _ hlq, hVq.mono hnx (fun j hj _ t ht => xx j hj t ht), SV.lt_mono hnx _ hltq, fun j hj h1 h2 t ht => xx j (by omega) t (hbq j hj h1 h2 t ht), hnm, by rw [hLg]; exact hres⟩⟩, rfl⟩
      refine callA_false (can_E _ _ _ ip g P O d.1 d.2.1 d.2.2 (plS ip O Vq tq most false) (by first | (simp only [go_sem, hpq, hipn]; done) | (simp only [go_sem, Nat.reduceBEq, Nat.reduceLT, Nat.reduceLeDiff, Nat.reduceAdd, Nat.reduceMul, Nat.reduceSub, Nat.reduceMod, Nat.reduceDiv, Nat.reduceEqDiff, Int.reduceToNat, reduceIte, reduceCtorEq, Int.reduceLE, Int.reduceLT, Int.reduceEq, Int.reduceNeg, Int.reduceAdd, Int.reduceSub, Int.reduceMul, hpq, hipn]; rfl)) (by omega) (by first | (simp only [go_sem, hgq, hgn]; done) | (simp only [go_sem, Nat.reduceBEq, Nat.reduceLT, Nat.reduceLeDiff, Nat.reduceAdd, Nat.reduceMul, Nat.reduceSub, Nat.reduceMod, Nat.reduceDiv, Nat.reduceEqDiff, Int.reduceToNat, reduceIte, reduceCtorEq, Int.reduceLE, Int.reduceLT, Int.reduceEq, Int.reduceNeg, Int.reduceAdd, Int.reduceSub, Int.reduceMul, hgq, hgn]; rfl)) (by omega) (pelAt_plS _ _ _ _ _ _) hR hP a1.1 (by omega) a2.1 (by omega) a3 _ (fun ha => ?_) (fun ha cap4 => ?_))
      · have hf : lastP P O d = false := by show (okAll P O d.1 d.2.1 d.2.2 && _) = false; rw [ha, Bool.false_and]
        simp only [go_sem, Nat.reduceLT]
        have okx : HOk (nq + 1) ((nq, ⟨3, cl [.int .i8 d.1, .int .i8 d.2.1, .int .u8 d.2.2], true, none⟩) :: hq) := hokq.consFU fun k hk => cl_flat (l := [_, _, _]) (by simp [SV.flat]) hk
        obtain ⟨⟨v, Iv⟩, rfl⟩ := again _ (nq + 1) (by omega) okx (by simp only [go_sem, HExt_cons]) hf
        refine ⟨⟨_, Iv⟩, by show L.length - (q + 1) < L.length - q; omega, ?_⟩
        refine Imp.id (by show n ≤ nq + 1; omega) ?_ (impH.base0 okx (Nat.le_refl _) HExt.rfl)
        simp only [go_sem, Nat.reduceLT, w64 (n := (q : Int) + 1) (by omega), Int.natCast_add, Int.natCast_one]
        (repeat' apply And.intro) <;> first | omega | rfl | trivial | assumption | skip
      have okx : HOk (nq + 2) ((nq + 1, ⟨(opF P O d.1 d.2.1).length * 2, spotsC (opF P O d.1 d.2.1), true, none⟩) :: (nq, ⟨3, cl [.int .i8 d.1, .int .i8 d.2.1, .int .u8 d.2.2], true, none⟩) :: hq) := (hokq.consFU fun k hk => cl_flat (l := [_, _, _]) (by simp [SV.flat]) hk).consFU fun k _ => spotsC_flat _ _
      by_cases hpos : 0 < (opF P O d.1 d.2.1).length
      rotate_left
      · have hf : lastP P O d = false := by show (okAll P O d.1 d.2.1 d.2.2 && decide (0 < (opF P O d.1 d.2.1).length)) = false; rw [decide_eq_false hpos, Bool.and_false]
        simp only [go_sem, Nat.reduceLT, Nat.reduceLeDiff, hpos]
        obtain ⟨⟨v, Iv⟩, rfl⟩ := again _ (nq + 2) (by omega) okx (by simp only [go_sem, HExt_cons]) hf
        refine ⟨⟨_, Iv⟩, by show L.length - (q + 1) < L.length - q; omega, ?_⟩
        refine Imp.id (by show n ≤ nq + 2; omega) ?_ (impH.base0 okx (Nat.le_refl _) HExt.rfl)
        simp only [go_sem, Nat.reduceLT, w64 (n := (q : Int) + 1) (by omega), Int.natCast_add, Int.natCast_one]
        (repeat' apply And.intro) <;> first | omega | rfl | trivial | assumption | skip
      have hlp : lastP P O d = true := by show (okAll P O d.1 d.2.1 d.2.2 && decide (0 < (opF P O d.1 d.2.1).length)) = true; rw [ha, decide_eq_true hpos]; rfl
      rw [hlp, if_pos rfl] at hres
      have hop5 := opF_len P O d.1 d.2.1
      have hopin : ∀ j, j < (opF P O d.1 d.2.1).length → (0 ≤ ((opF P O d.1 d.2.1).getD j (0, 0)).1 ∧ ((opF P O d.1 d.2.1).getD j (0, 0)).1 < 8) ∧ 0 ≤ ((opF P O d.1 d.2.1).getD j (0, 0)).2 ∧ ((opF P O d.1 d.2.1).getD j (0, 0)).2 < 8 := fun q hq => by
        have hm : (opF P O d.1 d.2.1).getD q (0, 0) ∈ opF P O d.1 d.2.1 := by rw [List.getD_eq_getElem?_getD, List.getElem?_eq_getElem hq]; exact List.getElem_mem hq
        have := covL_in (List.mem_filter.1 hm).1
        omega
      have hob : markA O true (opF P O d.1 d.2.1) = openBy O (covL P.wide P.high d.1 d.2.1) := (markA_true _ _).trans (openBy_filter _ _)
      have hcb : markA (openBy O (covL P.wide P.high d.1 d.2.1)) false (opF P O d.1 d.2.1) = O := by rw [← openBy_filter O (covL P.wide P.high d.1 d.2.1)]; exact markA_back _ _
      generalize hOF : opF P O d.1 d.2.1 = M at *
      simp only [go_sem, Nat.reduceLT, Nat.reduceLeDiff, hpos]
      refine T_draw hti _ _ (by kernel_rfl) (by kernel_rfl) ?_
      simp only [go_sem, Nat.reduceLT, Nat.reduceLeDiff, Nat.reduceAdd, Nat.reduceEqDiff, reduceIte, reduceCtorEq, hgq, hgn]
      by_cases htm : tq = most
      · subst htm
        rw [goL_stop] at hres
        subst hres
        simp only [go_sem, reduceCtorEq, hgq, hgn]
        exact fun hok' => hK _ _ O Vq (by omega) hok' (fun j hj h1 h2 t ht => by simp only [go_sem, reduceIte, hget_hset, show (g = j) = False from eq_false (Ne.symm h1), hbq j hj h1 h2 t ht, show (j < nq) = True from eq_true (by omega)]) hnm (SV.lt_mono (by omega) _ hltq) (by first | (simp only [go_sem, hgq, hgn]; done) | (simp only [go_sem, Nat.reduceBEq, Nat.reduceLT, Nat.reduceLeDiff, Nat.reduceAdd, Nat.reduceMul, Nat.reduceSub, Nat.reduceMod, Nat.reduceDiv, Nat.reduceEqDiff, Int.reduceToNat, reduceIte, reduceCtorEq, Int.reduceLE, Int.reduceLT, Int.reduceEq, Int.reduceNeg, Int.reduceAdd, Int.reduceSub, Int.reduceMul, hgq, hgn]; rfl)) (fun X hX => by cases hX) (fun _ h => by cases h)
      generalize hOO : openBy O (covL P.wide P.high d.1 d.2.1) = O' at *
      simp only [go_sem, hgq, hgn, w64 (n := (tq : Int) + 1) (by omega), show ¬ ((tq : Int) = (most : Int)) by omega]
      have hgg : ∀ t, hget (hset hq g t) g = some t := hget_hset_self hgq
      refine callA_false (mark8_E _ _ _ ip g (nq + 1) cap4 O Vq ((tq : Int) + 1) most false true M ⟨M.length * 2, spotsC M, true, none⟩ (by omega) (SV.lt_mono (by omega) _ hltq) (by first | (simp only [go_sem, hgg, hgn]; done) | (simp only [go_sem, Nat.reduceBEq, Nat.reduceLT, Nat.reduceLeDiff, Nat.reduceAdd, Nat.reduceMul, Nat.reduceSub, Nat.reduceMod, Nat.reduceDiv, Nat.reduceEqDiff, Int.reduceToNat, reduceIte, reduceCtorEq, Int.reduceLE, Int.reduceLT, Int.reduceEq, Int.reduceNeg, Int.reduceAdd, Int.reduceSub, Int.reduceMul, hgg, hgn]; rfl)) (by omega) (by first | (simp only [go_sem]; done) | (simp only [go_sem, Nat.reduceBEq, Nat.reduceLT, Nat.reduceLeDiff, Nat.reduceAdd, Nat.reduceMul, Nat.reduceSub, Nat.reduceMod, Nat.reduceDiv, Nat.reduceEqDiff, Int.reduceToNat, reduceIte, reduceCtorEq, Int.reduceLE, Int.reduceLT, Int.reduceEq, Int.reduceNeg, Int.reduceAdd, Int.reduceSub, Int.reduceMul]; rfl)) (by omega) (by omega) ⟨Nat.le_refl _, fun _ _ => rfl⟩ (by omega) hopin _ ?_)
      rw [hob]
      have hnd : ∀ j capV, Vq = .sl j 0 so.length capV → n ≠ j ∧ ip ≠ j ∧ nq ≠ j ∧ nq + 1 ≠ j ∧ nq + 2 ≠ j := fun j capV e => by
        subst e
        have h1 : n ≠ j := fun e => hVq.not hlq rfl _ _ _ (by rw [e])
        have h2 : ip ≠ j := fun e => hVq.not hpq rfl _ _ _ (by rw [e])
        have h3 : j < nq := hltq
        exact ⟨h1, h2, by omega, by omega, by omega⟩
      have hso100 : so.length ≤ 100 := by omega
      rcases hVq with ⟨rfl, rfl⟩ | ⟨jv, capV, sV, rfl, hj1, hj2, hj3, hj4, hj5, hj6, hj7, hj8, hj9⟩
      · have hsol : ([d] : List Dr).length = 1 := rfl
        have hgp : ∀ t, hget (hset hq g t) ip = some (pcS P) := fun t => by rw [hget_hset, if_neg (Ne.symm hip)]; exact hpq
        have hip' : True := trivial
        have hnew : ∀ (c' : Nat → SV) (z : Nat), (∀ k, k < 3 → c' k = cl [.int .i8 d.1, .int .i8 d.2.1, .int .u8 d.2.2] k) → z < ([d] : List Dr).length * 3 → news c' 0 z = dropsC [d] z := fun c' z hc hz => by
          have := both_drop [] d c' (hc 0 (by omega)) (hc 1 (by omega)) (hc 2 (by omega)) hz
          unfold both at this
          rw [if_neg (by simp)] at this
          simpa using this
        simp only [go_sem, hset_hset, hgn]
        refine T_drawG hti 11 [7, 10] (.b 0 0 (.b 0 1 (.b 0 2 (.b 0 3 (.b 0 4 (.b 0 5 (.b 2 6 (.b 4 7 (.b 0 8 (.b 0 9 (.b 4 10 (.f) .o) .o) .o) .o) .o) .o) .o) .o) .o) .o) .o) _ _ (by kernel_rfl) (by kernel_rfl) ?_
        simp only [go_sem, Nat.reduceLT, Nat.reduceLeDiff, Nat.reduceAdd, Nat.reduceMul, Nat.reduceSub, Nat.reduceMod, Nat.reduceEqDiff, reduceIte, reduceCtorEq, hgg, hgn]
        intro cap' h3 h4
        simp only [go_sem, hgg, hgn, Int.add_sub_cancel, w64 (n := (m : Int)) (by omega)]

        refine callA_false (ih _ _ _ g ip O' (.sl (nq + 3) 0 1 cap') (tq + 1) ([d]) (by first | (simp only [go_sem, hgg, hgn, Int.natCast_add, Int.natCast_one]; done) | (simp only [go_sem, Nat.reduceBEq, Nat.reduceLT, Nat.reduceLeDiff, Nat.reduceAdd, Nat.reduceMul, Nat.reduceSub, Nat.reduceMod, Nat.reduceDiv, Nat.reduceEqDiff, Int.reduceToNat, reduceIte, reduceCtorEq, Int.reduceLE, Int.reduceLT, Int.reduceEq, Int.reduceNeg, Int.reduceAdd, Int.reduceSub, Int.reduceMul, hgg, hgn, Int.natCast_add, Int.natCast_one]; rfl)) (by omega) (by first | (simp only [go_sem, hip', hgp, hipn]; done) | (simp only [go_sem, Nat.reduceBEq, Nat.reduceLT, Nat.reduceLeDiff, Nat.reduceAdd, Nat.reduceMul, Nat.reduceSub, Nat.reduceMod, Nat.reduceDiv, Nat.reduceEqDiff, Int.reduceToNat, reduceIte, reduceCtorEq, Int.reduceLE, Int.reduceLT, Int.reduceEq, Int.reduceNeg, Int.reduceAdd, Int.reduceSub, Int.reduceMul, hip', hgp, hipn]; rfl)) (by omega) hip (.inr ⟨nq + 3, cap', _, rfl, by omega, by omega, hget_hit _ _ _, rfl, by rw [hsol]; exact h3, h4, by rw [hsol]; exact Nat.le_refl _, rfl, fun z hz => hnew _ z (fun k hk => if_pos hk) hz⟩) (show nq + 3 < nq + 4 by omega) (by rw [hsol]; omega) (by omega) _ ?_)
        intro h2 n2 O2 V2 hn2 ok2 hb2 hnm2 hl2 hg2 hX2 hN2
        have hn4 : nq + 4 ≤ n2 := hn2
        have kp : HBut2 g V n h h2 := fun j hj hg' h1 t ht => hb2 j (by show j < nq + 4; omega) hg' (notSl_sl (by omega)) t (by
          have hjq : j < nq := by omega
          have := hbq j hj hg' h1 t ht
          skip
          first | (simp only [go_sem, reduceIte, hjq, this, hget_hset, show (g = j) = False from eq_false (Ne.symm hg')]; done) | (simp only [go_sem, Nat.reduceBEq, Nat.reduceLT, Nat.reduceLeDiff, Nat.reduceAdd, Nat.reduceMul, Nat.reduceSub, Nat.reduceMod, Nat.reduceDiv, Nat.reduceEqDiff, Int.reduceToNat, reduceIte, reduceCtorEq, Int.reduceLE, Int.reduceLT, Int.reduceEq, Int.reduceNeg, Int.reduceAdd, Int.reduceSub, Int.reduceMul, hjq, this, hget_hset, show (g = j) = False from eq_false (Ne.symm hg')]; rfl))
        have kn : ∀ i, i < n → notSl V i → notSl V2 i := fun i hi _ => hnm2 i (by omega) (notSl_sl (by omega))
        have kl : hget h2 n = some ⟨L.length * 3, dropsC L, true, none⟩ := hb2 n (by omega) (by omega) (notSl_sl (by omega)) _ (by
          first | (simp only [go_sem, reduceIte, hnn, hlq, hget_hset, show (g = n) = False from eq_false (by omega)]; done) | (simp only [go_sem, Nat.reduceBEq, Nat.reduceLT, Nat.reduceLeDiff, Nat.reduceAdd, Nat.reduceMul, Nat.reduceSub, Nat.reduceMod, Nat.reduceDiv, Nat.reduceEqDiff, Int.reduceToNat, reduceIte, reduceCtorEq, Int.reduceLE, Int.reduceLT, Int.reduceEq, Int.reduceNeg, Int.reduceAdd, Int.reduceSub, Int.reduceMul, hnn, hlq, hget_hset, show (g = n) = False from eq_false (by omega)]; rfl))
        have kM : hget h2 (nq + 1) = some ⟨M.length * 2, spotsC M, true, none⟩ := hb2 (nq + 1) (by omega) (by omega) (notSl_sl (by omega)) _ (by first | (simp only [go_sem, Nat.reduceLT]; done) | (simp only [go_sem, Nat.reduceBEq, Nat.reduceLT, Nat.reduceLeDiff, Nat.reduceAdd, Nat.reduceMul, Nat.reduceSub, Nat.reduceMod, Nat.reduceDiv, Nat.reduceEqDiff, Int.reduceToNat, reduceIte, reduceCtorEq, Int.reduceLE, Int.reduceLT, Int.reduceEq, Int.reduceNeg, Int.reduceAdd, Int.reduceSub, Int.reduceMul]; rfl))
        have hg2n : g < n2 := by omega
        rcases hr : srch P W H most m O' (tq + 1) with ⟨_ | X, t', s'⟩
        · rw [hr] at hg2 hX2 hN2
          have hr' := hr
          rw [← hOO] at hr'
          cases s' with
          | true =>
            rw [goL_halt htm hr'] at hres
            subst hres
            simp only [go_sem, Nat.reduceLT, Nat.reduceAdd, reduceCtorEq, hr, Option.isSome_none, hg2, hg2n]
            exact fun hok' => hK _ _ O2 V2 (by omega) hok' kp kn hl2 hg2 (fun X hX => by cases hX) (fun _ h => by cases h)
          | false =>
            rw [goL_next htm hr'] at hres
            obtain ⟨rfl, hV2⟩ := hN2 rfl rfl
            have hto := (srch_ok P W H most m O2 (tq + 1) (by omega)).1
            rw [hr] at hto
            have hto' : t' ≤ most := hto
            have kpq : hget h2 ip = some (pcS P) := kp ip hpn hip hnp _ hp
            have hV2' := hV2
            rcases hV2 with ⟨_, hnil⟩ | ⟨j2, cap2, ⟨sn2, sc2, sr2, so2⟩, rfl, u1, u2, u3, u4, u5, u6, u7, u8, u9⟩
            · simp at hnil
            simp only at u4 u7 u8 u9
            subst u4 u8
            have hsl2 : ([d]).length = 0 + 1 := by simp
            have hgg2 : ∀ t, hget (hset h2 g t) g = some t := hget_hset_self hg2
            have kM2 : ∀ t, hget (hset h2 g t) (nq + 1) = some ⟨M.length * 2, spotsC M, true, none⟩ := fun t => by rw [hget_hset, if_neg (by omega)]; exact kM
            have nq1 : nq + 1 < n2 := by omega
            have nq1' : (nq + 1 < n2) = True := eq_true nq1
            rw [hsl2] at u5 u7 u9 hg2
            have hg3 : hget h2 g = some (plS ip O2 (.sl j2 0 (0 + 1) cap2) t' most false) := hg2
            simp only [go_sem, Nat.reduceLT, Nat.reduceAdd, reduceCtorEq, hr, Option.isSome_none, hg2, hg2n, hsl2]
            refine callA_false (mark8_E _ _ _ ip g (nq + 1) cap4 O2 (.sl j2 0 (0 + 1) cap2) t' most false false M ⟨M.length * 2, spotsC M, true, none⟩ (by omega) u1 hg3 (by omega) kM (by omega) (by omega) ⟨Nat.le_refl _, fun _ _ => rfl⟩ (by omega) hopin _ ?_)
            rw [hcb]
            simp only [go_sem]
            refine T_drawT hti 14 _ _ (by kernel_rfl) (by kernel_rfl) ?_
            simp only [go_sem, Nat.reduceLT, Nat.reduceLeDiff, Nat.reduceAdd, Nat.reduceMul, Nat.reduceSub, Nat.reduceEqDiff, Int.reduceToNat, reduceIte, reduceCtorEq, Int.reduceLE, Int.reduceSub, hgg2, hg2n, hset_hset, Int.natCast_add, Int.natCast_one, Int.add_sub_cancel, w64 (n := ((0 : Nat) : Int)) (by omega), w64 (n := (0 : Int)) (by omega)]
            refine ⟨by first | omega | exact ⟨by omega, by omega⟩, ?_⟩
            simp only [ite_self, Nat.sub_zero]
            have okx : HOk n2 (hset h2 g (plS ip O (.sl j2 0 0 cap2) t' most false)) := HOk.hset ok2 fun k hk => plC_lt _ _ _ _ (by omega) (show SV.lt n2 (.sl j2 0 0 cap2) from u1) _
            have Iv : TryI P W H most (srch P W H most m) h n g ip O V ([] : List Dr) R0 (q + 1) t' (hset h2 g (plS ip O (.sl j2 0 0 cap2) t' most false)) n2 (.sl j2 0 0 cap2) :=
              ⟨by rw [hLg]; exact hqL', hto', by omega, okx, hgg2 _, by rw [hLg, hget_hset, if_neg (by omega)]; exact kl,
                .inr ⟨j2, cap2, _, rfl, u1, u2, by rw [hget_hset, if_neg (by omega)]; exact u3, rfl, by show 0 ≤ cap2; omega, u6, by show 0 * 3 ≤ sn2; omega, rfl, fun z hz => (u9 z (by have hz : z < 0 * 3 := hz; omega)).trans (dropsC_take (a := ([] : List Dr)) (b := [d]) hz)⟩,
                u1, fun j hj hg' h1 t ht => by rw [hget_hset, if_neg (Ne.symm hg')]; exact kp j hj hg' h1 t ht, fun i hi h => notSl_sl fun e => by subst e; exact absurd rfl (kn _ hi h _ _ _), by rw [hLg]; exact hres⟩
            refine ⟨⟨((q + 1, t'), _, n2, _), Iv⟩, by show L.length - (q + 1) < L.length - q; omega, ?_⟩
            refine Imp.id (by show n ≤ n2; omega) ?_ (impH.base0 okx (Nat.le_refl _) HExt.rfl)
            simp only [go_sem, Nat.reduceLT, w64 (n := (q : Int) + 1) (by omega), Int.natCast_add, Int.natCast_one]
            (repeat' apply And.intro) <;> first | omega | rfl | trivial | assumption | skip
        · rw [hr] at hg2 hX2 hN2
          have hr' := hr
          rw [← hOO] at hr'
          rw [goL_some htm hr'] at hres
          subst hres
          simp only [go_sem, Nat.reduceLT, hr, Option.isSome_some, hg2, hg2n]
          exact fun hok' => hK _ _ O2 V2 (by omega) hok' kp kn hl2 hg2 (fun Y hY => by
            cases hY
            have := hX2 X rfl
            exact this) (fun h => by cases h)

      · obtain ⟨sn, sc, sr, sow⟩ := sV
        simp only at hj4 hj7 hj8 hj9
        subst hj4 hj8
        replace hnd := hnd jv capV rfl
        have hsol : so.length + 1 = (so ++ [d]).length := by rw [List.length_append, List.length_singleton]
        have hgv : ∀ t, hget (hset hq g t) jv = some ⟨sn, sc, true, some (48, capV * 3)⟩ := fun t => by rw [hget_hset, if_neg (Ne.symm hj2)]; exact hj3
        have hgd : ∀ t, hget (hdel (hset hq g t) jv) g = some t := fun t => by rw [hget_hdel, if_neg hj2]; exact hgg t
        have hgd' : ∀ t u, hget (hset (hdel (hset hq g t) jv) g u) g = some u := fun t u => hget_hset_self (hgd t) u
        have hgp : ∀ t u, hget (hset (hdel (hset hq g t) jv) g u) ip = some (pcS P) := fun t u => by rw [hget_hset, if_neg (Ne.symm hip), hget_hdel, if_neg (Ne.symm hnd.2.1), hget_hset, if_neg (Ne.symm hip)]; exact hpq
        have hip' : True := trivial
        have hnew : ∀ (c' : Nat → SV) (z : Nat), (∀ k, k < 3 → c' k = cl [.int .i8 d.1, .int .i8 d.2.1, .int .u8 d.2.2] k) → z < (so ++ [d]).length * 3 → both (so.length * 3) sc (news c' 0) z = dropsC (so ++ [d]) z := fun c' z hc hz => by
          rw [← hsol] at hz
          rw [← both_drop so d c' (hc 0 (by omega)) (hc 1 (by omega)) (hc 2 (by omega)) hz]
          unfold both
          split
          · exact hj9 z (by assumption)
          · rfl
        simp only [go_sem, hset_hset, hgn]
        refine T_drawG hti 11 [7, 10] (.b 0 0 (.b 0 1 (.b 0 2 (.b 0 3 (.b 0 4 (.b 0 5 (.b 2 6 (.b 4 7 (.b 0 8 (.b 0 9 (.b 4 10 (.f) .o) .o) .o) .o) .o) .o) .o) .o) .o) .o) .o) _ _ (by kernel_rfl) (by kernel_rfl) ?_
        simp only [go_sem, Nat.reduceLT, Nat.reduceLeDiff, Nat.reduceAdd, Nat.reduceMul, Nat.reduceSub, Nat.reduceMod, reduceIte, reduceCtorEq, hgg, hgn, hgv, hj1]
        refine ⟨⟨hj5, hj6, hj7, by omega⟩, fun cap' h3 h4 => ?_⟩
        simp only [go_sem, Nat.reduceLT, Nat.reduceLeDiff, Nat.reduceAdd, Nat.reduceEqDiff, reduceIte, reduceCtorEq, hgd, hgn, Int.add_sub_cancel, w64 (n := (m : Int)) (by omega)]

        refine callA_false (ih _ _ _ g ip O' (.sl (nq + 3) 0 (so.length + 1) cap') (tq + 1) (so ++ [d]) (by first | (simp only [go_sem, hgd, hgd', hgg, hgn, Int.natCast_add, Int.natCast_one]; done) | (simp only [go_sem, Nat.reduceBEq, Nat.reduceLT, Nat.reduceLeDiff, Nat.reduceAdd, Nat.reduceMul, Nat.reduceSub, Nat.reduceMod, Nat.reduceDiv, Nat.reduceEqDiff, Int.reduceToNat, reduceIte, reduceCtorEq, Int.reduceLE, Int.reduceLT, Int.reduceEq, Int.reduceNeg, Int.reduceAdd, Int.reduceSub, Int.reduceMul, hgd, hgd', hgg, hgn, Int.natCast_add, Int.natCast_one]; rfl)) (by omega) (by first | (simp only [go_sem, hgd, hgd', hip', hgp, hipn]; done) | (simp only [go_sem, Nat.reduceBEq, Nat.reduceLT, Nat.reduceLeDiff, Nat.reduceAdd, Nat.reduceMul, Nat.reduceSub, Nat.reduceMod, Nat.reduceDiv, Nat.reduceEqDiff, Int.reduceToNat, reduceIte, reduceCtorEq, Int.reduceLE, Int.reduceLT, Int.reduceEq, Int.reduceNeg, Int.reduceAdd, Int.reduceSub, Int.reduceMul, hgd, hgd', hip', hgp, hipn]; rfl)) (by omega) hip (.inr ⟨nq + 3, cap', _, by rw [hsol], by omega, by omega, hget_hit _ _ _, rfl, by rw [← hsol]; exact h3, h4, by rw [← hsol]; exact Nat.le_refl _, rfl, fun z hz => hnew _ z (fun k hk => if_pos hk) hz⟩) (show nq + 3 < nq + 4 by omega) (by rw [← hsol]; omega) (by omega) _ ?_)
        intro h2 n2 O2 V2 hn2 ok2 hb2 hnm2 hl2 hg2 hX2 hN2
        have hn4 : nq + 4 ≤ n2 := hn2
        have kp : HBut2 g V n h h2 := fun j hj hg' h1 t ht => hb2 j (by show j < nq + 4; omega) hg' (notSl_sl (by omega)) t (by
          have hjq : j < nq := by omega
          have := hbq j hj hg' h1 t ht
          have hjv : j ≠ jv := fun e => by subst e; exact absurd rfl (hnm _ hj h1 _ _ _)
          first | (simp only [go_sem, reduceIte, hjq, this, hget_hset, show (g = j) = False from eq_false (Ne.symm hg'), hget_hdel, show (jv = j) = False from eq_false (Ne.symm (hjv))]; done) | (simp only [go_sem, Nat.reduceBEq, Nat.reduceLT, Nat.reduceLeDiff, Nat.reduceAdd, Nat.reduceMul, Nat.reduceSub, Nat.reduceMod, Nat.reduceDiv, Nat.reduceEqDiff, Int.reduceToNat, reduceIte, reduceCtorEq, Int.reduceLE, Int.reduceLT, Int.reduceEq, Int.reduceNeg, Int.reduceAdd, Int.reduceSub, Int.reduceMul, hjq, this, hget_hset, show (g = j) = False from eq_false (Ne.symm hg'), hget_hdel, show (jv = j) = False from eq_false (Ne.symm (hjv))]; rfl))
        have kn : ∀ i, i < n → notSl V i → notSl V2 i := fun i hi _ => hnm2 i (by omega) (notSl_sl (by omega))
        have kl : hget h2 n = some ⟨L.length * 3, dropsC L, true, none⟩ := hb2 n (by omega) (by omega) (notSl_sl (by omega)) _ (by
          first | (simp only [go_sem, reduceIte, hnn, hlq, hget_hset, show (g = n) = False from eq_false (by omega), hget_hdel, show (jv = n) = False from eq_false (Ne.symm hnd.1)]; done) | (simp only [go_sem, Nat.reduceBEq, Nat.reduceLT, Nat.reduceLeDiff, Nat.reduceAdd, Nat.reduceMul, Nat.reduceSub, Nat.reduceMod, Nat.reduceDiv, Nat.reduceEqDiff, Int.reduceToNat, reduceIte, reduceCtorEq, Int.reduceLE, Int.reduceLT, Int.reduceEq, Int.reduceNeg, Int.reduceAdd, Int.reduceSub, Int.reduceMul, hnn, hlq, hget_hset, show (g = n) = False from eq_false (by omega), hget_hdel, show (jv = n) = False from eq_false (Ne.symm hnd.1)]; rfl))
        have kM : hget h2 (nq + 1) = some ⟨M.length * 2, spotsC M, true, none⟩ := hb2 (nq + 1) (by omega) (by omega) (notSl_sl (by omega)) _ (by first | (simp only [go_sem, Nat.reduceLT]; done) | (simp only [go_sem, Nat.reduceBEq, Nat.reduceLT, Nat.reduceLeDiff, Nat.reduceAdd, Nat.reduceMul, Nat.reduceSub, Nat.reduceMod, Nat.reduceDiv, Nat.reduceEqDiff, Int.reduceToNat, reduceIte, reduceCtorEq, Int.reduceLE, Int.reduceLT, Int.reduceEq, Int.reduceNeg, Int.reduceAdd, Int.reduceSub, Int.reduceMul]; rfl))
        have hg2n : g < n2 := by omega
        rcases hr : srch P W H most m O' (tq + 1) with ⟨_ | X, t', s'⟩
        · rw [hr] at hg2 hX2 hN2
          have hr' := hr
          rw [← hOO] at hr'
          cases s' with
          | true =>
            rw [goL_halt htm hr'] at hres
            subst hres
            simp only [go_sem, Nat.reduceLT, Nat.reduceAdd, reduceCtorEq, hr, Option.isSome_none, hg2, hg2n]
            exact fun hok' => hK _ _ O2 V2 (by omega) hok' kp kn hl2 hg2 (fun X hX => by cases hX) (fun _ h => by cases h)
          | false =>
            rw [goL_next htm hr'] at hres
            obtain ⟨rfl, hV2⟩ := hN2 rfl rfl
            have hto := (srch_ok P W H most m O2 (tq + 1) (by omega)).1
            rw [hr] at hto
            have hto' : t' ≤ most := hto
            have kpq : hget h2 ip = some (pcS P) := kp ip hpn hip hnp _ hp
            have hV2' := hV2
            rcases hV2 with ⟨_, hnil⟩ | ⟨j2, cap2, ⟨sn2, sc2, sr2, so2⟩, rfl, u1, u2, u3, u4, u5, u6, u7, u8, u9⟩
            · simp at hnil
            simp only at u4 u7 u8 u9
            subst u4 u8
            have hsl2 : (so ++ [d]).length = so.length + 1 := by simp
            have hgg2 : ∀ t, hget (hset h2 g t) g = some t := hget_hset_self hg2
            have kM2 : ∀ t, hget (hset h2 g t) (nq + 1) = some ⟨M.length * 2, spotsC M, true, none⟩ := fun t => by rw [hget_hset, if_neg (by omega)]; exact kM
            have nq1 : nq + 1 < n2 := by omega
            have nq1' : (nq + 1 < n2) = True := eq_true nq1
            rw [hsl2] at u5 u7 u9 hg2
            have hg3 : hget h2 g = some (plS ip O2 (.sl j2 0 (so.length + 1) cap2) t' most false) := hg2
            simp only [go_sem, Nat.reduceLT, Nat.reduceAdd, reduceCtorEq, hr, Option.isSome_none, hg2, hg2n, hsl2]
            refine callA_false (mark8_E _ _ _ ip g (nq + 1) cap4 O2 (.sl j2 0 (so.length + 1) cap2) t' most false false M ⟨M.length * 2, spotsC M, true, none⟩ (by omega) u1 hg3 (by omega) kM (by omega) (by omega) ⟨Nat.le_refl _, fun _ _ => rfl⟩ (by omega) hopin _ ?_)
            rw [hcb]
            simp only [go_sem]
            refine T_drawT hti 14 _ _ (by kernel_rfl) (by kernel_rfl) ?_
            simp only [go_sem, Nat.reduceLT, Nat.reduceLeDiff, Nat.reduceAdd, Nat.reduceMul, Nat.reduceEqDiff, Int.reduceToNat, reduceIte, reduceCtorEq, Int.reduceLE, hgg2, hg2n, hset_hset, Int.natCast_add, Int.natCast_one, Int.add_sub_cancel, w64 (n := ((so.length : Nat) : Int)) (by omega), w64 (n := (0 : Int)) (by omega)]
            refine ⟨by first | omega | exact ⟨by omega, by omega⟩, ?_⟩
            simp only [ite_self, Nat.sub_zero]
            have okx : HOk n2 (hset h2 g (plS ip O (.sl j2 0 so.length cap2) t' most false)) := HOk.hset ok2 fun k hk => plC_lt _ _ _ _ (by omega) (show SV.lt n2 (.sl j2 0 so.length cap2) from u1) _
            have Iv : TryI P W H most (srch P W H most m) h n g ip O V so R0 (q + 1) t' (hset h2 g (plS ip O (.sl j2 0 so.length cap2) t' most false)) n2 (.sl j2 0 so.length cap2) :=
              ⟨by rw [hLg]; exact hqL', hto', by omega, okx, hgg2 _, by rw [hLg, hget_hset, if_neg (by omega)]; exact kl,
                .inr ⟨j2, cap2, _, rfl, u1, u2, by rw [hget_hset, if_neg (by omega)]; exact u3, rfl, by show so.length ≤ cap2; omega, u6, by show so.length * 3 ≤ sn2; omega, rfl, fun z hz => (u9 z (by have hz : z < so.length * 3 := hz; omega)).trans (dropsC_take (a := so) (b := [d]) hz)⟩,
                u1, fun j hj hg' h1 t ht => by rw [hget_hset, if_neg (Ne.symm hg')]; exact kp j hj hg' h1 t ht, fun i hi h => notSl_sl fun e => by subst e; exact absurd rfl (kn _ hi h _ _ _), by rw [hLg]; exact hres⟩
            refine ⟨⟨((q + 1, t'), _, n2, _), Iv⟩, by show L.length - (q + 1) < L.length - q; omega, ?_⟩
            refine Imp.id (by show n ≤ n2; omega) ?_ (impH.base0 okx (Nat.le_refl _) HExt.rfl)
            simp only [go_sem, Nat.reduceLT, w64 (n := (q : Int) + 1) (by omega), Int.natCast_add, Int.natCast_one]
            (repeat' apply And.intro) <;> first | omega | rfl | trivial | assumption | skip
        · rw [hr] at hg2 hX2 hN2
          have hr' := hr
          rw [← hOO] at hr'
          rw [goL_some htm hr'] at hres
          subst hres
          simp only [go_sem, Nat.reduceLT, hr, Option.isSome_some, hg2, hg2n]
          exact fun hok' => hK _ _ O2 V2 (by omega) hok' kp kn hl2 hg2 (fun Y hY => by
            cases hY
            have := hX2 X rfl
            rwa [List.append_assoc] at this) (fun h => by cases h)

end Go.Proofs.YtcjgpkhdlobbbaaGreat.V

/- The fewest drops: the result; the reference's walk. -/
namespace Go.Proofs.YtcjgpkhdlobbbaaGreat.V
theorem HExt.ofBut {n g : Nat} {h h1 h2 : List (Nat × Seg)} (h0 : HExt n h h1) (hb : ∀ i, i < n → i ≠ g → ∀ t, hget h1 i = some t → hget h2 i = some t) (hg : n ≤ g) : HExt n h h2 := fun i hi t ht => hb i hi (by omega) t (h0 i hi t ht)
section
variable (cx : Cx) (h : List (Nat × Seg)) (n : Nat)
set_option maxHeartbeats 1600000 in
theorem few2_S (P : Pc) (b : Int) (hR : PcR P) (K : HK)
    (hK : ∀ V h' n', n ≤ n' → HExt n h h' → HOk n' h' → DrSl h' n n' V (fewR P b).1 → K (.tup 3 (cl [V, .int .i64 (fewR P b).2.1, .int .i64 (fewR P b).2.2])) h' n') :
    CallE Tryz.prog cx 12 [.agg 66 (pcC P), .int .i64 b] h n K := by
  refine CallE.hokE ?_
  refine callE_of_T (P := Tryz.prog) hti (nt := 46) (rs := [.tmp 4, .tmp 5, .tmp 6]) rfl rfl Tryz.call12 Tryz.func12 rfl _ (by simp only [go_sem, and_self]) (Nat.le_of_ble_eq_true rfl) _ fun hok => ?_
  simp only [go_sem, Nat.reduceLT]
  refine (ok7_Q _ _ _ n P (by first | (simp only [go_sem]; done) | (simp only [go_sem, Nat.reduceBEq, Nat.reduceLT, Nat.reduceLeDiff, Nat.reduceAdd, Nat.reduceMul, Nat.reduceSub, Nat.reduceMod, Nat.reduceDiv, Nat.reduceEqDiff, Int.reduceToNat, reduceIte, reduceCtorEq, Int.reduceLE, Int.reduceLT, Int.reduceEq, Int.reduceNeg, Int.reduceAdd, Int.reduceSub, Int.reduceMul]; rfl)) (by omega) hR).A ?_
  by_cases hk : pcokB P = true
  rotate_left
  · rw [fewR_1 hk] at hK
    simp only [go_sem, Nat.reduceLT, Nat.reduceMul, hk]
    exact fun hok' => hK _ _ _ (by omega) (by simp only [go_sem, HExt_cons]) hok' (⟨n + 1, 0, _, rfl, by omega, by omega, (by first | (simp only [go_sem]; done) | (simp only [go_sem]; rfl)), rfl, rfl, fun k hk => by simp at hk⟩)
  have hP : PcOk P := by simpa [pcokB] using hk
  have hs8 := hP.1
  simp only [go_sem, Nat.reduceLT, hk]
  refine (in_Q _ _ _ b 0 20000).A ?_
  by_cases hb : 0 ≤ b ∧ b ≤ 20000
  rotate_left
  · rw [fewR_2 hk hb] at hK
    simp only [go_sem, Nat.reduceLT, Nat.reduceMul, hb]
    exact fun hok' => hK _ _ _ (by omega) (by simp only [go_sem, HExt_cons]) hok' (⟨n + 1, 0, _, rfl, by omega, by omega, (by first | (simp only [go_sem]; done) | (simp only [go_sem]; rfl)), rfl, rfl, fun k hk => by simp at hk⟩)
  obtain ⟨W, hW⟩ : ∃ W : Nat, P.wide = W := ⟨P.wide.toNat, by omega⟩
  obtain ⟨H, hH⟩ : ∃ H : Nat, P.high = H := ⟨P.high.toNat, by omega⟩
  obtain ⟨B, hB⟩ : ∃ B : Nat, b = B := ⟨b.toNat, by omega⟩
  have hW8 : W ≤ 8 := by omega
  have hH8 : H ≤ 8 := by omega
  have hB2 : B ≤ 20000 := by omega
  rw [fewR_0 hk hb, show P.wide.toNat = W by omega, show P.high.toNat = H by omega, show b.toNat = B by omega] at hK
  subst hB
  simp only [go_sem, Nat.reduceLT, Nat.reduceLeDiff, hb]
  generalize hR0 : fewL P W H B 9 0 0 = R0 at hK
  have o64 : ones (.agg 64 zz_a010c9) = True := eq_true fun j hj => trivial
  have hsg0 : HOk (n + 2) ((n + 1, sgS n B 0 false) :: (n, pcS P) :: h) := fun i t hi => by
    simp only [hget] at hi
    by_cases e : n + 1 = i
    · rw [if_pos e] at hi; cases hi
      exact ⟨by omega, fun k hk => sg_lt (by omega) k hk⟩
    · rw [if_neg e] at hi
      obtain ⟨g1, g2⟩ := (hok.consFU (s := pcS P) fun k _ => pcC_flat _ _) i t (by simp only [hget]; exact hi)
      exact ⟨by omega, fun k hk => SV.lt_mono (by omega) _ (g2 k hk)⟩
  refine T_lp (ι := { q : (Nat × Nat) × List (Nat × Seg) × Nat // (q.1.1 ≤ 9 ∧ q.1.2 ≤ B) ∧ n + 2 ≤ q.2.2 ∧ HOk q.2.2 q.2.1 ∧ hget q.2.1 n = some (pcS P) ∧ hget q.2.1 (n + 1) = some (sgS n B q.1.2 false) ∧ HExt n h q.2.1 ∧ fewL P W H B (9 - q.1.1) q.1.1 q.1.2 = R0 })
    (fun q => ([(7, .ptr (n + 1) 0), (8, .int .i64 q.1.1.1)], q.1.2.1, q.1.2.2)) (fun q => 9 - q.1.1.1) ⟨((0, 0), (n + 1, sgS n B 0 false) :: (n, pcS P) :: h, n + 2), ⟨Nat.zero_le 9, Nat.zero_le B⟩, Nat.le_refl _, hsg0, (by first | (simp only [go_sem]; done) | (simp only [go_sem, Nat.reduceBEq, Nat.reduceLT, Nat.reduceLeDiff, Nat.reduceAdd, Nat.reduceMul, Nat.reduceSub, Nat.reduceMod, Nat.reduceDiv, Nat.reduceEqDiff, Int.reduceToNat, reduceIte, reduceCtorEq, Int.reduceLE, Int.reduceLT, Int.reduceEq, Int.reduceNeg, Int.reduceAdd, Int.reduceSub, Int.reduceMul]; rfl)), hget_hit _ _ _, by simp only [go_sem, HExt_cons], hR0⟩ ?_ ?_
  · refine Imp.id (by simp) ?_ ?_
    · simp only [go_sem, Nat.reduceLT]
      (repeat' apply And.intro) <;> first | omega | rfl | trivial | assumption | skip
    · exact impH.cons0 (hget_hit _ _ _) (by simp) (sg_le (n' := n + 2) rfl rfl rfl rfl rfl rfl rfl (by omega)) (impH.cons0 (by first | (simp only [go_sem]; done) | (simp only [go_sem, Nat.reduceBEq, Nat.reduceLT, Nat.reduceLeDiff, Nat.reduceAdd, Nat.reduceMul, Nat.reduceSub, Nat.reduceMod, Nat.reduceDiv, Nat.reduceEqDiff, Int.reduceToNat, reduceIte, reduceCtorEq, Int.reduceLE, Int.reduceLT, Int.reduceEq, Int.reduceNeg, Int.reduceAdd, Int.reduceSub, Int.reduceMul]; rfl)) (by simp) (SegLe.flat (Nat.le_refl _) id (.inr rfl) fun k hk => ⟨rfl, pcC_flat _ _⟩) (impH.base0 hok (by simp) (by simp only [go_sem, HExt_cons])))
  · rintro ⟨⟨⟨k, t⟩, hq, nq⟩, ⟨hk9, htB⟩, hnq, hokq, hpq, hsq, hxq, hres⟩
    simp only at hk9 htB hnq hokq hpq hsq hxq hres
    have hn1 : n < nq := by omega
    have hn2 : n + 1 < nq := by omega
    simp only [go_sem, Nat.reduceLT, Nat.reduceMul, decide_eq_true_eq, decide_eq_false_iff_not]
    refine ⟨fun h1 => ?_, fun h1 => ?_⟩
    rotate_left
    · have hk2 : k = 9 := by omega
      subst hk2
      have e0 : fewL P W H B (9 - 9) 9 t = ([], 0, 6) := rfl
      rw [e0] at hres
      subst hres
      exact fun hok' => hK _ _ _ (by omega) (hxq.tr (m' := nq) (by simp only [go_sem, HExt_cons]) (by omega)) hok' (⟨nq, 0, _, rfl, by omega, by omega, hget_hit _ _ _, rfl, rfl, fun k hk => by simp at hk⟩)
    obtain ⟨r, hr⟩ : ∃ r, 9 - k = r + 1 := ⟨8 - k, by omega⟩
    rw [hr] at hres
    refine callA_false (from_E P W H B hR hP hW hH hB2 k _ _ _ (n + 1) n nq 0 off t [] ⟨0, _, true, _⟩ (by first | (simp only [go_sem, hsq, hn2]; done) | (simp only [go_sem, Nat.reduceBEq, Nat.reduceLT, Nat.reduceLeDiff, Nat.reduceAdd, Nat.reduceMul, Nat.reduceSub, Nat.reduceMod, Nat.reduceDiv, Nat.reduceEqDiff, Int.reduceToNat, reduceIte, reduceCtorEq, Int.reduceLE, Int.reduceLT, Int.reduceEq, Int.reduceNeg, Int.reduceAdd, Int.reduceSub, Int.reduceMul, hsq, hn2]; rfl)) (by omega) (by first | (simp only [go_sem, hpq, hn1]; done) | (simp only [go_sem, Nat.reduceBEq, Nat.reduceLT, Nat.reduceLeDiff, Nat.reduceAdd, Nat.reduceMul, Nat.reduceSub, Nat.reduceMod, Nat.reduceDiv, Nat.reduceEqDiff, Int.reduceToNat, reduceIte, reduceCtorEq, Int.reduceLE, Int.reduceLT, Int.reduceEq, Int.reduceNeg, Int.reduceAdd, Int.reduceSub, Int.reduceMul, hpq, hn1]; rfl)) (by omega) (by omega) (hget_hit _ _ _) (by omega) (by omega) ⟨Nat.le_refl _, fun z hz => by simp at hz⟩ (by simp; omega) htB _ ?_)
    intro V h2 n2 hn3 hb2 ok2 hs2 hVo hVl hX2
    have hn3' : nq + 1 ≤ n2 := hn3
    have hbk : ∀ i, i < nq → i ≠ n + 1 → ∀ u, hget hq i = some u → hget h2 i = some u := fun i hi hne u hu => hb2 i (by omega) hne _ (by simp only [go_sem, hu, hi])
    have hx2 : HExt n h h2 := hxq.ofBut (fun i hi hne u hu => hbk i (by omega) hne u hu) (by omega)
    have hp2 : hget h2 n = some (pcS P) := hbk n hn1 (by omega) _ hpq
    have hn4 : n + 1 < n2 := by omega
    have hto := srch_ok P W H B k off t htB
    rcases he : srch P W H B k off t with ⟨_ | X, t', s'⟩
    · rw [he] at hs2 hto
      cases s' with
      | true =>
        rw [fewL_stop he] at hres
        subst hres
        simp only [go_sem, Nat.reduceLT, Nat.reduceMul, reduceCtorEq, he, Option.isSome_none, hVo, hs2, hn4]
        exact fun hok' => hK _ _ _ (by omega) (hx2.tr (m' := n2) (by simp only [go_sem, HExt_cons]) (by omega)) hok' (⟨n2, 0, _, rfl, by omega, by omega, hget_hit _ _ _, rfl, rfl, fun k hk => by simp at hk⟩)
      | false =>
        rw [fewL_next he] at hres
        simp only [go_sem, Nat.reduceLT, reduceCtorEq, he, Option.isSome_none, hVo, hs2, hn4]
        refine ⟨⟨((k + 1, t'), h2, n2), ⟨by show k + 1 ≤ 9; omega, hto.1⟩, by show n + 2 ≤ n2; omega, ok2, hp2, hs2, hx2, by show fewL P W H B (9 - (k + 1)) (k + 1) t' = R0; rw [show 9 - (k + 1) = r by omega]; exact hres⟩, by show 9 - (k + 1) < 9 - k; omega, ?_⟩
        refine Imp.id (by show n ≤ n2; omega) ?_ (impH.base0 ok2 (Nat.le_refl _) HExt.rfl)
        simp only [go_sem, Nat.reduceLT, w64 (n := (k : Int) + 1) (by omega), Int.natCast_add, Int.natCast_one]
        (repeat' apply And.intro) <;> first | omega | rfl | trivial | assumption | skip
    · rw [he] at hs2 hto hX2
      obtain ⟨hXl, rfl⟩ := hto.2 X rfl
      rw [fewL_some he] at hres
      subst hres
      obtain ⟨i, cap, s, rfl, i1, i2, i3, i4⟩ := hX2 X rfl
      have i3' : hget h2 i = some s := i3
      simp only [go_sem, Nat.reduceLT, reduceCtorEq, he, Option.isSome_some, hVo, hs2, hn4]
      refine T_drawG hti 9 [] (.b 0 0 (.b 0 2 (.b 0 3 (.b 0 4 (.b 0 5 (.b 2 1 (.b 0 6 (.b 0 7 (.b 0 8 (.f) .o) .o) .o) .o) .o) .o) .o) .o) .o) _ _ (by kernel_rfl) (by kernel_rfl) ?_
      simp only [go_sem, Nat.reduceLT, Nat.reduceLeDiff, reduceCtorEq, he, hs2, hn4, List.nil_append]
      refine callA_false (back7_E _ _ _ i cap X s i3' i1 i4 (by omega) _ fun cap5 => ?_)
      simp only [go_sem, Nat.reduceLT, hs2, hn4]
      exact fun hok' => hK _ _ _ (by omega) (hx2.tr (m' := n2) (by simp only [go_sem, HExt_cons]) (by omega)) hok' (⟨n2, cap5, _, rfl, by omega, by omega, hget_hit _ _ _, rfl, rfl, fun _ _ => rfl⟩)
end
end Go.Proofs.YtcjgpkhdlobbbaaGreat.V

/- The law of PeelAll: the walk. -/
namespace Go.Proofs.YtcjgpkhdlobbbaaGreat.V
section
variable (cx : Cx) (h : List (Nat × Seg)) (n : Nat)
end
end Go.Proofs.YtcjgpkhdlobbbaaGreat.V
