/- Regions that draw their order: quiet operations first, what writes behind them; or growing memory in between. -/
import Derived.Test.YtfelopllfhcdpaaGreatV10
import Derived.StillTail
set_option linter.all false
namespace Go.Proofs.YtfelopllfhcdpaaGreat.V

abbrev NoX : Exit → Act → World → Prop := fun _ _ _ => False

section
variable {P : Program} {ops : Array Oper} {md : Region.Mode} {fam : (World → Prop) → Prop} {C : World → Prop}

def opH (P : Program) (ops : Array Oper) (i : Nat) (K : Act → World → Prop) (a : Act) (w : World) : Prop :=
  match ops[i]? with
  | none => K a w
  | some o => if Region.wanted o (yielded ops a.tmps) then o.wp P a w K NoX else K (a.put o.dst undef) w

theorem opH_mono {i : Nat} {a : Act} {w : World} {K K' : Act → World → Prop} (h : ∀ a w, K a w → K' a w) (hh : opH P ops i K a w) : opH P ops i K' a w := by
  unfold opH at *
  split
  · exact h _ _ (by simpa [*] using hh)
  · rename_i o ho
    simp only [ho] at hh
    split
    · rename_i hw; simp only [hw, if_true] at hh; exact Oper.wp_mono h hh
    · rename_i hw; simp only [hw] at hh; exact h _ _ hh
theorem wpOp_of_opH {Q' : Exit → Act → World → Prop} {i : Nat} {a : Act} {w : World} {K K' : Act → World → Prop} (h : ∀ a w, K a w → K' a w) (hh : opH P ops i K a w) : wpOp P ops Q' i K' a w := by
  unfold opH at hh
  unfold wpOp
  split
  · exact h _ _ (by simpa [*] using hh)
  · rename_i o ho
    simp only [ho] at hh
    split
    · rename_i hw; simp only [hw, if_true] at hh; exact .inl (Oper.wp_mono2 hh h (fun _ _ _ h => h))
    · rename_i hw; simp only [hw] at hh; exact h _ _ hh

theorem opH_put {j : Nat} {oi oj : Oper} {v : Value} {Y : Act → Prop} (hj : ops[j]? = some oj) (hap : oi.apart ops oj = true)
    (hsj : ∀ cs b, oj.op ≠ .select cs b) (keep : ∀ a, Y a → ∀ u, Y (a.put oj.dst u)) (keepD : ∀ a d, Y a → Y { a with defers := d :: a.defers })
    {K : Act → World → Prop} {a : Act} {w : World} (hy : Y a) (h : opH P ops j K (a.put oi.dst v) w) :
    opH P ops j (fun a' w' => Y a' ∧ K (a'.put oi.dst v) w') a w := by
  obtain ⟨h1, h2, h3⟩ := Oper.apart_spec hap
  unfold opH at *
  simp only [hj] at *
  rw [wanted_put oj a oi.dst v h1] at h
  split
  · rename_i hw
    simp only [hw, if_true] at h
    unfold Oper.wp at *
    rw [execOp_put oj hsj a oi.dst v h1] at h
    generalize (execOp a.eval oj).run P w = r at *
    cases r with
    | ok n w' =>
      cases n <;> simp only [Oper.upon] at h ⊢
      case value u => exact ⟨keep a hy u, by rw [← Act.put_comm a v u h2]; exact h⟩
      case skip => exact ⟨keep a hy _, by rw [← Act.put_comm a v undef h2]; exact h⟩
      case defer d =>
        refine ⟨keep _ (keepD a d hy) _, ?_⟩
        rw [← Act.put_comm _ v undef h2, ← Act.put_defers]
        exact h
      case enter f args =>
        refine Calls.mono h fun e w'' he => ?_
        cases e with
        | returned u => exact ⟨keep a hy u, by rw [← Act.put_comm a v u h2]; exact he⟩
        | panicked c => exact he
        | outgrown => exact he
      case row row args => exact Rows.mono h fun u w'' he => ⟨keep a hy u, by rw [← Act.put_comm a v u h2]; exact he⟩
    | halt x w' =>
      cases x <;> simp only [Oper.upon] at h ⊢ <;> exact h
  · rename_i hw
    simp only [hw] at h
    exact ⟨keep a hy _, by rw [← Act.put_comm a v undef h2]; exact h⟩

/-- In every world of every class that may come, the operation leaves v. -/
def YieldsC (P : Program) (ops : Array Oper) (fam : (World → Prop) → Prop) (C : World → Prop) (o : Oper) (v : Value) (a : Act) : Prop :=
  (Region.wanted o (yielded ops a.tmps) = true ∧ ∀ C', fam C' → (∀ w, C' w → C w) → ∀ w, C' w → o.quietAt P a C' w v) ∨
  (Region.wanted o (yielded ops a.tmps) = false ∧ v = undef)
theorem YieldsC.of_same {o : Oper} {v : Value} {a a' : Act} (hy : YieldsC P ops fam C o v a) (he : execOp a'.eval o = execOp a.eval o)
    (hw : Region.wanted o (yielded ops a'.tmps) = Region.wanted o (yielded ops a.tmps)) : YieldsC P ops fam C o v a' := by
  unfold YieldsC Oper.quietAt at *
  rw [he, hw]
  exact hy
theorem YieldsC.sub {o : Oper} {v : Value} {a : Act} {C' : World → Prop} (hy : YieldsC P ops fam C o v a) (hs : ∀ w, C' w → C w) : YieldsC P ops fam C' o v a :=
  hy.imp (fun ⟨h1, h2⟩ => ⟨h1, fun C'' hf hc w hw => h2 C'' hf (fun w h => hs w (hc w h)) w hw⟩) id
theorem YieldsC.opH {i : Nat} {o : Oper} {v : Value} {a : Act} (hi : ops[i]? = some o) (hy : YieldsC P ops fam C o v a) (hf : fam C) {K : Act → World → Prop} (h : ∀ w, C w → K (a.put o.dst v) w) {w : World} (hw : C w) :
    opH P ops i K a w := by
  unfold V.opH
  simp only [hi]
  rcases hy with ⟨hwa, hv⟩ | ⟨hwa, rfl⟩
  · simp only [hwa, if_true]
    have h3 := hv C hf (fun _ h => h) w hw
    unfold Oper.quietAt at h3
    unfold Oper.wp
    generalize (execOp a.eval o).run P w = r at *
    cases r with
    | ok n w' =>
      cases n <;> simp only [Oper.quietUpon] at h3 <;> simp only [Oper.upon]
      case value u => obtain ⟨e1, e2⟩ := h3; rw [e1, e2]; exact h _ hw
      case skip => obtain ⟨e1, e2⟩ := h3; rw [e1, ← e2]; exact h _ hw
      case enter f args =>
        obtain ⟨e1, hc⟩ := h3
        rw [e1]
        exact hc.mono fun e w'' ⟨he, hw''⟩ => by subst he; exact h _ hw''
    | halt x w' => simp only [Oper.quietUpon] at h3
  · simp only [hwa, Bool.false_eq_true, if_false]; exact h _ hw

/-- The first f operations in whatever order; the class of worlds may get smaller. -/
def wpAnyH (P : Program) (md : Region.Mode) (ops : Array Oper) (fam : (World → Prop) → Prop) (n : Nat) (L : Array Bool → Act → World → Prop) : Nat → Array Bool → Act → (World → Prop) → Prop
  | 0, listed, a, C => ∀ w, C w → L listed a w
  | f + 1, listed, a, C =>
    Region.ready md ops listed ≠ [] ∧ ∀ i ∈ Region.ready md ops listed, i < n ∧ ∀ w, C w → opH P ops i (fun a' w' => ∃ C', fam C' ∧ C' w' ∧ (∀ w, C' w → C w) ∧ wpAnyH P md ops fam n L f (listed.setIfInBounds i true) a' C') a w

theorem wpAny_of_H {n g : Nat} {L : Array Bool → Act → World → Prop} {Q' : Exit → Act → World → Prop} (hL : ∀ listed a w, L listed a w → wpAny P md ops Q' g listed a w) :
    ∀ (f : Nat) (listed : Array Bool) (a : Act) (C : World → Prop) (w : World), C w → wpAnyH P md ops fam n L f listed a C → wpAny P md ops Q' (f + g) listed a w
  | 0, listed, a, C, w, hw, h => by rw [Nat.zero_add]; exact hL _ _ _ (h w hw)
  | f + 1, listed, a, C, w, hw, h => by
    rw [show f + 1 + g = (f + g) + 1 by omega]
    exact ⟨fun h0 => absurd h0 h.1, fun i hi => wpOp_of_opH (fun a' w' ⟨C', _, hw', _, h'⟩ => wpAny_of_H hL f _ a' C' w' hw' h') ((h.2 i hi).2 w hw)⟩

theorem wpAnyH_first {n i : Nat} {oi : Oper} {v : Value} {L : Array Bool → Act → World → Prop} (hi : ops[i]? = some oi) (hsel : ∀ (j : Nat) (o : Oper) cs b, ops[j]? = some o → o.op ≠ .select cs b)
    (hwait : ∀ listed, HeadInv md ops n listed → listed.getD i true = false → ∀ j ∈ Region.ready md ops listed, j < n) (hin : i < n)
    (hdone : ∀ listed a w, L listed a w → ∀ j ∈ Region.ready md ops listed, n ≤ j) :
    ∀ (f : Nat) (listed : Array Bool) (a : Act) (C : World → Prop), fam C → HeadInv md ops n listed →
      (∀ j oj, ops[j]? = some oj → j ≠ i → listed.getD j true = false → (∀ e ∈ oj.after, Region.binds md e = true → e.on ≠ i) → oi.apart ops oj = true) →
      i ∈ Region.ready md ops listed → YieldsC P ops fam C oi v a →
      wpAnyH P md ops fam n L f (listed.setIfInBounds i true) (a.put oi.dst v) C → wpAnyH P md ops fam n L (f + 1) listed a C := by
  intro f
  induction f with
  | zero =>
    intro listed a C hf inv _ hr hy H
    have hun := (mem_ready.1 hr).1
    refine ⟨fun h => (by rw [h] at hr; cases hr), fun j hj => ?_⟩
    have hjn := hwait listed inv hun j hj
    refine ⟨hjn, fun w hw => ?_⟩
    by_cases hji : j = i
    · subst hji; exact hy.opH hi hf (fun w' hw' => ⟨C, hf, hw', fun _ h => h, H⟩) hw
    · have := hdone _ _ _ (H w hw) j (ready_mono hj hji)
      omega
  | succ f ih =>
    intro listed a C hf inv hfree hr hy H
    have hun := (mem_ready.1 hr).1
    refine ⟨fun h => (by rw [h] at hr; cases hr), fun j hj => ?_⟩
    have hjn := hwait listed inv hun j hj
    refine ⟨hjn, fun w hw => ?_⟩
    by_cases hji : j = i
    · subst hji; exact hy.opH hi hf (fun w' hw' => ⟨C, hf, hw', fun _ h => h, H⟩) hw
    · have h1 := (H.2 j (ready_mono hj hji)).2 w hw
      obtain ⟨hjun, oj, hoj, hall⟩ := mem_ready.1 hj
      have hnot : ∀ e ∈ oj.after, Region.binds md e = true → e.on ≠ i := fun e he hb heq => by
        have h1 := hall e he hb
        rw [heq, getD_both hun] at h1
        cases h1
      have hap := hfree j oj hoj hji hjun hnot
      obtain ⟨_, _, h3⟩ := Oper.apart_spec hap
      have h2 := opH_put (Y := YieldsC P ops fam C oi v) hoj hap (fun cs b => hsel j oj cs b hoj)
        (fun a hy u => hy.of_same (execOp_put oi (fun cs b => hsel i oi cs b hi) a oj.dst u h3) (wanted_put oi a oj.dst u h3)) (fun a d hy => hy.of_same rfl rfl) hy h1
      have hfree' : ∀ k ok, ops[k]? = some ok → k ≠ i → (listed.setIfInBounds j true).getD k true = false →
          (∀ e ∈ ok.after, Region.binds md e = true → e.on ≠ i) → oi.apart ops ok = true := fun k ok hk hki hun hno => by
        refine hfree k ok hk hki ?_ hno
        by_cases hjk : j = k
        · subst hjk; exact hjun
        · rw [getD_set_ne true hjk] at hun; exact hun
      refine opH_mono (fun a' w' ⟨hy', C', hf', hw', hs', H'⟩ => ⟨C', hf', hw', hs', ih (listed.setIfInBounds j true) a' C' hf' (inv.set hj hjn) hfree' (ready_mono hr (Ne.symm hji)) (hy'.sub hs') ?_⟩) h2
      rw [Array.setIfInBounds_comm _ _ hji]
      exact H'

/-- What the quiet walk shows of one operation, the class never getting smaller. -/
theorem yieldsC_of_qOp {i : Nat} {o : Oper} {a : Act} {K : Act → Prop} (hi : ops[i]? = some o) (h : qOp P ops C i K a) : ∃ v, YieldsC P ops (fun C' => C' = C) C o v a ∧ K (a.put o.dst v) := by
  obtain ⟨v, h1, h2⟩ := yieldsIn_of_qOp hi h
  exact ⟨v, h1.imp (fun ⟨a, b⟩ => ⟨a, fun C' hf _ w hw => by subst hf; exact b w hw⟩) id, h2⟩

/-- Another order of the first operations. -/
def ordHead (md : Region.Mode) (ops : Array Oper) (g n : Nat) : List Nat → Array Bool → Bool
  | [], listed => Region.seqB md ops g n listed
  | k :: r, listed => decide (k < n) && (Region.ready md ops listed).contains k && Region.free md ops listed k && ordHead md ops g n r (listed.setIfInBounds k true)
def pk (o : Option Oper) (r : List Oper) : List Oper := match o with | some o => o :: r | none => r
def pick (l : List Oper) : List Nat → List Oper
  | [] => []
  | k :: r => pk l[k]? (pick l r)
@[go_sem] theorem pick_nil (l : List Oper) : pick l [] = [] := rfl
@[go_sem] theorem pick_cons (l : List Oper) (k : Nat) (r : List Nat) : pick l (k :: r) = pk l[k]? (pick l r) := rfl
@[go_sem] theorem pk_some (o : Oper) (r : List Oper) : pk (some o) r = o :: r := rfl

theorem wpAnyH_ord {l : List Oper} {n g : Nat} {Lq : Act → World → Prop} (hsel : Region.noSelect l.toArray = true) (hn : n ≤ l.length)
    (hwait : ∀ i, i < n → ∀ listed, HeadInv md l.toArray n listed → listed.getD i true = false → ∀ j ∈ Region.ready md l.toArray listed, j < n) :
    ∀ (ord : List Nat) (listed : Array Bool) (a : Act), HeadInv md l.toArray n listed →
    ordHead md l.toArray g n ord listed = true → wpQuiet P l.toArray C (fun a' => ∀ w, C w → Lq a' w) (pick l ord) a →
    wpAnyH P md l.toArray (fun C' => C' = C) n (fun listed' a' w' => Region.seqB md l.toArray g n listed' = true ∧ Lq a' w') ord.length listed a C
  | [], listed, a, inv, hB, h => fun w hw => ⟨by simpa [ordHead] using hB, h w hw⟩
  | k :: ord, listed, a, inv, hB, h => by
    simp only [ordHead, Bool.and_eq_true, decide_eq_true_eq] at hB
    obtain ⟨⟨⟨hkn, hr⟩, hf⟩, hB'⟩ := hB
    have hkl : k < l.length := by omega
    have h0 : l.toArray[k]? = some l[k] := by simp [hkl]
    have hr' : k ∈ Region.ready md l.toArray listed := by simpa using hr
    have hpk : pick l (k :: ord) = l[k] :: pick l ord := by simp [pick, pk, hkl]
    rw [hpk] at h
    have hst : qOp P l.toArray C k (wpQuiet P l.toArray C (fun a' => ∀ w, C w → Lq a' w) (pick l ord)) a := by unfold qOp; simp only [h0]; exact h
    obtain ⟨v, hy, hK⟩ := yieldsC_of_qOp h0 hst
    exact wpAnyH_first h0 (Region.noSelect_spec hsel) (hwait k hkn) hkn (fun listed' a' w' hL => seqB_ready hL.1) ord.length listed a C rfl inv (Region.free_spec h0 hf) hr' hy
      (wpAnyH_ord hsel hn hwait ord _ _ (inv.set hr' hkn) hB' hK)

def ordB (l : List Oper) (n : Nat) (ord : List Nat) : Bool :=
  Region.noSelect l.toArray && decide (n ≤ l.length) && decide (ord.length = n) && (decide (n = l.length) || (Region.sinkB .any l.toArray n && Region.chainB .any l.toArray n)) &&
    ordHead .any l.toArray (l.length - n) n ord (Array.replicate l.length false)

theorem wp_region_ord {id : Nat} {Q : Exit → Act → World → Prop} {a : Act} {w : World} {l : List Oper} (n : Nat) (ord : List Nat) (hm : P.follows .mixedOrders = true) (hB : ordB l n ord = true) (hC : C { w with drawn := w.drawn + 1 })
    (h : wpQuiet P l.toArray C (fun a' => ∀ w, C w → wpList P l.toArray Q (l.drop n) a' w) (pick l ord) a) : (Code.region id l.toArray true).wp P Q a w := by
  simp only [ordB, Bool.and_eq_true, decide_eq_true_eq, Bool.or_eq_true] at hB
  obtain ⟨⟨⟨⟨hsel, hn⟩, hlen⟩, hsc⟩, hlex⟩ := hB
  have hdl : (l.drop n).length = l.length - n := by simp
  have inv0 : HeadInv .any l.toArray n (Array.replicate l.length false) :=
    ⟨by simp, fun j oj _ hl => (by rw [getD_replicate_false] at hl; cases hl), fun t _ ht => getD_in (by simpa using ht) (getD_replicate_false _ _)⟩
  have hwait : ∀ i, i < n → ∀ listed, HeadInv .any l.toArray n listed → listed.getD i true = false → ∀ j ∈ Region.ready .any l.toArray listed, j < n := by
    intro i hi listed inv hun j hj
    rcases hsc with h | ⟨hs, hc⟩
    · obtain ⟨_, oj, hoj, _⟩ := mem_ready.1 hj
      have := (Array.getElem?_eq_some_iff.1 hoj).1
      simp at this; omega
    · rcases Nat.lt_or_ge j n with h | h
      · exact h
      · have hn2 : n < l.toArray.size := by
          obtain ⟨_, oj, hoj, _⟩ := mem_ready.1 hj
          have := (Array.getElem?_eq_some_iff.1 hoj).1
          omega
        exact absurd hj (tail_waits hs hc hn2 inv _ i rfl hi hun j h)
  have H := wpAnyH_ord (md := .any) (g := l.length - n) hsel hn hwait ord _ a inv0 hlex h
  refine wp_region_any hm ?_
  have := wpAny_of_H (Q' := Q) (g := l.length - n) (fun listed a' w' hL => by
    have := wpAny_of_seq (md := .any) (Q' := Q) (l.drop n) n listed a' w' (fun j => by simp [List.getElem?_drop]) (by rw [hdl]; exact hL.1) hL.2
    rwa [hdl] at this) _ _ _ _ _ hC H
  rw [hlen, show n + (l.length - n) = l.length by omega] at this
  simpa using this
end

section
variable {P : Program} {ti : Nat → TI} {cx : Cx} {Q : List (Nat × SV) → List (Nat × Seg) → Nat → Prop}
variable {k : List It} {l : List (Nat × SV)} {h : List (Nat × Seg)} {n : Nat} {ρ : Rho} {a : Act} {w : World} {all rest : List Oper}

theorem wpQuiet_mono {C : World → Prop} {Q1 Q2 : Act → Prop} (hq : ∀ a, Q1 a → Q2 a) : ∀ (r : List Oper) (a : Act), wpQuiet P all.toArray C Q1 r a → wpQuiet P all.toArray C Q2 r a
  | [], a, h => hq a h
  | o :: r, a, hh => by
    unfold wpQuiet at hh ⊢
    split
    · rename_i hw; rw [if_pos hw] at hh; exact Oper.quiet_mono (fun a => wpQuiet_mono hq r a) hh
    · rename_i hw; rw [if_neg hw] at hh; exact wpQuiet_mono hq r _ hh

theorem Oper.wp_mono3 {o : Oper} {K K' : Act → World → Prop} {Q1 Q2 : Exit → Act → World → Prop} (hh : o.wp P a w K Q1) (h : ∀ a w, K a w → K' a w) (hq : ∀ e a w, Q1 e a w → Q2 e a w) : o.wp P a w K' Q2 := by
  unfold Oper.wp at *
  generalize (execOp a.eval o).run P w = r at *
  cases r with
  | ok n w' =>
    cases n <;> simp only [Oper.upon] at hh ⊢ <;>
      first
        | exact h _ _ hh
        | exact Rows.mono hh (fun _ _ he => h _ _ he)
        | exact Calls.mono hh (fun e w'' he => by cases e <;> first | exact h _ _ he | exact hq _ _ _ he | (obtain ⟨a, w, he⟩ := he; exact ⟨a, w, hq _ _ _ he⟩))
  | halt x w' => cases x <;> simp only [Oper.upon] at hh ⊢ <;> first | exact hh | exact hq _ _ _ hh
theorem wpList_mono {Q1 Q2 : Exit → Act → World → Prop} (hq : ∀ e a w, Q1 e a w → Q2 e a w) : ∀ (r : List Oper) (a : Act) (w : World), wpList P all.toArray Q1 r a w → wpList P all.toArray Q2 r a w
  | [], a, w, h => hq _ _ _ h
  | o :: r, a, w, hh => by
    unfold wpList at hh ⊢
    split
    · rename_i hw; rw [if_pos hw] at hh
      rcases hh with hh | ⟨h1, a, w, h2⟩
      · exact .inl (Oper.wp_mono3 hh (fun a w => wpList_mono hq r a w) hq)
      · exact .inr ⟨h1, a, w, hq _ _ _ h2⟩
    · rename_i hw; rw [if_neg hw] at hh; exact wpList_mono hq r _ _ hh

def Nix : List (Nat × SV) → List (Nat × Seg) → Nat → Prop := fun _ _ _ => False

/-- A region all of whose operations are quiet. -/
theorem T_draw (hti : ∀ t, TyOK P t (ti t)) (id : Nat) (ops : List Oper) (hm : P.follows .mixedOrders = true) (hB : Region.lexB .any ops.toArray = true)
    (ht : T P ti cx Nix [.ops true ops ops, .inv (T P ti cx Q k)] l h n) : T P ti cx Q (.code (.region id ops.toArray true) :: k) l h n := by
  rw [T_reg]
  intro ρ a w st sh hn
  refine wp_region_quiet (C := SatH cx ρ h n) hm hB (sh.keep (Keeps.draw w)) ?_
  refine wpQuiet_mono (all := ops) ?_ _ _ (by simpa using quiet_sound hti sh ops l a st ht)
  rintro a' ⟨l', st', ht'⟩ w' sh'
  rw [T_inv] at ht'
  exact ⟨ρ, l', h, n, fun _ _ => rfl, st', sh', hn, ht'⟩

/-- Quiet operations in an order of ours, then others in theirs. -/
theorem T_drawO (hti : ∀ t, TyOK P t (ti t)) (m : Nat) (ord : List Nat) (id : Nat) (ops : List Oper) (hm : P.follows .mixedOrders = true) (hB : ordB ops m ord = true)
    (ht : T P ti cx Nix [.ops true ops (pick ops ord), .ops false ops (ops.drop m), .inv (T P ti cx Q k)] l h n) : T P ti cx Q (.code (.region id ops.toArray true) :: k) l h n := by
  rw [T_reg]
  intro ρ a w st sh hn
  refine wp_region_ord (C := SatH cx ρ h n) m ord hm hB (sh.keep (Keeps.draw w)) ?_
  refine wpQuiet_mono (all := ops) ?_ _ _ (quiet_sound hti sh (pick ops ord) l a st ht)
  rintro a' ⟨l', st', ht'⟩ w' sh'
  have := T_sound (Q := Nix) hti ρ _ [.ops false ops (ops.drop m), .inv (T P ti cx Q k)] l' h n ρ a' w' (Nat.le_refl _) trivial (fun _ _ => rfl) hn st' sh' ht'
  refine wpList_mono (fun e a w he => ?_) _ _ _ this
  cases e with
  | normal => exact he
  | ret => obtain ⟨_, _, _, _, _, _, _, _, h⟩ := he; exact h.elim
  | _ => exact he.elim
/-- The order as it stands; m quiet ones. -/
theorem T_drawT (hti : ∀ t, TyOK P t (ti t)) (m : Nat) (id : Nat) (ops : List Oper) (hm : P.follows .mixedOrders = true) (hB : ordB ops m (List.range m) = true)
    (ht : T P ti cx Nix [.ops true ops (ops.take m), .ops false ops (ops.drop m), .inv (T P ti cx Q k)] l h n) : T P ti cx Q (.code (.region id ops.toArray true) :: k) l h n := by
  refine T_drawO hti m (List.range m) id ops hm hB ?_
  have hm' : m ≤ ops.length := by simp only [ordB, Bool.and_eq_true, decide_eq_true_eq] at hB; exact hB.1.1.1.2
  have : ∀ k, k ≤ m → pick ops (List.range' (m - k) k) = (ops.drop (m - k)).take k := by
    intro k
    induction k with
    | zero => intro _; simp [pick]
    | succ k ih =>
      intro hk
      have hlt : m - (k + 1) < ops.length := by omega
      rw [List.range'_succ, pick, List.getElem?_eq_getElem hlt, pk, show m - (k + 1) + 1 = m - k by omega, ih (by omega)]
      rw [List.drop_eq_getElem_cons hlt, List.take_succ_cons, show m - (k + 1) + 1 = m - k by omega]
  have h1 := this m (Nat.le_refl _)
  simp only [Nat.sub_self, List.drop_zero] at h1
  rw [List.range_eq_range', h1]
  exact ht
end
end Go.Proofs.YtfelopllfhcdpaaGreat.V
