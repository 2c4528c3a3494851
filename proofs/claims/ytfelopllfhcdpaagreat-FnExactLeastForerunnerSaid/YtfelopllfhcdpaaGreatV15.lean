/- Regions that draw their order: pure operations that float, calls in their one order. -/
import Derived.Test.YtfelopllfhcdpaaGreatV14
set_option linter.all false
namespace Go.Proofs.YtfelopllfhcdpaaGreat.V

def pureB : Op → Bool
  | .build .. => true
  | .convert .. => true
  | op => isPv op

section
variable {P : Program} {ti : Nat → TI} {cx : Cx} {Q : List (Nat × SV) → List (Nat × Seg) → Nat → Prop}
variable {k : List It} {l : List (Nat × SV)} {h : List (Nat × Seg)} {n : Nat} {ρ : Rho} {a : Act} {w : World} {all rest : List Oper}

/-- Does it read memory? -/
def readsB : Op → Bool
  | .load .. => true
  | _ => false
theorem pv_free (ti : Nat → TI) (l : List (Nat × SV)) (h h' : List (Nat × Seg)) (op : Op) (hr : readsB op = false) : pv ti l h op = pv ti l h' op := by
  cases op
  case load => cases hr
  case slice t x lo hi mx => cases mx <;> rfl
  case call c =>
    obtain ⟨cal, xs, ats⟩ := c
    cases cal <;> rfl
  all_goals rfl
theorem run_free (hti : ∀ t, TyOK P t (ti t)) (st : SatT cx ρ l n a) (o : Oper) (hr : readsB o.op = false) (hv : (pv ti l h o.op).vc) (w : World) : (execOp a.eval o).run P w = .ok (.value (den ρ (pv ti l h o.op).v)) w := by
  have st' : SatT ⟨w, Noth, cx.nt, cx.n0⟩ ρ l n a := ⟨st.sz, st.val, st.dfr⟩
  have sh' : SatH ⟨w, Noth, cx.nt, cx.n0⟩ ρ [] n w := ⟨Keeps.refl _ _, fun i s h => (by cases h), fun i j s t _ h => (by cases h), fun i s h => (by cases h)⟩
  rw [pv_free ti l h [] o.op hr] at hv ⊢
  exact (pv_sound hti o st' sh' hv).1
/-- What one pure operation gives, in whatever world of the class. -/
def Pure1 (P : Program) (ti : Nat → TI) (cx : Cx) (Q : List (Nat × SV) → List (Nat × Seg) → Nat → Prop) (k : List It) (l : List (Nat × SV)) (h : List (Nat × Seg)) (n : Nat) (ρ : Rho) (a : Act) (all rest : List Oper) (o : Oper) : Prop :=
  ∃ v : SV, v.lt n ∧ (∀ w, (readsB o.op = true → SatH cx ρ h n w) → (execOp a.eval o).run P w = .ok (.value (den ρ v)) w) ∧ dok cx.nt o.dst ∧ T P ti cx Q (.ops true all rest :: k) (put l o.dst v) h n

theorem pure_pv (hti : ∀ t, TyOK P t (ti t)) (st : SatT cx ρ l n a) (sh : SatH cx ρ h n w) (o : Oper) (hd : dok cx.nt o.dst)
    (hb : bindT P ti cx Q k l h n true all rest o.dst (pv ti l h o.op)) : Pure1 P ti cx Q k l h n ρ a all rest o := by
  obtain ⟨hvc, ht⟩ := hb
  refine ⟨_, (pv_sound hti o st sh hvc).2, fun w' sh' => ?_, hd, ht⟩
  cases hr : readsB o.op with
  | true => exact (pv_sound hti o st (sh' hr) hvc).1
  | false => exact run_free hti st o hr hvc w'

theorem pure1 (hti : ∀ t, TyOK P t (ti t)) (st : SatT cx ρ l n a) (sh : SatH cx ρ h n w) (d : Option Nat) (op : Op) (ty : Nat) (pos : String) (af : Array Edge) (g : Option (Nat × Bool)) (hp : pureB op = true)
    (ht : T P ti cx Q (.ops true all (⟨d, op, ty, pos, af, none⟩ :: rest) :: k) l h n) : Pure1 P ti cx Q k l h n ρ a all rest ⟨d, op, ty, pos, af, g⟩ := by
  cases op
  case move x => rw [T_move] at ht; exact pure_pv hti st sh ⟨d, .move x, ty, pos, af, g⟩ ht.1 ht.2
  case assign x => rw [T_assign] at ht; exact pure_pv hti st sh ⟨d, .assign x, ty, pos, af, g⟩ ht.1 ht.2
  case pick c x y => rw [T_pick] at ht; exact pure_pv hti st sh ⟨d, .pick c x y, ty, pos, af, g⟩ ht.1 ht.2
  case load t x => rw [T_load] at ht; exact pure_pv hti st sh ⟨d, .load t x, ty, pos, af, g⟩ ht.1 ht.2
  case nilCheck x => rw [T_nilCheck] at ht; exact pure_pv hti st sh ⟨d, .nilCheck x, ty, pos, af, g⟩ ht.1 ht.2
  case unOp o t x => rw [T_unOp] at ht; exact pure_pv hti st sh ⟨d, .unOp o t x, ty, pos, af, g⟩ ht.1 ht.2
  case makeFunc f xs ys => rw [T_makeFunc] at ht; exact pure_pv hti st sh ⟨d, .makeFunc f xs ys, ty, pos, af, g⟩ ht.1 ht.2
  case fieldAddr t x i => rw [T_fieldAddr] at ht; exact pure_pv hti st sh ⟨d, .fieldAddr t x i, ty, pos, af, g⟩ ht.1 ht.2
  case field t x i => rw [T_field] at ht; exact pure_pv hti st sh ⟨d, .field t x i, ty, pos, af, g⟩ ht.1 ht.2
  case indexAddr t x i => rw [T_indexAddr] at ht; exact pure_pv hti st sh ⟨d, .indexAddr t x i, ty, pos, af, g⟩ ht.1 ht.2
  case index t x i => rw [T_index] at ht; exact pure_pv hti st sh ⟨d, .index t x i, ty, pos, af, g⟩ ht.1 ht.2
  case extract x i => rw [T_extract] at ht; exact pure_pv hti st sh ⟨d, .extract x i, ty, pos, af, g⟩ ht.1 ht.2
  case binOp o t x y u => rw [T_binOp] at ht; exact pure_pv hti st sh ⟨d, .binOp o t x y u, ty, pos, af, g⟩ ht.1 ht.2
  case slice t x lo hi mx =>
    cases mx with
    | none => rw [T_slice] at ht; exact pure_pv hti st sh ⟨d, .slice t x lo hi none, ty, pos, af, g⟩ ht.1 ht.2
    | some m => simp [pureB, isPv] at hp
  case convert s t x =>
    rw [T_convert] at ht
    obtain ⟨hd, hb⟩ := ht
    unfold cvT cvK at hb
    split at hb
    · exact pure_pv hti st sh ⟨d, .convert s t x, ty, pos, af, g⟩ hd hb
    · cases hb.1
  case build t parts =>
    obtain ⟨parts⟩ := parts
    rw [T_build] at ht
    obtain ⟨hd, ⟨hk, hpf⟩, ht⟩ := ht
    obtain ⟨_, e2⟩ := build_sound hti st t parts.toArray ⟨d, .build t parts.toArray, ty, pos, af, g⟩ rfl hk hpf w
    exact ⟨_, e2, fun w' sh' => (build_sound hti st t parts.toArray ⟨d, .build t parts.toArray, ty, pos, af, g⟩ rfl hk hpf w').1, hd, ht⟩
  case call c =>
    obtain ⟨cal, xs, ats⟩ := c
    cases cal with
    | value x => simp [pureB, isPv] at hp
    | invoke x m => simp [pureB, isPv] at hp
    | builtin b =>
      cases b
      case len => rw [T_len] at ht; exact pure_pv hti st sh ⟨d, .call ⟨.builtin .len, xs, ats⟩, ty, pos, af, g⟩ ht.1 ht.2
      case min => rw [T_min] at ht; exact pure_pv hti st sh ⟨d, .call ⟨.builtin .min, xs, ats⟩, ty, pos, af, g⟩ ht.1 ht.2
      case max => rw [T_max] at ht; exact pure_pv hti st sh ⟨d, .call ⟨.builtin .max, xs, ats⟩, ty, pos, af, g⟩ ht.1 ht.2
      all_goals (simp [pureB, isPv] at hp)
  all_goals (simp [pureB, isPv] at hp)

/-- A class of worlds; what it may grow into. -/
abbrev Cl := Rho × List (Nat × Seg) × Nat
def Cl.W (cx : Cx) (c : Cl) : World → Prop := SatH cx c.1 c.2.1 c.2.2
def Cl.le (c c' : Cl) : Prop := c.2.2 ≤ c'.2.2 ∧ HExt c.2.2 c.2.1 c'.2.1 ∧ ∀ i, i < c.2.2 → c.1 i = c'.1 i
theorem Cl.le_refl (c : Cl) : c.le c := ⟨Nat.le_refl _, HExt.rfl, fun _ _ => rfl⟩
theorem Cl.le_trans {a b c : Cl} (h : a.le b) (k : b.le c) : a.le c :=
  ⟨Nat.le_trans h.1 k.1, fun i hi t ht => k.2.1 i (Nat.lt_of_lt_of_le hi h.1) t (h.2.1 i hi t ht), fun i hi => (h.2.2 i hi).trans (k.2.2 i (Nat.lt_of_lt_of_le hi h.1))⟩

def YieldsK (P : Program) (cx : Cx) (ops : Array Oper) (b : Bool) (c : Cl) (o : Oper) (v : Value) (a : Act) : Prop :=
  (Region.wanted o (yielded ops a.tmps) = true ∧ ∀ c' : Cl, (b = true → c.le c') → ∀ w, c'.W cx w → o.quietAt P a (c'.W cx) w v) ∨
  (Region.wanted o (yielded ops a.tmps) = false ∧ v = undef)
theorem YieldsK.of_same {ops : Array Oper} {b : Bool} {c : Cl} {o : Oper} {v : Value} {a a' : Act} (hy : YieldsK P cx ops b c o v a) (he : execOp a'.eval o = execOp a.eval o)
    (hw : Region.wanted o (yielded ops a'.tmps) = Region.wanted o (yielded ops a.tmps)) : YieldsK P cx ops b c o v a' := by
  unfold YieldsK Oper.quietAt at *
  rw [he, hw]
  exact hy
theorem YieldsK.sub {ops : Array Oper} {b : Bool} {c c' : Cl} {o : Oper} {v : Value} {a : Act} (hy : YieldsK P cx ops b c o v a) (hs : b = true → c.le c') : YieldsK P cx ops b c' o v a :=
  hy.imp (fun ⟨h1, h2⟩ => ⟨h1, fun c'' hc w hw => h2 c'' (fun hb => Cl.le_trans (hs hb) (hc hb)) w hw⟩) id
theorem YieldsK.opH {ops : Array Oper} {b : Bool} {c : Cl} {i : Nat} {o : Oper} {v : Value} {a : Act} (hi : ops[i]? = some o) (hy : YieldsK P cx ops b c o v a) {K : Act → World → Prop} (h : ∀ w, c.W cx w → K (a.put o.dst v) w) {w : World} (hw : c.W cx w) :
    opH P ops i K a w := by
  unfold V.opH
  simp only [hi]
  rcases hy with ⟨hwa, hv⟩ | ⟨hwa, rfl⟩
  · simp only [hwa, if_true]
    have h3 := hv c (fun _ => c.le_refl) w hw
    unfold Oper.quietAt at h3
    unfold Oper.wp
    generalize (execOp a.eval o).run P w = r at *
    cases r with
    | ok n w' =>
      cases n <;> simp only [Oper.quietUpon] at h3 <;> simp only [Oper.upon]
      case value u => obtain ⟨e1, e2⟩ := h3; rw [e1, e2]; exact h _ hw
      case skip => obtain ⟨e1, e2⟩ := h3; rw [e1, ← e2]; exact h _ hw
      case enter f args =>
        obtain ⟨e1, hc⟩ := h3
        rw [e1]
        exact hc.mono fun e w'' ⟨he, hw''⟩ => by subst he; exact h _ hw''
    | halt x w' => simp only [Oper.quietUpon] at h3
  · simp only [hwa, Bool.false_eq_true, if_false]; exact h _ hw

/-- The first f operations in whatever order; the class of worlds may get smaller. -/
def wpAnyK (P : Program) (cx : Cx) (md : Region.Mode) (ops : Array Oper) (F : Nat → Bool) (n : Nat) (L : Array Bool → Act → World → Prop) : Nat → Array Bool → Act → Cl → Prop
  | 0, listed, a, c => ∀ w, c.W cx w → L listed a w
  | f + 1, listed, a, c =>
    Region.ready md ops listed ≠ [] ∧ ∀ i ∈ Region.ready md ops listed, i < n ∧ ∀ w, c.W cx w → opH P ops i (fun a' w' => ∃ c' : Cl, c'.W cx w' ∧ (F i = true → c.le c') ∧ wpAnyK P cx md ops F n L f (listed.setIfInBounds i true) a' c') a w

theorem wpAny_of_K {md : Region.Mode} {ops : Array Oper} {F : Nat → Bool} {n g : Nat} {L : Array Bool → Act → World → Prop} {Q' : Exit → Act → World → Prop} (hL : ∀ listed a w, L listed a w → wpAny P md ops Q' g listed a w) :
    ∀ (f : Nat) (listed : Array Bool) (a : Act) (c : Cl) (w : World), c.W cx w → wpAnyK P cx md ops F n L f listed a c → wpAny P md ops Q' (f + g) listed a w
  | 0, listed, a, c, w, hw, h => by rw [Nat.zero_add]; exact hL _ _ _ (h w hw)
  | f + 1, listed, a, c, w, hw, h => by
    rw [show f + 1 + g = (f + g) + 1 by omega]
    exact ⟨fun h0 => absurd h0 h.1, fun i hi => wpOp_of_opH (fun a' w' ⟨c', hw', _, h'⟩ => wpAny_of_K hL f _ a' c' w' hw' h') ((h.2 i hi).2 w hw)⟩

theorem wpAnyK_first {md : Region.Mode} {ops : Array Oper} {F : Nat → Bool} {b : Bool} {n i : Nat} {oi : Oper} {v : Value} {L : Array Bool → Act → World → Prop} (hi : ops[i]? = some oi) (hsel : ∀ (j : Nat) (o : Oper) cs b, ops[j]? = some o → o.op ≠ .select cs b)
    (hwait : ∀ listed, HeadInv md ops n listed → listed.getD i true = false → ∀ j ∈ Region.ready md ops listed, j < n) (hin : i < n)
    (hdone : ∀ listed a w, L listed a w → ∀ j ∈ Region.ready md ops listed, n ≤ j) :
    ∀ (f : Nat) (listed : Array Bool) (a : Act) (c : Cl), HeadInv md ops n listed → (∃ w, c.W cx w) →
      (∀ j oj, ops[j]? = some oj → j ≠ i → listed.getD j true = false → (∀ e ∈ oj.after, Region.binds md e = true → e.on ≠ i) → oi.apart ops oj = true) →
      i ∈ Region.ready md ops listed → (b = true → ∀ j oj, ops[j]? = some oj → F j = false → listed.getD j true = true ∨ ∀ listed' : Array Bool, HeadInv md ops n listed' → listed'.getD i true = false → j ∉ Region.ready md ops listed') → YieldsK P cx ops b c oi v a →
      wpAnyK P cx md ops F n L f (listed.setIfInBounds i true) (a.put oi.dst v) c → wpAnyK P cx md ops F n L (f + 1) listed a c := by
  intro f
  induction f with
  | zero =>
    intro listed a c inv hne _ hr _ hy H
    have hun := (mem_ready.1 hr).1
    refine ⟨fun h => (by rw [h] at hr; cases hr), fun j hj => ?_⟩
    have hjn := hwait listed inv hun j hj
    refine ⟨hjn, fun w hw => ?_⟩
    by_cases hji : j = i
    · subst hji; exact hy.opH hi (fun w' hw' => ⟨c, hw', fun _ => c.le_refl, H⟩) hw
    · have := hdone _ _ _ (H w hw) j (ready_mono hj hji)
      omega
  | succ f ih =>
    intro listed a c inv hne hfree hr hbd hy H
    have hun := (mem_ready.1 hr).1
    refine ⟨fun h => (by rw [h] at hr; cases hr), fun j hj => ?_⟩
    have hjn := hwait listed inv hun j hj
    refine ⟨hjn, fun w hw => ?_⟩
    by_cases hji : j = i
    · subst hji; exact hy.opH hi (fun w' hw' => ⟨c, hw', fun _ => c.le_refl, H⟩) hw
    · have h1 := (H.2 j (ready_mono hj hji)).2 w hw
      obtain ⟨hjun, oj, hoj, hall⟩ := mem_ready.1 hj
      have hnot : ∀ e ∈ oj.after, Region.binds md e = true → e.on ≠ i := fun e he hb heq => by
        have h1 := hall e he hb
        rw [heq, getD_both hun] at h1
        cases h1
      have hap := hfree j oj hoj hji hjun hnot
      obtain ⟨_, _, h3⟩ := Oper.apart_spec hap
      have h2 := opH_put (Y := YieldsK P cx ops b c oi v) hoj hap (fun cs b => hsel j oj cs b hoj)
        (fun a hy u => hy.of_same (execOp_put oi (fun cs b => hsel i oi cs b hi) a oj.dst u h3) (wanted_put oi a oj.dst u h3)) (fun a d hy => hy.of_same rfl rfl) hy h1
      have hfree' : ∀ k ok, ops[k]? = some ok → k ≠ i → (listed.setIfInBounds j true).getD k true = false →
          (∀ e ∈ ok.after, Region.binds md e = true → e.on ≠ i) → oi.apart ops ok = true := fun k ok hk hki hun hno => by
        refine hfree k ok hk hki ?_ hno
        by_cases hjk : j = k
        · subst hjk; exact hjun
        · rw [getD_set_ne true hjk] at hun; exact hun
      have hFj : b = true → F j = true := fun hb => by
        cases hF : F j with
        | true => rfl
        | false =>
          rcases hbd hb j oj hoj hF with h | h
          · rw [hjun] at h; cases h
          · exact absurd hj (h listed inv hun)
      have hbd' : b = true → ∀ k ok, ops[k]? = some ok → F k = false → (listed.setIfInBounds j true).getD k true = true ∨ ∀ listed' : Array Bool, HeadInv md ops n listed' → listed'.getD i true = false → k ∉ Region.ready md ops listed' := fun hb k ok hk hF => by
        rcases hbd hb k ok hk hF with h | h
        · refine .inl ?_
          by_cases hjk : j = k
          · subst hjk
            rw [hjun] at h; cases h
          · rw [getD_set_ne true hjk]; exact h
        · exact .inr h
      refine opH_mono (fun a' w' ⟨hy', c', hw', hs', H'⟩ => ⟨c', hw', hs', ih (listed.setIfInBounds j true) a' c' (inv.set hj hjn) ⟨w', hw'⟩ hfree' (ready_mono hr (Ne.symm hji)) hbd' (hy'.sub fun hb => hs' (hFj hb)) ?_⟩) h2
      rw [Array.setIfInBounds_comm _ _ hji]
      exact H'

/-- A quiet call, in whatever memory that has grown. -/
def CallF (P : Program) (cx : Cx) (f : Nat) (args : List SV) (h : List (Nat × Seg)) (n : Nat) (r : SV) : Prop := r.lt n ∧ ∀ h' n', n ≤ n' → HExt n h h' → CallQ P cx f args h' n' r
/-- The call of an operation. -/
def callF (P : Program) (cx : Cx) (o : Oper) (l : List (Nat × SV)) (h : List (Nat × Seg)) (n : Nat) (K : SV → Prop) : Prop :=
  match o.op with
  | .call ⟨.value f, xs, _⟩ => match callee (ev l f) with
    | some (f, g) => dok cx.nt o.dst ∧ o.guard = none ∧ ∃ r, CallF P cx f (g (evs l xs.toList)) h n r ∧ K r
    | none => False
  | _ => False

theorem callF_step (st : SatT cx ρ l n a) (o : Oper) {K : SV → Prop} (ht : callF P cx o l h n K) :
    ∃ v : SV, YieldsK P cx all.toArray true (ρ, h, n) o (den ρ v) a ∧ SatT cx ρ (put l o.dst v) n (a.put o.dst (den ρ v)) ∧ K v := by
  unfold callF at ht
  split at ht
  · rename_i x xs ats ho
    split at ht
    · rename_i f g hcal
      obtain ⟨hd, hg, r, ⟨hlt, hc⟩, hK⟩ := ht
      refine ⟨r, (.inl ⟨wanted_none hg, fun ⟨ρ', h', n'⟩ hle w hw => ?_⟩), st.put _ r hlt (dok_lt hd), hK⟩
      obtain ⟨hn, hx, hr⟩ := hle rfl
      obtain ⟨hrun, hok, hlt', hcall⟩ := hc h' n' hn hx
      have st' : SatT cx ρ' l n' a := (st.rho hr).mono hn
      obtain ⟨e1, e2⟩ := call_sound (w := w) st' hcal hrun hok o ho
      unfold Oper.quietAt
      rw [e1]
      refine ⟨rfl, ?_⟩
      have := hcall ρ' w hw e2
      rw [den_congr (m := n) hr r hlt]
      exact this
    · exact ht.elim
  · exact ht.elim

/-- One pure operation, with or without a guard: what it yields in every class. -/
theorem SatH.sub {ρ' : Rho} {h' : List (Nat × Seg)} {n' : Nat} (hok : HOk n h) (hr : ∀ i, i < n → ρ i = ρ' i) (hx : HExt n h h') {w : World} (s : SatH cx ρ' h' n' w) : SatH cx ρ h n w := by
  have : SatH cx ρ' h n w := ⟨s.keeps, fun i t hi => s.seg i t (hx i (hok i t hi).1 t hi), fun i j x y hij hx' hy => s.dis i j x y hij (hx i (hok i x hx').1 x hx') (hx j (hok j y hy).1 y hy), hok⟩
  exact this.rho fun i hi => (hr i hi).symm
theorem pure_step (hti : ∀ t, TyOK P t (ti t)) (st : SatT cx ρ l n a) (sh : SatH cx ρ h n w) (o : Oper) (hp : pureB o.op = true) {R : List (Nat × SV) → List (Nat × Seg) → Nat → Prop}
    (ht : T P ti cx Q [.ops true all [o], .inv R] l h n) :
    ∃ (v : Value) (l' : List (Nat × SV)), YieldsK P cx all.toArray (readsB o.op) (ρ, h, n) o v a ∧ SatT cx ρ l' n (a.put o.dst v) ∧ R l' h n := by
  obtain ⟨d, op, ty, pos, af, g⟩ := o
  have one (g' : Option (Nat × Bool)) (hg : Region.wanted (⟨d, op, ty, pos, af, g'⟩ : Oper) (yielded all.toArray a.tmps) = true) (l : List (Nat × SV)) (st : SatT cx ρ l n a) (ht : T P ti cx Q [.ops true all [⟨d, op, ty, pos, af, none⟩], .inv R] l h n) :
      ∃ (v : Value) (l' : List (Nat × SV)), YieldsK P cx all.toArray (readsB op) (ρ, h, n) ⟨d, op, ty, pos, af, g'⟩ v a ∧ SatT cx ρ l' n (a.put d v) ∧ R l' h n := by
    obtain ⟨v, h1, h2, h3, h4⟩ := pure1 hti st sh d op ty pos af g' hp ht
    rw [T_ops_nil, T_inv] at h4
    refine ⟨den ρ v, put l d v, .inl ⟨hg, fun ⟨ρ', h', n'⟩ hle w' hw' => ?_⟩, st.put _ v h1 (dok_lt h3), h4⟩
    unfold Oper.quietAt
    rw [h2 w' (fun hrd => SatH.sub sh.lt (hle hrd).2.2 (hle hrd).2.1 hw')]
    exact ⟨rfl, rfl⟩
  have skip (g' : Option (Nat × Bool)) (hg : Region.wanted (⟨d, op, ty, pos, af, g'⟩ : Oper) (yielded all.toArray a.tmps) = false) (l : List (Nat × SV)) (st : SatT cx ρ l n a) (ht : Skp P ti cx Q [.inv R] l h n true all [] d) :
      ∃ (v : Value) (l' : List (Nat × SV)), YieldsK P cx all.toArray (readsB op) (ρ, h, n) ⟨d, op, ty, pos, af, g'⟩ v a ∧ SatT cx ρ l' n (a.put d v) ∧ R l' h n := by
    obtain ⟨h3, h4⟩ := ht
    rw [T_ops_nil, T_inv] at h4
    exact ⟨undef, put l d (.raw undef), .inr ⟨hg, rfl⟩, st.put _ (.raw undef) trivial (dok_lt h3), h4⟩
  cases g with
  | none => exact one none (wanted_none rfl) l st ht
  | some jw =>
    obtain ⟨j, want⟩ := jw
    rw [T_guardT] at ht
    unfold guardT at ht
    split at ht
    · rename_i t hs
      unfold guardU guardK at ht
      split at ht
      · rename_i b hb
        have hy := yields_of st hs (by rw [hb]; simp)
        rw [hb] at hy
        simp only [den] at hy
        by_cases hbw : b = want
        · exact one _ (by simp [Region.wanted, hy, hbw]) _ (st.again (by rw [hb, hbw]) (by simp)) (ht.1 hbw)
        · have hbn : b = !want := by cases b <;> cases want <;> simp_all
          exact skip _ (by simp [Region.wanted, hy, hbw]) _ (st.again (by rw [hb, hbn]) (by simp)) (ht.2 hbn)
      · rename_i u hu
        obtain ⟨rfl, ht⟩ := ht
        have hy := yields_of st hs (by rw [hu]; simp)
        rw [hu] at hy
        simp only [den, undef] at hy
        exact skip _ (by simp [Region.wanted, hy]) _ st ht
      · exact ht.elim
    · exact ht.elim

/-- The plan of a region, a tree: operation k is taken as one of kind c (0: pure; 1: a quiet call; 2, 3: makes memory grow; 4: any), then p; or another one of o. -/
inductive Pl where
  | f
  | o
  | b (c k : Nat) (p : Pl) (o : Pl)
def Pl.ks : Pl → List Nat
  | .b _ k _ r => k :: r.ks
  | _ => []
theorem ks_b (c k : Nat) (p o : Pl) : (Pl.b c k p o).ks = k :: o.ks := by rw [Pl.ks]
theorem ks_o : Pl.o.ks = [] := rfl
theorem ks_f : Pl.f.ks = [] := rfl
def TG (P : Program) (ti : Nat → TI) (cx : Cx) (K : List (Nat × SV) → List (Nat × Seg) → Nat → Prop) (ops : List Oper) (m : Nat) : Pl → List (Nat × SV) → List (Nat × Seg) → Nat → Prop
  | .f, l, h, n => T P ti cx Nix [.ops false ops (ops.drop m), .inv K] l h n
  | .o, _, _, _ => True
  | .b c k p o, l, h, n => (match c with
    | 0 => T P ti cx Nix [.ops true ops (pick ops [k]), .inv (TG P ti cx K ops m p)] l h n
    | 1 => match ops[k]? with
      | some o => callF P cx o l h n fun r => TG P ti cx K ops m p (put l o.dst r) h n
      | none => False
    | 4 => T P ti cx Nix [.ops false ops (pick ops [k]), .inv (TG P ti cx K ops m p)] l h n
    | _ => T P ti ⟨cx.w0, cx.W, cx.nt, n⟩ Nix [.ops false ops (pick ops [k]), .inv fun l2 h2 n2 => (n ≤ n2 ∧ HExt n h h2) ∧ TG P ti cx K ops m p l2 h2 n2] l h n) ∧ TG P ti cx K ops m o l h n
section
variable (P : Program) (ti : Nat → TI) (cx : Cx) (K : List (Nat × SV) → List (Nat × Seg) → Nat → Prop) (ops : List Oper) (m k : Nat) (p o : Pl) (l : List (Nat × SV)) (h : List (Nat × Seg)) (n : Nat)
@[go_sem ↓] theorem TG_f : TG P ti cx K ops m .f l h n = T P ti cx Nix [.ops false ops (ops.drop m), .inv K] l h n := rfl
@[go_sem ↓] theorem TG_o : TG P ti cx K ops m .o l h n = True := rfl
@[go_sem ↓] theorem TG_0 : TG P ti cx K ops m (.b 0 k p o) l h n = (T P ti cx Nix [.ops true ops (pick ops [k]), .inv (TG P ti cx K ops m p)] l h n ∧ TG P ti cx K ops m o l h n) := rfl
@[go_sem ↓] theorem TG_4 : TG P ti cx K ops m (.b 4 k p o) l h n = (T P ti cx Nix [.ops false ops (pick ops [k]), .inv (TG P ti cx K ops m p)] l h n ∧ TG P ti cx K ops m o l h n) := rfl
@[go_sem ↓] theorem TG_2 : TG P ti cx K ops m (.b 2 k p o) l h n = (T P ti ⟨cx.w0, cx.W, cx.nt, n⟩ Nix [.ops false ops (pick ops [k]), .inv fun l2 h2 n2 => (n ≤ n2 ∧ HExt n h h2) ∧ TG P ti cx K ops m p l2 h2 n2] l h n ∧ TG P ti cx K ops m o l h n) := rfl
/-- The call of an operation, for simp. -/
def TGc (o : Option Oper) : Prop :=
  match o with
  | some o => callF P cx o l h n fun r => TG P ti cx K ops m p (put l o.dst r) h n
  | none => False
@[congr] theorem TGc_congr {o o' : Option Oper} (e : o = o') : TGc P ti cx K ops m p l h n o = TGc P ti cx K ops m p l h n o' := by rw [e]
@[go_sem ↓] theorem TG_1 : TG P ti cx K ops m (.b 1 k p o) l h n = (TGc P ti cx K ops m p l h n ops[k]? ∧ TG P ti cx K ops m o l h n) := rfl
/-- A quiet call that is asked for. -/
def askF (d : Option Nat) (f : Nat) (xs : List SV) : Prop := ∃ r, CallF P cx f xs h n r ∧ TG P ti cx K ops m p (put l d r) h n
@[congr] theorem askF_congr (d : Option Nat) (f : Nat) {xs xs' : List SV} (e : xs = xs') : askF P ti cx K ops m p l h n d f xs = askF P ti cx K ops m p l h n d f xs' := by rw [e]
def askG (d : Option Nat) (f : SV) (xs : List SV) : Prop :=
  match callee f with
  | some (f, g) => askF P ti cx K ops m p l h n d f (g xs)
  | none => False
@[congr] theorem askG_congr (d : Option Nat) {f f' : SV} {xs xs' : List SV} (e : f = f') (e' : xs = xs') : askG P ti cx K ops m p l h n d f xs = askG P ti cx K ops m p l h n d f' xs' := by rw [e, e']
@[go_sem] theorem askG_fn (d : Option Nat) (f a b : Nat) (G F : Nat → SV) (xs : List SV) : askG P ti cx K ops m p l h n d (.fn f a G b F) xs = askF P ti cx K ops m p l h n d f (lst a G ++ xs ++ lst b F) := rfl
@[go_sem ↓] theorem TGc_some (d : Option Nat) (f : Operand) (xs : List Operand) (ats : Array Nat) (ty : Nat) (pos : String) (af : Array Edge) :
    TGc P ti cx K ops m p l h n (some ⟨d, .call ⟨.value f, xs.toArray, ats⟩, ty, pos, af, none⟩) = (dok cx.nt d ∧ askG P ti cx K ops m p l h n d (ev l f) (evs l xs)) := by
  unfold TGc callF askG
  simp only
  cases callee (ev l f) with
  | none => simp
  | some x => simp [askF]
theorem CallQ.F {P : Program} {ti : Nat → TI} {cx : Cx} {K : List (Nat × SV) → List (Nat × Seg) → Nat → Prop} {ops : List Oper} {m : Nat} {p : Pl} {l : List (Nat × SV)} {h : List (Nat × Seg)} {n : Nat} {d : Option Nat} {f : Nat} {xs : List SV} (r : SV)
    (hc : ∀ h' n', n ≤ n' → HExt n h h' → CallQ P cx f xs h' n' r) (ht : TG P ti cx K ops m p (put l d r) h n) : askF P ti cx K ops m p l h n d f xs :=
  ⟨r, ⟨(hc h n (Nat.le_refl n) HExt.rfl).2.2.1, hc⟩, ht⟩
end

/-- Operation j waits for operation i, through others. -/
def depB (ops : List Oper) (i : Nat) : Nat → Nat → Bool
  | 0, _ => false
  | f + 1, j => match ops[j]? with
    | some oj => oj.after.toList.any (fun e => Region.binds .any e && e.on == i) || oj.after.toList.any (fun e => Region.binds .any e && depB ops i f e.on)
    | none => false
/-- What reads memory stands ahead of all that writes it. -/
def fencedB (ops : List Oper) (bad : List Nat) (i : Nat) (listed : Array Bool) : Bool :=
  bad.all fun j => listed.getD j true || decide (ops.length ≤ j) || depB ops i 5 j
def planB (ops : List Oper) (bad : List Nat) (m : Nat) : Pl → Bool → Nat → Array Bool → Bool
  | .f, true, 0, listed => Region.seqB .any ops.toArray (ops.length - m) m listed
  | .o, false, _, _ => true
  | .b c k p o, hd, f + 1, listed => decide (k < m) && planB ops bad m p true f (listed.setIfInBounds k true) && (match c with
    | 0 => hd && o.ks.isEmpty && (Region.ready .any ops.toArray listed).contains k && Region.free .any ops.toArray listed k && (match ops[k]? with | some o => pureB o.op && (!readsB o.op || fencedB ops bad k listed) | none => false)
    | 1 => hd && o.ks.isEmpty && (Region.ready .any ops.toArray listed).contains k && Region.free .any ops.toArray listed k && fencedB ops bad k listed
    | 4 => (!hd || decide (Region.ready .any ops.toArray listed = k :: o.ks)) && bad.contains k && planB ops bad m o false (f + 1) listed
    | _ => (!hd || decide (Region.ready .any ops.toArray listed = k :: o.ks)) && planB ops bad m o false (f + 1) listed)
  | _, _, _, _ => false
theorem depB_spec {ops : List Oper} {n i : Nat} {listed : Array Bool} (inv : HeadInv .any ops.toArray n listed) (hun : listed.getD i true = false) : ∀ (f j : Nat), depB ops i f j = true →
    ∃ oj, ops[j]? = some oj ∧ ∃ e ∈ oj.after, Region.binds .any e = true ∧ listed.getD e.on false = false
  | 0, j, h => by simp [depB] at h
  | f + 1, j, h => by
    unfold depB at h
    split at h
    · rename_i oj hoj
      refine ⟨oj, hoj, ?_⟩
      rw [Bool.or_eq_true] at h
      rcases h with h | h
      · obtain ⟨e, he, h2⟩ := List.any_eq_true.1 h
        simp only [Bool.and_eq_true, beq_iff_eq] at h2
        exact ⟨e, by simpa using he, h2.1, by rw [h2.2]; exact getD_both hun⟩
      · obtain ⟨e, he, h2⟩ := List.any_eq_true.1 h
        simp only [Bool.and_eq_true] at h2
        obtain ⟨ok, hok, e', he', hb', hu'⟩ := depB_spec inv hun f e.on h2.2
        refine ⟨e, by simpa using he, h2.1, ?_⟩
        cases hl : listed.getD e.on false with
        | false => rfl
        | true =>
          have := inv.closed e.on ok (by simpa using hok) hl e' he' hb'
          rw [this] at hu'; cases hu'
    · cases h
theorem fenced_spec {ops : List Oper} {bad : List Nat} {i n : Nat} {listed : Array Bool} (h : fencedB ops bad i listed = true) (j : Nat) (oj : Oper) (hj : ops.toArray[j]? = some oj) (hF : (!bad.contains j) = false) :
    listed.getD j true = true ∨ ∀ listed' : Array Bool, HeadInv .any ops.toArray n listed' → listed'.getD i true = false → j ∉ Region.ready .any ops.toArray listed' := by
  have hm : j ∈ bad := by simpa using hF
  have := List.all_eq_true.1 h j hm
  have hj' : ops[j]? = some oj := by simpa using hj
  simp only [Bool.or_eq_true, decide_eq_true_eq] at this
  rcases this with (h1 | h1) | h1
  · exact .inl h1
  · have := (List.getElem?_eq_some_iff.1 hj').1; omega
  · refine .inr fun listed' inv hun hr => ?_
    obtain ⟨ok, hok, e, he, hb, hu⟩ := depB_spec inv hun 5 j h1
    obtain ⟨_, ol, hol, hall⟩ := mem_ready.1 hr
    rw [show ops.toArray[j]? = some ok by simpa using hok] at hol
    cases hol
    have := hall e he hb
    rw [hu] at this; cases this

theorem opH_of_list {ops : List Oper} {i : Nat} (hkl : i < ops.length) (h0 : ops.toArray[i]? = some ops[i]) {R : Exit → Act → World → Prop} {K' : Act → World → Prop} (hs : wpList P ops.toArray R [ops[i]] a w)
    (cont : ∀ a' w', R .normal a' w' → K' a' w') (nox : ∀ e a' w', R e a' w' → e = .normal) : opH P ops.toArray i K' a w := by
  unfold opH
  simp only [h0]
  unfold wpList at hs
  split
  · rename_i hw
    rw [if_pos hw] at hs
    rcases hs with hs | ⟨_, a1, w1, h1⟩
    · have hs' := Oper.wp_mono3 (Q2 := fun e _ _ => e = .normal) hs (fun a' w' h => cont a' w' h) (fun e a' w' h => nox e a' w' h)
      unfold Oper.wp at hs' ⊢
      generalize (execOp a.eval ops[i]).run P w = r at *
      cases r with
      | ok v w2 =>
        cases v <;> simp only [Oper.upon] at hs' ⊢ <;> first | exact hs' | exact Calls.mono hs' (fun e w3 he => by cases e <;> first | exact he | (cases he; done) | (obtain ⟨_, _, he⟩ := he; cases he))
      | halt x w2 => cases x <;> simp only [Oper.upon] at hs' ⊢ <;> first | exact hs' | cases hs'
    · exact absurd (nox _ _ _ h1) (by simp)
  · rename_i hw
    rw [if_neg hw] at hs
    exact cont _ _ hs

/-- What is shown of a plan's node. -/
def PlOK (P : Program) (ti : Nat → TI) (cx : Cx) (ops : List Oper) (bad : List Nat) (m : Nat) (K : List (Nat × SV) → List (Nat × Seg) → Nat → Prop) (ρ0 : Rho) (p : Pl) : Prop :=
  (∀ (f : Nat) (listed : Array Bool) (l : List (Nat × SV)) (h : List (Nat × Seg)) (n : Nat) (ρ : Rho) (a : Act), planB ops bad m p true f listed = true → HeadInv .any ops.toArray m listed →
      SatT cx ρ l n a → HOk n h → cx.n0 ≤ n → (∀ i, i < cx.n0 → ρ0 i = ρ i) → (∃ w, SatH cx ρ h n w) → TG P ti cx K ops m p l h n →
      wpAnyK P cx .any ops.toArray (fun j => !bad.contains j) m (fun listed' a' w' => Region.seqB .any ops.toArray (ops.length - m) m listed' = true ∧ wpList P ops.toArray (Cn P cx Nix ρ0 [.inv K]) (ops.drop m) a' w') f listed a (ρ, h, n)) ∧
  (∀ (f : Nat) (listed : Array Bool) (l : List (Nat × SV)) (h : List (Nat × Seg)) (n : Nat) (ρ : Rho) (a : Act), planB ops bad m p false (f + 1) listed = true → HeadInv .any ops.toArray m listed →
      SatT cx ρ l n a → HOk n h → cx.n0 ≤ n → (∀ i, i < cx.n0 → ρ0 i = ρ i) → TG P ti cx K ops m p l h n → ∀ i ∈ p.ks, i ∈ Region.ready .any ops.toArray listed →
      i < m ∧ ∀ w, SatH cx ρ h n w → opH P ops.toArray i (fun a' w' => ∃ c' : Cl, c'.W cx w' ∧ ((!bad.contains i) = true → Cl.le (ρ, h, n) c') ∧
        wpAnyK P cx .any ops.toArray (fun j => !bad.contains j) m (fun listed' a' w' => Region.seqB .any ops.toArray (ops.length - m) m listed' = true ∧ wpList P ops.toArray (Cn P cx Nix ρ0 [.inv K]) (ops.drop m) a' w') f (listed.setIfInBounds i true) a' c') a w)

section
variable {ops : List Oper} {bad : List Nat} {m : Nat} {K : List (Nat × SV) → List (Nat × Seg) → Nat → Prop} {ρ0 : Rho}
theorem Pl_any (hti : ∀ t, TyOK P t (ti t)) (hm : m ≤ ops.length) {p : Pl} (ih : PlOK P ti cx ops bad m K ρ0 p) {i f : Nat} {listed : Array Bool} (hk : i < m) (hbad : bad.contains i = true)
    (hB' : planB ops bad m p true f (listed.setIfInBounds i true) = true) (inv : HeadInv .any ops.toArray m listed) (hr' : i ∈ Region.ready .any ops.toArray listed) (st : SatT cx ρ l n a) (hn : cx.n0 ≤ n) (hr : ∀ i, i < cx.n0 → ρ0 i = ρ i)
    (ht : T P ti cx Nix [.ops false ops (pick ops [i]), .inv (TG P ti cx K ops m p)] l h n) (w' : World) (hw' : SatH cx ρ h n w') :
    opH P ops.toArray i (fun a' w' => ∃ c' : Cl, c'.W cx w' ∧ ((!bad.contains i) = true → Cl.le (ρ, h, n) c') ∧
        wpAnyK P cx .any ops.toArray (fun j => !bad.contains j) m (fun listed' a' w' => Region.seqB .any ops.toArray (ops.length - m) m listed' = true ∧ wpList P ops.toArray (Cn P cx Nix ρ0 [.inv K]) (ops.drop m) a' w') f (listed.setIfInBounds i true) a' c') a w' := by
  have hkl : i < ops.length := by omega
  have h0 : ops.toArray[i]? = some ops[i] := by simp [hkl]
  have hpk : pick ops [i] = [ops[i]] := by simp [pick, pk, hkl]
  rw [hpk] at ht
  have hs := T_sound (Q := Nix) hti ρ0 _ [.ops false ops [ops[i]], .inv (TG P ti cx K ops m p)] l h n ρ a w' (Nat.le_refl _) trivial hr hn st hw' ht
  replace hs : wpList P ops.toArray (Cn P cx Nix ρ0 [.inv (TG P ti cx K ops m p)]) [ops[i]] a w' := hs
  refine opH_of_list hkl h0 hs ?_ ?_
  · rintro a' w' ⟨ρ', l', h', n', g1, g2, g3, g4, g5⟩
    refine ⟨(ρ', h', n'), g3, fun hF => (by rw [hbad] at hF; cases hF), ?_⟩
    exact ih.1 f _ l' h' n' ρ' a' hB' (inv.set hr' hk) g2 g3.lt g4 g1 ⟨w', g3⟩ g5
  · intro e a' w' he
    cases e with
    | normal => rfl
    | ret => obtain ⟨_, _, _, _, _, _, _, _, h⟩ := he; exact h.elim
    | _ => exact he.elim
theorem Pl_grow (hti : ∀ t, TyOK P t (ti t)) (hm : m ≤ ops.length) {p : Pl} (ih : PlOK P ti cx ops bad m K ρ0 p) {i f : Nat} {listed : Array Bool} (hk : i < m)
    (hB' : planB ops bad m p true f (listed.setIfInBounds i true) = true) (inv : HeadInv .any ops.toArray m listed) (hr' : i ∈ Region.ready .any ops.toArray listed) (st : SatT cx ρ l n a) (hn : cx.n0 ≤ n) (hr : ∀ i, i < cx.n0 → ρ0 i = ρ i)
    (ht : T P ti ⟨cx.w0, cx.W, cx.nt, n⟩ Nix [.ops false ops (pick ops [i]), .inv fun l2 h2 n2 => (n ≤ n2 ∧ HExt n h h2) ∧ TG P ti cx K ops m p l2 h2 n2] l h n) (w' : World) (hw' : SatH cx ρ h n w') :
    opH P ops.toArray i (fun a' w' => ∃ c' : Cl, c'.W cx w' ∧ ((!bad.contains i) = true → Cl.le (ρ, h, n) c') ∧
        wpAnyK P cx .any ops.toArray (fun j => !bad.contains j) m (fun listed' a' w' => Region.seqB .any ops.toArray (ops.length - m) m listed' = true ∧ wpList P ops.toArray (Cn P cx Nix ρ0 [.inv K]) (ops.drop m) a' w') f (listed.setIfInBounds i true) a' c') a w' := by
  have hkl : i < ops.length := by omega
  have h0 : ops.toArray[i]? = some ops[i] := by simp [hkl]
  have hpk : pick ops [i] = [ops[i]] := by simp [pick, pk, hkl]
  rw [hpk] at ht
  have hW : ∀ {ρ : Rho} {h : List (Nat × Seg)} {m : Nat} {w : World}, SatH ⟨cx.w0, cx.W, cx.nt, n⟩ ρ h m w ↔ SatH cx ρ h m w :=
    ⟨fun s => ⟨s.keeps, fun i t hi => ⟨(s.seg i t hi).blk, (s.seg i t hi).cells, (s.seg i t hi).rwf, (s.seg i t hi).own⟩, s.dis, s.lt⟩,
    fun s => ⟨s.keeps, fun i t hi => ⟨(s.seg i t hi).blk, (s.seg i t hi).cells, (s.seg i t hi).rwf, (s.seg i t hi).own⟩, s.dis, s.lt⟩⟩
  have hT : ∀ {ρ : Rho} {l : List (Nat × SV)} {m : Nat} {a : Act}, SatT ⟨cx.w0, cx.W, cx.nt, n⟩ ρ l m a ↔ SatT cx ρ l m a := ⟨fun s => ⟨s.sz, s.val, s.dfr⟩, fun s => ⟨s.sz, s.val, s.dfr⟩⟩
  have hs := T_sound (Q := Nix) hti ρ _ [.ops false ops [ops[i]], .inv fun l2 h2 n2 => (n ≤ n2 ∧ HExt n h h2) ∧ TG P ti cx K ops m p l2 h2 n2] l h n ρ a w' (Nat.le_refl _) trivial (fun _ _ => rfl) (Nat.le_refl n) (hT.2 st) (hW.2 hw') ht
  replace hs : wpList P ops.toArray (Cn P ⟨cx.w0, cx.W, cx.nt, n⟩ Nix ρ [.inv fun l2 h2 n2 => (n ≤ n2 ∧ HExt n h h2) ∧ TG P ti cx K ops m p l2 h2 n2]) [ops[i]] a w' := hs
  refine opH_of_list hkl h0 hs ?_ ?_
  · rintro a' w' ⟨ρ', l', h', n', g1, g2, g3, g4, ⟨g5, g6⟩, g7⟩
    refine ⟨(ρ', h', n'), hW.1 g3, fun _ => ⟨g5, g6, g1⟩, ?_⟩
    exact ih.1 f _ l' h' n' ρ' a' hB' (inv.set hr' hk) (hT.1 g2) g3.lt (by omega) (fun j hj => (hr j hj).trans (g1 j (by show j < n; omega))) ⟨w', hW.1 g3⟩ g7
  · intro e a' w' he
    cases e with
    | normal => rfl
    | ret => obtain ⟨_, _, _, _, _, _, _, _, h⟩ := he; exact h.elim
    | _ => exact he.elim

theorem Pl_sound (hti : ∀ t, TyOK P t (ti t)) (hsel : Region.noSelect ops.toArray = true) (hm : m ≤ ops.length)
    (hwait : ∀ i, i < m → ∀ listed, HeadInv .any ops.toArray m listed → listed.getD i true = false → ∀ j ∈ Region.ready .any ops.toArray listed, j < m) : ∀ p : Pl, PlOK P ti cx ops bad m K ρ0 p
  | .f => by
    refine ⟨fun f listed l h n ρ a hB inv st hok hn hr _ ht => ?_, fun f listed l h n ρ a hB => by simp [planB] at hB⟩
    cases f with
    | zero => exact fun w hw => ⟨hB, T_sound (Q := Nix) hti ρ0 _ [.ops false ops (ops.drop m), .inv K] l h n ρ a w (Nat.le_refl _) trivial hr hn st hw ht⟩
    | succ f => simp [planB] at hB
  | .o => ⟨fun f listed l h n ρ a hB => (by simp [planB] at hB), fun f listed l h n ρ a _ _ _ _ _ _ _ i hi => by simp [ks_b, ks_o, ks_f] at hi⟩
  | .b c k p o => by
    have ihp := Pl_sound hti hsel hm hwait p
    have iho := Pl_sound hti hsel hm hwait o
    have eff : ∀ (hd : Bool) (f : Nat) (listed : Array Bool) (l : List (Nat × SV)) (h : List (Nat × Seg)) (n : Nat) (ρ : Rho) (a : Act), c ≠ 0 → c ≠ 1 → planB ops bad m (.b c k p o) hd (f + 1) listed = true → HeadInv .any ops.toArray m listed →
      SatT cx ρ l n a → HOk n h → cx.n0 ≤ n → (∀ i, i < cx.n0 → ρ0 i = ρ i) → TG P ti cx K ops m (.b c k p o) l h n → ∀ i ∈ (Pl.b c k p o).ks, i ∈ Region.ready .any ops.toArray listed →
      i < m ∧ ∀ w, SatH cx ρ h n w → opH P ops.toArray i (fun a' w' => ∃ c' : Cl, c'.W cx w' ∧ ((!bad.contains i) = true → Cl.le (ρ, h, n) c') ∧
        wpAnyK P cx .any ops.toArray (fun j => !bad.contains j) m (fun listed' a' w' => Region.seqB .any ops.toArray (ops.length - m) m listed' = true ∧ wpList P ops.toArray (Cn P cx Nix ρ0 [.inv K]) (ops.drop m) a' w') f (listed.setIfInBounds i true) a' c') a w := by
      intro hd f listed l h n ρ a h0 h1 hB inv st hok hn hr ht i hi hrd
      simp only [planB, Bool.and_eq_true, decide_eq_true_eq] at hB
      obtain ⟨⟨hk, hBp⟩, hBc⟩ := hB
      obtain ⟨ht1, ht2⟩ := ht
      have hi' : i = k ∨ i ∈ o.ks := by simpa [ks_b, ks_o, ks_f] using hi
      have rest : planB ops bad m o false (f + 1) listed = true → i ∈ o.ks → _ := fun hBo hio => iho.2 f listed l h n ρ a hBo inv st hok hn hr ht2 i hio hrd
      match c, h0, h1, hBc, ht1 with
      | 4, _, _, hBc, ht1 =>
        simp only [Bool.and_eq_true] at hBc
        rcases hi' with rfl | hi
        · exact ⟨hk, fun w hw => Pl_any hti hm ihp hk hBc.1.2 hBp inv hrd st hn hr ht1 w hw⟩
        · exact rest hBc.2 hi
      | 2, _, _, hBc, ht1 =>
        simp only [Bool.and_eq_true] at hBc
        rcases hi' with rfl | hi
        · exact ⟨hk, fun w hw => Pl_grow hti hm ihp hk hBp inv hrd st hn hr ht1 w hw⟩
        · exact rest hBc.2 hi
      | 3, _, _, hBc, ht1 =>
        simp only [Bool.and_eq_true] at hBc
        rcases hi' with rfl | hi
        · exact ⟨hk, fun w hw => Pl_grow hti hm ihp hk hBp inv hrd st hn hr ht1 w hw⟩
        · exact rest hBc.2 hi
      | c + 5, _, _, hBc, ht1 =>
        simp only [Bool.and_eq_true] at hBc
        rcases hi' with rfl | hi
        · exact ⟨hk, fun w hw => Pl_grow hti hm ihp hk hBp inv hrd st hn hr ht1 w hw⟩
        · exact rest hBc.2 hi
    refine ⟨fun f listed l h n ρ a hB inv st hok hn hr hw ht => ?_, fun f listed l h n ρ a hB inv st hok hn hr ht i hi hrd => ?_⟩
    · cases f with
      | zero => simp [planB] at hB
      | succ f =>
        by_cases h0 : c = 0
        · subst h0
          simp only [planB, Bool.and_eq_true, decide_eq_true_eq] at hB
          obtain ⟨⟨hk, hB'⟩, ⟨⟨_, hrd⟩, hf⟩, hp⟩ := hB
          obtain ⟨w, hw⟩ := hw
          have hkl : k < ops.length := by omega
          have h0 : ops.toArray[k]? = some ops[k] := by simp [hkl]
          have hr' : k ∈ Region.ready .any ops.toArray listed := by simpa using hrd
          have hpk : pick ops [k] = [ops[k]] := by simp [pick, pk, hkl]
          have h1 : ops[k]? = some ops[k] := by simp [hkl]
          rw [h1] at hp
          simp only [Bool.and_eq_true, Bool.or_eq_true, Bool.not_eq_true'] at hp
          have ht1 := ht.1
          simp only [hpk] at ht1
          obtain ⟨v, l', hy, st', ht'⟩ := pure_step hti st hw ops[k] hp.1 ht1
          exact wpAnyK_first h0 (Region.noSelect_spec hsel) (hwait k hk) hk (fun listed' a' w' hL => seqB_ready hL.1) f listed a _ inv ⟨w, hw⟩ (Region.free_spec h0 hf) hr'
            (fun hb => fenced_spec (hp.2.resolve_left (by rw [hb]; simp))) hy (ihp.1 f _ l' h n ρ _ hB' (inv.set hr' hk) st' hok hn hr ⟨w, hw⟩ ht')
        · by_cases h1 : c = 1
          · subst h1
            simp only [planB, Bool.and_eq_true, decide_eq_true_eq] at hB
            obtain ⟨⟨hk, hB'⟩, ⟨⟨_, hrd⟩, hf⟩, hfe⟩ := hB
            obtain ⟨w, hw⟩ := hw
            have hkl : k < ops.length := by omega
            have h0 : ops.toArray[k]? = some ops[k] := by simp [hkl]
            have hr' : k ∈ Region.ready .any ops.toArray listed := by simpa using hrd
            have h1 : ops[k]? = some ops[k] := by simp [hkl]
            have ht1 := ht.1
            simp only [h1] at ht1
            obtain ⟨v, hy, st', ht'⟩ := callF_step (all := ops) st ops[k] ht1
            exact wpAnyK_first h0 (Region.noSelect_spec hsel) (hwait k hk) hk (fun listed' a' w' hL => seqB_ready hL.1) f listed a _ inv ⟨w, hw⟩ (Region.free_spec h0 hf) hr' (fun _ => fenced_spec hfe) hy
              (ihp.1 f _ _ h n ρ _ hB' (inv.set hr' hk) st' hok hn hr ⟨w, hw⟩ ht')
          · have hrd : Region.ready .any ops.toArray listed = (Pl.b c k p o).ks := by
              simp only [planB, Bool.and_eq_true, decide_eq_true_eq] at hB
              obtain ⟨_, hBc⟩ := hB
              match c, h0, h1, hBc with
              | 4, _, _, hBc => simp only [Bool.not_true, Bool.false_or, Bool.and_eq_true, decide_eq_true_eq] at hBc; simpa [ks_b, ks_o, ks_f] using hBc.1.1
              | 2, _, _, hBc => simp only [Bool.not_true, Bool.false_or, Bool.and_eq_true, decide_eq_true_eq] at hBc; simpa [ks_b, ks_o, ks_f] using hBc.1
              | 3, _, _, hBc => simp only [Bool.not_true, Bool.false_or, Bool.and_eq_true, decide_eq_true_eq] at hBc; simpa [ks_b, ks_o, ks_f] using hBc.1
              | c + 5, _, _, hBc => simp only [Bool.not_true, Bool.false_or, Bool.and_eq_true, decide_eq_true_eq] at hBc; simpa [ks_b, ks_o, ks_f] using hBc.1
            exact ⟨by rw [hrd]; simp [ks_b, ks_o, ks_f], fun i hi => eff true f listed l h n ρ a h0 h1 hB inv st hok hn hr ht i (by rw [← hrd]; exact hi) hi⟩
    · by_cases h0 : c = 0
      · subst h0; simp [planB] at hB
      · by_cases h1 : c = 1
        · subst h1; simp [planB] at hB
        · exact eff false f listed l h n ρ a h0 h1 hB inv st hok hn hr ht i hi hrd
end

def regB (ops : List Oper) (m : Nat) (bad : List Nat) (plan : Pl) : Bool :=
  Region.noSelect ops.toArray && decide (m ≤ ops.length) && (decide (m = ops.length) || (Region.sinkB .any ops.toArray m && Region.chainB .any ops.toArray m)) && planB ops bad m plan true m (Array.replicate ops.length false)
theorem reg_sem (hti : ∀ t, TyOK P t (ti t)) (m : Nat) (bad : List Nat) (plan : Pl) (id : Nat) (ops : List Oper) (K : List (Nat × SV) → List (Nat × Seg) → Nat → Prop) (hm : P.follows .mixedOrders = true) (hB : regB ops m bad plan = true)
    (ht : TG P ti cx K ops m plan l h n) : RegSem P cx id ops.toArray l h n K := by
  simp only [regB, Bool.and_eq_true, decide_eq_true_eq, Bool.or_eq_true] at hB
  obtain ⟨⟨⟨hsel, hml⟩, hsc⟩, hB⟩ := hB
  intro ρ a w st sh hn
  have hC : SatH cx ρ h n { w with drawn := w.drawn + 1 } := sh.keep (Keeps.draw w)
  have inv0 : HeadInv .any ops.toArray m (Array.replicate ops.length false) :=
    ⟨by simp, fun j oj _ hl => (by rw [getD_replicate_false] at hl; cases hl), fun t _ ht => getD_in (by simpa using ht) (getD_replicate_false _ _)⟩
  have hwait : ∀ i, i < m → ∀ listed, HeadInv .any ops.toArray m listed → listed.getD i true = false → ∀ j ∈ Region.ready .any ops.toArray listed, j < m := by
    intro i hi listed inv hun j hj
    rcases hsc with h | ⟨hs, hc⟩
    · obtain ⟨_, oj, hoj, _⟩ := mem_ready.1 hj
      have := (Array.getElem?_eq_some_iff.1 hoj).1
      simp at this; omega
    · rcases Nat.lt_or_ge j m with h | h
      · exact h
      · have hn2 : m < ops.toArray.size := by
          obtain ⟨_, oj, hoj, _⟩ := mem_ready.1 hj
          have := (Array.getElem?_eq_some_iff.1 hoj).1
          omega
        exact absurd hj (tail_waits hs hc hn2 inv _ i rfl hi hun j h)
  have H := (Pl_sound (bad := bad) (K := K) (ρ0 := ρ) hti hsel hml hwait plan).1 m _ l h n ρ a hB inv0 st sh.lt hn (fun _ _ => rfl) ⟨w, sh⟩ ht
  have hdl : (ops.drop m).length = ops.length - m := by simp
  refine wp_region_any hm ?_
  have := wpAny_of_K (g := ops.length - m) (Q' := fun e a' w' => match e with | .normal => Some3 cx ρ K a' w' | _ => False) (fun listed a' w' hL => by
    have h2 := wpAny_of_seq (md := .any) (Q' := fun e a' w' => match e with | .normal => Some3 cx ρ K a' w' | _ => False) (ops.drop m) m listed a' w' (fun j => by simp [List.getElem?_drop]) (by rw [hdl]; exact hL.1)
      (wpList_mono (fun e a w he => by
        cases e with
        | normal => exact he
        | ret => obtain ⟨_, _, _, _, _, _, _, _, h⟩ := he; exact h.elim
        | _ => exact he.elim) _ _ _ hL.2)
    rwa [hdl] at h2) m (Array.replicate ops.length false) a (ρ, h, n) _ (show Cl.W cx (ρ, h, n) _ from hC) H
  rw [show m + (ops.length - m) = ops.length by omega] at this
  have hsz : ops.toArray.size = ops.length := by simp
  rw [hsz]
  exact this
/-- A region, by a plan. -/
theorem T_drawG (hti : ∀ t, TyOK P t (ti t)) (m : Nat) (bad : List Nat) (plan : Pl) (id : Nat) (ops : List Oper) (hm : P.follows .mixedOrders = true) (hB : regB ops m bad plan = true)
    (ht : TG P ti cx (T P ti cx Q k) ops m plan l h n) : T P ti cx Q (.code (.region id ops.toArray true) :: k) l h n := by
  rw [T_reg]
  exact reg_sem hti m bad plan id ops _ hm hB ht
/-- A region, by a plan; its ends told as one state. -/
theorem T_drawH (hti : ∀ t, TyOK P t (ti t)) (m : Nat) (bad : List Nat) (plan : Pl) (l2 : List (Nat × SV)) (h2 : List (Nat × Seg)) (n2 : Nat) (id : Nat) (ops : List Oper) (hm : P.follows .mixedOrders = true) (hB : regB ops m bad plan = true)
    (hc : T P ti cx Q k l2 h2 n2) (ht : TG P ti cx (fun l' h' n' => Imp cx l' h' n' l2 h2 n2) ops m plan l h n) : T P ti cx Q (.code (.region id ops.toArray true) :: k) l h n := by
  rw [T_reg]
  intro ρ a w st sh hn
  refine wp_mono (reg_sem hti m bad plan id ops _ hm hB ht ρ a w st sh hn) fun e a' w' he => ?_
  cases e with
  | normal =>
    obtain ⟨ρ', l', h', n', g1, g2, g3, g4, g5⟩ := he
    obtain ⟨ρ3, i1, i2, i3, i4⟩ := g5 ρ' a' w' g2 g3 g4
    exact ⟨ρ3, l2, h2, n2, fun i hi => (g1 i hi).trans (i1 i hi), i2, i3, i4, hc⟩
  | _ => exact he.elim
end
end Go.Proofs.YtfelopllfhcdpaaGreat.V
