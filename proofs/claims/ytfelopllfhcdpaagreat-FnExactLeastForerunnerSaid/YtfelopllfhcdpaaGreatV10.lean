/- How a contract is proved by the walk. -/
import Derived.Test.YtfelopllfhcdpaaGreatV9
set_option linter.all false
namespace Go.Proofs.YtfelopllfhcdpaaGreat.V

def pars : Nat → List SV → List (Nat × SV)
  | _, [] => []
  | i, v :: vs => (i, v) :: pars (i + 1) vs
@[go_sem ↓] theorem pars_0 : pars 0 [] = [] := rfl
@[go_sem ↓] theorem pars_1 (a : SV) : pars 0 [a] = [(0, a)] := rfl
@[go_sem ↓] theorem pars_2 (a b : SV) : pars 0 [a, b] = [(0, a), (1, b)] := rfl
@[go_sem ↓] theorem pars_3 (a b c : SV) : pars 0 [a, b, c] = [(0, a), (1, b), (2, c)] := rfl
@[go_sem ↓] theorem pars_4 (a b c d : SV) : pars 0 [a, b, c, d] = [(0, a), (1, b), (2, c), (3, d)] := rfl
@[go_sem ↓] theorem pars_5 (a b c d e : SV) : pars 0 [a, b, c, d, e] = [(0, a), (1, b), (2, c), (3, d), (4, e)] := rfl
@[go_sem ↓] theorem pars_6 (a b c d e f : SV) : pars 0 [a, b, c, d, e, f] = [(0, a), (1, b), (2, c), (3, d), (4, e), (5, f)] := rfl

def res1 (ti : Nat → TI) (l : List (Nat × SV)) (h : List (Nat × Seg)) : ResultVar → PV
  | .tmp t => ⟨(ev l (.tmp t)).ok, ev l (.tmp t)⟩
  | .cell p t => loadV h (ti t) (ev l (.tmp p))
def resL (ti : Nat → TI) (l : List (Nat × SV)) (h : List (Nat × Seg)) : List ResultVar → List PV
  | [] => []
  | r :: rs => res1 ti l h r :: resL ti l h rs
def vcs : List PV → Prop
  | [] => True
  | p :: ps => p.vc ∧ vcs ps
def vals : List PV → List SV
  | [] => []
  | p :: ps => p.v :: vals ps
def resP : List PV → PV
  | [p] => p
  | ps => ⟨vcs ps, .tup ps.length (cl (vals ps))⟩
@[congr] theorem res1_congr (ti : Nat → TI) (l : List (Nat × SV)) (h : List (Nat × Seg)) (r : ResultVar) : res1 ti l h r = res1 ti l h r := rfl
@[congr] theorem resL_congr (ti : Nat → TI) (l : List (Nat × SV)) (h : List (Nat × Seg)) (r : List ResultVar) : resL ti l h r = resL ti l h r := rfl
@[go_sem ↓] theorem res1_tmp (ti : Nat → TI) (l : List (Nat × SV)) (h : List (Nat × Seg)) (t : Nat) : res1 ti l h (.tmp t) = ⟨(ev l (.tmp t)).ok, ev l (.tmp t)⟩ := rfl
@[go_sem ↓] theorem res1_cell (ti : Nat → TI) (l : List (Nat × SV)) (h : List (Nat × Seg)) (p t : Nat) : res1 ti l h (.cell p t) = loadV h (ti t) (ev l (.tmp p)) := rfl
@[go_sem ↓] theorem resL_nil (ti : Nat → TI) (l : List (Nat × SV)) (h : List (Nat × Seg)) : resL ti l h [] = [] := rfl
@[go_sem ↓] theorem resL_cons (ti : Nat → TI) (l : List (Nat × SV)) (h : List (Nat × Seg)) (r : ResultVar) (rs : List ResultVar) : resL ti l h (r :: rs) = res1 ti l h r :: resL ti l h rs := rfl
@[go_sem] theorem resP_0 : resP [] = ⟨True, .tup 0 (cl [])⟩ := rfl
@[go_sem] theorem resP_1 (p : PV) : resP [p] = p := rfl
@[go_sem] theorem resP_2 (a b : Prop) (u v : SV) : resP [⟨a, u⟩, ⟨b, v⟩] = ⟨a ∧ b ∧ True, .tup 2 (cl [u, v])⟩ := rfl
@[go_sem] theorem resP_3 (a b c : Prop) (u v x : SV) : resP [⟨a, u⟩, ⟨b, v⟩, ⟨c, x⟩] = ⟨a ∧ b ∧ c ∧ True, .tup 3 (cl [u, v, x])⟩ := rfl
@[go_sem] theorem resP_4 (a b c d : Prop) (u v x y : SV) : resP [⟨a, u⟩, ⟨b, v⟩, ⟨c, x⟩, ⟨d, y⟩] = ⟨a ∧ b ∧ c ∧ d ∧ True, .tup 4 (cl [u, v, x, y])⟩ := rfl

/-- The end of a walk. -/
def Ret (ti : Nat → TI) (rs : List ResultVar) (K : HK) (l : List (Nat × SV)) (h : List (Nat × Seg)) (n : Nat) : Prop := bindK (resP (resL ti l h rs)) fun v => K v h n
def retT (x : PV) (K : HK) (h : List (Nat × Seg)) (n : Nat) : Prop := x.vc ∧ K x.v h n
@[congr] theorem retT_congr (K : HK) (h : List (Nat × Seg)) (n : Nat) {x x' : PV} (e : x = x') : retT x K h n = retT x' K h n := by rw [e]
@[go_sem] theorem retT_mk (vc : Prop) (v : SV) (K : HK) (h : List (Nat × Seg)) (n : Nat) : retT ⟨vc, v⟩ K h n = (vc ∧ K v h n) := rfl
@[go_sem ↓] theorem Ret_eq (ti : Nat → TI) (rs : List ResultVar) (K : HK) (l : List (Nat × SV)) (h : List (Nat × Seg)) (n : Nat) : Ret ti rs K l h n = retT (resP (resL ti l h rs)) K h n := rfl

section
variable {P : Program} {ti : Nat → TI} {cx : Cx} {ρ : Rho} {l : List (Nat × SV)} {h : List (Nat × Seg)} {n : Nat} {a : Act} {w : World}

def resOf (tmps : Array Value) : ResultVar → Sem Value
  | .tmp t => pure (tmps.getD t undef)
  | .cell p t => do loadVar t (← asAddr (tmps.getD p undef))
theorem results_eq (fn : Func) (tmps : Array Value) : results fn tmps = (fn.results.mapM (resOf tmps)) >>= fun vs => pure (if h : vs.size = 1 then vs[0] else .tuple vs) := by
  have : (fun r => match r with | .tmp t => pure (tmps.getD t undef) | .cell a t => do loadVar t (← asAddr (tmps.getD a undef)) : ResultVar → Sem Value) = resOf tmps := by
    funext r; cases r <;> rfl
  unfold results
  rw [← this]
  rfl

theorem res1_sound (hti : ∀ t, TyOK P t (ti t)) (st : SatT cx ρ l n a) (sh : SatH cx ρ h n w) (r : ResultVar) (hv : (res1 ti l h r).vc) :
    (resOf a.tmps r).run P w = .ok (den ρ (res1 ti l h r).v) w ∧ (res1 ti l h r).v.lt n := by
  cases r with
  | tmp t =>
    obtain ⟨e1, e2⟩ := ev_sound st (.tmp t) (SV.ok_ne hv)
    simp only [Act.eval] at e1
    exact ⟨by simp only [resOf, Sem.run_pure, e1]; rfl, e2⟩
  | cell p t =>
    have hne : ev l (.tmp p) ≠ .bad := by intro he; rw [res1, he] at hv; exact hv
    obtain ⟨e1, e2⟩ := ev_sound st (.tmp p) hne
    simp only [Act.eval] at e1
    obtain ⟨f1, f2⟩ := load_sound (hti t) sh hv
    refine ⟨?_, f2⟩
    simp only [resOf, Sem.run_bind, e1]
    cases hp : ev l (.tmp p) <;> (simp only [res1, hp, loadV] at hv) <;> first | exact hv.elim | skip
    rw [hp] at f1
    simp only [Instr.loadAt, Instr.sureAddr, den, Sem.run_bind, Sem.run_pure, Result.andThen_ok, asAddr] at f1 ⊢
    rw [f1, res1, hp]

theorem results_sound (hti : ∀ t, TyOK P t (ti t)) (st : SatT cx ρ l n a) (sh : SatH cx ρ h n w) (fn : Func) (hv : (resP (resL ti l h fn.results.toList)).vc) :
    (results fn a.tmps).run P w = .ok (den ρ (resP (resL ti l h fn.results.toList)).v) w ∧ (resP (resL ti l h fn.results.toList)).v.lt n := by
  have all : ∀ (rs : List ResultVar), vcs (resL ti l h rs) →
      (rs.mapM (resOf a.tmps)).run P w = .ok ((vals (resL ti l h rs)).map (den ρ)) w ∧ ∀ v ∈ vals (resL ti l h rs), v.lt n := by
    intro rs
    induction rs with
    | nil => intro _; exact ⟨by simp [resL, vals], fun v hv => by cases hv⟩
    | cons r rs ih =>
      intro h1
      obtain ⟨e1, e2⟩ := res1_sound hti st sh r h1.1
      obtain ⟨f1, f2⟩ := ih h1.2
      refine ⟨?_, fun v hv => ?_⟩
      · rw [List.mapM_cons, Sem.run_bind, e1]
        simp only [Result.andThen_ok, Sem.run_bind, f1, Sem.run_pure, resL, vals, List.map_cons]
      · simp only [resL, vals, List.mem_cons] at hv
        rcases hv with rfl | hv
        · exact e2
        · exact f2 v hv
  have hvc : vcs (resL ti l h fn.results.toList) := by
    generalize resL ti l h fn.results.toList = ps at hv
    cases ps with
    | nil => exact trivial
    | cons p ps => cases ps with
      | nil => exact ⟨hv, trivial⟩
      | cons q ps => exact hv
  obtain ⟨e1, e2⟩ := all _ hvc
  have hlen : (vals (resL ti l h fn.results.toList)).length = (resL ti l h fn.results.toList).length := by
    generalize resL ti l h fn.results.toList = ps
    induction ps with
    | nil => rfl
    | cons p ps ih => simp [vals, ih]
  rw [results_eq, Array.mapM_eq_mapM_toList]
  simp only [Sem.run_bind, Sem.run_map, e1, Result.andThen_ok, Sem.run_pure]
  generalize hps : resL ti l h fn.results.toList = ps at *
  cases ps with
  | nil => exact ⟨by simp [vals, resP, den, arr], fun j hj => by simp at hj⟩
  | cons p ps => cases ps with
    | nil => exact ⟨by simp [vals]; rfl, e2 _ (by simp [vals]; rfl)⟩
    | cons q ps =>
      refine ⟨?_, ?_⟩
      · simp only [resP, den]
        have hd : ∀ vs : Array Value, vs.size ≠ 1 → (if h : vs.size = 1 then vs[0] else .tuple vs) = Value.tuple vs := fun vs h => dif_neg h
        rw [hd _ (by simp [vals])]
        congr 2
        symm
        have := arr_cl ρ (vals (p :: q :: ps))
        rw [hlen] at this
        exact this
      · have := cl_lt e2
        rw [hlen] at this
        exact this

/-- Names and cells of a memory are below n. -/
def HOk (n : Nat) (h : List (Nat × Seg)) : Prop := ∀ i t, hget h i = some t → i < n ∧ ∀ k, k < t.n → (t.c k).lt n

/-- A call of a function: its body is walked in the caller's frame. -/
theorem calls_of_T (hti : ∀ t, TyOK P t (ti t)) {f : Nat} {fn : Func} {c : Code} {nt : Nat} {rs : List ResultVar} (hnt' : fn.ntmps = nt) (hrs : fn.results.toList = rs) (hf : P.funcs[f]? = some fn) (hb : fn.body = some c) (args : List SV) (hsz : args.length ≤ nt)
    (hargs : ∀ v ∈ args, v.lt n) (K : HK) (sh : SatH cx ρ h n w)
    (ht : HOk n h → T P ti ⟨cx.w0, cx.W, nt, n⟩ (Ret ti rs K) [.code c] (pars 0 args) h n) :
    Calls P f (args.map (den ρ)).toArray w fun e w' => ∃ ρ' r h' n', (∀ i, i < n → ρ i = ρ' i) ∧ n ≤ n' ∧ e = .returned (den ρ' r) ∧ r.lt n' ∧ SatH cx ρ' h' n' w' ∧ K r h' n' := by
  subst hnt' hrs
  replace ht := ht sh.lt
  refine calls_of_wp hf hb ?_
  generalize hcx : (⟨cx.w0, cx.W, fn.ntmps, n⟩ : Cx) = cx' at ht
  have hW : ∀ {ρ h n w}, SatH cx' ρ h n w ↔ SatH cx ρ h n w := by
    intro ρ h n w
    subst hcx
    exact ⟨fun s => ⟨s.keeps, fun i t hi => ⟨(s.seg i t hi).blk, (s.seg i t hi).cells, (s.seg i t hi).rwf, (s.seg i t hi).own⟩, s.dis, s.lt⟩,
      fun s => ⟨s.keeps, fun i t hi => ⟨(s.seg i t hi).blk, (s.seg i t hi).cells, (s.seg i t hi).rwf, (s.seg i t hi).own⟩, s.dis, s.lt⟩⟩
  have hn0 : cx'.n0 = n := by subst hcx; rfl
  have hnt : cx'.nt = fn.ntmps := by subst hcx; rfl
  have st : SatT cx' ρ (pars 0 args) n { tmps := (args.map (den ρ)).toArray ++ Array.replicate (fn.ntmps - (args.map (den ρ)).toArray.size) undef, defers := [] } := by
    refine ⟨by rw [hnt]; simp only [Array.size_append, List.size_toArray, List.length_map, Array.size_replicate]; omega, fun t v ht _ => ?_, rfl⟩
    have look_pars : ∀ (vs : List SV) (i t : Nat) (v : SV), look (pars i vs) t = some v → i ≤ t ∧ vs[t - i]? = some v := by
      intro vs
      induction vs with
      | nil => intro i t v h; cases h
      | cons u vs ih =>
        intro i t v h
        simp only [pars, look] at h
        by_cases hi : i = t
        · subst hi; simp at h; subst h; simp
        · rw [if_neg hi] at h
          obtain ⟨h1, h2⟩ := ih (i + 1) t v h
          refine ⟨by omega, ?_⟩
          rw [show t - i = (t - (i + 1)) + 1 by omega, List.getElem?_cons_succ]
          exact h2
    obtain ⟨_, h2⟩ := look_pars args 0 t v ht
    simp only [Nat.sub_zero] at h2
    have hlt := (List.getElem?_eq_some_iff.1 h2).1
    refine ⟨?_, hargs v (List.mem_of_getElem? h2)⟩
    simp [Array.getElem?_append, hlt, h2]
    rw [(List.getElem?_eq_some_iff.1 h2).2]
  have hT := T_sound (Q := Ret ti fn.results.toList K) hti ρ (tsize [.code c]) [.code c] (pars 0 args) h n ρ _ w (Nat.le_refl _) trivial (fun _ _ => rfl) (by omega) st (hW.2 sh) ht
  refine wp_mono (show c.wp P (Cn P cx' _ ρ []) _ w from hT) fun e a' w' he => ?_
  have fin : Some3 cx' ρ (fun l h' n' => bindK (resP (resL ti l h' fn.results.toList)) fun v => K v h' n') a' w' → a'.defers = [] ∧ ∃ v, (results fn a'.tmps).run P w' = .ok v w' ∧
      ∃ ρ' r h' n', (∀ i, i < n → ρ i = ρ' i) ∧ n ≤ n' ∧ Ending.returned v = .returned (den ρ' r) ∧ r.lt n' ∧ SatH cx ρ' h' n' w' ∧ K r h' n' := by
    rintro ⟨ρ', l', h', n', g1, g2, g3, g4, g5⟩
    obtain ⟨hvc, hK⟩ := g5
    obtain ⟨e1, e2⟩ := results_sound hti g2 g3 fn hvc
    exact ⟨g2.dfr, _, e1, ρ', _, h', n', fun i hi => g1 i (by omega), by omega, rfl, e2, hW.1 g3, hK⟩
  cases e with
  | normal => exact fin he
  | ret => exact fin he
  | _ => exact he.elim

theorem callE_of_T (hti : ∀ t, TyOK P t (ti t)) {f : Nat} {fn : Func} {c : Code} {nt : Nat} {rs : List ResultVar} (hnt : fn.ntmps = nt) (hrs : fn.results.toList = rs) (hr : Runs P f) (hf : P.funcs[f]? = some fn) (hb : fn.body = some c) (args : List SV) (hok : oks args) (hsz : args.length ≤ nt) (K : HK)
    (ht : HOk n h → T P ti ⟨cx.w0, cx.W, nt, n⟩ (Ret ti rs K) [.code c] (pars 0 args) h n) : CallE P cx f args h n K :=
  ⟨hr, hok, fun ρ w sh hargs => calls_of_T hti hnt hrs hf hb args hsz hargs K sh ht⟩

/-- What is there stays there. -/
def HExt (n : Nat) (h h' : List (Nat × Seg)) : Prop := ∀ i, i < n → ∀ t, hget h i = some t → hget h' i = some t
@[congr] theorem HExt_congr (n : Nat) (h h' : List (Nat × Seg)) : HExt n h h' = HExt n h h' := rfl
@[go_sem ↓ high] theorem HExt_refl (n : Nat) (h : List (Nat × Seg)) : HExt n h h = True := by simp [HExt]
@[go_sem ↓] theorem HExt_cons (n m : Nat) (s : Seg) (h h' : List (Nat × Seg)) (hm : n ≤ m) : HExt n h ((m, s) :: h') = HExt n h h' := by
  unfold HExt
  apply propext
  constructor
  · intro H i hi t ht
    have := H i hi t ht
    simp only [hget] at this
    rwa [if_neg (by omega)] at this
  · intro H i hi t ht
    simp only [hget]
    rw [if_neg (by omega)]
    exact H i hi t ht

/-- A quiet call. -/
theorem callQ_of_T (hti : ∀ t, TyOK P t (ti t)) {f : Nat} {fn : Func} {c : Code} {nt : Nat} {rs : List ResultVar} (hnt : fn.ntmps = nt) (hrs : fn.results.toList = rs) (hr : Runs P f) (hf : P.funcs[f]? = some fn) (hb : fn.body = some c) (args : List SV) (hok : oks args) (hsz : args.length ≤ nt) (r : SV) (hrl : r.lt n)
    (ht : HOk n h → T P ti ⟨cx.w0, cx.W, nt, n⟩ (Ret ti rs fun v h' _ => v = r ∧ HExt n h h') [.code c] (pars 0 args) h n) : CallQ P cx f args h n r := by
  refine ⟨hr, hok, hrl, fun ρ w sh hargs => ?_⟩
  refine (calls_of_T hti hnt hrs hf hb args hsz hargs (fun v h' _ => v = r ∧ HExt n h h') sh ht).mono fun e w' he => ?_
  obtain ⟨ρ', v, h', n', h1, h2, rfl, h4, h5, rfl, h7⟩ := he
  refine ⟨by rw [den_congr h1 _ hrl], ?_⟩
  have : SatH cx ρ' h n w' := ⟨h5.keeps, fun i t hi => h5.seg i t (h7 i (sh.lt i t hi).1 t hi), fun i j x y hij hx hy => h5.dis i j x y hij (h7 i (sh.lt i x hx).1 x hx) (h7 j (sh.lt j y hy).1 y hy), sh.lt⟩
  exact this.rho fun i hi => (h1 i hi).symm

theorem CallQ.E {f : Nat} {args : List SV} {r : SV} (hc : CallQ P cx f args h n r) (K : HK) (hK : K r h n) : CallE P cx f args h n K := by
  obtain ⟨hr, hok, hrl, hc⟩ := hc
  refine ⟨hr, hok, fun ρ w sh hargs => (hc ρ w sh hargs).mono fun e w' ⟨he, hs⟩ => ⟨ρ, r, h, n, fun _ _ => rfl, Nat.le_refl _, he, hrl, hs, hK⟩⟩
/-- A quiet call, in whatever region. -/
theorem CallQ.A {Q : List (Nat × SV) → List (Nat × Seg) → Nat → Prop} {k : List It} {q : Bool} {all rest : List Oper} {d : Option Nat} {f : Nat} {args : List SV} {r : SV} (hc : CallQ P cx f args h n r)
    (hK : T P ti cx Q (.ops q all rest :: k) (put l d r) h n) : callA P ti cx Q k l h n q all rest d f args := by
  unfold callA
  cases q with
  | true => simp only [if_true]; exact ⟨r, hc, hK⟩
  | false => simp only [Bool.false_eq_true, if_false]; exact hc.E _ hK
theorem callA_false {Q : List (Nat × SV) → List (Nat × Seg) → Nat → Prop} {k : List It} {all rest : List Oper} {d : Option Nat} {f : Nat} {args : List SV}
    (hc : CallE P cx f args h n fun r h' n' => T P ti cx Q (.ops false all rest :: k) (put l d r) h' n') : callA P ti cx Q k l h n false all rest d f args := by
  unfold callA; simpa using hc
theorem CallE.mono {f : Nat} {args : List SV} {K K' : HK} (hc : CallE P cx f args h n K) (hK : ∀ r h' n', K r h' n' → K' r h' n') : CallE P cx f args h n K' := by
  obtain ⟨hr, hok, hc⟩ := hc
  refine ⟨hr, hok, fun ρ w sh hargs => (hc ρ w sh hargs).mono fun e w' he => ?_⟩
  obtain ⟨ρ', r, h', n', h1, h2, h3, h4, h5, h6⟩ := he
  exact ⟨ρ', r, h', n', h1, h2, h3, h4, h5, hK _ _ _ h6⟩

end
end Go.Proofs.YtfelopllfhcdpaaGreat.V
