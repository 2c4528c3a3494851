/- Operations that make or write rows of memory: slices made, appended to, cleared. -/
import Derived.Test.YtfelopllfhcdpaaGreatV4
import Derived.ArgAppend
set_option linter.all false
namespace Go.Proofs.YtfelopllfhcdpaaGreat.V

/-- The state, somewhere, with the first segments where they were. -/
def Some3 (cx : Cx) (ρ0 : Rho) (K : List (Nat × SV) → List (Nat × Seg) → Nat → Prop) (a : Act) (w : World) : Prop :=
  ∃ ρ l h n, (∀ i, i < cx.n0 → ρ0 i = ρ i) ∧ SatT cx ρ l n a ∧ SatH cx ρ h n w ∧ cx.n0 ≤ n ∧ K l h n

/-- Anything else: the operation by the kit's own rule. -/
def OpSem (P : Program) (cx : Cx) (o : Oper) (l : List (Nat × SV)) (h : List (Nat × Seg)) (n : Nat) (K : List (Nat × SV) → List (Nat × Seg) → Nat → Prop) : Prop :=
  ∀ ρ a w, SatT cx ρ l n a → SatH cx ρ h n w → cx.n0 ≤ n → o.wp P a w (Some3 cx ρ K) (fun _ _ _ => False)

abbrev MK := SV → List (Nat × Seg) → Nat → Prop
def TK.kn (k : TK) : Prop := match k with | .oth => False | _ => True
@[go_sem] theorem TK.kn_int (k : IntKind) : (TK.int k).kn = True := rfl
@[go_sem] theorem TK.kn_bool : TK.bool.kn = True := rfl
@[go_sem] theorem TK.kn_str : TK.str.kn = True := rfl
@[go_sem] theorem TK.kn_ptr : TK.ptr.kn = True := rfl
@[go_sem] theorem TK.kn_sl (e : Nat) : (TK.sl e).kn = True := rfl
@[go_sem] theorem TK.kn_arr (m e : Nat) : (TK.arr m e).kn = True := rfl
@[go_sem] theorem TK.kn_st (f : List (Nat × Nat)) : (TK.st f).kn = True := rfl

/-- A row of so many elements, all zero. -/
def zrow (x : TI) : Nat → SV := fun j => x.z (j % x.sz)
@[go_sem] theorem zrow_one (k : TK) (b : Nat) (z : Nat → SV) (j : Nat) : zrow ⟨k, 1, b, z⟩ j = z 0 := by simp [zrow, Nat.mod_one]
@[go_sem] theorem zrow_mk (k : TK) (s b : Nat) (z : Nat → SV) (j : Nat) : zrow ⟨k, s, b, z⟩ j = z (j % s) := rfl

/-- A slice's literal. -/
def bsK (ti : Nat → TI) (k : TK) (len : Nat) (ps : List (Nat × SV)) (h : List (Nat × Seg)) (n : Nat) (K : MK) : Prop :=
  match k with
  | .sl e => ((ti e).k.kn ∧ 0 < (ti e).sz ∧ fillP (plOf ti (.sl e)) (len * (ti e).sz) ps ∧ len * (ti e).sz ≤ 16777216) ∧
      K (.sl n 0 len len) ((n, ⟨len * (ti e).sz, fillC (plOf ti (.sl e)) ps (zrow (ti e)), true, some (e, len * (ti e).sz)⟩) :: h) (n + 1)
  | _ => False

/-- A slice, made. -/
def mkK (ti : Nat → TI) (k : TK) (x y : SV) (h : List (Nat × Seg)) (n : Nat) (K : MK) : Prop :=
  match k, x, y with
  | .sl e, .int _ a, .int _ b => ((ti e).k.kn ∧ 0 < (ti e).sz ∧ 0 ≤ a ∧ a ≤ b ∧ b ≤ 1000000000 ∧ (ti e).by_ ≤ 20000) ∧
      K (.sl n 0 a.toNat b.toNat) ((n, ⟨b.toNat * (ti e).sz, zrow (ti e), true, some (e, b.toNat * (ti e).sz)⟩) :: h) (n + 1)
  | _, _, _ => False

/-- Elements of a slice, cleared. -/
def clK (ti : Nat → TI) (k : TK) (x : SV) (h : List (Nat × Seg)) (n : Nat) (K : List (Nat × Seg) → Prop) : Prop :=
  match k, x with
  | .sl e, .sl i o len cap => match hget h i with
    | some s => ((ti e).k.kn ∧ 0 < (ti e).sz ∧ o + len * (ti e).sz ≤ s.n ∧ s.rw = true) ∧ K (hset h i { s with c := fun j => if o ≤ j ∧ j < o + len * (ti e).sz then zrow (ti e) (j - o) else s.c j })
    | none => False
  | .sl _, .nils => K h
  | _, _ => False

/-- Something appended to a slice: to none, to one of our own. -/
def news (c : Nat → SV) (o : Nat) : Nat → SV := fun j => c (o + j)
def both (m : Nat) (c d : Nat → SV) : Nat → SV := fun j => if j < m then c j else d (j - m)
def okSrc (x : TI) (s : Seg) (o m : Nat) : Prop := x.k.kn ∧ 0 < x.sz ∧ o + m * x.sz ≤ s.n ∧ allP (m * x.sz) fun j => (s.c (o + j)).one
@[go_sem] theorem okSrc_eq (x : TI) (n : Nat) (c : Nat → SV) (r : Bool) (w : Option (Nat × Nat)) (o m : Nat) : okSrc x ⟨n, c, r, w⟩ o m = (x.k.kn ∧ 0 < x.sz ∧ o + m * x.sz ≤ n ∧ allP (m * x.sz) fun j => (c (o + j)).one) := rfl
def appN (ti : Nat → TI) (e : Nat) (s : Option Seg) (o m : Nat) (h : List (Nat × Seg)) (n : Nat) (K : MK) : Prop :=
  match s with
  | some s => (okSrc (ti e) s o m ∧ 0 < m ∧ m ≤ 1000000000 ∧ (ti e).by_ ≤ 20000) ∧
      ∀ cap, m ≤ cap → cap ≤ maxLen → K (.sl n 0 m cap) ((n, ⟨m * (ti e).sz, news s.c o, true, some (e, cap * (ti e).sz)⟩) :: h) (n + 1)
  | none => False
def appS (ti : Nat → TI) (e i len cap : Nat) (s : Option Seg) (s' : Option Seg) (o m : Nat) (h : List (Nat × Seg)) (n : Nat) (K : MK) : Prop :=
  match s, s' with
  | some s, some s' => (okSrc (ti e) s' o m ∧ s.own = some (e, cap * (ti e).sz) ∧ len ≤ cap ∧ cap ≤ maxLen ∧ len * (ti e).sz ≤ s.n ∧ len + m ≤ 1000000000 ∧ (ti e).by_ ≤ 20000) ∧
      ∀ cap', len + m ≤ cap' → cap' ≤ maxLen → K (.sl n 0 (len + m) cap') ((n, ⟨(len + m) * (ti e).sz, both (len * (ti e).sz) s.c (news s'.c o), true, some (e, cap' * (ti e).sz)⟩) :: hdel h i) (n + 1)
  | _, _ => False
/-- Something of the very row that is appended to, where it fits: the row stays; what lies behind is not known. -/
def appF (ti : Nat → TI) (e i len cap : Nat) (s : Option Seg) (o m : Nat) (h : List (Nat × Seg)) (n : Nat) (K : MK) : Prop :=
  match s with
  | some s => (okSrc (ti e) s o m ∧ s.own = some (e, cap * (ti e).sz) ∧ len + m ≤ cap ∧ cap ≤ maxLen ∧ len * (ti e).sz ≤ s.n ∧ len + m ≤ 1000000000 ∧ (ti e).by_ ≤ 20000) ∧
      ∀ t : Nat → Value, K (.sl n 0 (len + m) cap) ((n, ⟨cap * (ti e).sz, fun j => if j < (len + m) * (ti e).sz then both (len * (ti e).sz) s.c (news s.c o) j else .raw (t j), true, some (e, cap * (ti e).sz)⟩) :: hdel h i) (n + 1)
  | none => False
def appK (ti : Nat → TI) (k : TK) (x y : SV) (h : List (Nat × Seg)) (n : Nat) (K : MK) : Prop :=
  match k, x, y with
  | .sl e, .nils, .sl j o m _ => appN ti e (hget h j) o m h n K
  | .sl e, .sl i o' len cap, .sl j o m _ => o' = 0 ∧ if j = i then appF ti e i len cap (hget h i) o m h n K else appS ti e i len cap (hget h i) (hget h j) o m h n K
  | _, _, _ => False

def memK (P : Program) (ti : Nat → TI) (cx : Cx) (o : Oper) (l : List (Nat × SV)) (h : List (Nat × Seg)) (n : Nat) (K : List (Nat × SV) → List (Nat × Seg) → Nat → Prop) : Prop :=
  match o.op with
  | .buildSlice t len parts => bsK ti (ti t).k len (evp l parts.toList) h n fun v h' n' => K (put l o.dst v) h' n'
  | .makeSlice t x y => mkK ti (ti t).k (ev l x) (ev l y) h n fun v h' n' => K (put l o.dst v) h' n'
  | .call ⟨.builtin .append, ⟨[x, y]⟩, ⟨[t, t']⟩⟩ => (t = t' ∧ (ev l x).ok ∧ appK ti (ti t).k (ev l x) (ev l y) h n fun v h' n' => K (put l o.dst v) h' n') ∨ (t ≠ t' ∧ OpSem P cx o l h n K)
  | .call ⟨.builtin .clear, ⟨[x]⟩, ⟨[t]⟩⟩ => o.dst = none ∧ clK ti (ti t).k (ev l x) h n fun h' => K l h' n
  | _ => OpSem P cx o l h n K

section
variable {P : Program} {ti : Nat → TI}
variable {cx : Cx} {ρ : Rho} {l : List (Nat × SV)} {h h2 : List (Nat × Seg)} {n : Nat} {a : Act} {w w' : World} {K : List (Nat × SV) → List (Nat × Seg) → Nat → Prop}

theorem TK.kn_iff {k : TK} : k.kn ↔ (match k with | .oth => False | _ => True) := by cases k <;> rfl

theorem SegOK.blk_eq {i : Nat} {s : Seg} (h : SegOK cx ρ i s w) (hs : w.heap.size ≤ w'.heap.size) (hb : w'.heap[(ρ i).1]? = w.heap[(ρ i).1]?) : SegOK cx ρ i s w' where
  blk := Nat.lt_of_lt_of_le h.blk hs
  cells := fun j hj => (World.cell?_of_block (a := ⟨(ρ i).1, (ρ i).2 + j, none⟩) hb).trans (h.cells j hj)
  rwf := fun hr j hj => ⟨(World.frozen?_of_block (a := ⟨(ρ i).1, (ρ i).2 + j, none⟩) hb).trans (h.rwf hr j hj).1, (h.rwf hr j hj).2⟩
  own := fun T m hm => by
    obtain ⟨h0, h1, ho⟩ := h.own T m hm
    exact ⟨h0, h1, by rw [hb]; exact ho⟩

/-- A row is new, or an own one has turned. -/
theorem SatH.own_step (sh : SatH cx ρ h n w) {row : Option Nat} (hg : w.grownBy w' row) (sub : ∀ z q, hget h2 z = some q → hget h z = some q)
    (hrow : ∀ z q, hget h2 z = some q → some (ρ z).1 ≠ row) (hrow0 : ∀ b, row = some b → cx.w0.heap.size ≤ b)
    {g' : Nat} {cur : Array Value} {e : Nat} (hb : w'.heap[g']? = some (.cells cur e (0, 0))) (hnew : ∀ z q, hget h2 z = some q → (ρ z).1 ≠ g') (hg0 : cx.w0.heap.size ≤ g')
    (m : Nat) (c : Nat → SV) (hc : ∀ j, j < m → cur[j]? = some (den ρ (c j))) (hl : ∀ j, j < m → (c j).lt n) (he : e < 1000000) :
    ∃ ρ', (∀ i, i < n → ρ i = ρ' i) ∧ ρ' n = (g', 0) ∧ SatH cx ρ' ((n, ⟨m, c, true, some (e, cur.size)⟩) :: h2) (n + 1) w' := by
  refine ⟨fun i => if i = n then (g', 0) else ρ i, fun i hi => by simp [Nat.ne_of_lt hi], by simp, ?_⟩
  generalize hρ : (fun i => if i = n then (g', 0) else ρ i) = ρ'
  have hr : ∀ i, i < n → ρ i = ρ' i := fun i hi => by rw [← hρ]; simp [Nat.ne_of_lt hi]
  have hn : ρ' n = (g', 0) := by rw [← hρ]; simp
  have hlt : ∀ i t, hget h2 i = some t → i < n := fun i t hi => (sh.lt i t (sub i t hi)).1
  have old : ∀ i t, hget h2 i = some t → SegOK cx ρ' i t w' := fun i t hi => by
    have h0 := sh.seg i t (sub i t hi)
    exact (h0.blk_eq hg.size (hg.block _ h0.blk (hrow i t hi))).rho hr (hlt i t hi) (sh.lt i t (sub i t hi)).2
  have hnewS : SegOK cx ρ' n ⟨m, c, true, some (e, cur.size)⟩ w' := by
    have hglt : g' < w'.heap.size := (Array.getElem?_eq_some_iff.1 hb).1
    refine ⟨by rw [hn]; exact hglt, fun j hj => ?_, fun _ j hj => ?_, fun T' m' hm => ?_⟩
    · rw [hn]
      simp only [Nat.zero_add, World.cell?, hb]
      rw [← den_congr hr _ (hl j hj)]
      simpa using hc j hj
    · rw [hn]
      refine ⟨by simp [World.frozen?, hb], fun hlt => ?_⟩
      simp at hlt; omega
    · rw [hn]
      simp at hm
      obtain ⟨rfl, rfl⟩ := hm
      exact ⟨rfl, hg0, OwnB.of he hb⟩
  have hblk : ∀ i t, hget h2 i = some t → (ρ' i).1 ≠ g' := fun i t hi => by rw [← hr i (hlt i t hi)]; exact hnew i t hi
  refine ⟨⟨hg.os.trans sh.keeps.os, hg.tape.trans sh.keeps.tape, hg.output.trans sh.keeps.output, Nat.le_trans sh.keeps.size hg.size, fun b hb0 => ?_⟩, fun i t hi => ?_, fun i j x y hij hx hy hw => ?_, fun i t hi => ?_⟩
  · refine (sh.keeps.blk b hb0).trans (W' := cx.W b) (ObjK.of_eq (hg.block b (Nat.lt_of_lt_of_le hb0 sh.keeps.size) ?_)) (fun _ h => h)
    intro he
    have := hrow0 b he.symm
    omega
  · simp only [hget] at hi
    by_cases h1 : n = i
    · subst h1; simp at hi; subst hi; exact hnewS
    · rw [if_neg h1] at hi; exact old i t hi
  · simp only [hget] at hx hy
    by_cases h1 : n = i
    · subst h1
      rw [if_neg hij] at hy
      exact .inl (by rw [hn]; exact Ne.symm (hblk j y hy))
    · rw [if_neg h1] at hx
      by_cases h2 : n = j
      · subst h2
        exact .inl (by rw [hn]; exact hblk i x hx)
      · rw [if_neg h2] at hy
        have := sh.dis i j x y hij (sub i x hx) (sub j y hy) hw
        unfold apart at *
        rwa [← hr i (hlt i x hx), ← hr j (hlt j y hy)]
  · simp only [hget] at hi
    by_cases h1 : n = i
    · subst h1; simp at hi; subst hi
      exact ⟨by omega, fun j hj => SV.lt_mono (by omega) _ (hl j hj)⟩
    · rw [if_neg h1] at hi
      exact ⟨by have := hlt i t hi; omega, fun j hj => SV.lt_mono (by omega) _ ((sh.lt i t (sub i t hi)).2 j hj)⟩

theorem upon_value_eq {o : Oper} {a : Act} {w w' : World} {v : Value} (hr : (execOp a.eval o).run P w = .ok (.value v) w') (K : Act → World → Prop) (Q' : Exit → Act → World → Prop) (h : K (a.put o.dst v) w') : o.wp P a w K Q' := by
  unfold Oper.wp; rw [hr]; exact h
theorem upon_skip_eq {o : Oper} {a : Act} {w w' : World} (hr : (execOp a.eval o).run P w = .ok .skip w') (K : Act → World → Prop) (Q' : Exit → Act → World → Prop) (h : K (a.put o.dst undef) w') : o.wp P a w K Q' := by
  unfold Oper.wp; rw [hr]; exact h

/-- A new row. -/
theorem newRow_sound (sh : SatH cx ρ h n w) (e : Nat) (he : e < 1000000) {cells : Array Value} {m : Nat} {c : Nat → SV} (hc : cells = arr m fun j => den ρ (c j)) (hl : ∀ j, j < m → (c j).lt n) :
    ∃ ρ', (∀ i, i < n → ρ i = ρ' i) ∧ (newRow e cells).run P w = .ok ⟨(ρ' n).1, (ρ' n).2, none⟩ (w.alloc (.cells cells e)) ∧ (ρ' n).2 = 0 ∧ SatH cx ρ' ((n, ⟨m, c, true, some (e, m)⟩) :: h) (n + 1) (w.alloc (.cells cells e)) := by
  obtain ⟨ρ', h1, h2, h3⟩ := sh.new e m c cells m (Nat.le_refl _) (by rw [hc]; simp) (fun j hj => by rw [hc, arr_get _ _ _ hj]) hl true (fun _ => he)
  refine ⟨ρ', h1, ?_, by rw [h2], by simpa using h3⟩
  rw [h2]
  simp [newRow]

theorem zrow_cells (hti : ∀ t, TyOK P t (ti t)) (e m : Nat) (hk : (ti e).k.kn) (h0 : 0 < (ti e).sz) (w : World) :
    ∃ z, (zeroValue e).run P w = .ok z w ∧ (Array.range (m * (ti e).sz)).map (fun x => z.cells[x % z.cells.size]!) = (arr (m * (ti e).sz) fun j => den ρ (zrow (ti e) j)) ∧ z.cells.size = (ti e).sz ∧ (∀ j, (zrow (ti e) j).lt 0) ∧ (∀ j, (zrow (ti e) j).one) := by
  obtain ⟨i, z, hi, hs, hb, hz, hc, hl, _⟩ := (hti e).info (TK.kn_iff.1 hk)
  refine ⟨z, by simp [zeroValue, typeInfo, hi, hz], ?_, by rw [hc]; simp, fun j => (hl _ (Nat.mod_lt _ h0)).1, fun j => (hl _ (Nat.mod_lt _ h0)).2⟩
  apply arr_ext (by simp)
  intro j hj
  have hlt : j % (ti e).sz < (ti e).sz := Nat.mod_lt _ h0
  have hget : z.cells[j % z.cells.size]! = den ρ (zrow (ti e) j) := by
    have hsz : z.cells.size = (ti e).sz := by rw [hc]; simp
    rw [hsz]
    have : z.cells[j % (ti e).sz]? = some (den (fun _ => (0, 0)) ((ti e).z (j % (ti e).sz))) := by rw [hc, arr_get _ _ _ hlt]
    rw [getElem!_def, this]
    exact den_any (hl _ hlt).1
  simp only [Array.getElem?_map]
  rw [show (Array.range (m * (ti e).sz))[j]? = some j by simp [hj]]
  simp [hget]

theorem execOp_built (f : Operand → Value) (d : Option Nat) (b : Builtin) (xs : Array Operand) (ats : Array Nat) (ty : Nat) (pos : String) (af : Array Edge) (g : Option (Nat × Bool)) :
    execOp f ⟨d, .call ⟨.builtin b, xs, ats⟩, ty, pos, af, g⟩ = builtin b ats ty (xs.map fun | .const _ => true | _ => false) (xs.map f) := rfl
theorem execOp_append {o : Oper} {x y : Operand} {t : Nat} (h : o.op = .call ⟨.builtin .append, ⟨[x, y]⟩, ⟨[t, t]⟩⟩) (f : Operand → Value) :
    execOp f o = (do pure (.value (← Builtin.append_ #[t, t] o.type #[f x, f y]))) := by
  obtain ⟨d, op, ty, pos, af, g⟩ := o
  simp only at h; subst h
  rw [execOp_built, show (⟨[x, y]⟩ : Array Operand).map f = #[f x, f y] from by simp]
  rfl
theorem execOp_clear {o : Oper} {x : Operand} {t : Nat} (h : o.op = .call ⟨.builtin .clear, ⟨[x]⟩, ⟨[t]⟩⟩) (f : Operand → Value) :
    execOp f o = (do pure (.value (← Builtin.clear_ #[t] o.type #[f x]))) := by
  obtain ⟨d, op, ty, pos, af, g⟩ := o
  simp only at h; subst h
  rw [execOp_built, show (⟨[x]⟩ : Array Operand).map f = #[f x] from by simp]
  rfl

theorem memK_sound (hti : ∀ t, TyOK P t (ti t)) (o : Oper) (hd : ∀ t, o.dst = some t → t < cx.nt) (hm : memK P ti cx o l h n K) : OpSem P cx o l h n K := by
  intro ρ a w st sh hn
  unfold memK at hm
  split at hm
  · rename_i t len parts hop
    unfold bsK at hm
    split at hm
    · rename_i e hk
      have hx := (hti t).und
      rw [hk] at hx
      obtain ⟨⟨hkn, h0, hp, hbig⟩, hK⟩ := hm
      obtain ⟨z, hz, hzc, hzs, hzl, hzo⟩ := zrow_cells (ρ := ρ) hti e len hkn h0 w
      obtain ⟨e1, e2⟩ := evp_sound st parts.toList (fillP_ne hp)
      have hparts : (parts.map fun (i, x) => (i, a.eval x)).toList = (evp l parts.toList).map fun p => (p.1, den ρ p.2) := by
        rw [← e1]; simp
      have hf := fill_sound ρ (plOf ti (.sl e)) (len * (ti e).sz) _ (zrow (ti e)) hp
      obtain ⟨ρ', r1, r2, r3, r4⟩ := newRow_sound (P := P) sh e ((hti e).bnd (TK.kn_iff.1 hkn)) (cells := arr (len * (ti e).sz) fun j => den ρ (fillC (plOf ti (.sl e)) (evp l parts.toList) (zrow (ti e)) j)) rfl
        (fillC_lt _ _ hp e2 (fun j _ => SV.lt_mono (Nat.zero_le _) _ (hzl j)))
      refine upon_value_eq (v := den ρ' (.sl n 0 len len)) ?_ _ _ ⟨ρ', _, _, n + 1, fun i hi => r1 i (by omega), ((st.rho r1).mono (Nat.le_succ n)).put _ (.sl n 0 len len) (Nat.lt_succ_self n) hd, r4, by omega, hK⟩
      have hsz := (hti e).runSize (TK.kn_iff.1 hkn) w
      have hpl : (fun i => some (i * (ti e).sz, (ti e).sz)) = plOf ti (.sl e) := rfl
      simp only [execOp, hop, Instr.buildSlice, Sem.run_bind, run_underlying hx, Result.andThen_ok, hsz]
      rw [if_neg (by simp only [gt_iff_lt, Nat.not_lt]; exact hbig)]
      by_cases hz0 : len * (ti e).sz = 0
      · have hcells : (Array.range (len * (ti e).sz)).map (fun x => (#[] : Array Value)[x % (#[] : Array Value).size]!) = arr (len * (ti e).sz) fun j => den ρ (zrow (ti e) j) := by
          simp [hz0, arr]
        rw [if_pos hz0]
        simp only [Sem.run_bind, Sem.run_pure, Result.andThen_ok]
        rw [hcells, hparts, hpl, hf]
        simp only [Sem.run_bind, r2, Result.andThen_ok, Sem.run_pure, den, r3, Nat.add_zero]
      · rw [if_neg hz0]
        simp only [Sem.run_bind, Sem.run_pure, Result.andThen_ok, hz]
        rw [hzc, hparts, hpl, hf]
        simp only [Sem.run_bind, r2, Result.andThen_ok, Sem.run_pure, den, r3, Nat.add_zero]
    · exact hm.elim
  · rename_i t x y hop
    unfold mkK at hm
    split at hm
    · rename_i e kl A kc B hk hA hB
      have hx := (hti t).und
      rw [hk] at hx
      obtain ⟨⟨hkn, h0, ha, hab, hb9, hby⟩, hK⟩ := hm
      obtain ⟨i, z, hi, hs, hb, hz, hc, hl, _⟩ := (hti e).info (TK.kn_iff.1 hkn)
      obtain ⟨z', hz', hzc, hzs, hzl, hzo⟩ := zrow_cells (ρ := ρ) hti e B.toNat hkn h0 w
      have hzz : z' = z := by
        have : (zeroValue e).run P w = .ok z w := by simp [zeroValue, typeInfo, hi, hz]
        rw [this] at hz'; cases hz'; rfl
      subst hzz
      obtain ⟨eA, _⟩ := ev_sound st x (by rw [hA]; simp)
      obtain ⟨eB, _⟩ := ev_sound st y (by rw [hB]; simp)
      rw [hA] at eA
      rw [hB] at eB
      have hbytes : (i.bytes : Int) * B ≤ 281474976710656 := by
        have h1 : (i.bytes : Int) ≤ 10000 := by omega
        have h2 : (i.bytes : Int) * B ≤ 10000 * B := Int.mul_le_mul_of_nonneg_right h1 (by omega)
        omega
      have hr := run_make (P := P) w t e i z' hx hi hz kl kc A B ha hab hbytes (by omega)
      have hmade : madeCells z'.cells (B.toNat * i.size) = arr (B.toNat * (ti e).sz) fun j => den ρ (zrow (ti e) j) := by
        rw [← hzc, hs]; rfl
      obtain ⟨ρ', r1, r2, r3⟩ := sh.new e (B.toNat * (ti e).sz) (zrow (ti e)) (madeCells z'.cells (B.toNat * i.size)) (B.toNat * (ti e).sz) (Nat.le_refl _) (by rw [hmade]; simp) (fun j hj => by rw [hmade, arr_get _ _ _ hj])
        (fun j _ => SV.lt_mono (Nat.zero_le _) _ (hzl j)) true (fun _ => (hti e).bnd (TK.kn_iff.1 hkn))
      refine upon_value_eq (v := den ρ' (.sl n 0 A.toNat B.toNat)) ?_ _ _ ⟨ρ', _, _, n + 1, fun i hi => r1 i (by omega), ((st.rho r1).mono (Nat.le_succ n)).put _ (.sl n 0 A.toNat B.toNat) (Nat.lt_succ_self n) hd, by simpa using r3, by omega, hK⟩
      simp only [execOp, hop, eA, eB, den, Sem.run_bind, hr, Result.andThen_ok, Sem.run_pure, r2, Nat.add_zero]
    · exact hm.elim
  · rename_i x y t t' hop
    rcases hm with ⟨rfl, hokx, hm⟩ | ⟨_, hm⟩
    rotate_left
    · exact hm ρ a w st sh hn
    obtain ⟨e1, e2⟩ := ev_sound st x (SV.ok_ne hokx)
    unfold appK at hm
    split at hm
    · rename_i e j oo m c hk hX hY
      have hx := (hti t).und
      rw [hk] at hx
      obtain ⟨f1, f2⟩ := ev_sound st y (by rw [hY]; simp)
      rw [hX] at e1
      rw [hY] at f1
      unfold appN at hm
      split at hm
      · rename_i s hs
        obtain ⟨⟨⟨hkn, h0, hsn, hones⟩, hm0, hm9, hby⟩, hK⟩ := hm
        rw [allP_iff] at hones
        obtain ⟨i, z, hi, hsz, hb, hz, hc, hl, _⟩ := (hti e).info (TK.kn_iff.1 hkn)
        have hseg := sh.seg j s hs
        have hrun := run_append_own (P := P) w w.heap.size t o.type e i z (ti e).sz i.bytes hx hi hz hsz rfl (by rw [hc]; simp) h0 (.slice none 0 0) 0 [] (World.ownsRow_nil w _ _ _)
          ⟨(ρ j).1, (ρ j).2 + oo, none⟩ m c ((List.range (m * (ti e).sz)).map fun k => den ρ (s.c (oo + k))) (by simp) (fun k u hu => by
            simp only [List.getElem?_map, Option.map_eq_some_iff] at hu
            obtain ⟨k', hk', rfl⟩ := hu
            obtain ⟨hklt, rfl⟩ := List.getElem?_eq_some_iff.1 hk'
            simp only [List.length_range] at hklt
            simp only [List.getElem_range]
            rw [addr_add, Nat.add_assoc]
            exact hseg.cells (oo + k) (by omega)) (fun u hu => by
            simp only [List.mem_map, List.mem_range] at hu
            obtain ⟨k, hk, rfl⟩ := hu
            exact den_one (hones k hk)) (by simp [maxLen]; omega) (by
            have : (0 + m) * i.bytes ≤ 1000000000 * 10000 := Nat.mul_le_mul (by omega) (by omega)
            omega) (Nat.le_refl _)
        obtain ⟨v', w', hr, hown, hg, hnil⟩ := hrun
        simp only [List.nil_append, Nat.zero_add] at hown
        rcases hown.2 with ⟨h1, _⟩ | ⟨g', cap, cur, rfl, hbase, hheap, hmc, hcm, hcs, htake⟩
        · exact absurd (hnil.1 h1).2 (by omega)
        · have hcur : ∀ k, k < m * (ti e).sz → cur[k]? = some (den ρ (news s.c oo k)) := by
            intro k hk
            have h1 : (cur.toList.take (m * (ti e).sz))[k]? = ((List.range (m * (ti e).sz)).map fun k => den ρ (s.c (oo + k)))[k]? := by rw [htake]
            rw [List.getElem?_take_of_lt hk] at h1
            simp only [List.getElem?_map, List.getElem?_range hk, Option.map_some] at h1
            rw [← Array.getElem?_toList, h1]
            rfl
          have hnewl : ∀ k, k < m * (ti e).sz → (news s.c oo k).lt n := fun k hk => (sh.lt j s hs).2 _ (by omega)
          obtain ⟨ρ', r1, r2, r3⟩ := sh.own_step (h2 := h) hg (fun _ _ h => h) (fun z q hq => by simp [Value.ownBlock]) (fun b hb => by simp [Value.ownBlock] at hb) hheap
            (fun z q hq => Nat.ne_of_lt (Nat.lt_of_lt_of_le (sh.seg z q hq).blk hbase)) (Nat.le_trans sh.keeps.size hbase) (m * (ti e).sz) (news s.c oo) hcur hnewl ((hti e).bnd (TK.kn_iff.1 hkn))
          rw [hcs] at r3
          refine upon_value_eq (v := den ρ' (.sl n 0 m cap)) ?_ _ _ ⟨ρ', _, _, n + 1, fun i hi => r1 i (by omega), ((st.rho r1).mono (Nat.le_succ n)).put _ (.sl n 0 m cap) (Nat.lt_succ_self n) hd, r3, by omega, hK cap hmc hcm⟩
          simp only [execOp_append hop, e1, f1, den, Sem.run_bind, hr, Result.andThen_ok, Sem.run_pure, r2, Nat.add_zero]
      · exact hm.elim
    · rename_i e ii o' len cap j oo m c hk hX hY
      have hx := (hti t).und
      rw [hk] at hx
      obtain ⟨f1, f2⟩ := ev_sound st y (by rw [hY]; simp)
      rw [hX] at e1
      rw [hY] at f1
      obtain ⟨rfl, hm⟩ := hm
      by_cases hji : j = ii
      · rw [if_pos hji] at hm
        subst hji
        unfold appF at hm
        split at hm
        rotate_left
        · exact hm.elim
        rename_i s hs
        obtain ⟨⟨⟨hkn, h0, hsn, hones⟩, hown0, hroom, hcm, hls, hm9, hby⟩, hK⟩ := hm
        rw [allP_iff] at hones
        obtain ⟨i, z, hi, hsz, hb, hz, hc, hl, _⟩ := (hti e).info (TK.kn_iff.1 hkn)
        have hsegi := sh.seg j s hs
        obtain ⟨hz2, hbase0, cur0, hheap0, hcur0⟩ := hsegi.ownC hown0 ((hti e).bnd (TK.kn_iff.1 hkn))
        have holds : ∀ k, k < len * (ti e).sz → cur0[k]? = some (den ρ (s.c k)) := by
          intro k hk
          have := hsegi.cells k (by omega)
          simp only [World.cell?, hheap0] at this
          rw [hz2, Nat.zero_add] at this
          simpa using this
        have hnews : ∀ (k : Nat) (u : Value), ((List.range (m * (ti e).sz)).map fun k => den ρ (s.c (oo + k)))[k]? = some u → w.cell? ((⟨(ρ j).1, (ρ j).2 + oo, none⟩ : Addr).add k) = some u := by
          intro k u hu
          simp only [List.getElem?_map, Option.map_eq_some_iff] at hu
          obtain ⟨k', hk', rfl⟩ := hu
          obtain ⟨hklt, rfl⟩ := List.getElem?_eq_some_iff.1 hk'
          simp only [List.length_range] at hklt
          simp only [List.getElem_range]
          rw [addr_add, Nat.add_assoc]
          exact hsegi.cells (oo + k) (by omega)
        have hone : ∀ u ∈ ((List.range (m * (ti e).sz)).map fun k => den ρ (s.c (oo + k))), u.oneCell' = true := by
          intro u hu
          simp only [List.mem_map, List.mem_range] at hu
          obtain ⟨k, hk, rfl⟩ := hu
          exact den_one (hones k hk)
        have hxs : ((List.range (len * (ti e).sz)).map fun k => den ρ (s.c k)).length = len * (ti e).sz := by simp
        have hnewl : ∀ k, k < (len + m) * (ti e).sz → (both (len * (ti e).sz) s.c (news s.c oo) k).lt n := by
          intro k hk
          rw [Nat.add_mul] at hk
          unfold both
          split
          · exact (sh.lt j s hs).2 _ (by omega)
          · exact (sh.lt j s hs).2 _ (by omega)
        have hcurN : ∀ (cur : Array Value), cur.toList.take ((len + m) * (ti e).sz) = ((List.range (len * (ti e).sz)).map fun k => den ρ (s.c k)) ++ ((List.range (m * (ti e).sz)).map fun k => den ρ (s.c (oo + k))) →
            ∀ k, k < (len + m) * (ti e).sz → cur[k]? = some (den ρ (both (len * (ti e).sz) s.c (news s.c oo) k)) := by
          intro cur htake k hk
          have h1 : (cur.toList.take ((len + m) * (ti e).sz))[k]? = (((List.range (len * (ti e).sz)).map fun k => den ρ (s.c k)) ++ ((List.range (m * (ti e).sz)).map fun k => den ρ (s.c (oo + k))))[k]? := by rw [htake]
          rw [List.getElem?_take_of_lt hk] at h1
          rw [← Array.getElem?_toList, h1]
          rw [Nat.add_mul] at hk
          unfold both
          by_cases hk2 : k < len * (ti e).sz
          · rw [if_pos hk2, List.getElem?_append_left (by simpa using hk2)]
            simp [List.getElem?_range hk2]
          · rw [if_neg hk2, List.getElem?_append_right (by simpa using hk2)]
            have hk3 : k - len * (ti e).sz < m * (ti e).sz := by omega
            simp [List.getElem?_range hk3, news]
        have sub : ∀ z q, hget (hdel h j) z = some q → hget h z = some q := fun z q hq => by
          rw [hget_hdel] at hq; split at hq
          · cases hq
          · exact hq
        have far : ∀ z q, hget (hdel h j) z = some q → (ρ z).1 ≠ (ρ j).1 := by
          intro z q hq
          have hq' := sub z q hq
          have hne : j ≠ z := by
            intro he; subst he; rw [hget_hdel, if_pos rfl] at hq; cases hq
          rcases sh.dis j z s q hne hs hq' (.inr (by rw [hown0]; rfl)) with h | ⟨h, _⟩
          · exact Ne.symm h
          · rw [hown0] at h; cases h
        have hown : w.ownsRow cx.w0.heap.size e (ti e).sz (.slice (some ⟨(ρ j).1, 0, none⟩) len cap) len ((List.range (len * (ti e).sz)).map fun k => den ρ (s.c k)) := by
          refine ⟨hxs, .inr ⟨(ρ j).1, cap, cur0, rfl, hbase0, hheap0, by omega, hcm, hcur0, ?_⟩⟩
          apply List.ext_getElem?
          intro k
          by_cases hk : k < len * (ti e).sz
          · rw [List.getElem?_take_of_lt hk, Array.getElem?_toList, holds k hk]
            simp [List.getElem?_range hk]
          · rw [List.getElem?_eq_none (by simp; omega), List.getElem?_eq_none (by simp; omega)]
        obtain ⟨w', hr, hown', hg⟩ := run_append_fits (P := P) w cx.w0.heap.size t o.type e i (ti e).sz hx hi hsz (ρ j).1 len cap _ hown ⟨(ρ j).1, (ρ j).2 + oo, none⟩ m c _ (by simp) hnews hone hroom
        rcases hown'.2 with ⟨h1, _⟩ | ⟨g', cap', cur, hv, hbase, hheap, hmc, hcm', hcs, htake⟩
        · cases h1
        · simp only [Value.slice.injEq, Option.some.injEq, Addr.mk.injEq, and_true, true_and] at hv
          obtain ⟨rfl, rfl⟩ := hv
          have hle : (len + m) * (ti e).sz ≤ cap * (ti e).sz := Nat.mul_le_mul_right _ hmc
          obtain ⟨ρ', r1, r2, r3⟩ := sh.own_step (h2 := hdel h j) hg sub (fun z q hq => by simp only [ne_eq, Option.some.injEq]; exact far z q hq) (fun b hb => by cases hb; exact hbase0) hheap
            far hbase (cap * (ti e).sz) (fun k => if k < (len + m) * (ti e).sz then both (len * (ti e).sz) s.c (news s.c oo) k else .raw (cur[k]!)) (fun k hk => by
              by_cases hk2 : k < (len + m) * (ti e).sz
              · simp only [if_pos hk2]; exact hcurN cur htake k hk2
              · simp only [if_neg hk2, den]
                have hk3 : k < cur.size := by omega
                rw [Array.getElem?_eq_getElem hk3, getElem!_pos cur k hk3]) (fun k hk => by
              by_cases hk2 : k < (len + m) * (ti e).sz
              · simp only [if_pos hk2]; exact hnewl k hk2
              · simp only [if_neg hk2]; trivial) ((hti e).bnd (TK.kn_iff.1 hkn))
          rw [hcs] at r3
          refine upon_value_eq (v := den ρ' (.sl n 0 (len + m) cap)) ?_ _ _ ⟨ρ', _, _, n + 1, fun i hi => r1 i (by omega), ((st.rho r1).mono (Nat.le_succ n)).put _ (.sl n 0 (len + m) cap) (Nat.lt_succ_self n) hd, r3, by omega, hK _⟩
          rw [hz2, Nat.zero_add] at hr
          simp only [execOp_append hop, e1, f1, den, hz2, Nat.zero_add, Sem.run_bind, hr, Result.andThen_ok, Sem.run_pure, r2]
      rw [if_neg hji] at hm
      unfold appS at hm
      split at hm
      · rename_i s s' hs hs'
        obtain ⟨⟨⟨hkn, h0, hsn, hones⟩, hown0, hlc, hcm, hls, hm9, hby⟩, hK⟩ := hm
        rw [allP_iff] at hones
        obtain ⟨i, z, hi, hsz, hb, hz, hc, hl, _⟩ := (hti e).info (TK.kn_iff.1 hkn)
        have hseg := sh.seg j s' hs'
        have hsegi := sh.seg ii s hs
        obtain ⟨hz2, hbase0, cur0, hheap0, hcur0⟩ := hsegi.ownC hown0 ((hti e).bnd (TK.kn_iff.1 hkn))
        have holds : ∀ k, k < len * (ti e).sz → cur0[k]? = some (den ρ (s.c k)) := by
          intro k hk
          have := hsegi.cells k (by omega)
          simp only [World.cell?, hheap0] at this
          rw [hz2, Nat.zero_add] at this
          simpa using this
        have hnews : ∀ (k : Nat) (u : Value), ((List.range (m * (ti e).sz)).map fun k => den ρ (s'.c (oo + k)))[k]? = some u → w.cell? ((⟨(ρ j).1, (ρ j).2 + oo, none⟩ : Addr).add k) = some u := by
          intro k u hu
          simp only [List.getElem?_map, Option.map_eq_some_iff] at hu
          obtain ⟨k', hk', rfl⟩ := hu
          obtain ⟨hklt, rfl⟩ := List.getElem?_eq_some_iff.1 hk'
          simp only [List.length_range] at hklt
          simp only [List.getElem_range]
          rw [addr_add, Nat.add_assoc]
          exact hseg.cells (oo + k) (by omega)
        have hone : ∀ u ∈ ((List.range (m * (ti e).sz)).map fun k => den ρ (s'.c (oo + k))), u.oneCell' = true := by
          intro u hu
          simp only [List.mem_map, List.mem_range] at hu
          obtain ⟨k, hk, rfl⟩ := hu
          exact den_one (hones k hk)
        have hbytes : (len + m) * i.bytes ≤ 140737488355328 := by
          have : (len + m) * i.bytes ≤ 1000000000 * 10000 := Nat.mul_le_mul (by omega) (by omega)
          omega
        have hxs : ((List.range (len * (ti e).sz)).map fun k => den ρ (s.c k)).length = len * (ti e).sz := by simp
        have hnewl : ∀ k, k < (len + m) * (ti e).sz → (both (len * (ti e).sz) s.c (news s'.c oo) k).lt n := by
          intro k hk
          rw [Nat.add_mul] at hk
          unfold both
          split
          · exact (sh.lt ii s hs).2 _ (by omega)
          · exact (sh.lt j s' hs').2 _ (by omega)
        have hcurN : ∀ (cur : Array Value), cur.toList.take ((len + m) * (ti e).sz) = ((List.range (len * (ti e).sz)).map fun k => den ρ (s.c k)) ++ ((List.range (m * (ti e).sz)).map fun k => den ρ (s'.c (oo + k))) →
            ∀ k, k < (len + m) * (ti e).sz → cur[k]? = some (den ρ (both (len * (ti e).sz) s.c (news s'.c oo) k)) := by
          intro cur htake k hk
          have h1 : (cur.toList.take ((len + m) * (ti e).sz))[k]? = (((List.range (len * (ti e).sz)).map fun k => den ρ (s.c k)) ++ ((List.range (m * (ti e).sz)).map fun k => den ρ (s'.c (oo + k))))[k]? := by rw [htake]
          rw [List.getElem?_take_of_lt hk] at h1
          rw [← Array.getElem?_toList, h1]
          rw [Nat.add_mul] at hk
          unfold both
          by_cases hk2 : k < len * (ti e).sz
          · rw [if_pos hk2, List.getElem?_append_left (by simpa using hk2)]
            simp [List.getElem?_range hk2]
          · rw [if_neg hk2, List.getElem?_append_right (by simpa using hk2)]
            have hk3 : k - len * (ti e).sz < m * (ti e).sz := by omega
            simp [List.getElem?_range hk3, news]
        have sub : ∀ z q, hget (hdel h ii) z = some q → hget h z = some q := fun z q hq => by
          rw [hget_hdel] at hq; split at hq
          · cases hq
          · exact hq
        have far : ∀ z q, hget (hdel h ii) z = some q → (ρ z).1 ≠ (ρ ii).1 := by
          intro z q hq
          have hq' := sub z q hq
          have hne : ii ≠ z := by
            intro he; subst he; rw [hget_hdel, if_pos rfl] at hq; cases hq
          rcases sh.dis ii z s q hne hs hq' (.inr (by rw [hown0]; rfl)) with h | ⟨h, _⟩
          · exact Ne.symm h
          · rw [hown0] at h; cases h
        by_cases hroom : len + m ≤ cap
        · have hown : w.ownsRow cx.w0.heap.size e (ti e).sz (.slice (some ⟨(ρ ii).1, 0, none⟩) len cap) len ((List.range (len * (ti e).sz)).map fun k => den ρ (s.c k)) := by
            refine ⟨hxs, .inr ⟨(ρ ii).1, cap, cur0, rfl, hbase0, hheap0, hlc, hcm, hcur0, ?_⟩⟩
            apply List.ext_getElem?
            intro k
            by_cases hk : k < len * (ti e).sz
            · rw [List.getElem?_take_of_lt hk, Array.getElem?_toList, holds k hk]
              simp [List.getElem?_range hk]
            · rw [List.getElem?_eq_none (by simp; omega), List.getElem?_eq_none (by simp; omega)]
          obtain ⟨w', hr, hown', hg⟩ := run_append_fits (P := P) w cx.w0.heap.size t o.type e i (ti e).sz hx hi hsz (ρ ii).1 len cap _ hown ⟨(ρ j).1, (ρ j).2 + oo, none⟩ m c _ (by simp) hnews hone hroom
          rcases hown'.2 with ⟨h1, _⟩ | ⟨g', cap', cur, hv, hbase, hheap, hmc, hcm', hcs, htake⟩
          · cases h1
          · simp only [Value.slice.injEq, Option.some.injEq, Addr.mk.injEq, and_true, true_and] at hv
            obtain ⟨rfl, rfl⟩ := hv
            obtain ⟨ρ', r1, r2, r3⟩ := sh.own_step (h2 := hdel h ii) hg sub (fun z q hq => by simp only [ne_eq, Option.some.injEq]; exact far z q hq) (fun b hb => by cases hb; exact hbase0) hheap
              far hbase ((len + m) * (ti e).sz) _ (hcurN cur htake) hnewl ((hti e).bnd (TK.kn_iff.1 hkn))
            rw [hcs] at r3
            refine upon_value_eq (v := den ρ' (.sl n 0 (len + m) cap)) ?_ _ _ ⟨ρ', _, _, n + 1, fun i hi => r1 i (by omega), ((st.rho r1).mono (Nat.le_succ n)).put _ (.sl n 0 (len + m) cap) (Nat.lt_succ_self n) hd, r3, by omega, hK cap hmc hcm'⟩
            simp only [execOp_append hop, e1, f1, den, hz2, Nat.zero_add, Sem.run_bind, hr, Result.andThen_ok, Sem.run_pure, r2]
        · obtain ⟨v', w', hr, hown, hg⟩ := run_append_arg_grows (P := P) w t o.type e i z (ti e).sz i.bytes hx hi hz hsz rfl (by rw [hc]; simp) h0 ⟨(ρ ii).1, 0, none⟩ len cap _ hxs (fun k u hu => by
              simp only [List.getElem?_map, Option.map_eq_some_iff] at hu
              obtain ⟨k', hk', rfl⟩ := hu
              obtain ⟨hklt, rfl⟩ := List.getElem?_eq_some_iff.1 hk'
              simp only [List.length_range] at hklt
              simp only [List.getElem_range]
              have := hsegi.cells k (by omega)
              rw [hz2] at this
              rw [addr_add]
              exact this) ⟨(ρ j).1, (ρ j).2 + oo, none⟩ m c _ (by simp) hnews (by omega) (by simp [maxLen]; omega) hbytes
          rcases hown.2 with ⟨_, h1⟩ | ⟨g', cap', cur, rfl, hbase, hheap, hmc, hcm', hcs, htake⟩
          · omega
          · obtain ⟨ρ', r1, r2, r3⟩ := sh.own_step (h2 := hdel h ii) hg sub (fun z q hq => by simp) (fun b hb => by cases hb) hheap
              (fun z q hq => Nat.ne_of_lt (Nat.lt_of_lt_of_le (sh.seg z q (sub z q hq)).blk hbase)) (Nat.le_trans sh.keeps.size hbase) ((len + m) * (ti e).sz) _ (hcurN cur htake) hnewl ((hti e).bnd (TK.kn_iff.1 hkn))
            rw [hcs] at r3
            refine upon_value_eq (v := den ρ' (.sl n 0 (len + m) cap')) ?_ _ _ ⟨ρ', _, _, n + 1, fun i hi => r1 i (by omega), ((st.rho r1).mono (Nat.le_succ n)).put _ (.sl n 0 (len + m) cap') (Nat.lt_succ_self n) hd, r3, by omega, hK cap' hmc hcm'⟩
            simp only [execOp_append hop, e1, f1, den, hz2, Nat.zero_add, Sem.run_bind, hr, Result.andThen_ok, Sem.run_pure, r2]
      · exact hm.elim
    · exact hm.elim
  · rename_i x t hop
    obtain ⟨hdn, hm⟩ := hm
    unfold clK at hm
    split at hm
    · rename_i e ii oo len cap hk hX
      have hx := (hti t).und
      rw [hk] at hx
      obtain ⟨e1, e2⟩ := ev_sound st x (by rw [hX]; simp)
      rw [hX] at e1
      split at hm
      · rename_i s hs
        obtain ⟨⟨hkn, h0, hsn, hrw⟩, hK⟩ := hm
        obtain ⟨z, hz, hzc, hzs, hzl, hzo⟩ := zrow_cells (ρ := ρ) hti e len hkn h0 w
        have hput : ∀ (v : Value), a.put o.dst v = a := fun v => by rw [hdn]; rfl
        by_cases hlen : len = 0
        · subst hlen
          have hsame : { s with c := fun j => if oo ≤ j ∧ j < oo + 0 * (ti e).sz then zrow (ti e) (j - oo) else s.c j } = s := by
            obtain ⟨sn, sc, sr, so⟩ := s
            simp only [Seg.mk.injEq, true_and, and_true]
            funext j
            rw [if_neg (by omega)]
          rw [hsame, hset_self hs] at hK
          refine upon_value_eq (v := .tuple #[]) (w' := w) ?_ _ _ (by rw [hput]; exact ⟨ρ, _, _, n, fun _ _ => rfl, st, sh, hn, hK⟩)
          simp [execOp_clear hop, e1, den, Builtin.clear_, run_underlying hx]
        · obtain ⟨w', r1, r2⟩ := storeCells_sound (P := P) (cx := cx) (ρ := ρ) (n := n) (i := ii) ((List.range (len * (ti e).sz)).map (zrow (ti e))) 0 oo h w s sh hs hrw (by simp; omega) (fun u hu => by
            simp at hu
            obtain ⟨j, hj, rfl⟩ := hu
            exact ⟨hzo j, SV.lt_mono (Nat.zero_le _) _ (hzl j)⟩)
          have hsame : (fun j => if oo + 0 ≤ j ∧ j < oo + 0 + ((List.range (len * (ti e).sz)).map (zrow (ti e))).length then cl ((List.range (len * (ti e).sz)).map (zrow (ti e))) (j - (oo + 0)) else s.c j) =
              fun j => if oo ≤ j ∧ j < oo + len * (ti e).sz then zrow (ti e) (j - oo) else s.c j := by
            funext j
            simp only [Nat.add_zero, List.length_map, List.length_range]
            split
            · rw [cl_eq]
              have hj : j - oo < len * (ti e).sz := by omega
              simp [List.getElem?_range hj]
            · rfl
          rw [hsame] at r2
          refine upon_value_eq (v := .tuple #[]) (w' := w') ?_ _ _ (by rw [hput]; exact ⟨ρ, _, _, n, fun _ _ => rfl, st, r2, hn, hK⟩)
          have hcells : (Builtin.zeroCells z.cells len).toList = ((List.range (len * (ti e).sz)).map (zrow (ti e))).map (den ρ) := by
            have : Builtin.zeroCells z.cells len = arr (len * (ti e).sz) fun j => den ρ (zrow (ti e) j) := by
              rw [← hzc]; unfold Builtin.zeroCells; rw [hzs]
            rw [this]; simp [arr]
          cases len with
          | zero => exact absurd rfl hlen
          | succ k =>
            simp only [execOp_clear hop, e1, den, Builtin.clear_]
            rw [List.map_map] at r1 hcells
            simp [run_underlying hx, hz, hcells, r1]
      · exact hm.elim
    · rename_i e hk hX
      have hx := (hti t).und
      rw [hk] at hx
      obtain ⟨e1, e2⟩ := ev_sound st x (by rw [hX]; simp)
      rw [hX] at e1
      have hput : ∀ (v : Value), a.put o.dst v = a := fun v => by rw [hdn]; rfl
      refine upon_value_eq (v := .tuple #[]) (w' := w) ?_ _ _ (by rw [hput]; exact ⟨ρ, _, _, n, fun _ _ => rfl, st, sh, hn, hm⟩)
      simp [execOp_clear hop, e1, den, Builtin.clear_, run_underlying hx]
    · exact hm.elim
  · exact hm ρ a w st sh hn
end
end Go.Proofs.YtfelopllfhcdpaaGreat.V
