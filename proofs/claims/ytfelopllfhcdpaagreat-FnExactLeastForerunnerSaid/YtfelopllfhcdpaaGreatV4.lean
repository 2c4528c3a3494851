/- Operations that make or write memory: sound. -/
import Derived.Test.YtfelopllfhcdpaaGreatV3
set_option linter.all false
namespace Go.Proofs.YtfelopllfhcdpaaGreat.V

theorem cells_den (ρ : Rho) : ∀ {v : SV}, v.okc → (den ρ v).cells = arr v.size (fun j => den ρ (cellsV v j))
  | .agg n F, _ => rfl
  | .int .., _ | .bool _, _ | .str _, _ | .ptr .., _ | .sl .., _ | .nils, _ | .fn .., _ => rfl
  | .raw v, h => by
    cases v <;> first | rfl | (simp [SV.okc, Value.oneCell'] at h)
theorem wr_eq (c : Nat → SV) (o : Nat) {v : SV} (h : v.okc) (j : Nat) : wr c o v j = if o ≤ j ∧ j < o + v.size then cellsV v (j - o) else c j := by
  have one : ∀ u : SV, upd c o u j = if o ≤ j ∧ j < o + 1 then cl [u] (j - o) else c j := by
    intro u
    unfold upd
    by_cases hj : j = o
    · subst hj; simp [cl]
    · rw [if_neg hj, if_neg (by omega)]
  cases v <;> first | exact h.elim | rfl | exact one _
theorem cellsV_lt {n : Nat} : ∀ {v : SV}, v.okc → v.lt n → ∀ j, j < v.size → (cellsV v j).lt n
  | .agg m F, _, h, j, hj => h j hj
  | .int .., _, h, j, hj | .bool _, _, h, j, hj | .str _, _, h, j, hj | .ptr .., _, h, j, hj | .sl .., _, h, j, hj | .nils, _, h, j, hj | .fn .., _, h, j, hj | .raw _, _, h, j, hj => by
    have : j = 0 := by simp [SV.size] at hj; exact hj
    subst this; exact h

theorem setAll_get (off : Nat) : ∀ (l : List Value) (k : Nat) (cs : Array Value) (i : Nat), off + k + l.length ≤ cs.size →
    ((l.zipIdx k).foldl (fun (cs : Array Value) (x : Value × Nat) => cs.setIfInBounds (off + x.2) x.1) cs)[i]? = if off + k ≤ i ∧ i < off + k + l.length then l[i - (off + k)]? else cs[i]?
  | [], k, cs, i, _ => by simp; intro h1 h2; omega
  | v :: l, k, cs, i, h => by
    simp only [List.length_cons] at h
    simp only [List.zipIdx_cons, List.foldl_cons]
    rw [setAll_get off l (k + 1) _ i (by simp; omega)]
    by_cases h1 : off + (k + 1) ≤ i ∧ i < off + (k + 1) + l.length
    · rw [if_pos h1, if_pos (by simp; omega)]
      rw [show i - (off + k) = (i - (off + (k + 1))) + 1 by omega, List.getElem?_cons_succ]
    · rw [if_neg h1]
      by_cases h2 : i = off + k
      · subst h2
        rw [if_pos (by simp), Array.getElem?_setIfInBounds, if_pos rfl, if_pos (by omega)]
        simp
      · rw [if_neg (by simp; omega), Array.getElem?_setIfInBounds, if_neg (Ne.symm h2)]

theorem foldl_set (ρ : Rho) (N : Nat) (c : Nat → SV) (off : Nat) {v : SV} (hv : v.okc) (h : off + v.size ≤ N) :
    (den ρ v).cells.zipIdx.foldl (fun (cs : Array Value) (x : Value × Nat) => cs.setIfInBounds (off + x.2) x.1) (arr N fun j => den ρ (c j)) = arr N fun j => den ρ (wr c off v j) := by
  rw [← Array.foldl_toList]
  have hz : (den ρ v).cells.zipIdx.toList = (den ρ v).cells.toList.zipIdx 0 := by simp
  rw [hz]
  have hl : (den ρ v).cells.toList.length = v.size := by simp [cells_den ρ hv]
  have hsz : ∀ (l : List Value) (k : Nat) (cs : Array Value), ((l.zipIdx k).foldl (fun (cs : Array Value) (x : Value × Nat) => cs.setIfInBounds (off + x.2) x.1) cs).size = cs.size := by
    intro l
    induction l with
    | nil => intro k cs; rfl
    | cons a l ih => intro k cs; simp only [List.zipIdx_cons, List.foldl_cons]; rw [ih]; simp
  apply arr_ext
  · rw [hsz]; simp
  · intro j hj
    rw [setAll_get off _ 0 _ j (by rw [hl]; simpa using h), hl, wr_eq c off hv j]
    simp only [Nat.add_zero]
    split
    · rename_i hj2
      rw [cells_den ρ hv]
      rw [Array.getElem?_toList, arr_get _ _ _ (by omega)]
    · rw [arr_get _ _ _ hj]

theorem fill_sound (ρ : Rho) (pl : Nat → Option (Nat × Nat)) (N : Nat) : ∀ (ps : List (Nat × SV)) (c : Nat → SV), fillP pl N ps →
    Instr.fill pl (arr N fun j => den ρ (c j)) (ps.map fun p => (p.1, den ρ p.2)) = some (arr N fun j => den ρ (fillC pl ps c j))
  | [], c, _ => rfl
  | (i, v) :: ps, c, h => by
    obtain ⟨h1, h2⟩ := h
    simp only [List.map_cons, Instr.fill, fillC]
    cases hp : pl i with
    | none => rw [hp] at h1; exact h1.elim
    | some p =>
      obtain ⟨off, sz⟩ := p
      rw [hp] at h1
      obtain ⟨hok, hs, hN⟩ := h1
      have hcs : (den ρ v).cells.size = sz := by rw [cells_den ρ hok]; simpa using hs
      simp only [hcs]
      rw [if_neg (by simp; omega)]
      rw [foldl_set ρ N c off hok (by omega)]
      exact fill_sound ρ pl N ps _ h2

theorem wr_lt {n N : Nat} {c : Nat → SV} (hc : ∀ j, j < N → (c j).lt n) {o : Nat} {v : SV} (hok : v.okc) (hv : v.lt n) : ∀ j, j < N → (wr c o v j).lt n := by
  intro j hj
  rw [wr_eq c o hok j]
  split
  · exact cellsV_lt hok hv _ (by omega)
  · exact hc j hj
theorem fillC_lt {n N : Nat} {pl : Nat → Option (Nat × Nat)} : ∀ (ps : List (Nat × SV)) (c : Nat → SV), fillP pl N ps → (∀ p ∈ ps, p.2.lt n) → (∀ j, j < N → (c j).lt n) → ∀ j, j < N → (fillC pl ps c j).lt n
  | [], c, _, _, hc => hc
  | (i, v) :: ps, c, h, hp, hc => by
    obtain ⟨h1, h2⟩ := h
    simp only [fillC]
    apply fillC_lt ps _ h2 (fun p hq => hp p (by simp [hq]))
    cases hpl : pl i with
    | none => rw [hpl] at h1; exact h1.elim
    | some q =>
      rw [hpl] at h1
      exact wr_lt hc h1.1 (hp (i, v) (by simp))

section
variable {P : Program} {ti : Nat → TI}
variable {cx : Cx} {ρ : Rho} {l : List (Nat × SV)} {h : List (Nat × Seg)} {n : Nat} {a : Act} {w : World}

theorem evp_sound (s : SatT cx ρ l n a) : ∀ (ps : List (Nat × Operand)), (∀ p ∈ evp l ps, p.2 ≠ .bad) →
    ps.map (fun p => (p.1, a.eval p.2)) = (evp l ps).map (fun p => (p.1, den ρ p.2)) ∧ ∀ p ∈ evp l ps, p.2.lt n
  | [], _ => ⟨rfl, fun p h => by cases h⟩
  | (i, x) :: ps, h => by
    obtain ⟨e1, e2⟩ := ev_sound s x (h (i, ev l x) (by simp [evp]))
    obtain ⟨f1, f2⟩ := evp_sound s ps (fun p hp => h p (by simp [evp, hp]))
    refine ⟨by simp only [List.map_cons, evp, e1, f1], fun p hp => ?_⟩
    simp only [evp, List.mem_cons] at hp
    rcases hp with rfl | hp
    · exact e2
    · exact f2 p hp
theorem fillP_ne {pl : Nat → Option (Nat × Nat)} {N : Nat} : ∀ {ps : List (Nat × SV)}, fillP pl N ps → ∀ p ∈ ps, p.2 ≠ .bad
  | (i, v) :: ps, h, p, hp => by
    obtain ⟨h1, h2⟩ := h
    simp only [List.mem_cons] at hp
    rcases hp with rfl | hp
    · rintro he
      simp only at he
      subst he
      cases hpl : pl i <;> rw [hpl] at h1
      · exact h1
      · exact h1.1
    · exact fillP_ne h2 p hp

theorem den_any {ρ ρ' : Rho} {v : SV} (h : v.lt 0) : den ρ v = den ρ' v := den_congr (m := 0) (fun i hi => by omega) v h

theorem TyOK.zero {t : Nat} {x : TI} (hx : TyOK P t x) (hk : match x.k with | .oth => False | _ => True) (ρ : Rho) (w : World) :
    ∃ z, (zeroValue t).run P w = .ok z w ∧ z.cells = arr x.sz (fun j => den ρ (x.z j)) ∧ (∀ j, j < x.sz → (x.z j).lt 0) := by
  obtain ⟨i, z, hi, hs, hb, hz, hc, hl, _⟩ := hx.info hk
  refine ⟨z, by simp [zeroValue, typeInfo, hi, hz], ?_, fun j hj => (hl j hj).1⟩
  rw [hc]
  exact arr_congr fun j hj => den_any (hl j hj).1

/-- A new variable. -/
theorem newVar_sound (sh : SatH cx ρ h n w) (t : Nat) {v : Value} {k : Nat} {c : Nat → SV} (hc : v.cells = arr k fun j => den ρ (c j)) (hl : ∀ j, j < k → (c j).lt n) :
    ∃ ρ', (∀ i, i < n → ρ i = ρ' i) ∧ (newVar t v).run P w = .ok ⟨(ρ' n).1, (ρ' n).2, none⟩ (w.alloc (.cells v.cells t)) ∧ SatH cx ρ' ((n, ⟨k, c, true, none⟩) :: h) (n + 1) (w.alloc (.cells v.cells t)) := by
  obtain ⟨ρ', h1, h2, h3⟩ := sh.new t k c v.cells k (Nat.le_refl _) (by rw [hc]; simp) (fun j hj => by rw [hc, arr_get _ _ _ hj]) hl false (fun h => by cases h)
  refine ⟨ρ', h1, ?_, by simpa using h3⟩
  rw [h2]
  simp [newVar, newRow]

theorem box_sound (sh : SatH cx ρ h n w) (t : Nat) {v : SV} (hok : v.okc) (hv : v.lt n) :
    ∃ ρ' w', (∀ i, i < n → ρ i = ρ' i) ∧ (Instr.box t (den ρ v)).run P w = .ok (den ρ' (.ptr n 0)) w' ∧ SatH cx ρ' ((n, ⟨v.size, cellsV v, true, none⟩) :: h) (n + 1) w' := by
  obtain ⟨ρ', h1, h2, h3⟩ := newVar_sound (P := P) sh t (cells_den ρ hok) (cellsV_lt hok hv)
  refine ⟨ρ', _, h1, ?_, h3⟩
  simp only [Instr.box, Sem.run_bind, h2, Result.andThen_ok, Sem.run_pure, den, Nat.add_zero]

/-- Whose row a new variable is: that of strings.Builder alone is told (two cells, 32 bytes, not to be compared). -/
def ownA (t : Nat) (x : TI) : Option (Nat × Nat) := if x.sz = 2 ∧ x.by_ = 64 then some (t, 2) else none
@[go_sem] theorem ownA_mk (t : Nat) (k : TK) (s b : Nat) (z : Nat → SV) : ownA t ⟨k, s, b, z⟩ = if s = 2 ∧ b = 64 then some (t, 2) else none := rfl
theorem alloc_sound (sh : SatH cx ρ h n w) (hti : ∀ t, TyOK P t (ti t)) (t : Nat) (hk : match (ti t).k with | .oth => False | _ => True) :
    ∃ ρ' w', (∀ i, i < n → ρ i = ρ' i) ∧ (Instr.alloc t true (.tuple #[])).run P w = .ok (den ρ' (.ptr n 0)) w' ∧ SatH cx ρ' ((n, ⟨(ti t).sz, (ti t).z, true, ownA t (ti t)⟩) :: h) (n + 1) w' := by
  obtain ⟨z, hz, hc, hl⟩ := (hti t).zero hk ρ w
  by_cases hA : (ti t).sz = 2 ∧ (ti t).by_ = 64
  · have e : ownA t (ti t) = some (t, (ti t).sz) := by unfold ownA; rw [if_pos hA, hA.1]
    rw [e]
    obtain ⟨ρ', h1, h2, h3⟩ := sh.new t (ti t).sz (ti t).z z.cells (ti t).sz (Nat.le_refl _) (by rw [hc]; simp) (fun j hj => by rw [hc, arr_get _ _ _ hj]) (fun j hj => SV.lt_mono (Nat.zero_le _) _ (hl j hj)) true (fun _ => (hti t).bnd hk)
    refine ⟨ρ', w.alloc (.cells z.cells t), h1, ?_, by simpa using h3⟩
    have h4 : (newVar t z).run P w = .ok ⟨(ρ' n).1, (ρ' n).2, none⟩ (w.alloc (.cells z.cells t)) := by
      rw [h2]
      simp [newVar, newRow]
    simp only [Instr.alloc, Sem.run_bind, hz, h4, Result.andThen_ok, Sem.run_pure, den, Nat.add_zero]
  · have e : ownA t (ti t) = none := by unfold ownA; rw [if_neg hA]
    rw [e]
    obtain ⟨ρ', h1, h2, h3⟩ := newVar_sound (P := P) sh t hc (fun j hj => SV.lt_mono (Nat.zero_le _) _ (hl j hj))
    refine ⟨ρ', _, h1, ?_, h3⟩
    simp only [Instr.alloc, Sem.run_bind, hz, h2, Result.andThen_ok, Sem.run_pure, den, Nat.add_zero]

theorem hset_hset (h : List (Nat × Seg)) (i : Nat) (s t : Seg) : hset (hset h i s) i t = hset h i t := by
  induction h with
  | nil => rfl
  | cons p h ih =>
    obtain ⟨k, u⟩ := p
    simp only [hset]
    split
    · rename_i hk; simp [hset, hk]
    · rename_i hk; simp [hset, hk, ih]
theorem hset_self {h : List (Nat × Seg)} {i : Nat} {s : Seg} (hi : hget h i = some s) : hset h i s = h := by
  induction h with
  | nil => rfl
  | cons p h ih =>
    obtain ⟨k, u⟩ := p
    simp only [hset, hget] at *
    split
    · rename_i hk; simp [hk] at hi; rw [hi]
    · rename_i hk; simp [hk] at hi; rw [ih hi]

theorem storeCells_sound {i : Nat} : ∀ (vs : List SV) (k o : Nat) (h : List (Nat × Seg)) (w : World) (t : Seg), SatH cx ρ h n w → hget h i = some t → t.rw = true → o + k + vs.length ≤ t.n →
    (∀ v ∈ vs, v.one ∧ v.lt n) →
    ∃ w', (storeCells ⟨(ρ i).1, (ρ i).2 + o, none⟩ (vs.map (den ρ)) k).run P w = .ok () w' ∧
      SatH cx ρ (hset h i { t with c := fun j => if o + k ≤ j ∧ j < o + k + vs.length then cl vs (j - (o + k)) else t.c j }) n w'
  | [], k, o, h, w, t, sh, hi, hr, ho, hv => by
    refine ⟨w, by simp [storeCells], ?_⟩
    have : { t with c := fun j => if o + k ≤ j ∧ j < o + k + ([] : List SV).length then cl [] (j - (o + k)) else t.c j } = t := by
      obtain ⟨tn, tc, tr, tw⟩ := t
      simp only [Seg.mk.injEq, true_and, and_true]
      funext j
      rw [if_neg (by simp)]
    rw [this, hset_self hi]
    exact sh
  | v :: vs, k, o, h, w, t, sh, hi, hr, ho, hv => by
    simp only [List.length_cons] at ho
    obtain ⟨h1, h2, h3⟩ := sh.set1 hi hr (o := o + k) (by omega) (hv v (by simp)).2
    have hst := run_store P w ⟨(ρ i).1, (ρ i).2 + (o + k), none⟩ (den ρ v) .plain (den_one (hv v (by simp)).1)
    rw [h1, h2] at hst
    simp only [Bool.false_eq_true, if_false] at hst
    obtain ⟨w', e1, e2⟩ := storeCells_sound (i := i) vs (k + 1) o _ _ { t with c := upd t.c (o + k) v } h3 (by rw [hget_hset]; simp [hi]) hr (by simp; omega) (fun u hu => hv u (by simp [hu]))
    refine ⟨w', ?_, ?_⟩
    · simp only [List.map_cons, storeCells, Sem.run_bind]
      rw [addr_add, Nat.add_assoc, hst]
      simp only [Result.andThen_ok]
      exact e1
    · rw [hset_hset] at e2
      have : (fun j => if o + (k + 1) ≤ j ∧ j < o + (k + 1) + vs.length then cl vs (j - (o + (k + 1))) else upd t.c (o + k) v j) =
          fun j => if o + k ≤ j ∧ j < o + k + (v :: vs).length then cl (v :: vs) (j - (o + k)) else t.c j := by
        funext j
        simp only [List.length_cons, upd]
        by_cases hj : j = o + k
        · subst hj
          rw [if_neg (by omega), if_pos rfl, if_pos (by omega)]
          simp [cl]
        · by_cases hj2 : o + (k + 1) ≤ j ∧ j < o + (k + 1) + vs.length
          · rw [if_pos hj2, if_pos (by omega), show j - (o + k) = (j - (o + (k + 1))) + 1 by omega]
            rfl
          · rw [if_neg hj2, if_neg hj, if_neg (by omega)]
      simp only at e2 ⊢
      rw [← this]
      exact e2

theorem storeAt_sound (sh : SatH cx ρ h n w) (hti : ∀ t, TyOK P t (ti t)) (ty : Nat) (hk : match (ti ty).k with | .oth => False | _ => True) {i o : Nat} {t : Seg} (hi : hget h i = some t) {v : SV}
    (hok : v.okc) (hone : ∀ j, j < v.size → (cellsV v j).one) (hv : v.lt n) (hs : v.size = (ti ty).sz) (ho : o + (ti ty).sz ≤ t.n) (hr : t.rw = true) :
    ∃ w', (Instr.storeAt ty (den ρ (.ptr i o)) (den ρ v)).run P w = .ok () w' ∧ SatH cx ρ (hset h i { t with c := wrN t.n t.c o v }) n w' := by
  have hcells : (den ρ v).cells.toList = ((List.range v.size).map (cellsV v)).map (den ρ) := by
    rw [cells_den ρ hok]; simp [arr]
  obtain ⟨w', e1, e2⟩ := storeCells_sound (P := P) (cx := cx) (ρ := ρ) (n := n) (i := i) ((List.range v.size).map (cellsV v)) 0 o h w t sh hi hr (by simp; omega) (fun u hu => by
    simp at hu
    obtain ⟨j, hj, rfl⟩ := hu
    exact ⟨hone j hj, cellsV_lt hok hv j hj⟩)
  refine ⟨w', ?_, ?_⟩
  · simp only [Instr.storeAt, den, Instr.sureAddr, Sem.run_bind, Sem.run_pure, Result.andThen_ok, storeVar, (hti ty).runSize hk]
    have : (den ρ v).cells.size = (ti ty).sz := by rw [cells_den ρ hok]; simpa using hs
    rw [if_neg (by simp [this]), hcells]
    exact e1
  · have hext : ∀ j, j < t.n → (fun j => if o + 0 ≤ j ∧ j < o + 0 + ((List.range v.size).map (cellsV v)).length then cl ((List.range v.size).map (cellsV v)) (j - (o + 0)) else t.c j) j = wrN t.n t.c o v j := by
      intro j hj
      have hwr : wrN t.n t.c o v j = wr t.c o v j := by
        unfold wrN
        split
        · rename_i hc
          rw [wr_eq t.c o hok j, if_pos (by omega)]
          rw [hc.1]; rfl
        · rfl
      rw [hwr, wr_eq t.c o hok j]
      simp only [Nat.add_zero, List.length_map, List.length_range]
      split
      · rw [cl_eq]
        simp
        rw [List.getElem?_range (by omega)]
        simp
      · rfl
    -- the two segments have the same cells
    have key : ∀ (c c' : Nat → SV), (∀ j, j < t.n → c j = c' j) → SatH cx ρ (hset h i { t with c := c }) n w' → SatH cx ρ (hset h i { t with c := c' }) n w' := by
      intro c c' hcc s
      have g : ∀ (z : Nat) (q : Seg), hget (hset h i { t with c := c' }) z = some q → ∃ q', hget (hset h i { t with c := c }) z = some q' ∧ q'.n = q.n ∧ q'.rw = q.rw ∧ q'.own = q.own ∧ ∀ j, j < q.n → q'.c j = q.c j := by
        intro z q hq
        rw [hget_hset] at hq ⊢
        by_cases hz : i = z
        · subst hz
          simp [hi] at hq
          subst hq
          exact ⟨{ t with c := c }, by simp [hi], rfl, rfl, rfl, hcc⟩
        · rw [if_neg hz] at hq ⊢
          exact ⟨q, hq, rfl, rfl, rfl, fun _ _ => rfl⟩
      refine ⟨s.keeps, fun z q hq => ?_, fun x y p q hxy hp hq hw => ?_, fun z q hq => ?_⟩
      · obtain ⟨q', hq', f1, f2, f3, f4⟩ := g z q hq
        have := s.seg z q' hq'
        exact ⟨this.blk, fun j hj => by rw [← f4 j hj]; exact this.cells j (by omega), fun hr j hj => this.rwf (by rw [f2]; exact hr) j (by omega), fun T m hm => this.own T m (by rw [f3]; exact hm)⟩
      · obtain ⟨p', hp', a1, a2, a3, _⟩ := g x p hp
        obtain ⟨q', hq', b1, b2, b3, _⟩ := g y q hq
        have := s.dis x y p' q' hxy hp' hq' (by rw [a2, a3]; exact hw)
        unfold apart at *
        rwa [a1, a3, b1, b3] at this
      · obtain ⟨q', hq', f1, f2, f3, f4⟩ := g z q hq
        have := s.lt z q' hq'
        exact ⟨this.1, fun k hk => by rw [← f4 k hk]; exact this.2 k (by omega)⟩
    exact key _ _ hext e2

/-- Segments may be described otherwise. -/
theorem SatH.recell {h' : List (Nat × Seg)} (s : SatH cx ρ h n w)
    (g : ∀ (z : Nat) (q : Seg), hget h' z = some q → ∃ q', hget h z = some q' ∧ q'.n = q.n ∧ (q.rw = true → q'.rw = true) ∧ (q.own = none ∨ q'.own = q.own) ∧ (∀ j, j < q.n → den ρ (q'.c j) = den ρ (q.c j)) ∧ ∀ j, j < q.n → (q.c j).lt n) : SatH cx ρ h' n w := by
  refine ⟨s.keeps, fun z q hq => ?_, fun x y p q hxy hp hq hw => ?_, fun z q hq => ?_⟩
  · obtain ⟨q', hq', f1, f2, f3, f4, f5⟩ := g z q hq
    have := s.seg z q' hq'
    exact ⟨this.blk, fun j hj => by rw [← f4 j hj]; exact this.cells j (by omega), fun hr j hj => this.rwf (f2 hr) j (by omega), fun T m hm => this.own T m (by rcases f3 with f3 | f3; (rw [f3] at hm; cases hm); (rw [f3]; exact hm))⟩
  · obtain ⟨p', hp', a1, a2, a3, _⟩ := g x p hp
    obtain ⟨q', hq', b1, b2, b3, _⟩ := g y q hq
    have := s.dis x y p' q' hxy hp' hq' (by
      rcases hw with hw | hw
      · exact .inl (a2 hw)
      · rcases a3 with a3 | a3
        · rw [a3] at hw; cases hw
        · exact .inr (by rw [a3]; exact hw))
    unfold apart at *
    rw [a1, b1] at this
    rcases this with this | ⟨u1, u2, u3⟩
    · exact .inl this
    · refine .inr ⟨?_, ?_, u3⟩
      · rcases a3 with a3 | a3
        · exact a3
        · rw [← a3]; exact u1
      · rcases b3 with b3 | b3
        · exact b3
        · rw [← b3]; exact u2
  · obtain ⟨q', hq', f1, f2, f3, f4, f5⟩ := g z q hq
    exact ⟨(s.lt z q' hq').1, f5⟩

end
end Go.Proofs.YtfelopllfhcdpaaGreat.V
