/- How an argument's datum tells its cells; how a law's row ends. -/
import Derived.Test.YtfelopllfhcdpaaGreatV13
import Derived.ProofKit
set_option linter.all false
namespace Go.Proofs.YtfelopllfhcdpaaGreat.V
open Go.ChangeShapes Go.RowKit

/-! ### Flat data: numbers and bools, in structs and arrays -/
def flatC (ti : Nat → TI) : Nat → Nat → (Nat → Value) → Nat → Prop
  | 0, _, _, _ => False
  | m + 1, t, c, off => match (ti t).k with
    | .int k => ∃ n, c off = .int k n ∧ (Lit.int k n).wf = true
    | .bool => ∃ b, c off = .bool b
    | .arr q e => ∀ i, i < q → flatC ti m e c (off + i * (ti e).sz)
    | .st fs => ∀ p ∈ fs, flatC ti m p.2 c (off + p.1)
    | _ => False
def flatB (ti : Nat → TI) : Nat → Nat → Bool
  | 0, _ => false
  | m + 1, t => match (ti t).k with
    | .int _ => true
    | .bool => true
    | .arr _ e => flatB ti m e
    | .st fs => fs.all fun p => flatB ti m p.2
    | _ => false
def flatK (ti : Nat → TI) (m : Nat) (c : Nat → Value) (off : Nat) : TK → Prop
  | .int k => ∃ n, c off = .int k n ∧ (Lit.int k n).wf = true
  | .bool => ∃ b, c off = .bool b
  | .arr q e => ∀ i, i < q → flatC ti m e c (off + i * (ti e).sz)
  | .st fs => ∀ p ∈ fs, flatC ti m p.2 c (off + p.1)
  | _ => False
def flatL (ti : Nat → TI) (m : Nat) (c : Nat → Value) (off : Nat) : List (Nat × Nat) → Prop
  | [] => True
  | p :: fs => flatC ti m p.2 c (off + p.1) ∧ flatL ti m c off fs
section
variable (ti : Nat → TI) (m : Nat) (c : Nat → Value) (off : Nat)
theorem flatC_succ (t : Nat) : flatC ti (m + 1) t c off = flatK ti m c off (ti t).k := by
  simp only [flatC, flatK]
theorem flatK_int (k : IntKind) : flatK ti m c off (.int k) = ∃ n, c off = .int k n ∧ (Lit.int k n).wf = true := rfl
theorem flatK_bool : flatK ti m c off .bool = ∃ b, c off = .bool b := rfl
theorem flatK_arr (q e : Nat) : flatK ti m c off (.arr q e) = ∀ i, i < q → flatC ti m e c (off + i * (ti e).sz) := rfl
theorem flatL_nil : flatL ti m c off [] = True := rfl
theorem flatL_cons (a b : Nat) (fs : List (Nat × Nat)) : flatL ti m c off ((a, b) :: fs) = (flatC ti m b c (off + a) ∧ flatL ti m c off fs) := rfl
theorem flatK_st (fs : List (Nat × Nat)) : flatK ti m c off (.st fs) = flatL ti m c off fs := by
  simp only [flatK]
  induction fs with
  | nil => simp [flatL]
  | cons p fs ih => rw [flatL, ← ih]; simp
end
theorem flatC_shift {ti : Nat → TI} {d : Nat} : ∀ (m t : Nat) (c c' : Nat → Value) (off : Nat), (∀ j, c j ≠ undef → c' (d + j) = c j) → flatC ti m t c off → flatC ti m t c' (d + off)
  | 0, _, _, _, _, _, h => h.elim
  | m + 1, t, c, c', off, hc, h => by
    rw [flatC_succ] at h ⊢
    generalize (ti t).k = k at h ⊢
    cases k with
    | int k => obtain ⟨n, h1, h2⟩ := h; exact ⟨n, (hc off (by rw [h1]; simp [undef])).trans h1, h2⟩
    | bool => obtain ⟨b, h1⟩ := h; exact ⟨b, (hc off (by rw [h1]; simp [undef])).trans h1⟩
    | arr q e => exact fun i hi => by rw [Nat.add_assoc]; exact flatC_shift m e c c' _ hc (h i hi)
    | st fs => exact fun p hp => by rw [Nat.add_assoc]; exact flatC_shift m p.2 c c' _ hc (h p hp)
    | _ => exact h.elim

section
variable {H : Type} {enc : TypeId × Value → H} {P : Program} {w : World} {base : Nat} {sp : Nat → Bool} {hd : Bool} {ti : Nat → TI}

theorem mapM_get {α β : Type} {f : α → Option β} : ∀ {l : List α} {r : List β}, l.mapM f = some r → (∀ x ∈ l, ∃ y ∈ r, f x = some y) ∧ ∀ y ∈ r, ∃ x ∈ l, f x = some y := by
  intro l
  induction l with
  | nil => intro r h; simp at h; subst h; exact ⟨fun x hx => (by cases hx), fun y hy => (by cases hy)⟩
  | cons a l ih =>
    intro r h
    rw [List.mapM_cons] at h
    cases ha : f a with
    | none => rw [ha] at h; cases h
    | some b =>
      rw [ha] at h
      cases hl : l.mapM f with
      | none => rw [hl] at h; cases h
      | some r' =>
        rw [hl] at h
        obtain ⟨h1, h2⟩ := ih hl
        have e : r = b :: r' := by simpa [eq_comm] using h
        subst e
        refine ⟨fun x hx => ?_, fun y hy => ?_⟩
        · rcases List.mem_cons.1 hx with rfl | hx
          · exact ⟨b, by simp, ha⟩
          · obtain ⟨y, hy, e⟩ := h1 x hx; exact ⟨y, by simp [hy], e⟩
        · rcases List.mem_cons.1 hy with rfl | hy
          · exact ⟨a, by simp, ha⟩
          · obtain ⟨x, hx, e⟩ := h2 y hy; exact ⟨x, by simp [hx], e⟩

theorem sub_getD (cs : List Value) (o s j : Nat) (h : ((cs.drop o).take s).getD j undef ≠ undef) : cs.getD (o + j) undef = ((cs.drop o).take s).getD j undef := by
  simp only [List.getD_eq_getElem?_getD, List.getElem?_take, List.getElem?_drop] at h ⊢
  split
  · rfl
  · rename_i hn; rw [if_neg hn] at h; exact absurd rfl h

theorem flat_trod (hti : ∀ t, TyOK P t (ti t)) : ∀ (m fuel t : Nat) (cs : List Value) (d : DataW H) (ps : List MemPlace), flatB ti m t = true →
    DataW.trod enc P w base sp hd fuel t cs = some (d, ps) → flatC ti m t (fun j => cs.getD j undef) 0 ∧ ps = []
  | 0, _, _, _, _, _, hb, _ => by cases hb
  | m + 1, 0, t, cs, d, ps, _, h => by simp [DataW.trod] at h
  | m + 1, fuel + 1, t, cs, d, ps, hb, h => by
    have hu := (hti t).und
    rw [flatC_succ]
    unfold flatB at hb
    unfold DataW.trod at h
    generalize (ti t).k = k at hb hu ⊢
    cases k with
    | int k =>
      simp only at hu
      rw [hu] at h
      match cs, h with
      | [.int k' n], h =>
        simp only at h
        split at h
        · rename_i hk
          obtain ⟨rfl, hw⟩ := hk
          simp only [Option.some.injEq, Prod.mk.injEq] at h
          exact ⟨⟨n, rfl, hw⟩, h.2.symm⟩
        · cases h
    | bool =>
      simp only at hu
      rw [hu] at h
      match cs, h with
      | [.bool b], h =>
        simp only [Option.some.injEq, Prod.mk.injEq] at h
        exact ⟨⟨b, rfl⟩, h.2.symm⟩
    | arr q e =>
      simp only at hu hb
      rw [hu] at h
      simp only at h
      split at h
      · have he : P.cellsOf e = (ti e).sz := by
          obtain ⟨i, z, hi, hs, _⟩ := (hti e).info (by cases m with | zero => cases hb | succ m => unfold flatB at hb; split <;> simp_all)
          simp [Program.cellsOf, hi, hs]
        cases hm : ((List.range q).mapM fun i => DataW.trod enc P w base sp hd fuel e ((cs.drop (i * P.cellsOf e)).take (P.cellsOf e))) with
        | none => rw [hm] at h; cases h
        | some xs =>
          rw [hm] at h
          simp only [Option.map_some, Option.some.injEq, Prod.mk.injEq] at h
          obtain ⟨g1, g2⟩ := mapM_get hm
          refine ⟨fun i hi => ?_, ?_⟩
          · obtain ⟨y, _, hy⟩ := g1 i (by simpa using hi)
            have := (flat_trod hti m fuel e _ y.1 y.2 hb hy).1
            rw [Nat.zero_add, ← Nat.add_zero (i * (ti e).sz)]
            refine flatC_shift m e _ _ 0 (fun j hj => ?_) this
            rw [← he]
            exact sub_getD cs _ _ j hj
          · rw [← h.2]
            simp only [List.flatMap_eq_nil_iff]
            intro y hy
            obtain ⟨i, _, hi⟩ := g2 y hy
            exact (flat_trod hti m fuel e _ y.1 y.2 hb hi).2
      · cases h
    | st fs =>
      simp only at hu hb
      obtain ⟨fl, hu, hmap⟩ := hu
      rw [hu] at h
      simp only at h
      split at h
      · cases hm : (fl.toList.mapM fun f => DataW.trod enc P w base sp hd fuel f.type ((cs.drop f.offset).take (P.cellsOf f.type))) with
        | none => rw [hm] at h; cases h
        | some xs =>
          rw [hm] at h
          simp only [Option.map_some, Option.some.injEq, Prod.mk.injEq] at h
          obtain ⟨g1, g2⟩ := mapM_get hm
          have hb' : ∀ f ∈ fl.toList, flatB ti m f.type = true := fun f hf => by
            have := List.all_eq_true.1 hb (f.offset, f.type) (by rw [← hmap]; exact List.mem_map.2 ⟨f, hf, rfl⟩)
            exact this
          refine ⟨fun p hp => ?_, ?_⟩
          · rw [← hmap] at hp
            obtain ⟨f, hf, rfl⟩ := List.mem_map.1 hp
            obtain ⟨y, _, hy⟩ := g1 f hf
            have := (flat_trod hti m fuel f.type _ y.1 y.2 (hb' f hf) hy).1
            show flatC ti m f.type _ (0 + f.offset)
            rw [Nat.zero_add, ← Nat.add_zero f.offset]
            exact flatC_shift m f.type _ _ 0 (fun j hj => sub_getD cs _ _ j hj) this
          · rw [← h.2]
            simp only [List.flatMap_eq_nil_iff]
            intro y hy
            obtain ⟨f, hf, hi⟩ := g2 y hy
            exact (flat_trod hti m fuel f.type _ y.1 y.2 (hb' f hf) hi).2
      · cases h
    | _ => cases hb

/-- The symbolic value of a cell. -/
def svOf : Value → SV
  | .int k n => .int k n
  | .bool b => .bool b
  | v => .raw v
theorem den_svOf (ρ : Rho) (v : Value) : den ρ (svOf v) = v := by cases v <;> rfl
/-- The number in a cell. -/
def ivOf : Value → Int
  | .int _ n => n
  | _ => 0
theorem svOf_int {v : Value} {k : IntKind} {n : Int} (h : v = .int k n) : svOf v = .int k (ivOf v) := by subst h; rfl
def cells (cs : Array Value) : Nat → Value := fun j => cs.getD j undef

/-- A value that is an aggregate is the symbolic one of its cells. -/
theorem den_agg {cs : Array Value} {n : Nat} (h : cs.size = n) (ρ : Rho) : den ρ (.agg n fun j => svOf (cells cs j)) = .agg cs := by
  simp only [den, den_svOf]
  congr 1
  symm
  refine arr_ext h fun j hj => ?_
  simp [cells, Array.getD, h, hj]

/-- An argument that is a flat struct or array. -/
theorem flat_arg (hti : ∀ t, TyOK P t (ti t)) {b0 : Nat} {t : Nat} {v : Value} {d : DataW H} {ps : List MemPlace} (hb : flatB ti 9 t = true) (ha : (ti t).k.isAgg = true)
    (hval : Value.okWide P w .any b0 t v) (h : DataW.Trod enc P w base sp hd t v d ps) : ∃ cs : Array Value, v = .agg cs ∧ cs.size = (ti t).sz ∧ flatC ti 9 t (cells cs) 0 ∧ ps = [] := by
  have hu := (hti t).und
  obtain ⟨i, z, hi, hs, _⟩ := (hti t).info (by cases hk : (ti t).k <;> simp_all [TK.isAgg])
  have hc : P.cellsOf t = (ti t).sz := by simp [Program.cellsOf, hi, hs]
  obtain ⟨cs, rfl, hsz⟩ : ∃ cs, v = .agg cs ∧ cs.size = P.cellsOf t := by
    unfold Value.okWide at hval
    cases hk : (ti t).k <;> simp only [hk, TK.isAgg] at hu ha <;> try cases ha
    · rw [hu] at hval; obtain ⟨cs, a, b, _⟩ := hval; exact ⟨cs, a, b⟩
    · obtain ⟨fl, hu, _⟩ := hu; rw [hu] at hval; obtain ⟨cs, a, b, _⟩ := hval; exact ⟨cs, a, b⟩
  obtain ⟨fuel, hf⟩ := h
  obtain ⟨h1, h2⟩ := flat_trod hti 9 fuel t _ d ps hb hf
  refine ⟨cs, rfl, hsz.trans hc, ?_, h2⟩
  have e : (fun j => (Value.agg cs).cells.toList.getD j undef) = cells cs := by
    funext j; simp [Value.cells, cells, List.getD_eq_getElem?_getD]
  rwa [e] at h1
end

/-! ### The end of a law's row -/
/-- All arguments read as they did. -/
theorem trodAll_stays {H : Type} {enc : TypeId × Value → H} {P : Program} (hl : laidOutB P = true) {W W' : World} (hb : Below W.heap.size W W') : ∀ (ts : List TypeId) (vs : List Value) (ds : List (DataW H)) (ps : List MemPlace),
    ts.all (fun t => P.readableRec t && decide (t < P.types.size)) = true → (∀ x ∈ ps, x.block < W.heap.size) → DataW.TrodAll enc P W 0 (fun _ => true) true ts vs ds ps → DataW.TrodAll enc P W' 0 (fun b => decide (b < W.heap.size)) true ts vs ds ps
  | [], vs, ds, ps, _, _, h => by cases vs <;> cases ds <;> first | exact h | exact h.elim
  | t :: ts, vs, ds, ps, ht, hlt, h => by
    obtain ⟨v, vs', d, ds', p, q, rfl, rfl, rfl, h1, h2⟩ := trodAll_cons h
    simp only [List.all_cons, Bool.and_eq_true, decide_eq_true_eq] at ht
    exact ⟨p, q, Below.trod hl ht.1.1 ht.1.2 h1 hb (fun x hx => hlt x (by simp [hx])), trodAll_stays hl hb ts vs' ds' q ht.2 (fun x hx => hlt x (by simp [hx])) h2, rfl⟩

/-- A law that answers true and leaves all as it was. -/
theorem law_post {H : Type} {enc : TypeId × Value → H} {P : Program} {f : Func} {s : ChangeSpec} {W W' : World} {args : Array Value} {ds gs : List (DataW H)} {before : List MemPlace} {tb : TypeId}
    (hl : laidOutB P = true) (hts : f.params.toList.all (fun t => P.readableRec t && decide (t < P.types.size)) = true) (hr : f.resultTypes = #[tb]) (htb : P.underlying tb = some .bool) (hvars : s.vars = [])
    (hfn : s.fn H (ds ++ gs) = { results := [.lit (.bool true)], args := ds })
    (hW : DataW.Whole enc P f.params.toList s.vars false W args.toList ds gs before) (hk : Keeps Noth W W') : s.post enc P f false true false false W args (.bool true) W' := by
  have hlt := hW.lt
  have hW' := hW
  obtain ⟨p, q, hA, hV, rfl, _, _⟩ := hW'
  have hg : gs = [] ∧ q = [] := by rw [hvars] at hV; exact trodVars_none hV
  obtain ⟨rfl, rfl⟩ := hg
  refine ⟨ds, [], p ++ [], [], p, [], hW, ?_, ?_, ?_, hk.below.frame _, fun h => by cases h⟩
  · rw [hfn, hr]
    exact trodAll_mk1 (shut_bool htb true)
  · rw [hfn]
    exact trodAll_stays hl hk.below _ _ _ _ hts (fun x hx => hlt x (by simp [hx])) hA
  · rw [hfn, hvars]; rfl

/-- A world in which the call begins. -/
def cx0 (W : World) : Cx := ⟨W, Noth, 0, 0⟩
theorem sat0 (W : World) (ρ : Rho) : SatH (cx0 W) ρ [] 0 W := ⟨Keeps.refl _ _, fun i s h => (by cases h), fun i j s t _ h => (by cases h), fun i s h => (by cases h)⟩
end Go.Proofs.YtfelopllfhcdpaaGreat.V
