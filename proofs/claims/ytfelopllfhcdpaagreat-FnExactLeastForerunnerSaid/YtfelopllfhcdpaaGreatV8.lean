/- The walk is sound: its operations and the whole. -/
import Derived.Test.YtfelopllfhcdpaaGreatV7
set_option linter.all false
namespace Go.Proofs.YtfelopllfhcdpaaGreat.V

section
variable {P : Program} {ti : Nat → TI} {cx : Cx} {Q : List (Nat × SV) → List (Nat × Seg) → Nat → Prop}
variable {k : List It} {l : List (Nat × SV)} {h : List (Nat × Seg)} {n : Nat} {ρ : Rho} {a : Act} {w : World} {all rest : List Oper}

/-- What one operation of a quiet region gives. -/
def Quiet1 (P : Program) (ti : Nat → TI) (cx : Cx) (Q : List (Nat × SV) → List (Nat × Seg) → Nat → Prop) (k : List It) (l : List (Nat × SV)) (h : List (Nat × Seg)) (n : Nat) (ρ : Rho) (a : Act) (all rest : List Oper) (o : Oper) : Prop :=
  ∃ v : SV, v.lt n ∧ (∀ w, SatH cx ρ h n w → o.quietAt P a (SatH cx ρ h n) w (den ρ v)) ∧ dok cx.nt o.dst ∧ T P ti cx Q (.ops true all rest :: k) (put l o.dst v) h n

theorem quiet_pv (hti : ∀ t, TyOK P t (ti t)) (st : SatT cx ρ l n a) (sh : SatH cx ρ h n w) (o : Oper) (hd : dok cx.nt o.dst)
    (hb : bindT P ti cx Q k l h n true all rest o.dst (pv ti l h o.op)) : Quiet1 P ti cx Q k l h n ρ a all rest o := by
  obtain ⟨hvc, ht⟩ := hb
  refine ⟨_, (pv_sound hti o st sh hvc).2, fun w' sh' => ?_, hd, ht⟩
  unfold Oper.quietAt
  rw [(pv_sound hti o st sh' hvc).1]
  exact ⟨rfl, rfl⟩

theorem build_sound (hti : ∀ t, TyOK P t (ti t)) (st : SatT cx ρ l n a) (t : Nat) (parts : Array (Nat × Operand)) (o : Oper) (ho : o.op = .build t parts)
    (hk : knK ti (ti t).k) (hp : fillP (plOf ti (ti t).k) (ti t).sz (evp l parts.toList)) (w : World) :
    (execOp a.eval o).run P w = .ok (.value (den ρ (mkAgg (ti t).sz (fillC (plOf ti (ti t).k) (evp l parts.toList) (ti t).z)))) w ∧ (mkAgg (ti t).sz (fillC (plOf ti (ti t).k) (evp l parts.toList) (ti t).z)).lt n := by
  have hk' : match (ti t).k with | .oth => False | _ => True := by cases h : (ti t).k <;> simp_all [knK]
  obtain ⟨e1, e2⟩ := evp_sound st parts.toList (fillP_ne hp)
  obtain ⟨i, z, hi, hs, hb, hz, hc, hl, _⟩ := (hti t).info hk'
  have hz0 : ∀ j, j < (ti t).sz → ((ti t).z j).lt n := fun j hj => SV.lt_mono (Nat.zero_le _) _ (hl j hj).1
  have hcz : z.cells = arr (ti t).sz fun j => den ρ ((ti t).z j) := by rw [hc]; exact arr_congr fun j hj => den_any (hl j hj).1
  refine ⟨?_, mkAgg_lt fun j hj => fillC_lt _ _ hp e2 hz0 j hj⟩
  have hparts : (parts.map fun (i, x) => (i, a.eval x)).toList = (evp l parts.toList).map fun p => (p.1, den ρ p.2) := by
    rw [← e1]; simp
  have hrun : (Instr.build t (parts.map fun (i, x) => (i, a.eval x))).run P w = .ok (.agg (arr (ti t).sz fun j => den ρ (fillC (plOf ti (ti t).k) (evp l parts.toList) (ti t).z j))) w := by
    apply run_build
    rw [hparts]
    have hx := (hti t).und
    cases hkk : (ti t).k with
    | st fs =>
      rw [hkk] at hx hp
      obtain ⟨fl, hfl, hmap⟩ := hx
      have hall : ∀ (fs : List Field), knL ti (fs.map fun f => (f.offset, f.type)) → fs.mapM (fun f => (P.info? f.type).map fun i => (f.offset, i.size)) = some (fs.map fun f => (f.offset, (ti f.type).sz)) := by
        intro fs
        induction fs with
        | nil => intro _; rfl
        | cons f fs ih =>
          intro h
          obtain ⟨h1, h2⟩ := h
          obtain ⟨i, z, hi, hs, _⟩ := (hti f.type).info h1
          rw [List.mapM_cons, ih h2, hi]
          simp [hs]
      rw [hkk] at hk
      have hm := hall fl.toList (by rw [hmap]; exact hk)
      unfold Program.built
      simp only [hi, hfl, hz, hm, hcz]
      have hpl : (fun x => (fl.toList.map fun f => (f.offset, (ti f.type).sz)).toArray[x]?) = plOf ti (.st fs) := by
        funext x
        simp only [plOf, placeS, ← hmap]
        simp
        cases fl[x]? <;> rfl
      rw [hpl]
      exact fill_sound ρ _ _ _ _ hp
    | arr m e =>
      rw [hkk] at hx hp hk
      obtain ⟨ie, ze, hie, hse, _⟩ := (hti e).info hk
      unfold Program.built
      simp only [hi, hx, hz, hie, hcz, hse]
      exact fill_sound ρ _ _ _ _ hp
    | _ => rw [hkk] at hk; exact hk.elim
  simp only [execOp, ho, Sem.run_bind, hrun, Result.andThen_ok, Sem.run_pure, den_mkAgg]

theorem quiet1 (hti : ∀ t, TyOK P t (ti t)) (st : SatT cx ρ l n a) (sh : SatH cx ρ h n w) (d : Option Nat) (op : Op) (ty : Nat) (pos : String) (af : Array Edge)
    (ht : T P ti cx Q (.ops true all (⟨d, op, ty, pos, af, none⟩ :: rest) :: k) l h n) : Quiet1 P ti cx Q k l h n ρ a all rest ⟨d, op, ty, pos, af, none⟩ := by
  have call (x : Operand) (xs : Array Operand) (ats : Array Nat) (ht : T P ti cx Q (.ops true all (⟨d, .call ⟨.value x, xs, ats⟩, ty, pos, af, none⟩ :: rest) :: k) l h n) :
      Quiet1 P ti cx Q k l h n ρ a all rest ⟨d, .call ⟨.value x, xs, ats⟩, ty, pos, af, none⟩ := by
    obtain ⟨xs⟩ := xs
    rw [T_call] at ht
    obtain ⟨hd, hc⟩ := ht
    unfold callT at hc
    split at hc
    · rename_i f g hcal
      simp only [callA, if_true] at hc
      obtain ⟨r, ⟨hr, hok, hlt, hcall⟩, ht⟩ := hc
      refine ⟨r, hlt, fun w' sh' => ?_, hd, ht⟩
      obtain ⟨e1, e2⟩ := call_sound (w := w') (xs := xs.toArray) st hcal hr (by simpa using hok) ⟨d, .call ⟨.value x, xs.toArray, ats⟩, ty, pos, af, none⟩ rfl
      unfold Oper.quietAt
      rw [e1]
      exact ⟨rfl, hcall ρ w' sh' e2⟩
    · exact hc.elim
  cases op
  case move x => rw [T_move] at ht; exact quiet_pv hti st sh _ ht.1 ht.2
  case assign x => rw [T_assign] at ht; exact quiet_pv hti st sh _ ht.1 ht.2
  case pick c x y => rw [T_pick] at ht; exact quiet_pv hti st sh _ ht.1 ht.2
  case load t x => rw [T_load] at ht; exact quiet_pv hti st sh _ ht.1 ht.2
  case nilCheck x => rw [T_nilCheck] at ht; exact quiet_pv hti st sh _ ht.1 ht.2
  case unOp o t x => rw [T_unOp] at ht; exact quiet_pv hti st sh _ ht.1 ht.2
  case makeFunc f xs ys => rw [T_makeFunc] at ht; exact quiet_pv hti st sh _ ht.1 ht.2
  case fieldAddr t x i => rw [T_fieldAddr] at ht; exact quiet_pv hti st sh _ ht.1 ht.2
  case field t x i => rw [T_field] at ht; exact quiet_pv hti st sh _ ht.1 ht.2
  case indexAddr t x i => rw [T_indexAddr] at ht; exact quiet_pv hti st sh _ ht.1 ht.2
  case index t x i => rw [T_index] at ht; exact quiet_pv hti st sh _ ht.1 ht.2
  case extract x i => rw [T_extract] at ht; exact quiet_pv hti st sh _ ht.1 ht.2
  case binOp o t x y u => rw [T_binOp] at ht; exact quiet_pv hti st sh ⟨d, .binOp o t x y u, ty, pos, af, none⟩ ht.1 ht.2
  case slice t x lo hi mx =>
    cases mx with
    | none => rw [T_slice] at ht; exact quiet_pv hti st sh ⟨d, .slice t x lo hi none, ty, pos, af, none⟩ ht.1 ht.2
    | some m => rw [T] at ht; simp [isPv] at ht
  case convert s t x =>
    rw [T_convert] at ht
    obtain ⟨hd, hb⟩ := ht
    unfold cvT cvK at hb
    split at hb
    · exact quiet_pv hti st sh ⟨d, .convert s t x, ty, pos, af, none⟩ hd hb
    · cases hb.1
  case build t parts =>
    obtain ⟨parts⟩ := parts
    rw [T_build] at ht
    obtain ⟨hd, ⟨hk, hp⟩, ht⟩ := ht
    obtain ⟨_, e2⟩ := build_sound hti st t parts.toArray ⟨d, .build t parts.toArray, ty, pos, af, none⟩ rfl hk hp w
    refine ⟨_, e2, fun w' sh' => ?_, hd, ht⟩
    unfold Oper.quietAt
    rw [(build_sound hti st t parts.toArray ⟨d, .build t parts.toArray, ty, pos, af, none⟩ rfl hk hp w').1]
    exact ⟨rfl, rfl⟩
  case call c =>
    obtain ⟨cal, xs, ats⟩ := c
    cases cal with
    | value x => exact call x xs ats ht
    | invoke x m => rw [T] at ht; simp [isPv] at ht
    | builtin b =>
      cases b
      case len => rw [T_len] at ht; exact quiet_pv hti st sh _ ht.1 ht.2
      case min => rw [T_min] at ht; exact quiet_pv hti st sh _ ht.1 ht.2
      case max => rw [T_max] at ht; exact quiet_pv hti st sh _ ht.1 ht.2
      all_goals (rw [T] at ht; simp [isPv] at ht)
  case alloc t => rw [T_alloc] at ht; cases ht.2.1
  case box t x => rw [T_box] at ht; cases ht.2.1
  case store t x v => rw [T] at ht; cases ht.2.1
  all_goals (rw [T] at ht; simp [isPv] at ht)

end
end Go.Proofs.YtfelopllfhcdpaaGreat.V
