/- A table of types, held against the program's by reckoning. -/
import Derived.Test.YtfelopllfhcdpaaGreatV10
set_option linter.all false
namespace Go.Proofs.YtfelopllfhcdpaaGreat.V

def svB : SV → Value → Bool
  | .int k n, .int k' n' => k == k' && n == n'
  | .bool b, .bool b' => b == b'
  | .str s, .string s' => s.data.toList == s'.data.toList
  | .nils, .slice none 0 0 => true
  | .raw (.pointer none), .pointer none => true
  | .raw .nilFunc, .nilFunc => true
  | .raw .nilIface, .nilIface => true
  | .raw (.map none), .map none => true
  | .raw (.chan none), .chan none => true
  | _, _ => false
theorem svB_sound {s : SV} {v : Value} (h : svB s v = true) (ρ : Rho) : den ρ s = v ∧ s.lt 0 ∧ s.one := by
  unfold svB at h
  split at h
  · simp at h; obtain ⟨rfl, rfl⟩ := h; exact ⟨rfl, trivial, trivial⟩
  · simp at h; subst h; exact ⟨rfl, trivial, trivial⟩
  · rename_i s s'
    simp at h
    have : s = s' := ByteArray.ext h
    subst this; exact ⟨rfl, trivial, trivial⟩
  · exact ⟨rfl, trivial, trivial⟩
  · exact ⟨rfl, trivial, rfl⟩
  · exact ⟨rfl, trivial, rfl⟩
  · exact ⟨rfl, trivial, rfl⟩
  · exact ⟨rfl, trivial, rfl⟩
  · exact ⟨rfl, trivial, rfl⟩
  · cases h

def undB (P : Program) (t : Nat) : TK → Bool
  | .int k => match P.underlying t with | some (.int k') => k == k' | _ => false
  | .bool => match P.underlying t with | some .bool => true | _ => false
  | .str => match P.underlying t with | some .string => true | _ => false
  | .ptr => match P.underlying t with | some (.struct _) => false | some (.array ..) => false | some _ => true | none => false
  | .sl e => match P.underlying t with | some (.slice e') => e == e' | _ => false
  | .arr m e => match P.underlying t with | some (.array m' e') => m == m' && e == e' | _ => false
  | .st fs => match P.underlying t with | some (.struct fl) => fl.toList.map (fun f => (f.offset, f.type)) == fs | _ => false
  | .oth => true
def cellsB (z : Nat → SV) : Nat → List Value → Bool
  | _, [] => true
  | j, v :: vs => svB (z j) v && cellsB z (j + 1) vs
def okB (P : Program) (t : Nat) (x : TI) : Bool :=
  match x.k with
  | .oth => x.by_ % 2 != 1
  | k => decide (t < 1000000) && ((match k, x.z 0 with
      | .ptr, .raw (.pointer none) => (match P.underlying t with | some (.pointer _) => true | _ => false)
      | _, _ => true) && (x.by_ % 2 != 1 || (P.keyTypeAt 9 t && !P.eqGuardType P.depth t)) && (undB P t k && match P.info? t with
    | some i => i.size == x.sz && i.bytes == x.by_ / 2 && match i.zero with
      | some z => z.cells.size == x.sz && cellsB x.z 0 z.cells.toList && match z with
        | .agg _ => k.isAgg
        | _ => !k.isAgg
      | none => false
    | none => false))

theorem cellsB_sound (z : Nat → SV) : ∀ (vs : List Value) (j : Nat), cellsB z j vs = true → ∀ i v, vs[i]? = some v → svB (z (j + i)) v = true
  | [], _, _, i, v, h => by simp at h
  | u :: vs, j, hc, i, v, h => by
    simp only [cellsB, Bool.and_eq_true] at hc
    cases i with
    | zero => simp at h; subst h; exact hc.1
    | succ i =>
      rw [List.getElem?_cons_succ] at h
      have := cellsB_sound z vs (j + 1) hc.2 i v h
      rwa [show j + 1 + i = j + (i + 1) by omega] at this

theorem okB_sound {P : Program} {t : Nat} {x : TI} (h : okB P t x = true) : TyOK P t x := by
  obtain ⟨k, sz, b, z⟩ := x
  unfold okB at h
  have und : undB P t k = true → (TyOK P t ⟨.oth, sz, b, z⟩ → True) ∧ (match (generalizing := false) k with
    | .int k => P.underlying t = some (.int k)
    | .bool => P.underlying t = some .bool
    | .str => P.underlying t = some .string
    | .ptr => ∃ d, P.underlying t = some d ∧ (match d with | .struct _ => False | .array .. => False | _ => True)
    | .sl e => P.underlying t = some (.slice e)
    | .arr m e => P.underlying t = some (.array m e)
    | .st fs => ∃ fl : Array Field, P.underlying t = some (.struct fl) ∧ fl.toList.map (fun f => (f.offset, f.type)) = fs
    | .oth => True) := by
    intro hu
    refine ⟨fun _ => trivial, ?_⟩
    unfold undB at hu
    cases k <;> simp only at hu ⊢
    all_goals (cases hp : P.underlying t with
      | none => simp [hp] at hu
      | some d => cases d <;> simp [hp] at hu ⊢ <;> first | exact hu | exact hu.symm | exact ⟨hu.1.symm, hu.2.symm⟩ | exact ⟨_, rfl, hu⟩ | skip)
  split at h
  · rename_i hk
    simp only at hk
    subst hk
    simp only [bne_iff_ne, ne_eq] at h
    exact ⟨trivial, fun h => h.elim, fun h1 => absurd h1 h, fun h => h.elim, fun h1 => by cases h1⟩
  · rename_i hk
    simp only [Bool.and_eq_true] at h
    obtain ⟨hbnd, ⟨hp, h0⟩, h1, h2⟩ := h
    refine ⟨(und h1).2, fun _ => ?_, fun hb => ?_, fun _ => of_decide_eq_true hbnd, fun hk1 hz1 => ?_⟩
    rotate_left 2
    · simp only at hk1 hz1
      cases k <;> simp only [TK.isPtr, Bool.false_eq_true] at hk1
      simp only [hz1] at hp
      cases hu : P.underlying t with
      | none => simp [hu] at hp
      | some d => cases d <;> simp [hu] at hp; exact ⟨_, rfl⟩
    rotate_left
    · simp only [Bool.or_eq_true, bne_iff_ne, ne_eq, Bool.and_eq_true, Bool.not_eq_true'] at h0
      exact h0.resolve_left (fun h => h hb)
    cases hi : P.info? t with
    | none => simp [hi] at h2
    | some i =>
      simp only [hi, Bool.and_eq_true, beq_iff_eq] at h2
      obtain ⟨⟨hs, hb⟩, h3⟩ := h2
      cases hz : i.zero with
      | none => simp [hz] at h3
      | some v =>
        simp only [hz, Bool.and_eq_true, beq_iff_eq] at h3
        obtain ⟨⟨hc, hcb⟩, h4⟩ := h3
        have hcell : ∀ j, j < sz → ∃ u, v.cells[j]? = some u ∧ svB (z j) u = true := by
          intro j hj
          have hlt : j < v.cells.size := by omega
          refine ⟨v.cells[j], by simp [hlt], ?_⟩
          have := cellsB_sound z v.cells.toList 0 hcb j v.cells[j] (by simp [hlt])
          simpa using this
        have hcells : v.cells = arr sz fun j => den (fun _ => (0, 0)) (z j) := by
          apply arr_ext hc
          intro j hj
          obtain ⟨u, hu, hsv⟩ := hcell j hj
          rw [hu, (svB_sound hsv _).1]
        refine ⟨i, v, rfl, hs, hb, hz, hcells, fun j hj => ?_, ?_⟩
        · obtain ⟨u, hu, hsv⟩ := hcell j hj
          exact (svB_sound hsv (fun _ => (0, 0))).2
        · cases v <;> simp at h4
          case agg cs =>
            rw [if_pos h4]
            simp only [den]
            rw [← hcells]
            rfl
          all_goals
            rw [if_neg (by simp [h4])]
            have h1 : sz = 1 := by rw [← hc]; rfl
            obtain ⟨u, hu, hsv⟩ := hcell 0 (by omega)
            rw [(svB_sound hsv _).1]
            simp [Value.cells] at hu
            exact hu
end Go.Proofs.YtfelopllfhcdpaaGreat.V
