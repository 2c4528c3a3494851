/- Part 6 of the texts that this proof stands on: a symbolic walk over the program, what its functions and the reference's do, plain laws. -/
import Derived.Test.YtddnnodkkdjniaaV20
import Derived.Test.YtddnnodkkdjniaaTi
import Derived.DeepKeys4
import Derived.Test.YtddnnodkkdjniaaZble
import Derived.Test.YtddnnodkkdjniaaZblc
import Derived.Test.YtddnnodkkdjniaaZblb
set_option linter.all false

/- Maps of cells: rules for the walk. -/
namespace Go.Proofs.Ytddnnodkkdjniaa.V
open Go.WideMaps Go.RowKit Go.MapKept
/-! ### Digits -/
def setD (m c v : Nat) : Nat := m + v * 256 ^ c
theorem dig_set {m c v c' : Nat} (h0 : dig m c = 0) (hv : v < 256) : dig (setD m c v) c' = if c' = c then v else dig m c' := by
  unfold dig setD at *
  have hp : ∀ k : Nat, 0 < 256 ^ k := fun k => Nat.pow_pos (by omega)
  by_cases e : c' = c
  · subst e
    rw [if_pos rfl, Nat.add_mul_div_right _ _ (hp _)]
    omega
  · rw [if_neg e]
    by_cases hlt : c < c'
    · obtain ⟨d, rfl⟩ : ∃ d, c' = c + 1 + d := ⟨c' - c - 1, by omega⟩
      have e1 : 256 ^ (c + 1 + d) = 256 ^ c * (256 * 256 ^ d) := by rw [Nat.pow_add, Nat.pow_succ, Nat.mul_assoc]
      rw [e1, ← Nat.div_div_eq_div_mul, ← Nat.div_div_eq_div_mul, Nat.add_mul_div_right _ _ (hp _), ← Nat.div_div_eq_div_mul, ← Nat.div_div_eq_div_mul]
      congr 2
      omega
    · obtain ⟨d, rfl⟩ : ∃ d, c = c' + 1 + d := ⟨c - c' - 1, by omega⟩
      have e1 : v * 256 ^ (c' + 1 + d) = (v * 256 ^ d * 256) * 256 ^ c' := by
        rw [Nat.pow_add, Nat.pow_succ]
        rw [Nat.mul_comm (256 ^ c') 256, Nat.mul_assoc 256, Nat.mul_comm (256 ^ c') (256 ^ d), ← Nat.mul_assoc, ← Nat.mul_assoc]
        congr 1
        rw [Nat.mul_comm v 256, Nat.mul_assoc, Nat.mul_comm]
      rw [e1, Nat.add_mul_div_right _ _ (hp _), Nat.add_mul_mod_self_right]
section
variable {cx : Cx} {ρ : Rho} {l : List (Nat × SV)} {h : List (Nat × Seg)} {n : Nat} {a : Act} {w : World} {K : List (Nat × SV) → List (Nat × Seg) → Nat → Prop}
/-- A new block that is no cells. -/
theorem SatH.spec_new (s : SatH cx ρ h n w) (ob : Obj) (T m : Nat) (c : Nat → SV) (hO : OwnB T m w.heap.size (some ob)) :
    ∃ ρ', (∀ i, i < n → ρ i = ρ' i) ∧ ρ' n = (w.heap.size, 0) ∧ SatH cx ρ' ((n, ⟨0, c, true, some (T, m)⟩) :: h) (n + 1) (w.alloc ob) := by
  refine ⟨fun i => if i = n then (w.heap.size, 0) else ρ i, fun i hi => by simp [Nat.ne_of_lt hi], by simp, ?_⟩
  generalize hρ : (fun i => if i = n then (w.heap.size, 0) else ρ i) = ρ'
  have hr : ∀ i, i < n → ρ i = ρ' i := fun i hi => by rw [← hρ]; simp [Nat.ne_of_lt hi]
  have hn : ρ' n = (w.heap.size, 0) := by rw [← hρ]; simp
  have s2 := (s.keep (Keeps.alloc w ob)).rho hr
  have hnew : SegOK cx ρ' n ⟨0, c, true, some (T, m)⟩ (w.alloc ob) := by
    refine ⟨by rw [hn]; simp, fun j hj => absurd hj (Nat.not_lt_zero j), fun _ j hj => absurd hj (Nat.not_lt_zero j), fun T' m' hm => ?_⟩
    simp at hm
    obtain ⟨rfl, rfl⟩ := hm
    rw [hn]
    exact ⟨rfl, s.keeps.size, by rw [Go.heap_alloc_new w ob]; exact hO⟩
  have hblk : ∀ i t, hget h i = some t → (ρ' i).1 ≠ w.heap.size := fun i t hi => by
    rw [← hr i (s.lt i t hi).1]
    exact Nat.ne_of_lt (s.seg i t hi).blk
  refine ⟨s2.keeps, fun i t hi => ?_, fun i j x y hij hx hy hw => ?_, fun i t hi => ?_⟩
  · simp only [hget] at hi
    by_cases h1 : n = i
    · subst h1; simp at hi; subst hi; exact hnew
    · rw [if_neg h1] at hi; exact s2.seg i t hi
  · simp only [hget] at hx hy
    by_cases h1 : n = i
    · subst h1
      rw [if_neg hij] at hy
      exact .inl (by rw [hn]; exact Ne.symm (hblk j y hy))
    · rw [if_neg h1] at hx
      by_cases h2 : n = j
      · subst h2
        exact .inl (by rw [hn]; exact hblk i x hx)
      · rw [if_neg h2] at hy
        exact s2.dis i j x y hij hx hy hw
  · simp only [hget] at hi
    by_cases h1 : n = i
    · subst h1; simp at hi; subst hi
      exact ⟨by omega, fun j hj => absurd hj (Nat.not_lt_zero j)⟩
    · rw [if_neg h1] at hi
      exact ⟨by have := (s.lt i t hi).1; omega, fun j hj => SV.lt_mono (by omega) _ ((s.lt i t hi).2 j hj)⟩
/-- Such a block is given another content. -/
theorem SatH.spec_set (s : SatH cx ρ h n w) {i T m T' m' : Nat} {c : Nat → SV} (hi : hget h i = some ⟨0, c, true, some (T, m)⟩) (ob : Obj) (hO : OwnB T' m' (ρ i).1 (some ob)) :
    SatH cx ρ (hset h i ⟨0, c, true, some (T', m')⟩) n { w with heap := w.heap.setIfInBounds (ρ i).1 ob } := by
  have hseg := s.seg i _ hi
  obtain ⟨h0, hb0, _⟩ := hseg.own T m rfl
  have hlt := hseg.blk
  generalize hw' : ({ w with heap := w.heap.setIfInBounds (ρ i).1 ob } : World) = w'
  have hsz : w'.heap.size = w.heap.size := by rw [← hw']; simp
  have hoth : ∀ b, b ≠ (ρ i).1 → w'.heap[b]? = w.heap[b]? := fun b hb => by rw [← hw']; simp [Array.getElem?_setIfInBounds, Ne.symm hb]
  have hself : w'.heap[(ρ i).1]? = some ob := by rw [← hw']; simp [Array.getElem?_setIfInBounds, hlt]
  have fix : ∀ (z : Nat) (q : Seg), hget (hset h i ⟨0, c, true, some (T', m')⟩) z = some q → (z = i ∧ q = ⟨0, c, true, some (T', m')⟩) ∨ (z ≠ i ∧ hget h z = some q) := fun z q hq => by
    rw [hget_hset] at hq
    split at hq
    · rename_i e; subst e; rw [hi] at hq; cases hq; exact .inl ⟨rfl, rfl⟩
    · rename_i e; exact .inr ⟨Ne.symm e, hq⟩
  have far : ∀ z q, z ≠ i → hget h z = some q → (ρ z).1 ≠ (ρ i).1 := fun z q hz hq => by
    rcases s.dis i z _ q (Ne.symm hz) hi hq (.inl rfl) with h1 | ⟨h1, _⟩
    · exact Ne.symm h1
    · cases h1
  refine ⟨⟨?_, ?_, ?_, ?_, fun b hb => ?_⟩, fun z q hq => ?_, fun x y p q hxy hp hq hw => ?_, fun z q hq => ?_⟩
  · rw [← hw']; exact s.keeps.os
  · rw [← hw']; exact s.keeps.tape
  · rw [← hw']; exact s.keeps.output
  · rw [hsz]; exact s.keeps.size
  · have := s.keeps.blk b hb
    rw [hoth b (by omega)]; exact this
  · rcases fix z q hq with ⟨rfl, rfl⟩ | ⟨hz, hq⟩
    · refine ⟨by rw [hsz]; exact hlt, fun j hj => absurd hj (Nat.not_lt_zero j), fun _ j hj => absurd hj (Nat.not_lt_zero j), fun T2 m2 hm => ?_⟩
      simp at hm
      obtain ⟨rfl, rfl⟩ := hm
      exact ⟨h0, hb0, by rw [hself]; exact hO⟩
    · exact (s.seg z q hq).blk_eq (by omega) (hoth _ (far z q hz hq))
  · have tr : ∀ z q, hget (hset h i ⟨0, c, true, some (T', m')⟩) z = some q → ∃ q', hget h z = some q' ∧ q'.n = q.n ∧ q'.rw = q.rw ∧ (q'.own = none ↔ q.own = none) ∧ (q'.own.isSome = true ↔ q.own.isSome = true) := fun z q hq => by
      rcases fix z q hq with ⟨rfl, rfl⟩ | ⟨hz, hq⟩
      · exact ⟨_, hi, rfl, rfl, by simp, by simp⟩
      · exact ⟨q, hq, rfl, rfl, Iff.rfl, Iff.rfl⟩
    obtain ⟨p', hp', a1, a2, a3, a4⟩ := tr x p hp
    obtain ⟨q', hq', b1, b2, b3, b4⟩ := tr y q hq
    have := s.dis x y p' q' hxy hp' hq' (by rw [a2, a4]; exact hw)
    unfold apart at *
    rw [a1, b1, a3, b3] at this
    exact this
  · rcases fix z q hq with ⟨rfl, rfl⟩ | ⟨hz, hq⟩
    · exact ⟨(s.lt _ _ hi).1, fun k hk => absurd hk (Nat.not_lt_zero k)⟩
    · exact s.lt z q hq
end
/-! ### The key's law -/
theorem mpLaid : laidOutB Try.prog = true := by kernel_rfl
theorem mpRow : (50 : Nat) < Try.prog.types.size := of_decide_eq_true (by kernel_rfl)
theorem mpWide : (match Try.prog.underlying 50 with | some (.array _ _) | some (.struct _) => true | _ => false) = true := by kernel_rfl
set_option maxRecDepth 20000 in
theorem mpLaw : KeyLaw Try.prog 50 := deep_law_laid mpLaid (m := 2) (by omega) mpRow (by kernel_rfl) mpWide
theorem mpKeys : (List.range 8).all (fun x => (List.range 8).all fun y => (keyOf Try.prog 50 (keyV x y)).isSome) = true := by kernel_rfl
theorem mpKey {x y : Nat} (hx : x < 8) (hy : y < 8) : ∃ l, keyOf Try.prog 50 (keyV x y) = some l := by
  have h1 := List.all_eq_true.1 (List.all_eq_true.1 mpKeys x (List.mem_range.2 hx)) y (List.mem_range.2 hy)
  exact Option.isSome_iff_exists.1 h1
theorem keyV_inj {x y x' y' : Nat} (h : keyV x y = keyV x' y') : x = x' ∧ y = y' := by
  unfold keyV at h
  injection h with h
  have h1 : [Value.int .i8 (x : Int), Value.int .i8 (y : Int)] = [Value.int .i8 (x' : Int), Value.int .i8 (y' : Int)] := congrArg Array.toList h
  injection h1 with a b
  injection b with b _
  injection a with _ a
  injection b with _ b
  omega
def addD (m c : Nat) : Nat := if dig m c = 0 then setD m c 1 else m
theorem dig_add (m c c' : Nat) : dig (addD m c) c' = if c' = c ∧ dig m c = 0 then 1 else dig m c' := by
  unfold addD
  split
  · rename_i h; rw [dig_set h (by omega)]
    by_cases e : c' = c
    · rw [if_pos e, if_pos ⟨e, h⟩]
    · rw [if_neg e, if_neg (fun h => e h.1)]
  · rename_i h; rw [if_neg (fun e => h e.2)]
theorem dig_add_ne (m c c' : Nat) : dig (addD m c) c' ≠ 0 ↔ c' = c ∨ dig m c' ≠ 0 := by
  rw [dig_add]
  by_cases e : c' = c
  · subst e
    by_cases h : dig m c' = 0
    · simp [h]
    · simp [h]
  · simp [e]
theorem dig_zero (c : Nat) : dig 0 c = 0 := by simp [dig]
theorem ownB_map {b kd m : Nat} {ob : Option Obj} (hkd : kd < 2) {b' : Nat} : OwnB (1000000 + (3 * b + 1 + kd)) m b' ob ↔ b = b' ∧ MapObj kd m ob := by
  unfold OwnB
  rw [if_neg (by omega), if_neg (by omega), show (1000000 + (3 * b + 1 + kd) - 1000000) / 3 = b by omega, show (1000000 + (3 * b + 1 + kd) - 1000000) % 3 - 1 = kd by omega]
section
variable {cx : Cx} {l : List (Nat × SV)} {h : List (Nat × Seg)} {n : Nat} {K : List (Nat × SV) → List (Nat × Seg) → Nat → Prop}
/-- A map, at name i, block b: the cells that it has. -/
def mpS (b m : Nat) : Seg := ⟨0, fun _ => .bad, true, some (1000000 + (3 * b + 1 + 0), m)⟩
theorem makeMap_sem {o : Oper} {t : Nat} (hop : o.op = .makeMap t none) (hd : dok cx.nt o.dst) (hK : ∀ b, K (put l o.dst (.raw (.map (some b)))) ((n, mpS b 0) :: h) (n + 1)) : OpSem Try.prog cx o l h n K := by
  intro ρ a w st sh hn
  obtain ⟨ρ', r1, r2, r3⟩ := sh.spec_new (.map #[] 0) (1000000 + (3 * w.heap.size + 1 + 0)) 0 (fun _ => .bad) ((ownB_map (by omega)).2 ⟨rfl, #[], 0, rfl, fun e he => by simp at he, fun x y _ _ hne => absurd (dig_zero _) hne⟩)
  refine upon_value_eq (v := den ρ' (.raw (.map (some w.heap.size)))) (w' := w.alloc (.map #[] 0)) ?_ _ _ ⟨ρ', _, _, n + 1, fun i hi => r1 i (by omega), ((st.rho r1).mono (Nat.le_succ n)).put _ (.raw (.map (some w.heap.size))) trivial (dok_lt hd), r3, by omega, hK _⟩
  obtain ⟨d, op, ty, pos, af, g⟩ := o
  simp only at hop; subst hop
  rfl
theorem lookup_sem {o : Oper} {t e : Nat} {x ix : Operand} (hop : o.op = .lookup t x ix false) (hd : dok cx.nt o.dst) (ht : Try.prog.underlying t = some (.map 50 e)) (hz : ∀ w, (zeroValue e).run Try.prog w = .ok (.bool false) w)
    {i b m px py : Nat} (hx : ev l x = .raw (.map (some b))) (hix : ev l ix = .agg 2 (cl [.int .i8 (px : Int), .int .i8 (py : Int)])) (hpx : px < 8) (hpy : py < 8) (hg : hget h i = some (mpS b m))
    (hK : K (put l o.dst (.bool (decide (dig m (py * 8 + px) ≠ 0)))) h n) : OpSem Try.prog cx o l h n K := by
  intro ρ a w st sh hn
  obtain ⟨e1, _⟩ := ev_sound st x (by rw [hx]; simp)
  obtain ⟨f1, _⟩ := ev_sound st ix (by rw [hix]; simp)
  rw [hx] at e1
  rw [hix] at f1
  have f1 : a.eval ix = keyV px py := f1
  have e1 : a.eval x = .map (some b) := e1
  obtain ⟨_, _, hO⟩ := (sh.seg i _ hg).own _ _ rfl
  obtain ⟨hbi, es, clock, hob, h1, h2⟩ := (ownB_map (by omega)).1 hO
  rw [← hbi] at hob
  obtain ⟨kl, hkey⟩ := mpKey hpx hpy
  have hkeys : ∀ e ∈ es.toList, ∃ l, keyOf Try.prog 50 e.key = some l := fun e he => by
    obtain ⟨x', y', hx', hy', hk, _⟩ := h1 e he
    rw [hk]; exact mpKey hx' hy'
  have hrun : (Instr.lookup t (.map (some b)) (keyV px py) false).run Try.prog w = .ok (.bool (decide (dig m (py * 8 + px) ≠ 0))) w := by
    rcases mpLaw.find w hkey es.toList hkeys with ⟨g1, g2⟩ | ⟨j, e0, g1, g2, g3⟩
    · have h0 : dig m (py * 8 + px) = 0 := by
        rcases Classical.em (dig m (py * 8 + px) = 0) with h | h
        · exact h
        · obtain ⟨e, he, hek⟩ := h2 px py hpx hpy h
          exact absurd hek (g2 e he)
      rw [h0]
      simp [Instr.lookup, run_underlying ht, MapKept.run_getObj_map hob, mpLaw.check w _ hkey, g1, hz, Result.andThen]
    · obtain ⟨x', y', hx', hy', hk, hne, hv⟩ := h1 e0 (List.mem_of_getElem? g2)
      rw [g3] at hk
      obtain ⟨rfl, rfl⟩ := keyV_inj hk
      have hv : e0.val = .bool true := hv
      rw [decide_eq_true hne]
      simp [Instr.lookup, run_underlying ht, MapKept.run_getObj_map hob, mpLaw.check w _ hkey, g1, hv, Result.andThen]
  refine upon_value_eq (v := den ρ (.bool (decide (dig m (py * 8 + px) ≠ 0)))) (w' := w) ?_ _ _ ⟨ρ, _, _, n, fun _ _ => rfl, st.put _ _ trivial (dok_lt hd), sh, hn, hK⟩
  obtain ⟨d, op, ty, pos, af, g⟩ := o
  simp only at hop; subst hop
  simp only [execOp, e1, f1, Sem.run_bind, hrun, Result.andThen_ok, Sem.run_pure, den]
theorem mapUpdate_sem {o : Oper} {t e : Nat} {x ix v : Operand} (hop : o.op = .mapUpdate t x ix v) (hdn : o.dst = none) (ht : Try.prog.underlying t = some (.map 50 e))
    {i b m px py : Nat} (hx : ev l x = .raw (.map (some b))) (hix : ev l ix = .agg 2 (cl [.int .i8 (px : Int), .int .i8 (py : Int)])) (hv : ev l v = .bool true) (hpx : px < 8) (hpy : py < 8) (hg : hget h i = some (mpS b m))
    (hK : K l (hset h i (mpS b (addD m (py * 8 + px)))) n) : OpSem Try.prog cx o l h n K := by
  intro ρ a w st sh hn
  obtain ⟨e1, _⟩ := ev_sound st x (by rw [hx]; simp)
  obtain ⟨f1, _⟩ := ev_sound st ix (by rw [hix]; simp)
  obtain ⟨v1, _⟩ := ev_sound st v (by rw [hv]; simp)
  rw [hx] at e1
  rw [hix] at f1
  rw [hv] at v1
  have f1 : a.eval ix = keyV px py := f1
  have e1 : a.eval x = .map (some b) := e1
  have v1 : a.eval v = .bool true := v1
  obtain ⟨_, _, hO⟩ := (sh.seg i _ hg).own _ _ rfl
  obtain ⟨hbi, es, clock, hob, h1, h2⟩ := (ownB_map (by omega)).1 hO
  rw [← hbi] at hob
  obtain ⟨kl, hkey⟩ := mpKey hpx hpy
  have hkeys : ∀ e ∈ es.toList, ∃ l, keyOf Try.prog 50 e.key = some l := fun e he => by
    obtain ⟨x', y', hx', hy', hk, _⟩ := h1 e he
    rw [hk]; exact mpKey hx' hy'
  have hrun : ∃ es' clock', (Instr.mapUpdate t (.map (some b)) (keyV px py) (.bool true)).run Try.prog w = .ok () { w with heap := w.heap.setIfInBounds b (.map es' clock') } ∧ MapObj 0 (addD m (py * 8 + px)) (some (.map es' clock')) := by
    rcases mpLaw.find w hkey es.toList hkeys with ⟨g1, g2⟩ | ⟨j, e0, g1, g2, g3⟩
    · have h0 : dig m (py * 8 + px) = 0 := by
        rcases Classical.em (dig m (py * 8 + px) = 0) with h | h
        · exact h
        · obtain ⟨e, he, hek⟩ := h2 px py hpx hpy h
          exact absurd hek (g2 e he)
      refine ⟨es.push ⟨keyV px py, .bool true, clock⟩, clock + 1, ?_, _, _, rfl, fun e he => ?_, fun x' y' hx' hy' hne => ?_⟩
      · simp [Instr.mapUpdate, run_underlying ht, MapKept.run_getObj_map hob, mpLaw.check w false hkey, g1, MapKept.run_setObj_map _ hob, Result.andThen]
      · simp only [Array.toList_push, List.mem_append, List.mem_singleton] at he
        rcases he with he | rfl
        · obtain ⟨x', y', hx', hy', hk, hne, hv⟩ := h1 e he
          exact ⟨x', y', hx', hy', hk, (dig_add_ne _ _ _).2 (.inr hne), hv⟩
        · exact ⟨px, py, hpx, hpy, rfl, (dig_add_ne _ _ _).2 (.inl rfl), rfl⟩
      · rcases (dig_add_ne _ _ _).1 hne with e | e
        · obtain ⟨rfl, rfl⟩ : x' = px ∧ y' = py := by omega
          exact ⟨⟨keyV x' y', .bool true, clock⟩, by simp, rfl⟩
        · obtain ⟨e', he', hk'⟩ := h2 x' y' hx' hy' e
          exact ⟨e', by simp [he'], hk'⟩
    · obtain ⟨x', y', hx', hy', hk, hne, hv⟩ := h1 e0 (List.mem_of_getElem? g2)
      rw [g3] at hk
      obtain ⟨rfl, rfl⟩ := keyV_inj hk
      have hv : e0.val = .bool true := hv
      have hadd : addD m (py * 8 + px) = m := by unfold addD; rw [if_neg hne]
      have hj : es[j]? = some e0 := by rw [← Array.getElem?_toList]; exact g2
      have hmod : es.modify j (fun e => { e with key := keyV px py, val := .bool true }) = es := by
        apply Array.ext_getElem?
        intro k
        rw [Array.getElem?_modify]
        split
        · rename_i ek; subst ek
          rw [hj, Option.map_some, ← g3, ← hv]
        · rfl
      rw [hadd]
      refine ⟨es, clock, ?_, es, clock, rfl, h1, h2⟩
      have := MapKept.run_setObj_map (P := Try.prog) (.map (es.modify j (fun e => { e with key := keyV px py, val := .bool true })) clock) hob
      rw [hmod] at this
      simp [Instr.mapUpdate, run_underlying ht, MapKept.run_getObj_map hob, mpLaw.check w false hkey, g1, hj, g3, mpLaw.stays w hkey, this, hmod, Result.andThen]
  obtain ⟨es', clock', hr, hM⟩ := hrun
  have sh2 := sh.spec_set hg (.map es' clock') ((ownB_map (b := b) (b' := (ρ i).1) (kd := 0) (by omega)).2 ⟨hbi, hM⟩)
  rw [← hbi] at sh2
  refine upon_skip_eq (w' := { w with heap := w.heap.setIfInBounds b (.map es' clock') }) ?_ _ _ ⟨ρ, _, _, n, fun _ _ => rfl, by rw [hdn]; exact st, sh2, hn, hK⟩
  obtain ⟨d, op, ty, pos, af, g⟩ := o
  simp only at hop; subst hop
  simp only [execOp, e1, f1, v1, Sem.run_bind, hr, Result.andThen_ok, Sem.run_pure]
end
end Go.Proofs.Ytddnnodkkdjniaa.V

/- Parts of a sheet: the model, the rows, what is kept. -/
namespace Go.Proofs.Ytddnnodkkdjniaa.V
/-- The parts, one by one: a cell that is in no part so far begins one. -/
def partN (is : Int → Int → Bool) (A : LSp) : Nat → List LSp
  | 0 => []
  | q + 1 => if A.getD q (0, 0) ∈ (partN is A q).flatten then partN is A q else partN is A q ++ [reachL is (A.getD q (0, 0))]
theorem partN_old {is : Int → Int → Bool} {A : LSp} {q : Nat} (h : A.getD q (0, 0) ∈ (partN is A q).flatten) : partN is A (q + 1) = partN is A q := by rw [partN, if_pos h]
theorem partN_new {is : Int → Int → Bool} {A : LSp} {q : Nat} (h : A.getD q (0, 0) ∉ (partN is A q).flatten) : partN is A (q + 1) = partN is A q ++ [reachL is (A.getD q (0, 0))] := by rw [partN, if_neg h]
theorem partN_len (is : Int → Int → Bool) (A : LSp) : ∀ q, (partN is A q).length ≤ q
  | 0 => Nat.le_refl _
  | q + 1 => by
    have := partN_len is A q
    rw [partN]; split
    · omega
    · rw [List.length_append]; show _ + 1 ≤ q + 1; omega
theorem reachL_len {is : Int → Int → Bool} (his : ∀ x y, is x y = true → In8 (x, y)) {a : Int × Int} (ha : In8 a) : (reachL is a).length ≤ 64 ∧ In8s (reachL is a) := by
  have hbk := BOk.bfs his 65 [a] 0 (BOk.one ha)
  exact ⟨strict_len (setL_strict _) hbk.in8.setL, hbk.in8.setL⟩
theorem partN_rows {is : Int → Int → Bool} (his : ∀ x y, is x y = true → In8 (x, y)) {A : LSp} (hA : In8s A) : ∀ q, q ≤ A.length → ∀ L, L ∈ partN is A q → L.length ≤ 64 ∧ In8s L
  | 0, _, L, h => by cases h
  | q + 1, hq, L, h => by
    rw [partN] at h; split at h
    · exact partN_rows his hA q (by omega) L h
    · rcases List.mem_append.1 h with h | h
      · exact partN_rows his hA q (by omega) L h
      · rw [List.mem_singleton] at h; subst h
        exact reachL_len his (hA _ (spots_at (by omega)))
theorem partN_rows64 {is : Int → Int → Bool} (his : ∀ x y, is x y = true → In8 (x, y)) {A : LSp} (hA : In8s A) (q : Nat) (hq : q ≤ A.length) (k : Nat) : ((partN is A q).getD k []).length ≤ 64 := by
  rw [List.getD_eq_getElem?_getD]
  cases hk : (partN is A q)[k]? with
  | none => exact Nat.zero_le _
  | some L => exact (partN_rows his hA q hq L (List.mem_of_getElem? hk)).1
/-- One row more. -/
theorem lssApp {h hq : List (Nat × Seg)} {lo n nq j cap cap' jr cpR : Nat} {sc c1 : Nat → SV} {r cp : Nat → Nat} {LL : List LSp} {R : LSp} {w : Option (Nat × Nat)}
    (S : Lss hq lo nq j cap sc r cp LL) (ok : HOk nq hq) (X : HExt n h hq) (hn : n ≤ j) (hR : RowAt hq jr R) (hlo : lo ≤ jr) (hln : jr < nq) (hjj : jr ≠ j) (hgt : ∀ k, k < LL.length → r k < jr) (hc1 : c1 0 = .sl jr 0 R.length cpR) (m1 : LL.length + 1 ≤ cap') (m2 : cap' ≤ maxLen)
    {hN : List (Nat × Seg)} (e : hN = (nq + 1, ⟨LL.length + 1, both LL.length sc (news c1 0), true, some (46, cap')⟩) :: (nq, ⟨1, c1, true, w⟩) :: hdel hq j) :
    HOk (nq + 2) hN ∧ HExt n h hN ∧ Lss hN lo (nq + 2) (nq + 1) cap' (both LL.length sc (news c1 0)) (fun k => if k < LL.length then r k else jr) (fun k => if k < LL.length then cp k else cpR) (LL ++ [R]) ∧ ∀ i t, i < nq → i ≠ j → hget hq i = some t → hget hN i = some t := by
  subst e
  have hjn := S.lt
  have hjl := S.jlo
  have old : ∀ i t, i < nq → i ≠ j → hget hq i = some t → hget ((nq + 1, (⟨LL.length + 1, both LL.length sc (news c1 0), true, some (46, cap')⟩ : Seg)) :: (nq, ⟨1, c1, true, w⟩) :: hdel hq j) i = some t := fun i t h1 h2 h4 => by
    simp only [hget]
    rw [if_neg (by omega), if_neg (by omega), hget_hdel, if_neg (Ne.symm h2)]
    exact h4
  have cel : ∀ k, k < LL.length + 1 → both LL.length sc (news c1 0) k = .sl (if k < LL.length then r k else jr) 0 ((LL ++ [R]).getD k []).length (if k < LL.length then cp k else cpR) := fun k hk => by
    by_cases hk2 : k < LL.length
    · unfold both
      rw [if_pos hk2, if_pos hk2, if_pos hk2, S.cell k hk2, List.getD_eq_getElem?_getD, List.getD_eq_getElem?_getD, List.getElem?_append_left hk2]
    · have ek : k = LL.length := by omega
      subst ek
      have e2 : (LL ++ [R]).getD LL.length [] = R := by simp
      rw [e2, if_neg hk2, if_neg hk2]
      unfold both news
      rw [if_neg (by omega), Nat.sub_self, Nat.zero_add, hc1]
  refine ⟨fun i t hi => ?_, fun i hi t ht => old i t (by omega) (by omega) (X i hi t ht), ⟨by omega, by omega, by simp [hget], by simpa using m1, m2, fun k hk => ?_, fun k hk => ?_, fun k hk => ?_, fun k hk => cel k (by simpa using hk), fun k hk => ?_, fun k k' hk hk' => ?_⟩, old⟩
  · simp only [hget] at hi
    split at hi
    · rename_i e; cases hi
      refine ⟨by omega, fun k hk => ?_⟩
      show (both LL.length sc (news c1 0) k).lt (nq + 2)
      rw [cel k hk]
      show (if k < LL.length then r k else jr) < nq + 2
      split
      · have := S.rlt k (by assumption); omega
      · omega
    · split at hi
      · rename_i e; cases hi
        refine ⟨by omega, fun k hk => ?_⟩
        have hk : k < 1 := hk
        obtain rfl : k = 0 := by omega
        show (c1 0).lt (nq + 2)
        rw [hc1]; show jr < nq + 2; omega
      · rw [hget_hdel] at hi
        split at hi
        · cases hi
        · exact ⟨by have := (ok i t hi).1; omega, fun k hk => SV.lt_mono (by omega) _ ((ok i t hi).2 k hk)⟩
  · show lo ≤ if k < LL.length then r k else jr
    split
    · exact S.rlo k (by assumption)
    · exact hlo
  · show (if k < LL.length then r k else jr) < nq + 2
    split
    · have := S.rlt k (by assumption); omega
    · omega
  · show (if k < LL.length then r k else jr) ≠ nq + 1
    split
    · have := S.rlt k (by assumption); omega
    · omega
  · by_cases hk2 : k < LL.length
    · obtain ⟨s, a1, a2⟩ := (S.row k hk2).row
      simp only [if_pos hk2]
      refine ⟨s, old _ _ (S.rlt k hk2) (S.rj k hk2) a1, ?_⟩
      rw [show (LL ++ [R]).getD k [] = LL.getD k [] by rw [List.getD_eq_getElem?_getD, List.getD_eq_getElem?_getD, List.getElem?_append_left hk2]]
      exact a2
    · have hk1 : k < LL.length + 1 := by simpa using hk
      have ek : k = LL.length := by omega
      subst ek
      obtain ⟨s, a1, a2⟩ := hR.row
      simp only [if_neg hk2]
      refine ⟨s, old _ _ hln hjj a1, ?_⟩
      rw [show (LL ++ [R]).getD LL.length [] = R by simp]
      exact a2
  · have hk1 : k' < LL.length + 1 := by simpa using hk'
    show (if k < LL.length then r k else jr) < if k' < LL.length then r k' else jr
    rw [if_pos (show k < LL.length by omega)]
    split
    · exact S.dis k k' hk (by assumption)
    · exact hgt k (by omega)
/-- What is kept while parts are looked for: the map, the list so far, the list of cells. -/
structure QI (h : List (Nat × Seg)) (n im : Nat) (tm : Seg) (ja : Nat) (tA : Seg) (hq : List (Nat × Seg)) (nq j cap : Nat) (sc : Nat → SV) (r cp : Nat → Nat) (LL : List LSp) : Prop where
  hn : n ≤ nq
  ok : HOk nq hq
  ex : HExt n h hq
  lss : Lss hq n nq j cap sc r cp LL
  mp : hget hq im = some tm
  iml : im < nq
  imn : n ≤ im
  jim : j ≠ im
  rim : ∀ k, k < LL.length → r k ≠ im
  row : hget hq ja = some tA
  jal : ja < nq
  jan : n ≤ ja
  jaj : ja ≠ j
  jam : ja ≠ im
theorem QI.to {h : List (Nat × Seg)} {n im : Nat} {tm : Seg} {ja : Nat} {tA : Seg} {hq : List (Nat × Seg)} {nq j cap : Nat} {sc : Nat → SV} {r cp : Nat → Nat} {LL : List LSp} (I : QI h n im tm ja tA hq nq j cap sc r cp LL) {h' : List (Nat × Seg)} {n' : Nat} (hn : nq ≤ n') (ok : HOk n' h') (hx : HExt nq hq h') : QI h n im tm ja tA h' n' j cap sc r cp LL :=
  ⟨by have := I.hn; omega, ok, I.ex.tr hx I.hn, I.lss.mono hn fun i _ hi => hx i hi, hx _ I.iml _ I.mp, by have := I.iml; omega, I.imn, I.jim, I.rim, hx _ I.jal _ I.row, by have := I.jal; omega, I.jan, I.jaj, I.jam⟩
theorem QI.mark {h : List (Nat × Seg)} {n im : Nat} {tm : Seg} {ja : Nat} {tA : Seg} {hq : List (Nat × Seg)} {nq j cap : Nat} {sc : Nat → SV} {r cp : Nat → Nat} {LL : List LSp} (I : QI h n im tm ja tA hq nq j cap sc r cp LL) (tm' : Seg) (htm : ∀ k, k < tm'.n → (tm'.c k).lt nq) : QI h n im tm' ja tA (hset hq im tm') nq j cap sc r cp LL :=
  ⟨I.hn, fun i t hi => by
      rw [hget_hset] at hi
      split at hi
      · rename_i e; subst e
        rw [I.mp] at hi; cases hi
        exact ⟨I.iml, htm⟩
      · exact I.ok i t hi,
    fun i hi t ht => by rw [hget_hset, if_neg (by have := I.imn; omega)]; exact I.ex i hi t ht,
    by
      have S := I.lss
      refine ⟨S.jlo, S.lt, by rw [hget_hset, if_neg (Ne.symm I.jim)]; exact S.seg, S.le, S.cap, S.rlo, S.rlt, S.rj, S.cell, fun k hk => ?_, S.dis⟩
      obtain ⟨s, a1, a2⟩ := (S.row k hk).row
      exact ⟨s, by rw [hget_hset, if_neg (Ne.symm (I.rim k hk))]; exact a1, a2⟩,
    hget_hset_self I.mp _, I.iml, I.imn, I.jim, I.rim, by rw [hget_hset, if_neg (Ne.symm I.jam)]; exact I.row, I.jal, I.jan, I.jaj, I.jam⟩
theorem QI.app {h : List (Nat × Seg)} {n im : Nat} {tm : Seg} {ja : Nat} {tA : Seg} {hq : List (Nat × Seg)} {nq j cap : Nat} {sc : Nat → SV} {r cp : Nat → Nat} {LL : List LSp} (I : QI h n im tm ja tA hq nq j cap sc r cp LL) {cap' jr cpR : Nat} {c1 : Nat → SV} {R : LSp} {w : Option (Nat × Nat)}
    (hR : RowAt hq jr R) (hlo : n ≤ jr) (hln : jr < nq) (hjj : jr ≠ j) (hjm : jr ≠ im) (hgt : ∀ k, k < LL.length → r k < jr) (hc1 : c1 0 = .sl jr 0 R.length cpR) (m1 : LL.length + 1 ≤ cap') (m2 : cap' ≤ maxLen)
    {hN : List (Nat × Seg)} (e : hN = (nq + 1, ⟨LL.length + 1, both LL.length sc (news c1 0), true, some (46, cap')⟩) :: (nq, ⟨1, c1, true, w⟩) :: hdel hq j) :
    QI h n im tm ja tA hN (nq + 2) (nq + 1) cap' (both LL.length sc (news c1 0)) (fun k => if k < LL.length then r k else jr) (fun k => if k < LL.length then cp k else cpR) (LL ++ [R]) := by
  obtain ⟨a1, a2, a3, a4⟩ := lssApp I.lss I.ok I.ex I.lss.jlo hR hlo hln hjj hgt hc1 m1 m2 e
  refine ⟨by have := I.hn; omega, a1, a2, a3, a4 _ _ I.iml (Ne.symm I.jim) I.mp, by have := I.iml; omega, I.imn, by have := I.iml; omega, fun k hk => ?_, a4 _ _ I.jal I.jaj I.row, by have := I.jal; omega, I.jan, by have := I.jal; omega, I.jam⟩
  show (if k < LL.length then r k else jr) ≠ im
  split
  · exact I.rim k (by assumption)
  · exact hjm
abbrev PI (h : List (Nat × Seg)) (n im b ja : Nat) (tA : Seg) (hq : List (Nat × Seg)) (nq m j cap : Nat) (sc : Nat → SV) (r cp : Nat → Nat) (LL : List LSp) : Prop := QI h n im (mpS b m) ja tA hq nq j cap sc r cp LL
/-- The map has the cells of the parts so far. -/
def MetIs (m : Nat) (L : LSp) : Prop := ∀ px py : Nat, px < 8 → py < 8 → (dig m (py * 8 + px) ≠ 0 ↔ ((px : Int), (py : Int)) ∈ L)
theorem MetIs.add {m : Nat} {L : LSp} (hm : MetIs m L) {px py : Nat} (hx : px < 8) (hy : py < 8) : MetIs (addD m (py * 8 + px)) (L ++ [((px : Int), (py : Int))]) := fun x' y' hx' hy' => by
  rw [dig_add_ne, List.mem_append, List.mem_singleton, hm x' y' hx' hy', Prod.mk.injEq]
  constructor
  · rintro (e | e)
    · exact .inr (by omega)
    · exact .inl e
  · rintro (e | e)
    · exact .inr e
    · exact .inl (by omega)
theorem metIs_nil : MetIs 0 [] := fun px py _ _ => by rw [dig_zero]; simp
end Go.Proofs.Ytddnnodkkdjniaa.V

/- Parts of a sheet: the program's own walk. -/
namespace Go.Proofs.Ytddnnodkkdjniaa.V
theorem mapTy : Try.prog.underlying 72 = some (.map 50 4) := by kernel_rfl
theorem boolZ (w : World) : (zeroValue 4).run Try.prog w = .ok (.bool false) w := by
  obtain ⟨i, z, hi, _, _, hz, _, _, e⟩ := (hti 4).info trivial
  have e : z = .bool false := e
  subst e
  simp [zeroValue, typeInfo, hi, hz]
section
variable {cx : Cx} {Q : List (Nat × SV) → List (Nat × Seg) → Nat → Prop} {k : List It} {l : List (Nat × SV)} {h : List (Nat × Seg)} {n : Nat} {all rest : List Oper} {d : Option Nat} {t ty : Nat} {pos : String} {af : Array Edge}
theorem T_mkMap (hd : dok cx.nt d) (hT : ∀ b, T Try.prog ti cx Q (.ops false all rest :: k) (put l d (.raw (.map (some b)))) ((n, mpS b 0) :: h) (n + 1)) :
    T Try.prog ti cx Q (.ops false all (⟨d, .makeMap t none, ty, pos, af, none⟩ :: rest) :: k) l h n := by
  rw [T]
  refine ⟨hd, ?_⟩
  show if isPv _ = true then _ else _
  rw [if_neg (by simp [isPv])]
  exact ⟨rfl, makeMap_sem rfl hd hT⟩
theorem T_look {x ix : Operand} {i b m px py e : Nat} (hd : dok cx.nt d) (ht : Try.prog.underlying t = some (.map 50 e)) (hz : ∀ w, (zeroValue e).run Try.prog w = .ok (.bool false) w)
    (hx : ev l x = .raw (.map (some b))) (hix : ev l ix = .agg 2 (cl [.int .i8 (px : Int), .int .i8 (py : Int)])) (hpx : px < 8) (hpy : py < 8) (hg : hget h i = some (mpS b m)) {B : Bool} (hB : decide (dig m (py * 8 + px) ≠ 0) = B)
    (hT : T Try.prog ti cx Q (.ops false all rest :: k) (put l d (.bool B)) h n) :
    T Try.prog ti cx Q (.ops false all (⟨d, .lookup t x ix false, ty, pos, af, none⟩ :: rest) :: k) l h n := by
  subst hB
  rw [T]
  refine ⟨hd, ?_⟩
  show if isPv _ = true then _ else _
  rw [if_neg (by simp [isPv])]
  refine ⟨rfl, ?_⟩
  show OpSem Try.prog cx ⟨d, .lookup t x ix false, ty, pos, af, none⟩ l h n _
  have hk : ∀ o : Oper, o.op = .lookup t x ix false → dok cx.nt o.dst → T Try.prog ti cx Q (.ops false all rest :: k) (put l o.dst (.bool (decide (dig m (py * 8 + px) ≠ 0)))) h n → OpSem Try.prog cx o l h n (fun l' h' n' => T Try.prog ti cx Q (.ops false all rest :: k) l' h' n') := fun o ho hd hT => by
    refine lookup_sem ho hd ht hz hx hix hpx hpy hg ?_
    exact hT
  refine hk _ ?_ ?_ ?_
  · rfl
  · exact hd
  · exact hT
theorem T_mapUp {x ix v : Operand} {i b m px py e : Nat} (ht : Try.prog.underlying t = some (.map 50 e))
    (hx : ev l x = .raw (.map (some b))) (hix : ev l ix = .agg 2 (cl [.int .i8 (px : Int), .int .i8 (py : Int)])) (hv : ev l v = .bool true) (hpx : px < 8) (hpy : py < 8) (hg : hget h i = some (mpS b m))
    (hT : T Try.prog ti cx Q (.ops false all rest :: k) l (hset h i (mpS b (addD m (py * 8 + px)))) n) :
    T Try.prog ti cx Q (.ops false all (⟨none, .mapUpdate t x ix v, ty, pos, af, none⟩ :: rest) :: k) l h n := by
  rw [T]
  refine ⟨trivial, ?_⟩
  show if isPv _ = true then _ else _
  rw [if_neg (by simp [isPv])]
  refine ⟨rfl, ?_⟩
  show OpSem Try.prog cx ⟨none, .mapUpdate t x ix v, ty, pos, af, none⟩ l h n _
  have hk : ∀ o : Oper, o.op = .mapUpdate t x ix v → o.dst = none → OpSem Try.prog cx o l h n (fun l' h' n' => T Try.prog ti cx Q (.ops false all rest :: k) l' h' n') := fun o ho hd => by
    refine mapUpdate_sem ho hd ht hx hix hv hpx hpy hg ?_
    exact hT
  refine hk _ ?_ ?_
  · rfl
  · rfl
end
theorem hasB_jW {S : Sh} {W H : Nat} (hW : S.wide = W) (hH : S.high = H) {j : Nat} (hj : j < H * W) : hasB S ((j % W : Nat) : Int) ((j / W : Nat) : Int) = true := by
  have w0 : 0 < W := Nat.pos_of_ne_zero fun e => by subst e; omega
  have h1 := Nat.mod_lt j w0
  have h2 : j / W < H := (Nat.div_lt_iff_lt_mul w0).2 hj
  generalize j % W = u at *
  generalize j / W = v at *
  unfold hasB
  rw [hW, hH]
  simp only [Bool.and_eq_true, decide_eq_true_eq]
  omega
section
variable (cx : Cx) (h : List (Nat × Seg)) (n : Nat)
set_option maxHeartbeats 3200000 in
theorem parts_E (i : Nat) (S : Sh) (W H : Nat) (hs : hget h i = some (shS S)) (hi : i < n) (hR : ShR S) (hsm : Small S) (hW : S.wide = W) (hH : S.high = H) (hW8 : W ≤ 8) (hH8 : H ≤ 8) (f e b : Nat) (G F : Nat → SV) (hfl : (SV.fn f e G b F).lt n) (p : Int → Int → Bool)
    (hp : ∀ x y, hasB S x y = true → Asks cx h n f e b G F x y (p x y)) (K : HK)
    (hK : ∀ V h' n', n ≤ n' → HExt n h h' → HOk n' h' → LssOut h' n n' V (partN (isB S p) ((cellsL W H).filter fun a => p a.1 a.2) ((cellsL W H).filter fun a => p a.1 a.2).length) → K V h' n') :
    CallE Try.prog cx 22 [.ptr i 0, .fn f e G b F] h n K := by
  have his := isB_8 hsm p
  have hFl : (SV.fn f e G b F).lt n = True := eq_true hfl
  refine CallE.hokE ?_
  refine callE_of_T (P := Try.prog) hti (nt := 44) (rs := [.tmp 4]) rfl rfl Try.call22 Try.func22 rfl _ (by simp only [go_sem, and_self]) (Nat.le_of_ble_eq_true rfl) _ fun hok => ?_
  simp only [go_sem, Nat.reduceLT]
  refine T_mkMap (by first | (simp only [go_sem, Nat.reduceLT]; done) | (simp only [go_sem, Nat.reduceBEq, Nat.reduceLT, Nat.reduceLeDiff, Nat.reduceAdd, Nat.reduceMul, Nat.reduceSub, Nat.reduceMod, Nat.reduceDiv, Nat.reduceEqDiff, Int.reduceToNat, reduceIte, reduceCtorEq, Int.reduceLE, Int.reduceLT, Int.reduceEq, Int.reduceNeg, Int.reduceAdd, Int.reduceSub, Int.reduceMul]; trivial)) fun bm => ?_
  simp only [go_sem, Nat.reduceLT]
  refine callA_false (that_E _ _ _ i S W H (by simp only [go_sem, hs, hi]) (by omega) hR hW hH hW8 hH8 f e b G F (SV.lt_mono (by omega) _ hfl) p (fun j hj nt n0 h' n' hn' hx' => ?_) _ fun V h1 n1 hn1 hx1 ok1 hV => ?_)
  · exact hp _ _ (hasB_jW hW hH hj) nt n0 h' n' (by omega) (HExt.tr (m' := n + 2) (by simp only [go_sem, HExt_cons]) hx' (by omega))
  generalize hAA : ((cellsL W H).filter fun a => p a.1 a.2) = A at *
  have Vo := hV.ok
  have hAin : ∀ q, q < A.length → ∃ px py : Nat, A.getD q (0, 0) = ((px : Int), (py : Int)) ∧ px < 8 ∧ py < 8 ∧ In8 ((px : Int), (py : Int)) := fun q hq => by
    have hm : A.getD q (0, 0) ∈ (cellsL W H).filter fun a => p a.1 a.2 := by rw [hAA]; exact spots_at hq
    obtain ⟨h1, -⟩ := List.mem_filter.1 hm
    obtain ⟨k, hk, e⟩ := List.mem_map.1 h1
    rw [List.mem_range] at hk
    have := hasB_in hsm (hasB_jW hW hH hk)
    exact ⟨k % W, k / W, e.symm, by omega, by omega, ⟨this.1, this.2.1⟩, this.2.2⟩
  have hA64 : A.length ≤ 64 := by
    rw [← hAA]
    refine Nat.le_trans (List.length_filter_le _ _) ?_
    rw [cellsL_len]
    exact Nat.mul_le_mul hH8 hW8
  have I0 : ∀ {ja : Nat} {sA : Seg}, hget h1 ja = some sA → ja < n1 → n + 2 ≤ ja → PI h n (n + 1) bm ja sA h1 n1 0 n 0 (zrow (ti 46)) (fun _ => 0) (fun _ => 0) (partN (isB S p) A 0) := fun g1 g2 g3 =>
    ⟨by omega, ok1, HExt.tr (m' := n + 2) (by simp only [go_sem, HExt_cons]) hx1 (by omega), ⟨Nat.le_refl _, by omega, hx1 n (by omega) _ (by simp only [go_sem]; rfl), Nat.le_refl _, by decide, fun k hk => absurd hk (Nat.not_lt_zero k), fun k hk => absurd hk (Nat.not_lt_zero k), fun k hk => absurd hk (Nat.not_lt_zero k), fun k hk => absurd hk (Nat.not_lt_zero k), fun k hk => absurd hk (Nat.not_lt_zero k), fun k k' hk hk' => absurd hk' (Nat.not_lt_zero k')⟩,
      hx1 (n + 1) (by omega) _ (hget_hit _ _ _), by omega, by omega, by omega, fun k hk => absurd hk (Nat.not_lt_zero k), g1, g2, by omega, by omega, by omega⟩
  rcases hV with ⟨rfl, rfl⟩ | ⟨ja, capA, sA, rfl, a1, a2, a3, a4, a5, a6⟩
  · simp only [go_sem, Nat.reduceLT]
    refine T_unroll 0 ?_
    simp only [go_sem, Nat.reduceLT, Int.reduceLT]
    have X1 : HExt n h h1 := HExt.tr (m' := n + 2) (by simp only [go_sem, HExt_cons]) hx1 (by omega)
    refine fun hok' => hK _ _ _ (by omega) X1 hok' (.inr ⟨n, 0, zrow (ti 46), fun _ => 0, fun _ => 0, rfl, ⟨Nat.le_refl _, by omega, hx1 n (by omega) _ (by simp only [go_sem]; rfl), Nat.le_refl _, by decide, fun k hk => absurd hk (Nat.not_lt_zero k), fun k hk => absurd hk (Nat.not_lt_zero k), fun k hk => absurd hk (Nat.not_lt_zero k), fun k hk => absurd hk (Nat.not_lt_zero k), fun k hk => absurd hk (Nat.not_lt_zero k), fun k k' hk hk' => absurd hk' (Nat.not_lt_zero k')⟩⟩)
  simp only [go_sem, Nat.reduceLT]
  refine T_lp (ι := { w : Nat × List (Nat × Seg) × Nat × Nat × (Nat × Nat × (Nat → SV) × (Nat → Nat) × (Nat → Nat)) // w.1 ≤ A.length ∧ PI h n (n + 1) bm ja sA w.2.1 w.2.2.1 w.2.2.2.1 w.2.2.2.2.1 w.2.2.2.2.2.1 w.2.2.2.2.2.2.1 w.2.2.2.2.2.2.2.1 w.2.2.2.2.2.2.2.2 (partN (isB S p) A w.1) ∧ MetIs w.2.2.2.1 (partN (isB S p) A w.1).flatten })
    (fun w => ([(0, .ptr i 0), (1, .fn f e G b F), (5, .sl w.1.2.2.2.2.1 0 (partN (isB S p) A w.1.1).length w.1.2.2.2.2.2.1), (6, .raw (.map (some bm))), (16, .sl ja 0 A.length capA), (17, .int .i64 A.length), (18, .int .i64 ((w.1.1 : Nat) : Int))], w.1.2.1, w.1.2.2.1)) (fun w => A.length - w.1.1)
    ⟨(0, h1, n1, 0, (n, 0, zrow (ti 46), fun _ => 0, fun _ => 0)), Nat.zero_le _, I0 a3 a2 a1, metIs_nil⟩ ?_ ?_
  · refine Imp.id (by show n ≤ n1; omega) ?_ (impH.base0 ok1 (Nat.le_refl _) HExt.rfl)
    simp only [go_sem, Nat.reduceLT, hFl, SV.lt_mono (show n ≤ n1 by omega) _ hfl, partN]
    (try (repeat' apply And.intro) <;> first | omega | rfl | trivial | assumption | skip)
  rintro ⟨⟨q, hq, nq, m, j, cap, sc, r, cp⟩, hqA, I, hM⟩
  simp only at hqA I hM
  have hn0 := I.hn
  have hjn := I.lss.lt
  have hLL := partN_len (isB S p) A q
  simp only [go_sem, Nat.reduceLT, decide_eq_true_eq, decide_eq_false_iff_not]
  refine ⟨fun h1 => ?_, fun h1 => ?_⟩
  rotate_left
  · have eq1 : q = A.length := by omega
    subst eq1
    try simp only [go_sem, Nat.reduceBEq, Nat.reduceLT, Nat.reduceLeDiff, Nat.reduceAdd, Nat.reduceMul, Nat.reduceSub, Nat.reduceMod, Nat.reduceDiv, Nat.reduceEqDiff, Int.reduceToNat, reduceIte, reduceCtorEq, Int.reduceLE, Int.reduceLT, Int.reduceEq, Int.reduceNeg, Int.reduceAdd, Int.reduceSub, Int.reduceMul]
    exact fun hok' => hK _ _ _ I.hn I.ex hok' (.inr ⟨j, cap, sc, r, cp, rfl, I.lss⟩)
  have r1 : (0 : Int) ≤ q ∧ (q : Int) < A.length := ⟨by omega, by omega⟩
  have hqo : q < A.length := by omega
  have b1 : q * 2 ≤ sA.n - 2 := by omega
  have b2 : 2 ≤ sA.n := by omega
  have b3 : q * 2 + 2 ≤ sA.n := by omega
  have v3 := I.row
  have v2 := I.jal
  obtain ⟨px, py, ha, hpx, hpy, ha8⟩ := hAin q hqo
  simp only [go_sem, Nat.reduceLT, Nat.reduceEqDiff, reduceIte, v3, v2, r1, b1, b2, b3, a6 (q * 2) (by omega), a6 (q * 2 + 1) (by omega), spotsC_x, spotsC_y, ha]
  have okC : HOk (nq + 1) ((nq, ⟨2, cl [SV.int .i8 (px : Int), SV.int .i8 (py : Int)], true, none⟩) :: hq) := I.ok.consF fun k hk => pair_flat _ _ hk
  have exC : HExt nq hq ((nq, ⟨2, cl [SV.int .i8 (px : Int), SV.int .i8 (py : Int)], true, none⟩) :: hq) := by simp only [go_sem, HExt_cons]
  have IC := I.to (Nat.le_succ nq) okC exC
  by_cases hmet : A.getD q (0, 0) ∈ (partN (isB S p) A q).flatten
  · have hdg : dig m (py * 8 + px) ≠ 0 := (hM px py hpx hpy).2 (by rw [← ha]; exact hmet)
    refine T_look (i := n + 1) (b := bm) (m := m) (px := px) (py := py) (e := 4) (by first | (simp only [go_sem, Nat.reduceLT]; done) | (simp only [go_sem, Nat.reduceBEq, Nat.reduceLT, Nat.reduceLeDiff, Nat.reduceAdd, Nat.reduceMul, Nat.reduceSub, Nat.reduceMod, Nat.reduceDiv, Nat.reduceEqDiff, Int.reduceToNat, reduceIte, reduceCtorEq, Int.reduceLE, Int.reduceLT, Int.reduceEq, Int.reduceNeg, Int.reduceAdd, Int.reduceSub, Int.reduceMul]; trivial)) mapTy boolZ (by simp only [go_sem, Nat.reduceLT]) (by simp only [go_sem]) hpx hpy IC.mp (B := true) (decide_eq_true hdg) ?_
    simp only [go_sem, Nat.reduceLT]
    refine ⟨⟨(q + 1, _, nq + 1, m, (j, cap, sc, r, cp)), by show q + 1 ≤ A.length; omega, by rw [partN_old hmet]; exact IC, by rw [partN_old hmet]; exact hM⟩, by show A.length - (q + 1) < A.length - q; omega, ?_⟩
    refine Imp.id (by show n ≤ nq + 1; omega) ?_ (impH.base0 okC (Nat.le_refl _) HExt.rfl)
    simp only [go_sem, Nat.reduceLT, hFl, SV.lt_mono (show n ≤ nq + 1 by omega) _ hfl, partN_old hmet, w64N (a := (q : Int) + 1) (k := q + 1) (by omega) (by omega)]
    (try (repeat' apply And.intro) <;> first | omega | rfl | trivial | assumption | skip)
  have hdg : ¬ dig m (py * 8 + px) ≠ 0 := fun e => hmet (by rw [ha]; exact (hM px py hpx hpy).1 e)
  refine T_look (i := n + 1) (b := bm) (m := m) (px := px) (py := py) (e := 4) (by first | (simp only [go_sem, Nat.reduceLT]; done) | (simp only [go_sem, Nat.reduceBEq, Nat.reduceLT, Nat.reduceLeDiff, Nat.reduceAdd, Nat.reduceMul, Nat.reduceSub, Nat.reduceMod, Nat.reduceDiv, Nat.reduceEqDiff, Int.reduceToNat, reduceIte, reduceCtorEq, Int.reduceLE, Int.reduceLT, Int.reduceEq, Int.reduceNeg, Int.reduceAdd, Int.reduceSub, Int.reduceMul]; trivial)) mapTy boolZ (by simp only [go_sem, Nat.reduceLT]) (by simp only [go_sem]) hpx hpy IC.mp (B := false) (decide_eq_false hdg) ?_
  simp only [go_sem, Nat.reduceLT]
  refine callA_false (reach_E ⟨cx.w0, cx.W, 44, n⟩ _ (nq + 1) i S ((px : Int), (py : Int)) (IC.ex i hi _ hs) (by omega) hR hsm ha8 f e b G F (SV.lt_mono (by omega) _ hfl) p (fun x y hb nt n0 h' n' hn' hx' => hp x y hb nt n0 h' n' (by omega) (IC.ex.tr hx' (by omega))) _ fun V2 h2 n2 hn2 hx2 ok2 hV2 => ?_)
  have Vo2 := hV2.ok
  have I2 := IC.to hn2 ok2 hx2
  obtain ⟨hR64, hR8⟩ := reachL_len his ha8
  have hnewL : partN (isB S p) A (q + 1) = partN (isB S p) A q ++ [reachL (isB S p) ((px : Int), (py : Int))] := by rw [partN_new hmet, ha]
  generalize hRR : reachL (isB S p) ((px : Int), (py : Int)) = R at *
  obtain ⟨jr, capR, sR, rfl, c1, c2, c3, c4, c5, c6, c7⟩ := hV2
  simp only [go_sem, Nat.reduceLT]
  refine T_lp (ι := { w : Nat × List (Nat × Seg) × Nat × Nat // (w.1 ≤ R.length ∧ n2 ≤ w.2.2.1) ∧ PI h n (n + 1) bm ja sA w.2.1 w.2.2.1 w.2.2.2 j cap sc r cp (partN (isB S p) A q) ∧ MetIs w.2.2.2 ((partN (isB S p) A q).flatten ++ R.take w.1) ∧ hget w.2.1 jr = some sR })
    (fun w => ([(0, .ptr i 0), (1, .fn f e G b F), (5, .sl j 0 (partN (isB S p) A q).length cap), (6, .raw (.map (some bm))), (9, .sl jr 0 R.length capR), (16, .sl ja 0 A.length capA), (17, .int .i64 A.length), (18, .int .i64 ((q : Nat) : Int)), (29, .sl jr 0 R.length capR), (30, .int .i64 R.length), (31, .int .i64 ((w.1.1 : Nat) : Int))], w.1.2.1, w.1.2.2.1)) (fun w => R.length - w.1.1)
    ⟨(0, h2, n2, m), ⟨Nat.zero_le _, Nat.le_refl _⟩, I2, by simpa using hM, c3⟩ ?_ ?_
  · refine Imp.id (by show n ≤ n2; omega) ?_ (impH.base0 ok2 (Nat.le_refl _) HExt.rfl)
    simp only [go_sem, Nat.reduceLT, hFl, SV.lt_mono (show n ≤ n2 by omega) _ hfl]
    (try (repeat' apply And.intro) <;> first | omega | rfl | trivial | assumption | skip)
  rintro ⟨⟨k, hr, nr, mr⟩, ⟨hk, hrn⟩, J, hMr, g3⟩
  simp only at hk hrn J hMr g3
  have hjr := J.lss.lt
  have hji := J.jim
  simp only [go_sem, Nat.reduceLT, Nat.reduceLeDiff, decide_eq_true_eq, decide_eq_false_iff_not]
  refine ⟨fun k1 => ?_, fun k1 => ?_⟩
  · have q1 : (0 : Int) ≤ k ∧ (k : Int) < R.length := ⟨by omega, by omega⟩
    have hko : k < R.length := by omega
    have d1 : k * 2 ≤ sR.n - 2 := by omega
    have d2 : 2 ≤ sR.n := by omega
    have d3 : k * 2 + 2 ≤ sR.n := by omega
    have hjrn : jr < nr := by omega
    obtain ⟨ux, uy, hu, hux, huy⟩ : ∃ ux uy : Nat, R.getD k (0, 0) = ((ux : Int), (uy : Int)) ∧ ux < 8 ∧ uy < 8 := by
      obtain ⟨⟨e1, e2⟩, e3, e4⟩ := hR8 _ (spots_at hko)
      refine ⟨(R.getD k (0, 0)).1.toNat, (R.getD k (0, 0)).2.toNat, Prod.ext ?_ ?_, by omega, by omega⟩
      · show (R.getD k (0, 0)).1 = ((R.getD k (0, 0)).1.toNat : Int); omega
      · show (R.getD k (0, 0)).2 = ((R.getD k (0, 0)).2.toNat : Int); omega
    simp only [go_sem, Nat.reduceLT, Nat.reduceEqDiff, reduceIte, g3, hjrn, q1, d1, d2, d3, c7 (k * 2) (by omega), c7 (k * 2 + 1) (by omega), spotsC_x, spotsC_y, hu]
    have okR : HOk (nr + 1) ((nr, ⟨2, cl [SV.int .i8 (ux : Int), SV.int .i8 (uy : Int)], true, none⟩) :: hr) := J.ok.consF fun k hk => pair_flat _ _ hk
    have exR : HExt nr hr ((nr, ⟨2, cl [SV.int .i8 (ux : Int), SV.int .i8 (uy : Int)], true, none⟩) :: hr) := by simp only [go_sem, HExt_cons]
    have JR := (J.to (Nat.le_succ nr) okR exR)
    have JM := JR.mark (mpS bm (addD mr (uy * 8 + ux))) fun k hk => absurd hk (Nat.not_lt_zero k)
    have hMM := hMr.add hux huy
    have etk : (partN (isB S p) A q).flatten ++ R.take k ++ [((ux : Int), (uy : Int))] = (partN (isB S p) A q).flatten ++ R.take (k + 1) := by
      rw [List.append_assoc, List.take_succ, List.getElem?_eq_getElem hko]
      congr 2
      rw [← hu, List.getD_eq_getElem?_getD, List.getElem?_eq_getElem hko]
      rfl
    rw [etk] at hMM
    refine T_mapUp (i := n + 1) (b := bm) (m := mr) (px := ux) (py := uy) (e := 4) mapTy (by simp only [go_sem, Nat.reduceLT]) (by simp only [go_sem]) (by simp only [go_sem]) hux huy JR.mp ?_
    have g3M : hget (hset ((nr, (⟨2, cl [SV.int .i8 (ux : Int), SV.int .i8 (uy : Int)], true, none⟩ : Seg)) :: hr) (n + 1) (mpS bm (addD mr (uy * 8 + ux)))) jr = some sR := by
      rw [hget_hset, if_neg (by omega)]; exact exR jr hjrn _ g3
    generalize hHH : hset ((nr, (⟨2, cl [SV.int .i8 (ux : Int), SV.int .i8 (uy : Int)], true, none⟩ : Seg)) :: hr) (n + 1) (mpS bm (addD mr (uy * 8 + ux))) = hM' at *
    simp only [go_sem, Nat.reduceLT]
    refine ⟨⟨(k + 1, hM', nr + 1, addD mr (uy * 8 + ux)), ⟨by show k + 1 ≤ R.length; omega, by show n2 ≤ nr + 1; omega⟩, JM, hMM, g3M⟩, by show R.length - (k + 1) < R.length - k; omega, ?_⟩
    refine Imp.id (by show n ≤ nr + 1; omega) ?_ (impH.base0 JM.ok (Nat.le_refl _) HExt.rfl)
    simp only [go_sem, Nat.reduceLT, hFl, SV.lt_mono (show n ≤ nr + 1 by omega) _ hfl, w64N (a := (k : Int) + 1) (k := k + 1) (by omega) (by omega)]
    (try (repeat' apply And.intro) <;> first | omega | rfl | trivial | assumption | skip)
  have ek : k = R.length := by omega
  subst ek
  rw [List.take_length] at hMr
  have v5 := J.lss.seg
  have v6 := J.lss.le
  have v7 := J.lss.cap
  have v8 : nr ≠ j := by omega
  have v9 : nr + 1 ≠ j := by omega
  simp only [go_sem, Nat.reduceLT, Nat.reduceLeDiff, v5, hjr, v8, v9]
  refine ⟨⟨v6, v7, by omega⟩, fun cap' m1 m2 => ?_⟩
  generalize hC : upd (zrow _) 0 (SV.sl jr 0 R.length capR) = C
  have hC0 : C 0 = .sl jr 0 R.length capR := by rw [← hC]; rfl
  have him := I.iml
  have key := J.app (cap' := cap') (cpR := capR) (c1 := C) (R := R) (jr := jr) (w := some (46, 1)) ⟨sR, g3, c4, c5, c7⟩ (by omega) (by omega) (by omega) (by omega) (fun k hk => by have := I.lss.rlt k hk; omega) hC0 m1 m2 rfl
  rw [← hnewL] at key
  have hlen : (partN (isB S p) A (q + 1)).length = (partN (isB S p) A q).length + 1 := by rw [hnewL, List.length_append]; rfl
  refine ⟨⟨(q + 1, _, nr + 2, mr, (nr + 1, cap', _, _, _)), by show q + 1 ≤ A.length; omega, key, by rw [hnewL, List.flatten_append]; simpa using hMr⟩, by show A.length - (q + 1) < A.length - q; omega, ?_⟩
  refine Imp.id (by show n ≤ nr + 2; omega) ?_ (impH.base0 key.ok (Nat.le_refl _) HExt.rfl)
  simp only [go_sem, Nat.reduceLT, hFl, SV.lt_mono (show n ≤ nr + 2 by omega) _ hfl, hlen, w64N (a := (q : Int) + 1) (k := q + 1) (by omega) (by omega)]
  (try (repeat' apply And.intro) <;> first | omega | rfl | trivial | assumption | skip)
end
end Go.Proofs.Ytddnnodkkdjniaa.V

/- BlotsOf and PuddlesOf: the program's own code. -/
namespace Go.Proofs.Ytddnnodkkdjniaa.V
/-- The cells that are asked for, in order. -/
def thoseL (S : Sh) (p : Int → Int → Bool) : LSp := (cellsL S.wide.toNat S.high.toNat).filter fun a => p a.1 a.2
noncomputable def blotsR (S : Sh) (least : Int) : List LSp × Int :=
  if codeI S (decide (1 ≤ least ∧ least ≤ 3000)) = 0 then (partN (isB S (lstP S least)) (thoseL S (lstP S least)) (thoseL S (lstP S least)).length, 0) else ([], codeI S (decide (1 ≤ least ∧ least ≤ 3000)))
theorem thoseL_in8 {S : Sh} (hS : Small S) (p : Int → Int → Bool) : In8s (thoseL S p) := fun a ha => by
  obtain ⟨h1, -⟩ := List.mem_filter.1 ha
  obtain ⟨k, hk, e⟩ := List.mem_map.1 h1
  rw [List.mem_range] at hk
  obtain ⟨hW, hH, _, _⟩ := valid_sides hS
  have := hasB_in hS (hasB_jW hW hH hk)
  rw [← e]
  exact ⟨⟨this.1, this.2.1⟩, this.2.2⟩
theorem thoseL_len {S : Sh} (hS : Small S) (p : Int → Int → Bool) : (thoseL S p).length ≤ 64 := by
  obtain ⟨hW, hH, hW8, hH8⟩ := valid_sides hS
  refine Nat.le_trans (List.length_filter_le _ _) ?_
  rw [cellsL_len]
  exact Nat.mul_le_mul hH8 hW8
theorem parts_small {S : Sh} (hS : Small S) (p : Int → Int → Bool) : (partN (isB S p) (thoseL S p) (thoseL S p).length).length ≤ 64 ∧ ∀ k, ((partN (isB S p) (thoseL S p) (thoseL S p).length).getD k []).length ≤ 64 :=
  ⟨Nat.le_trans (partN_len _ _ _) (thoseL_len hS p), fun k => partN_rows64 (isB_8 hS p) (thoseL_in8 hS p) _ (Nat.le_refl _) k⟩
theorem blotsR_small (S : Sh) (least : Int) : (blotsR S least).1.length ≤ 64 ∧ ∀ k, ((blotsR S least).1.getD k []).length ≤ 64 := by
  unfold blotsR; split
  · rename_i hc; exact parts_small (codeI_0 hc).1.1 _
  · exact ⟨Nat.zero_le _, fun k => by simp⟩
section
variable (cx : Cx) (h : List (Nat × Seg)) (n : Nat)
theorem blots1_Q (iv il : Nat) (S : Sh) (x y least : Int) (hv : hget h iv = some (shS S)) (hi : iv < n) (hR : ShR S) (hG : Good S) (hh : hasB S x y = true) (hl : hget h il = some ⟨1, cl [.int .i64 least], true, none⟩) (hln : il < n) :
    CallQ Try.prog cx 31 [spot x y, .ptr iv 0, .ptr il 0] h n (.bool (lstP S least x y)) := by
  obtain ⟨x0, x8, y0, y8⟩ := hasB_in hG.small hh
  have hnl : n ≠ il := by omega
  refine callQ_of_T (P := Try.prog) hti (nt := 9) (rs := [.tmp 4]) rfl rfl Try.call31 Try.func31 rfl _ (by simp only [go_sem, and_self]) (Nat.le_of_ble_eq_true rfl) _ (by first | exact trivial | (refine lt_flat rfl ?_; simp [SV.flat]; done) | simp only [go_sem]) fun hok => ?_
  simp only [go_sem, Nat.reduceLT]
  refine T_draw hti _ _ (by kernel_rfl) (by kernel_rfl) ?_
  simp only [go_sem, Nat.reduceLT, hl, hln, hnl]
  refine (dark_Q _ _ _ iv 0 _ S x y (by simp only [go_sem, hv, hi]) (by omega) (shAt_shC hR) hG x0 x8 y0 y8).A ?_
  simp only [go_sem, Nat.reduceLT, hl, hln, hnl, ge_iff_le, lstP]
theorem blots_E (S : Sh) (hR : ShR S) (least : Int) (K : HK)
    (hK : ∀ V h' n', n ≤ n' → HExt n h h' → HOk n' h' → LssOut h' n n' V (blotsR S least).1 → K (.tup 2 (cl [V, .int .i64 (blotsR S least).2])) h' n') :
    CallE Try.prog cx 12 [.agg 266 (shC S), .int .i64 least] h n K := by
  refine CallE.hokE ?_
  refine callE_of_T (P := Try.prog) hti (nt := 15) (rs := [.tmp 4, .tmp 5]) rfl rfl Try.call12 Try.func12 rfl _ (by simp only [go_sem, and_self]) (Nat.le_of_ble_eq_true rfl) _ fun hok => ?_
  simp only [go_sem, Nat.reduceLT]
  refine (isDarkness_Q _ _ _ least).A ?_
  simp only [go_sem, Nat.reduceLT]
  refine (code_Q _ _ _ n 0 (shS S) S (decide (1 ≤ least ∧ least ≤ 3000)) (by simp only [go_sem]) (by omega) (shAt_shC hR)).A ?_
  by_cases hc : codeI S (decide (1 ≤ least ∧ least ≤ 3000)) = 0
  rotate_left
  · have e : blotsR S least = ([], codeI S (decide (1 ≤ least ∧ least ≤ 3000))) := by unfold blotsR; rw [if_neg hc]
    rw [e] at hK
    simp only [go_sem, Nat.reduceLT, hc]
    exact fun hok' => hK _ _ _ (by omega) (by simp only [go_sem, HExt_cons]) hok' (.inl ⟨rfl, rfl⟩)
  obtain ⟨hV, -⟩ := codeI_0 hc
  have hsm := hV.1
  obtain ⟨hW, hH, hW8, hH8⟩ := valid_sides hsm
  have e : blotsR S least = (partN (isB S (lstP S least)) (thoseL S (lstP S least)) (thoseL S (lstP S least)).length, 0) := by unfold blotsR; rw [if_pos hc]
  rw [e] at hK
  simp only [go_sem, Nat.reduceLT, hc]
  refine callA_false (parts_E ⟨cx.w0, cx.W, 15, n⟩ _ (n + 2) n S _ _ (by simp only [go_sem]) (by omega) hR hsm hW hH hW8 hH8 _ _ _ _ _ ?_ (lstP S least) (fun x' y' hb => ?_) _ fun V h' n' hn' hx' hok' hV' => ?_)
  · exact fn_lt (xs := []) (ys := [.ptr n 0, .ptr (n + 1) 0]) (fun v hv => by cases hv) (fun v hv => by simp at hv; rcases hv with rfl | rfl; exact (show n < _ by omega); exact (show n + 1 < _ by omega))
  · intro nt n0 h1 n1 hn1 hx1
    exact blots1_Q _ h1 n1 n (n + 1) S x' y' least (hx1 n (by omega) _ (by simp only [go_sem])) (by omega) hR hV.good hb (hx1 (n + 1) (by omega) _ (by simp only [go_sem])) (by omega)
  · have Vo := hV'.ok
    simp only [go_sem, Nat.reduceLT, Vo]
    exact fun hok2 => hK V h' n' (by omega) (HExt.tr (m' := n + 2) (by simp only [go_sem, HExt_cons]) hx' (by omega)) hok2 (hV'.mlo (by omega))
end
end Go.Proofs.Ytddnnodkkdjniaa.V

/- BlotsOf: the reference's walk. -/
namespace Go.Proofs.Ytddnnodkkdjniaa.V
theorem upM_reach {is : Int → Int → Bool} (his : ∀ x y, is x y = true → In8 (x, y)) {a : Int × Int} (ha : In8 a) : upM (bfs is 65 [a] 0) 64 = reachL is a :=
  upM_setL (BOk.bfs his 65 [a] 0 (BOk.one ha)).in8
section
variable (cx : Cx) (h : List (Nat × Seg)) (n : Nat)
set_option maxHeartbeats 3200000 in
theorem blots2_E (S : Sh) (hR : ShR S) (least : Int) (K : HK)
    (hK : ∀ V h' n', n ≤ n' → HExt n h h' → HOk n' h' → LssOut h' n n' V (blotsR S least).1 → K (.tup 2 (cl [V, .int .i64 (blotsR S least).2])) h' n') :
    CallE Try.prog cx 11 [.agg 266 (shC S), .int .i64 least] h n K := by
  refine CallE.hokE ?_
  refine callE_of_T (P := Try.prog) hti (nt := 73) (rs := [.tmp 4, .tmp 5]) rfl rfl Try.call11 Try.func11 rfl _ (by simp only [go_sem, and_self]) (Nat.le_of_ble_eq_true rfl) _ fun hok => ?_
  have okZ : HOk (n + 2) ((n + 1, ⟨0, zrow (ti 46), true, some (46, 0)⟩) :: (n, shS S) :: h) := (hok.consF fun k hk => shC_flat _ _).consF fun k hk => absurd hk (Nat.not_lt_zero k)
  have lsZ : ∀ {hq : List (Nat × Seg)} {nq : Nat}, n + 2 ≤ nq → hget hq (n + 1) = some ⟨0, zrow (ti 46), true, some (46, 0)⟩ → Lss hq (n + 1) nq (n + 1) 0 (zrow (ti 46)) (fun _ => 0) (fun _ => 0) [] := fun h1 h2 =>
    ⟨Nat.le_refl _, by omega, h2, Nat.le_refl _, by decide, fun k hk => absurd hk (Nat.not_lt_zero k), fun k hk => absurd hk (Nat.not_lt_zero k), fun k hk => absurd hk (Nat.not_lt_zero k), fun k hk => absurd hk (Nat.not_lt_zero k), fun k hk => absurd hk (Nat.not_lt_zero k), fun k k' hk hk' => absurd hk' (Nat.not_lt_zero k')⟩
  have bad : ∀ c, blotsR S least = ([], c) → K (.tup 2 (cl [.sl (n + 1) 0 0 0, .int .i64 c])) ((n + 1, ⟨0, zrow (ti 46), true, some (46, 0)⟩) :: (n, shS S) :: h) (n + 2) := fun c e => by
    have := hK (.sl (n + 1) 0 0 0) _ (n + 2) (by omega) (by simp only [go_sem, HExt_cons]) okZ (by rw [e]; exact .inr ⟨n + 1, 0, _, _, _, rfl, (lsZ (Nat.le_refl _) (hget_hit _ _ _)).mlo (by omega)⟩)
    rw [e] at this; exact this
  simp only [go_sem, Nat.reduceLT]
  refine (ok2_Q _ _ _ n 0 (shS S) S (by simp only [go_sem]) (by omega) (shAt_shC hR)).A ?_
  by_cases hV : Valid S
  rotate_left
  · have e : blotsR S least = ([], 1) := by unfold blotsR; rw [codeI_bad hV]; rfl
    simp only [go_sem, Nat.reduceLT, validB_false hV]
    exact fun _ => bad _ e
  simp only [go_sem, Nat.reduceLT, validB_true hV]
  refine (least2_Q _ _ _ least).A ?_
  by_cases hc : 1 ≤ least ∧ least ≤ 3000
  rotate_left
  · have e : blotsR S least = ([], 2) := by unfold blotsR; rw [codeI_ok hV, decide_eq_false hc]; rfl
    simp only [go_sem, Nat.reduceLT, hc]
    exact fun _ => bad _ e
  have hsm := hV.1
  obtain ⟨hW, hH, hW8, hH8⟩ := valid_sides hsm
  have his := isB_8 hsm (lstP S least)
  have e : blotsR S least = (partN (isB S (lstP S least)) (thoseL S (lstP S least)) (thoseL S (lstP S least)).length, 0) := by unfold blotsR; rw [codeI_ok hV, decide_eq_true hc]; rfl
  rw [e] at hK
  simp only [go_sem, Nat.reduceLT, Nat.reduceEqDiff, reduceIte, hc]
  refine callA_false (dyed2_E _ _ _ n S _ _ (by simp only [go_sem]) (by omega) hR hV.good hW hH hW8 hH8 least _ fun V1 h1 n1 hn1 hx1 ok1 hV1 => ?_)
  have hA64 := thoseL_len hsm (lstP S least)
  have hA8 := thoseL_in8 hsm (lstP S least)
  change SpsOut h1 _ n1 V1 (thoseL S (lstP S least)) at hV1
  generalize thoseL S (lstP S least) = A at *
  have Vo := hV1.ok
  simp only [go_sem, Nat.reduceLT, Vo]
  have X1 : HExt n h h1 := HExt.tr (m' := n + 3) (by simp only [go_sem, HExt_cons]) hx1 (by omega)
  have g1 : hget h1 (n + 1) = some ⟨0, zrow (ti 46), true, some (46, 0)⟩ := hx1 (n + 1) (by omega) _ (by simp only [go_sem, Nat.reduceLT])
  have g0 : hget h1 n = some (shS S) := hx1 n (by omega) _ (by simp only [go_sem])
  have g2 : hget h1 (n + 2) = some (mkS []) := hx1 (n + 2) (by omega) _ (hget_hit _ _ _)
  have e0 : HExt (n + 1) ((n, shS S) :: h) h1 := fun z hz t ht => by
    simp only [hget] at ht
    split at ht
    · rename_i ez; cases ht; rw [← ez]; exact g0
    · exact X1 z (by omega) t ht
  rcases hV1 with ⟨rfl, rfl⟩ | ⟨ja, capA, sA, rfl, a1, a2, a3, a4, a5, a6⟩
  · refine T_unroll 0 ?_
    simp only [go_sem, Nat.reduceLT, Int.reduceLT]
    exact fun hok' => hK _ _ _ (by omega) X1 hok' (.inr ⟨n + 1, 0, _, _, _, rfl, (lsZ (by omega) g1).mlo (by omega)⟩)
  have I0 : QI ((n, shS S) :: h) (n + 1) (n + 2) (mkS []) ja sA h1 n1 (n + 1) 0 (zrow (ti 46)) (fun _ => 0) (fun _ => 0) [] :=
    ⟨by omega, ok1, e0, lsZ (by omega) g1, g2, by omega, by omega, by omega, fun k hk => absurd hk (Nat.not_lt_zero k), a3, a2, by omega, by omega, by omega⟩
  refine T_lp (ι := { w : Nat × List (Nat × Seg) × Nat × (Nat × Nat × (Nat → SV) × (Nat → Nat) × (Nat → Nat)) // w.1 ≤ A.length ∧ QI ((n, shS S) :: h) (n + 1) (n + 2) (mkS (partN (isB S (lstP S least)) A w.1).flatten) ja sA w.2.1 w.2.2.1 w.2.2.2.1 w.2.2.2.2.1 w.2.2.2.2.2.1 w.2.2.2.2.2.2.1 w.2.2.2.2.2.2.2 (partN (isB S (lstP S least)) A w.1) })
    (fun w => ([(1, .int .i64 least), (2, .ptr n 0), (6, .sl w.1.2.2.2.1 0 (partN (isB S (lstP S least)) A w.1.1).length w.1.2.2.2.2.1), (7, .ptr (n + 2) 0), (8, .sl ja 0 A.length capA), (9, .int .i64 ((w.1.1 : Nat) : Int))], w.1.2.1, w.1.2.2.1)) (fun w => A.length - w.1.1)
    ⟨(0, h1, n1, (n + 1, 0, zrow (ti 46), fun _ => 0, fun _ => 0)), Nat.zero_le _, I0⟩ ?_ ?_
  · refine Imp.id (by show n ≤ n1; omega) ?_ (impH.base0 ok1 (Nat.le_refl _) HExt.rfl)
    simp only [go_sem, Nat.reduceLT, partN]
    (try (repeat' apply And.intro) <;> first | omega | rfl | trivial | assumption | skip)
  rintro ⟨⟨q, hq, nq, j, cap, sc, r, cp⟩, hqA, I⟩
  simp only at hqA I
  have hn0 := I.hn
  have hjn := I.lss.lt
  have him := I.iml
  have hLL := partN_len (isB S (lstP S least)) A q
  simp only [go_sem, Nat.reduceLT, decide_eq_true_eq, decide_eq_false_iff_not]
  refine ⟨fun h1 => ?_, fun h1 => ?_⟩
  rotate_left
  · have eq1 : q = A.length := by omega
    subst eq1
    try simp only [go_sem, Nat.reduceBEq, Nat.reduceLT, Nat.reduceLeDiff, Nat.reduceAdd, Nat.reduceMul, Nat.reduceSub, Nat.reduceMod, Nat.reduceDiv, Nat.reduceEqDiff, Int.reduceToNat, reduceIte, reduceCtorEq, Int.reduceLE, Int.reduceLT, Int.reduceEq, Int.reduceNeg, Int.reduceAdd, Int.reduceSub, Int.reduceMul]
    refine fun hok' => hK _ _ _ (by omega) (HExt.tr (m' := n + 1) (by simp only [go_sem, HExt_cons]) I.ex (by omega)) hok' (.inr ⟨j, cap, sc, r, cp, rfl, I.lss.mlo (by omega)⟩)
  have r1 : (0 : Int) ≤ q ∧ (q : Int) < A.length := ⟨by omega, by omega⟩
  have hqo : q < A.length := by omega
  have b1 : q * 2 ≤ sA.n - 2 := by omega
  have b2 : 2 ≤ sA.n := by omega
  have b3 : q * 2 + 2 ≤ sA.n := by omega
  have b4 : q * 2 ≤ sA.n - 1 := by omega
  have b5 : q * 2 + 1 ≤ sA.n - 1 := by omega
  have b6 : 1 ≤ sA.n := by omega
  have v3 := I.row
  have v2 := I.jal
  have v4 := I.mp
  have a8 := hA8 _ (spots_at hqo)
  obtain ⟨c, hcc⟩ : ∃ c, A.getD q (0, 0) = c := ⟨_, rfl⟩
  rw [hcc] at a8
  obtain ⟨⟨x0, x8⟩, y0, y8⟩ := a8
  have hmd := mkC_at (partN (isB S (lstP S least)) A q).flatten y0 x0 x8
  have hd63 : c.2.toNat * 8 + c.1.toNat ≤ 63 := by omega
  have a8 : In8 c := ⟨⟨x0, x8⟩, y0, y8⟩
  have b7 : q * 2 + 1 ≤ sA.n := by omega
  by_cases hmet : A.getD q (0, 0) ∈ (partN (isB S (lstP S least)) A q).flatten
  · have hm' : ((c.1, c.2) ∈ (partN (isB S (lstP S least)) A q).flatten) = True := eq_true (by rw [← hcc]; exact hmet)
    refine T_draw hti _ _ (by kernel_rfl) (by kernel_rfl) ?_
    simp only [go_sem, Nat.reduceLT, Nat.reduceLeDiff, reduceCtorEq, v3, v2, v4, him, r1, b1, b2, b3, b4, b5, b6, a6 (q * 2) (by omega), a6 (q * 2 + 1) (by omega), spotsC_x, spotsC_y, hcc, x0, x8, y0, y8, hmd, hd63, hm']
    refine ⟨b7, ⟨(q + 1, hq, nq, (j, cap, sc, r, cp)), by show q + 1 ≤ A.length; omega, by rw [partN_old hmet]; exact I⟩, by show A.length - (q + 1) < A.length - q; omega, ?_⟩
    refine Imp.id (by show n ≤ nq; omega) ?_ (impH.base0 I.ok (Nat.le_refl _) HExt.rfl)
    simp only [go_sem, Nat.reduceLT, partN_old hmet, w64N (a := (q : Int) + 1) (k := q + 1) (by omega) (by omega)]
    (try (repeat' apply And.intro) <;> first | omega | rfl | trivial | assumption | skip)
  have hm' : ((c.1, c.2) ∈ (partN (isB S (lstP S least)) A q).flatten) = False := eq_false (by show ¬ (c ∈ _); rw [← hcc]; exact hmet)
  refine T_draw hti _ _ (by kernel_rfl) (by kernel_rfl) ?_
  simp only [go_sem, Nat.reduceLT, Nat.reduceLeDiff, reduceCtorEq, v3, v2, v4, him, r1, b1, b2, b3, b4, b5, b6, a6 (q * 2) (by omega), a6 (q * 2 + 1) (by omega), spotsC_x, spotsC_y, hcc, x0, x8, y0, y8, hmd, hd63, hm']
  refine ⟨b7, ?_⟩
  have g0q : hget hq n = some (shS S) := I.ex n (by omega) _ (hget_hit _ _ _)
  refine (maskAt_Q _ _ _ n S c least g0q (by omega) hR hV.good a8).A ?_
  simp only [go_sem, Nat.reduceLT, Nat.reduceEqDiff, reduceIte]
  have okM : HOk (nq + 1) ((nq, mkS (bfs (isB S (lstP S least)) 65 [c] 0)) :: hq) := I.ok.consF fun k hk => mkC_flat _ _
  have exM : HExt nq hq ((nq, mkS (bfs (isB S (lstP S least)) 65 [c] 0)) :: hq) := by simp only [go_sem, HExt_cons]
  have IM := I.to (Nat.le_succ nq) okM exM
  refine callA_false (list_E _ _ _ nq _ (hget_hit _ _ _) (by omega) _ fun V2 h2 n2 hn2 hx2 ok2 hV2 => ?_)
  rw [upM_reach his a8] at hV2
  have I2 := IM.to hn2 ok2 hx2
  obtain ⟨hR64, hR8⟩ := reachL_len his a8
  have hnewL : partN (isB S (lstP S least)) A (q + 1) = partN (isB S (lstP S least)) A q ++ [reachL (isB S (lstP S least)) c] := by rw [partN_new hmet, hcc]
  generalize hRR : reachL (isB S (lstP S least)) c = R at *
  obtain ⟨jr, capR, sR, rfl, c1, c2, c3, c4, c5, c6, c7⟩ := hV2
  have v5 := I2.lss.seg
  have v6 := I2.lss.le
  have v7 := I2.lss.cap
  have hjn2 := I2.lss.lt
  have v8 : n2 ≠ j := by omega
  have v9 : n2 + 1 ≠ j := by omega
  simp only [go_sem, Nat.reduceLT, Nat.reduceLeDiff, v5, hjn2, v8, v9]
  refine ⟨⟨v6, v7, by omega⟩, fun cap' m1 m2 => ?_⟩
  generalize hC : upd (zrow _) 0 (SV.sl jr 0 R.length capR) = C
  have hC0 : C 0 = .sl jr 0 R.length capR := by rw [← hC]; rfl
  have key := I2.app (cap' := cap') (cpR := capR) (c1 := C) (R := R) (jr := jr) (w := some (46, 1)) ⟨sR, c3, c4, c5, c7⟩ (by omega) (by omega) (by omega) (by omega) (fun k hk => by have := I.lss.rlt k hk; omega) hC0 m1 m2 rfl
  rw [← hnewL] at key
  have hlen : (partN (isB S (lstP S least)) A (q + 1)).length = (partN (isB S (lstP S least)) A q).length + 1 := by rw [hnewL, List.length_append]; rfl
  have hflat : (partN (isB S (lstP S least)) A (q + 1)).flatten = (partN (isB S (lstP S least)) A q).flatten ++ R := by rw [hnewL, List.flatten_append]; simp
  have g3N : hget ((n2 + 1, (⟨(partN (isB S (lstP S least)) A q).length + 1, both (partN (isB S (lstP S least)) A q).length sc (news C 0), true, some (46, cap')⟩ : Seg)) :: (n2, ⟨1, C, true, some (46, 1)⟩) :: hdel h2 j) jr = some sR := by
    simp only [hget]
    rw [if_neg (by omega), if_neg (by omega), hget_hdel, if_neg (by omega)]
    exact c3
  generalize hHN : ((n2 + 1, (⟨(partN (isB S (lstP S least)) A q).length + 1, both (partN (isB S (lstP S least)) A q).length sc (news C 0), true, some (46, cap')⟩ : Seg)) :: (n2, ⟨1, C, true, some (46, 1)⟩) :: hdel h2 j) = hN at *
  generalize both (partN (isB S (lstP S least)) A q).length sc (news C 0) = sc' at key
  generalize (fun k => if k < (partN (isB S (lstP S least)) A q).length then r k else jr) = r' at key
  generalize (fun k => if k < (partN (isB S (lstP S least)) A q).length then cp k else capR) = cp' at key
  refine T_lp (ι := { w : Nat × List (Nat × Seg) // w.1 ≤ R.length ∧ QI ((n, shS S) :: h) (n + 1) (n + 2) (mkS ((partN (isB S (lstP S least)) A q).flatten ++ R.take w.1)) ja sA w.2 (n2 + 2) (n2 + 1) cap' sc' r' cp' (partN (isB S (lstP S least)) A (q + 1)) ∧ hget w.2 jr = some sR })
    (fun w => ([(1, .int .i64 least), (2, .ptr n 0), (6, .sl (n2 + 1) 0 ((partN (isB S (lstP S least)) A q).length + 1) cap'), (7, .ptr (n + 2) 0), (8, .sl ja 0 A.length capA), (9, .int .i64 ((q : Nat) : Int)), (11, .sl jr 0 R.length capR), (12, .int .i64 ((w.1.1 : Nat) : Int))], w.1.2, n2 + 2)) (fun w => R.length - w.1.1)
    ⟨(0, hN), Nat.zero_le _, by simpa using key, g3N⟩ ?_ ?_
  · refine Imp.id (by show n ≤ n2 + 2; omega) ?_ (impH.base0 key.ok (Nat.le_refl _) HExt.rfl)
    have jal := key.jal
    simp only [go_sem, Nat.reduceLT]
    (try (repeat' apply And.intro) <;> first | omega | rfl | trivial | assumption | skip)
  rintro ⟨⟨k, hr⟩, hk, J, g3⟩
  simp only at hk J g3
  have jiml := J.iml
  have jmp := J.mp
  have jal := J.jal
  simp only [go_sem, Nat.reduceLT, decide_eq_true_eq, decide_eq_false_iff_not]
  refine ⟨fun k1 => ?_, fun k1 => ?_⟩
  rotate_left
  · have ek : k = R.length := by omega
    subst ek
    rw [List.take_length, ← hflat] at J
    try simp only [go_sem, Nat.reduceBEq, Nat.reduceLT, Nat.reduceLeDiff, Nat.reduceAdd, Nat.reduceMul, Nat.reduceSub, Nat.reduceMod, Nat.reduceDiv, Nat.reduceEqDiff, Int.reduceToNat, reduceIte, reduceCtorEq, Int.reduceLE, Int.reduceLT, Int.reduceEq, Int.reduceNeg, Int.reduceAdd, Int.reduceSub, Int.reduceMul]
    refine ⟨⟨(q + 1, hr, n2 + 2, (n2 + 1, cap', sc', r', cp')), by show q + 1 ≤ A.length; omega, J⟩, by show A.length - (q + 1) < A.length - q; omega, ?_⟩
    refine Imp.id (by show n ≤ n2 + 2; omega) ?_ (impH.base0 J.ok (Nat.le_refl _) HExt.rfl)
    simp only [go_sem, Nat.reduceLT, hlen, w64N (a := (q : Int) + 1) (k := q + 1) (by omega) (by omega)]
    (try (repeat' apply And.intro) <;> first | omega | rfl | trivial | assumption | skip)
  have q1 : (0 : Int) ≤ k ∧ (k : Int) < R.length := ⟨by omega, by omega⟩
  have hko : k < R.length := by omega
  have d1 : k * 2 ≤ sR.n - 2 := by omega
  have d2 : 2 ≤ sR.n := by omega
  have d3 : k * 2 + 2 ≤ sR.n := by omega
  have d4 : k * 2 ≤ sR.n - 1 := by omega
  have d5 : k * 2 + 1 ≤ sR.n - 1 := by omega
  have d6 : 1 ≤ sR.n := by omega
  have d7 : k * 2 + 1 ≤ sR.n := by omega
  have hjrn : jr < n2 + 2 := by omega
  have hu8 := hR8 _ (spots_at hko)
  obtain ⟨u, hu⟩ : ∃ u, R.getD k (0, 0) = u := ⟨_, rfl⟩
  rw [hu] at hu8
  obtain ⟨⟨ux0, ux8⟩, uy0, uy8⟩ := hu8
  have hu63 : u.2.toNat * 8 + u.1.toNat ≤ 63 := by omega
  have hst := mkC_set ((partN (isB S (lstP S least)) A q).flatten ++ R.take k) uy0 ux0 ux8
  have emk : mkC ((u.1, u.2) :: ((partN (isB S (lstP S least)) A q).flatten ++ R.take k)) = mkC ((partN (isB S (lstP S least)) A q).flatten ++ R.take (k + 1)) := by
    refine mkC_congr fun p => ?_
    rw [List.take_succ, List.getElem?_eq_getElem hko]
    have : R[k] = u := by rw [← hu, List.getD_eq_getElem?_getD, List.getElem?_eq_getElem hko]; rfl
    rw [this]
    show p ∈ u :: _ ↔ _
    simp [or_comm, or_assoc]
  rw [emk] at hst
  have JM := J.mark (mkS ((partN (isB S (lstP S least)) A q).flatten ++ R.take (k + 1))) fun k hk => (mkC_flat _ k).below _
  have g3M : hget (hset hr (n + 2) (mkS ((partN (isB S (lstP S least)) A q).flatten ++ R.take (k + 1)))) jr = some sR := by
    rw [hget_hset, if_neg (by omega)]; exact g3
  refine T_drawT hti 12 _ _ (by kernel_rfl) (by kernel_rfl) ?_
  simp only [go_sem, Nat.reduceLT, Nat.reduceLeDiff, Nat.reduceEqDiff, reduceIte, reduceCtorEq, g3, hjrn, jmp, jiml, q1, d1, d2, d3, d4, d5, d6, c7 (k * 2) (by omega), c7 (k * 2 + 1) (by omega), spotsC_x, spotsC_y, hu, ux0, ux8, uy0, uy8, hu63, hst]
  refine ⟨d7, ⟨(k + 1, _), by show k + 1 ≤ R.length; omega, JM, g3M⟩, by show R.length - (k + 1) < R.length - k; omega, ?_⟩
  refine Imp.id (by show n ≤ n2 + 2; omega) ?_ (impH.base0 JM.ok (Nat.le_refl _) HExt.rfl)
  simp only [go_sem, Nat.reduceLT, w64N (a := (k : Int) + 1) (k := k + 1) (by omega) (by omega)]
  (try (repeat' apply And.intro) <;> first | omega | rfl | trivial | assumption | skip)
end
end Go.Proofs.Ytddnnodkkdjniaa.V

/- The law of BlotsOf: the walk. -/
namespace Go.Proofs.Ytddnnodkkdjniaa.V
section
variable (cx : Cx) (h : List (Nat × Seg)) (n : Nat)
theorem lawBlotsOf_Q (F : Nat → SV) (S : Sh) (hF : ShF F S) (least : Int) :
    CallQ Try.prog cx 4 [.agg 266 F, .int .i64 least] h n (.bool true) := by
  have hone := hF.ones
  obtain ⟨hRl, hRr⟩ := blotsR_small S least
  refine callQ_of_T (P := Try.prog) hti (nt := 71) (rs := [.tmp 4]) rfl rfl Try.call4 Try.func4 rfl _ (by simp only [go_sem]) (Nat.le_of_ble_eq_true rfl) _ (by trivial) fun hok => ?_
  simp only [go_sem, Nat.reduceLT, hone]
  generalize hRR : (blotsR S least).1 = R at hRl hRr
  generalize hcc : (blotsR S least).2 = c
  refine (toSheet_Q _ _ _ F S hF).A ?_
  simp only [go_sem, Nat.reduceLT, hone]
  refine callA_false (blots2_E _ _ _ S hF.R least _ ?_)
  intro V1 h1 n1 hn1 hx1 ok1 I1
  rw [hRR] at I1
  rw [hcc]
  have V1o := I1.ok
  have g10 : hget h1 n = some ⟨266, F, true, none⟩ := hx1 n (by omega) _ (by simp only [go_sem])
  have X1 : HExt n h h1 := HExt.tr (m' := n + 1) (by simp only [go_sem, HExt_cons]) hx1 (by omega)
  have b10 : n < n1 := by omega
  simp only [go_sem, Nat.reduceLT, V1o, g10, b10, hone]
  refine (toSheet_Q _ _ _ F S hF).A ?_
  simp only [go_sem, Nat.reduceLT, V1o, hone]
  refine callA_false (blots_E _ _ _ S hF.R least _ ?_)
  intro V2 h2 n2 hn2 hx2 ok2 I2
  rw [hRR] at I2
  rw [hcc]
  have V2o := I2.ok
  have X2 := X1.tr hx2 (by omega)
  simp only [go_sem, Nat.reduceLT, V1o, V2o]
  refine (eqSpotSS_Q _ _ _ V2 V1 R _ _ I2 (I1.ext (by omega) hx2) hRl hRr).A ?_
  simp only [go_sem, Nat.reduceLT, V1o, V2o]
  refine callA_false (markSS_E _ _ _ V2 R n1 I2 hRl hRr _ ?_)
  intro h4 ok4 keep4 I24
  have x4 : HExt n1 h1 h4 := keep4 _ _ (by omega) hx2
  have X4 : HExt n h h4 := X1.tr x4 (by omega)
  have I14 : LssOut h4 (n + 1) n2 V1 R := I1.ext (by omega) x4
  have g40 : hget h4 n = some ⟨266, F, true, none⟩ := x4 n (by omega) _ g10
  have b40 : n < n2 := by omega
  have posr : ¬ (1 + 2 * (totN R R.length : Int) < 0) := by omega
  simp only [go_sem, Nat.reduceLT, V1o, V2o]
  refine (heldSS_Q _ _ _ V2 R _ I24 hRl hRr).A ?_
  simp only [go_sem, Nat.reduceLT, V1o, V2o, posr, g40, b40, hone]
  refine (toSheet_Q _ _ _ F S hF).A ?_
  simp only [go_sem, Nat.reduceLT, V1o, V2o, hone]
  refine callA_false (blots_E _ _ _ S hF.R least _ ?_)
  intro V3 h5 n5 hn5 hx5 ok5 I35
  rw [hRR] at I35
  rw [hcc]
  have V3o := I35.ok
  have X5 := X4.tr hx5 (by omega)
  simp only [go_sem, Nat.reduceLT, V1o, V2o, V3o]
  refine (eqSpotSS_Q _ _ _ V3 V1 R _ _ I35 (I14.ext (by omega) hx5) hRl hRr).A ?_
  simp only [go_sem, Nat.reduceLT, V1o, V2o, V3o]
  refine (heldSS_Q _ _ _ V2 R _ (I24.ext (by omega) hx5) hRl hRr).A ?_
  simp only [go_sem, Nat.reduceLT, V1o, V2o, V3o, posr]
  exact X5
end
end Go.Proofs.Ytddnnodkkdjniaa.V
