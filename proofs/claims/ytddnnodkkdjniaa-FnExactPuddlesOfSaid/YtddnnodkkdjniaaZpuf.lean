/- Part 6 of the texts that this proof stands on: a symbolic walk over the program, what its functions and the reference's do, plain laws. -/
import Derived.Test.YtddnnodkkdjniaaV20
import Derived.Test.YtddnnodkkdjniaaTi
import Derived.DeepKeys4
import Derived.Test.YtddnnodkkdjniaaZpue
import Derived.Test.YtddnnodkkdjniaaZpuc
import Derived.Test.YtddnnodkkdjniaaZpub
set_option linter.all false

/- Maps of cells: rules for the walk. -/
namespace Go.Proofs.Ytddnnodkkdjniaa.V
open Go.WideMaps Go.RowKit Go.MapKept
/-! ### Digits -/
def setD (m c v : Nat) : Nat := m + v * 256 ^ c
theorem dig_set {m c v c' : Nat} (h0 : dig m c = 0) (hv : v < 256) : dig (setD m c v) c' = if c' = c then v else dig m c' := by
  unfold dig setD at *
  have hp : ∀ k : Nat, 0 < 256 ^ k := fun k => Nat.pow_pos (by omega)
  by_cases e : c' = c
  · subst e
    rw [if_pos rfl, Nat.add_mul_div_right _ _ (hp _)]
    omega
  · rw [if_neg e]
    by_cases hlt : c < c'
    · obtain ⟨d, rfl⟩ : ∃ d, c' = c + 1 + d := ⟨c' - c - 1, by omega⟩
      have e1 : 256 ^ (c + 1 + d) = 256 ^ c * (256 * 256 ^ d) := by rw [Nat.pow_add, Nat.pow_succ, Nat.mul_assoc]
      rw [e1, ← Nat.div_div_eq_div_mul, ← Nat.div_div_eq_div_mul, Nat.add_mul_div_right _ _ (hp _), ← Nat.div_div_eq_div_mul, ← Nat.div_div_eq_div_mul]
      congr 2
      omega
    · obtain ⟨d, rfl⟩ : ∃ d, c = c' + 1 + d := ⟨c - c' - 1, by omega⟩
      have e1 : v * 256 ^ (c' + 1 + d) = (v * 256 ^ d * 256) * 256 ^ c' := by
        rw [Nat.pow_add, Nat.pow_succ]
        rw [Nat.mul_comm (256 ^ c') 256, Nat.mul_assoc 256, Nat.mul_comm (256 ^ c') (256 ^ d), ← Nat.mul_assoc, ← Nat.mul_assoc]
        congr 1
        rw [Nat.mul_comm v 256, Nat.mul_assoc, Nat.mul_comm]
      rw [e1, Nat.add_mul_div_right _ _ (hp _), Nat.add_mul_mod_self_right]
section
variable {cx : Cx} {ρ : Rho} {l : List (Nat × SV)} {h : List (Nat × Seg)} {n : Nat} {a : Act} {w : World} {K : List (Nat × SV) → List (Nat × Seg) → Nat → Prop}
/-- A new block that is no cells. -/
theorem SatH.spec_new (s : SatH cx ρ h n w) (ob : Obj) (T m : Nat) (c : Nat → SV) (hO : OwnB T m w.heap.size (some ob)) :
    ∃ ρ', (∀ i, i < n → ρ i = ρ' i) ∧ ρ' n = (w.heap.size, 0) ∧ SatH cx ρ' ((n, ⟨0, c, true, some (T, m)⟩) :: h) (n + 1) (w.alloc ob) := by
  refine ⟨fun i => if i = n then (w.heap.size, 0) else ρ i, fun i hi => by simp [Nat.ne_of_lt hi], by simp, ?_⟩
  generalize hρ : (fun i => if i = n then (w.heap.size, 0) else ρ i) = ρ'
  have hr : ∀ i, i < n → ρ i = ρ' i := fun i hi => by rw [← hρ]; simp [Nat.ne_of_lt hi]
  have hn : ρ' n = (w.heap.size, 0) := by rw [← hρ]; simp
  have s2 := (s.keep (Keeps.alloc w ob)).rho hr
  have hnew : SegOK cx ρ' n ⟨0, c, true, some (T, m)⟩ (w.alloc ob) := by
    refine ⟨by rw [hn]; simp, fun j hj => absurd hj (Nat.not_lt_zero j), fun _ j hj => absurd hj (Nat.not_lt_zero j), fun T' m' hm => ?_⟩
    simp at hm
    obtain ⟨rfl, rfl⟩ := hm
    rw [hn]
    exact ⟨rfl, s.keeps.size, by rw [Go.heap_alloc_new w ob]; exact hO⟩
  have hblk : ∀ i t, hget h i = some t → (ρ' i).1 ≠ w.heap.size := fun i t hi => by
    rw [← hr i (s.lt i t hi).1]
    exact Nat.ne_of_lt (s.seg i t hi).blk
  refine ⟨s2.keeps, fun i t hi => ?_, fun i j x y hij hx hy hw => ?_, fun i t hi => ?_⟩
  · simp only [hget] at hi
    by_cases h1 : n = i
    · subst h1; simp at hi; subst hi; exact hnew
    · rw [if_neg h1] at hi; exact s2.seg i t hi
  · simp only [hget] at hx hy
    by_cases h1 : n = i
    · subst h1
      rw [if_neg hij] at hy
      exact .inl (by rw [hn]; exact Ne.symm (hblk j y hy))
    · rw [if_neg h1] at hx
      by_cases h2 : n = j
      · subst h2
        exact .inl (by rw [hn]; exact hblk i x hx)
      · rw [if_neg h2] at hy
        exact s2.dis i j x y hij hx hy hw
  · simp only [hget] at hi
    by_cases h1 : n = i
    · subst h1; simp at hi; subst hi
      exact ⟨by omega, fun j hj => absurd hj (Nat.not_lt_zero j)⟩
    · rw [if_neg h1] at hi
      exact ⟨by have := (s.lt i t hi).1; omega, fun j hj => SV.lt_mono (by omega) _ ((s.lt i t hi).2 j hj)⟩
/-- Such a block is given another content. -/
theorem SatH.spec_set (s : SatH cx ρ h n w) {i T m T' m' : Nat} {c : Nat → SV} (hi : hget h i = some ⟨0, c, true, some (T, m)⟩) (ob : Obj) (hO : OwnB T' m' (ρ i).1 (some ob)) :
    SatH cx ρ (hset h i ⟨0, c, true, some (T', m')⟩) n { w with heap := w.heap.setIfInBounds (ρ i).1 ob } := by
  have hseg := s.seg i _ hi
  obtain ⟨h0, hb0, _⟩ := hseg.own T m rfl
  have hlt := hseg.blk
  generalize hw' : ({ w with heap := w.heap.setIfInBounds (ρ i).1 ob } : World) = w'
  have hsz : w'.heap.size = w.heap.size := by rw [← hw']; simp
  have hoth : ∀ b, b ≠ (ρ i).1 → w'.heap[b]? = w.heap[b]? := fun b hb => by rw [← hw']; simp [Array.getElem?_setIfInBounds, Ne.symm hb]
  have hself : w'.heap[(ρ i).1]? = some ob := by rw [← hw']; simp [Array.getElem?_setIfInBounds, hlt]
  have fix : ∀ (z : Nat) (q : Seg), hget (hset h i ⟨0, c, true, some (T', m')⟩) z = some q → (z = i ∧ q = ⟨0, c, true, some (T', m')⟩) ∨ (z ≠ i ∧ hget h z = some q) := fun z q hq => by
    rw [hget_hset] at hq
    split at hq
    · rename_i e; subst e; rw [hi] at hq; cases hq; exact .inl ⟨rfl, rfl⟩
    · rename_i e; exact .inr ⟨Ne.symm e, hq⟩
  have far : ∀ z q, z ≠ i → hget h z = some q → (ρ z).1 ≠ (ρ i).1 := fun z q hz hq => by
    rcases s.dis i z _ q (Ne.symm hz) hi hq (.inl rfl) with h1 | ⟨h1, _⟩
    · exact Ne.symm h1
    · cases h1
  refine ⟨⟨?_, ?_, ?_, ?_, fun b hb => ?_⟩, fun z q hq => ?_, fun x y p q hxy hp hq hw => ?_, fun z q hq => ?_⟩
  · rw [← hw']; exact s.keeps.os
  · rw [← hw']; exact s.keeps.tape
  · rw [← hw']; exact s.keeps.output
  · rw [hsz]; exact s.keeps.size
  · have := s.keeps.blk b hb
    rw [hoth b (by omega)]; exact this
  · rcases fix z q hq with ⟨rfl, rfl⟩ | ⟨hz, hq⟩
    · refine ⟨by rw [hsz]; exact hlt, fun j hj => absurd hj (Nat.not_lt_zero j), fun _ j hj => absurd hj (Nat.not_lt_zero j), fun T2 m2 hm => ?_⟩
      simp at hm
      obtain ⟨rfl, rfl⟩ := hm
      exact ⟨h0, hb0, by rw [hself]; exact hO⟩
    · exact (s.seg z q hq).blk_eq (by omega) (hoth _ (far z q hz hq))
  · have tr : ∀ z q, hget (hset h i ⟨0, c, true, some (T', m')⟩) z = some q → ∃ q', hget h z = some q' ∧ q'.n = q.n ∧ q'.rw = q.rw ∧ (q'.own = none ↔ q.own = none) ∧ (q'.own.isSome = true ↔ q.own.isSome = true) := fun z q hq => by
      rcases fix z q hq with ⟨rfl, rfl⟩ | ⟨hz, hq⟩
      · exact ⟨_, hi, rfl, rfl, by simp, by simp⟩
      · exact ⟨q, hq, rfl, rfl, Iff.rfl, Iff.rfl⟩
    obtain ⟨p', hp', a1, a2, a3, a4⟩ := tr x p hp
    obtain ⟨q', hq', b1, b2, b3, b4⟩ := tr y q hq
    have := s.dis x y p' q' hxy hp' hq' (by rw [a2, a4]; exact hw)
    unfold apart at *
    rw [a1, b1, a3, b3] at this
    exact this
  · rcases fix z q hq with ⟨rfl, rfl⟩ | ⟨hz, hq⟩
    · exact ⟨(s.lt _ _ hi).1, fun k hk => absurd hk (Nat.not_lt_zero k)⟩
    · exact s.lt z q hq
end
/-! ### The key's law -/
theorem mpLaid : laidOutB Try.prog = true := by kernel_rfl
theorem mpRow : (50 : Nat) < Try.prog.types.size := of_decide_eq_true (by kernel_rfl)
theorem mpWide : (match Try.prog.underlying 50 with | some (.array _ _) | some (.struct _) => true | _ => false) = true := by kernel_rfl
set_option maxRecDepth 20000 in
theorem mpLaw : KeyLaw Try.prog 50 := deep_law_laid mpLaid (m := 2) (by omega) mpRow (by kernel_rfl) mpWide
theorem mpKeys : (List.range 8).all (fun x => (List.range 8).all fun y => (keyOf Try.prog 50 (keyV x y)).isSome) = true := by kernel_rfl
theorem mpKey {x y : Nat} (hx : x < 8) (hy : y < 8) : ∃ l, keyOf Try.prog 50 (keyV x y) = some l := by
  have h1 := List.all_eq_true.1 (List.all_eq_true.1 mpKeys x (List.mem_range.2 hx)) y (List.mem_range.2 hy)
  exact Option.isSome_iff_exists.1 h1
theorem keyV_inj {x y x' y' : Nat} (h : keyV x y = keyV x' y') : x = x' ∧ y = y' := by
  unfold keyV at h
  injection h with h
  have h1 : [Value.int .i8 (x : Int), Value.int .i8 (y : Int)] = [Value.int .i8 (x' : Int), Value.int .i8 (y' : Int)] := congrArg Array.toList h
  injection h1 with a b
  injection b with b _
  injection a with _ a
  injection b with _ b
  omega
def addD (m c : Nat) : Nat := if dig m c = 0 then setD m c 1 else m
theorem dig_add (m c c' : Nat) : dig (addD m c) c' = if c' = c ∧ dig m c = 0 then 1 else dig m c' := by
  unfold addD
  split
  · rename_i h; rw [dig_set h (by omega)]
    by_cases e : c' = c
    · rw [if_pos e, if_pos ⟨e, h⟩]
    · rw [if_neg e, if_neg (fun h => e h.1)]
  · rename_i h; rw [if_neg (fun e => h e.2)]
theorem dig_add_ne (m c c' : Nat) : dig (addD m c) c' ≠ 0 ↔ c' = c ∨ dig m c' ≠ 0 := by
  rw [dig_add]
  by_cases e : c' = c
  · subst e
    by_cases h : dig m c' = 0
    · simp [h]
    · simp [h]
  · simp [e]
theorem dig_zero (c : Nat) : dig 0 c = 0 := by simp [dig]
theorem ownB_map {b kd m : Nat} {ob : Option Obj} (hkd : kd < 2) {b' : Nat} : OwnB (1000000 + (3 * b + 1 + kd)) m b' ob ↔ b = b' ∧ MapObj kd m ob := by
  unfold OwnB
  rw [if_neg (by omega), if_neg (by omega), show (1000000 + (3 * b + 1 + kd) - 1000000) / 3 = b by omega, show (1000000 + (3 * b + 1 + kd) - 1000000) % 3 - 1 = kd by omega]
section
variable {cx : Cx} {l : List (Nat × SV)} {h : List (Nat × Seg)} {n : Nat} {K : List (Nat × SV) → List (Nat × Seg) → Nat → Prop}
/-- A map, at name i, block b: the cells that it has. -/
def mpS (b m : Nat) : Seg := ⟨0, fun _ => .bad, true, some (1000000 + (3 * b + 1 + 0), m)⟩
theorem makeMap_sem {o : Oper} {t : Nat} (hop : o.op = .makeMap t none) (hd : dok cx.nt o.dst) (hK : ∀ b, K (put l o.dst (.raw (.map (some b)))) ((n, mpS b 0) :: h) (n + 1)) : OpSem Try.prog cx o l h n K := by
  intro ρ a w st sh hn
  obtain ⟨ρ', r1, r2, r3⟩ := sh.spec_new (.map #[] 0) (1000000 + (3 * w.heap.size + 1 + 0)) 0 (fun _ => .bad) ((ownB_map (by omega)).2 ⟨rfl, #[], 0, rfl, fun e he => by simp at he, fun x y _ _ hne => absurd (dig_zero _) hne⟩)
  refine upon_value_eq (v := den ρ' (.raw (.map (some w.heap.size)))) (w' := w.alloc (.map #[] 0)) ?_ _ _ ⟨ρ', _, _, n + 1, fun i hi => r1 i (by omega), ((st.rho r1).mono (Nat.le_succ n)).put _ (.raw (.map (some w.heap.size))) trivial (dok_lt hd), r3, by omega, hK _⟩
  obtain ⟨d, op, ty, pos, af, g⟩ := o
  simp only at hop; subst hop
  rfl
theorem lookup_sem {o : Oper} {t e : Nat} {x ix : Operand} (hop : o.op = .lookup t x ix false) (hd : dok cx.nt o.dst) (ht : Try.prog.underlying t = some (.map 50 e)) (hz : ∀ w, (zeroValue e).run Try.prog w = .ok (.bool false) w)
    {i b m px py : Nat} (hx : ev l x = .raw (.map (some b))) (hix : ev l ix = .agg 2 (cl [.int .i8 (px : Int), .int .i8 (py : Int)])) (hpx : px < 8) (hpy : py < 8) (hg : hget h i = some (mpS b m))
    (hK : K (put l o.dst (.bool (decide (dig m (py * 8 + px) ≠ 0)))) h n) : OpSem Try.prog cx o l h n K := by
  intro ρ a w st sh hn
  obtain ⟨e1, _⟩ := ev_sound st x (by rw [hx]; simp)
  obtain ⟨f1, _⟩ := ev_sound st ix (by rw [hix]; simp)
  rw [hx] at e1
  rw [hix] at f1
  have f1 : a.eval ix = keyV px py := f1
  have e1 : a.eval x = .map (some b) := e1
  obtain ⟨_, _, hO⟩ := (sh.seg i _ hg).own _ _ rfl
  obtain ⟨hbi, es, clock, hob, h1, h2⟩ := (ownB_map (by omega)).1 hO
  rw [← hbi] at hob
  obtain ⟨kl, hkey⟩ := mpKey hpx hpy
  have hkeys : ∀ e ∈ es.toList, ∃ l, keyOf Try.prog 50 e.key = some l := fun e he => by
    obtain ⟨x', y', hx', hy', hk, _⟩ := h1 e he
    rw [hk]; exact mpKey hx' hy'
  have hrun : (Instr.lookup t (.map (some b)) (keyV px py) false).run Try.prog w = .ok (.bool (decide (dig m (py * 8 + px) ≠ 0))) w := by
    rcases mpLaw.find w hkey es.toList hkeys with ⟨g1, g2⟩ | ⟨j, e0, g1, g2, g3⟩
    · have h0 : dig m (py * 8 + px) = 0 := by
        rcases Classical.em (dig m (py * 8 + px) = 0) with h | h
        · exact h
        · obtain ⟨e, he, hek⟩ := h2 px py hpx hpy h
          exact absurd hek (g2 e he)
      rw [h0]
      simp [Instr.lookup, run_underlying ht, MapKept.run_getObj_map hob, mpLaw.check w _ hkey, g1, hz, Result.andThen]
    · obtain ⟨x', y', hx', hy', hk, hne, hv⟩ := h1 e0 (List.mem_of_getElem? g2)
      rw [g3] at hk
      obtain ⟨rfl, rfl⟩ := keyV_inj hk
      have hv : e0.val = .bool true := hv
      rw [decide_eq_true hne]
      simp [Instr.lookup, run_underlying ht, MapKept.run_getObj_map hob, mpLaw.check w _ hkey, g1, hv, Result.andThen]
  refine upon_value_eq (v := den ρ (.bool (decide (dig m (py * 8 + px) ≠ 0)))) (w' := w) ?_ _ _ ⟨ρ, _, _, n, fun _ _ => rfl, st.put _ _ trivial (dok_lt hd), sh, hn, hK⟩
  obtain ⟨d, op, ty, pos, af, g⟩ := o
  simp only at hop; subst hop
  simp only [execOp, e1, f1, Sem.run_bind, hrun, Result.andThen_ok, Sem.run_pure, den]
theorem mapUpdate_sem {o : Oper} {t e : Nat} {x ix v : Operand} (hop : o.op = .mapUpdate t x ix v) (hdn : o.dst = none) (ht : Try.prog.underlying t = some (.map 50 e))
    {i b m px py : Nat} (hx : ev l x = .raw (.map (some b))) (hix : ev l ix = .agg 2 (cl [.int .i8 (px : Int), .int .i8 (py : Int)])) (hv : ev l v = .bool true) (hpx : px < 8) (hpy : py < 8) (hg : hget h i = some (mpS b m))
    (hK : K l (hset h i (mpS b (addD m (py * 8 + px)))) n) : OpSem Try.prog cx o l h n K := by
  intro ρ a w st sh hn
  obtain ⟨e1, _⟩ := ev_sound st x (by rw [hx]; simp)
  obtain ⟨f1, _⟩ := ev_sound st ix (by rw [hix]; simp)
  obtain ⟨v1, _⟩ := ev_sound st v (by rw [hv]; simp)
  rw [hx] at e1
  rw [hix] at f1
  rw [hv] at v1
  have f1 : a.eval ix = keyV px py := f1
  have e1 : a.eval x = .map (some b) := e1
  have v1 : a.eval v = .bool true := v1
  obtain ⟨_, _, hO⟩ := (sh.seg i _ hg).own _ _ rfl
  obtain ⟨hbi, es, clock, hob, h1, h2⟩ := (ownB_map (by omega)).1 hO
  rw [← hbi] at hob
  obtain ⟨kl, hkey⟩ := mpKey hpx hpy
  have hkeys : ∀ e ∈ es.toList, ∃ l, keyOf Try.prog 50 e.key = some l := fun e he => by
    obtain ⟨x', y', hx', hy', hk, _⟩ := h1 e he
    rw [hk]; exact mpKey hx' hy'
  have hrun : ∃ es' clock', (Instr.mapUpdate t (.map (some b)) (keyV px py) (.bool true)).run Try.prog w = .ok () { w with heap := w.heap.setIfInBounds b (.map es' clock') } ∧ MapObj 0 (addD m (py * 8 + px)) (some (.map es' clock')) := by
    rcases mpLaw.find w hkey es.toList hkeys with ⟨g1, g2⟩ | ⟨j, e0, g1, g2, g3⟩
    · have h0 : dig m (py * 8 + px) = 0 := by
        rcases Classical.em (dig m (py * 8 + px) = 0) with h | h
        · exact h
        · obtain ⟨e, he, hek⟩ := h2 px py hpx hpy h
          exact absurd hek (g2 e he)
      refine ⟨es.push ⟨keyV px py, .bool true, clock⟩, clock + 1, ?_, _, _, rfl, fun e he => ?_, fun x' y' hx' hy' hne => ?_⟩
      · simp [Instr.mapUpdate, run_underlying ht, MapKept.run_getObj_map hob, mpLaw.check w false hkey, g1, MapKept.run_setObj_map _ hob, Result.andThen]
      · simp only [Array.toList_push, List.mem_append, List.mem_singleton] at he
        rcases he with he | rfl
        · obtain ⟨x', y', hx', hy', hk, hne, hv⟩ := h1 e he
          exact ⟨x', y', hx', hy', hk, (dig_add_ne _ _ _).2 (.inr hne), hv⟩
        · exact ⟨px, py, hpx, hpy, rfl, (dig_add_ne _ _ _).2 (.inl rfl), rfl⟩
      · rcases (dig_add_ne _ _ _).1 hne with e | e
        · obtain ⟨rfl, rfl⟩ : x' = px ∧ y' = py := by omega
          exact ⟨⟨keyV x' y', .bool true, clock⟩, by simp, rfl⟩
        · obtain ⟨e', he', hk'⟩ := h2 x' y' hx' hy' e
          exact ⟨e', by simp [he'], hk'⟩
    · obtain ⟨x', y', hx', hy', hk, hne, hv⟩ := h1 e0 (List.mem_of_getElem? g2)
      rw [g3] at hk
      obtain ⟨rfl, rfl⟩ := keyV_inj hk
      have hv : e0.val = .bool true := hv
      have hadd : addD m (py * 8 + px) = m := by unfold addD; rw [if_neg hne]
      have hj : es[j]? = some e0 := by rw [← Array.getElem?_toList]; exact g2
      have hmod : es.modify j (fun e => { e with key := keyV px py, val := .bool true }) = es := by
        apply Array.ext_getElem?
        intro k
        rw [Array.getElem?_modify]
        split
        · rename_i ek; subst ek
          rw [hj, Option.map_some, ← g3, ← hv]
        · rfl
      rw [hadd]
      refine ⟨es, clock, ?_, es, clock, rfl, h1, h2⟩
      have := MapKept.run_setObj_map (P := Try.prog) (.map (es.modify j (fun e => { e with key := keyV px py, val := .bool true })) clock) hob
      rw [hmod] at this
      simp [Instr.mapUpdate, run_underlying ht, MapKept.run_getObj_map hob, mpLaw.check w false hkey, g1, hj, g3, mpLaw.stays w hkey, this, hmod, Result.andThen]
  obtain ⟨es', clock', hr, hM⟩ := hrun
  have sh2 := sh.spec_set hg (.map es' clock') ((ownB_map (b := b) (b' := (ρ i).1) (kd := 0) (by omega)).2 ⟨hbi, hM⟩)
  rw [← hbi] at sh2
  refine upon_skip_eq (w' := { w with heap := w.heap.setIfInBounds b (.map es' clock') }) ?_ _ _ ⟨ρ, _, _, n, fun _ _ => rfl, by rw [hdn]; exact st, sh2, hn, hK⟩
  obtain ⟨d, op, ty, pos, af, g⟩ := o
  simp only at hop; subst hop
  simp only [execOp, e1, f1, v1, Sem.run_bind, hr, Result.andThen_ok, Sem.run_pure]
end
end Go.Proofs.Ytddnnodkkdjniaa.V

/- Parts of a sheet: the model, the rows, what is kept. -/
namespace Go.Proofs.Ytddnnodkkdjniaa.V
/-- The parts, one by one: a cell that is in no part so far begins one. -/
def partN (is : Int → Int → Bool) (A : LSp) : Nat → List LSp
  | 0 => []
  | q + 1 => if A.getD q (0, 0) ∈ (partN is A q).flatten then partN is A q else partN is A q ++ [reachL is (A.getD q (0, 0))]
theorem partN_old {is : Int → Int → Bool} {A : LSp} {q : Nat} (h : A.getD q (0, 0) ∈ (partN is A q).flatten) : partN is A (q + 1) = partN is A q := by rw [partN, if_pos h]
theorem partN_new {is : Int → Int → Bool} {A : LSp} {q : Nat} (h : A.getD q (0, 0) ∉ (partN is A q).flatten) : partN is A (q + 1) = partN is A q ++ [reachL is (A.getD q (0, 0))] := by rw [partN, if_neg h]
theorem partN_len (is : Int → Int → Bool) (A : LSp) : ∀ q, (partN is A q).length ≤ q
  | 0 => Nat.le_refl _
  | q + 1 => by
    have := partN_len is A q
    rw [partN]; split
    · omega
    · rw [List.length_append]; show _ + 1 ≤ q + 1; omega
theorem reachL_len {is : Int → Int → Bool} (his : ∀ x y, is x y = true → In8 (x, y)) {a : Int × Int} (ha : In8 a) : (reachL is a).length ≤ 64 ∧ In8s (reachL is a) := by
  have hbk := BOk.bfs his 65 [a] 0 (BOk.one ha)
  exact ⟨strict_len (setL_strict _) hbk.in8.setL, hbk.in8.setL⟩
theorem partN_rows {is : Int → Int → Bool} (his : ∀ x y, is x y = true → In8 (x, y)) {A : LSp} (hA : In8s A) : ∀ q, q ≤ A.length → ∀ L, L ∈ partN is A q → L.length ≤ 64 ∧ In8s L
  | 0, _, L, h => by cases h
  | q + 1, hq, L, h => by
    rw [partN] at h; split at h
    · exact partN_rows his hA q (by omega) L h
    · rcases List.mem_append.1 h with h | h
      · exact partN_rows his hA q (by omega) L h
      · rw [List.mem_singleton] at h; subst h
        exact reachL_len his (hA _ (spots_at (by omega)))
theorem partN_rows64 {is : Int → Int → Bool} (his : ∀ x y, is x y = true → In8 (x, y)) {A : LSp} (hA : In8s A) (q : Nat) (hq : q ≤ A.length) (k : Nat) : ((partN is A q).getD k []).length ≤ 64 := by
  rw [List.getD_eq_getElem?_getD]
  cases hk : (partN is A q)[k]? with
  | none => exact Nat.zero_le _
  | some L => exact (partN_rows his hA q hq L (List.mem_of_getElem? hk)).1
/-- One row more. -/
theorem lssApp {h hq : List (Nat × Seg)} {lo n nq j cap cap' jr cpR : Nat} {sc c1 : Nat → SV} {r cp : Nat → Nat} {LL : List LSp} {R : LSp} {w : Option (Nat × Nat)}
    (S : Lss hq lo nq j cap sc r cp LL) (ok : HOk nq hq) (X : HExt n h hq) (hn : n ≤ j) (hR : RowAt hq jr R) (hlo : lo ≤ jr) (hln : jr < nq) (hjj : jr ≠ j) (hgt : ∀ k, k < LL.length → r k < jr) (hc1 : c1 0 = .sl jr 0 R.length cpR) (m1 : LL.length + 1 ≤ cap') (m2 : cap' ≤ maxLen)
    {hN : List (Nat × Seg)} (e : hN = (nq + 1, ⟨LL.length + 1, both LL.length sc (news c1 0), true, some (46, cap')⟩) :: (nq, ⟨1, c1, true, w⟩) :: hdel hq j) :
    HOk (nq + 2) hN ∧ HExt n h hN ∧ Lss hN lo (nq + 2) (nq + 1) cap' (both LL.length sc (news c1 0)) (fun k => if k < LL.length then r k else jr) (fun k => if k < LL.length then cp k else cpR) (LL ++ [R]) ∧ ∀ i t, i < nq → i ≠ j → hget hq i = some t → hget hN i = some t := by
  subst e
  have hjn := S.lt
  have hjl := S.jlo
  have old : ∀ i t, i < nq → i ≠ j → hget hq i = some t → hget ((nq + 1, (⟨LL.length + 1, both LL.length sc (news c1 0), true, some (46, cap')⟩ : Seg)) :: (nq, ⟨1, c1, true, w⟩) :: hdel hq j) i = some t := fun i t h1 h2 h4 => by
    simp only [hget]
    rw [if_neg (by omega), if_neg (by omega), hget_hdel, if_neg (Ne.symm h2)]
    exact h4
  have cel : ∀ k, k < LL.length + 1 → both LL.length sc (news c1 0) k = .sl (if k < LL.length then r k else jr) 0 ((LL ++ [R]).getD k []).length (if k < LL.length then cp k else cpR) := fun k hk => by
    by_cases hk2 : k < LL.length
    · unfold both
      rw [if_pos hk2, if_pos hk2, if_pos hk2, S.cell k hk2, List.getD_eq_getElem?_getD, List.getD_eq_getElem?_getD, List.getElem?_append_left hk2]
    · have ek : k = LL.length := by omega
      subst ek
      have e2 : (LL ++ [R]).getD LL.length [] = R := by simp
      rw [e2, if_neg hk2, if_neg hk2]
      unfold both news
      rw [if_neg (by omega), Nat.sub_self, Nat.zero_add, hc1]
  refine ⟨fun i t hi => ?_, fun i hi t ht => old i t (by omega) (by omega) (X i hi t ht), ⟨by omega, by omega, by simp [hget], by simpa using m1, m2, fun k hk => ?_, fun k hk => ?_, fun k hk => ?_, fun k hk => cel k (by simpa using hk), fun k hk => ?_, fun k k' hk hk' => ?_⟩, old⟩
  · simp only [hget] at hi
    split at hi
    · rename_i e; cases hi
      refine ⟨by omega, fun k hk => ?_⟩
      show (both LL.length sc (news c1 0) k).lt (nq + 2)
      rw [cel k hk]
      show (if k < LL.length then r k else jr) < nq + 2
      split
      · have := S.rlt k (by assumption); omega
      · omega
    · split at hi
      · rename_i e; cases hi
        refine ⟨by omega, fun k hk => ?_⟩
        have hk : k < 1 := hk
        obtain rfl : k = 0 := by omega
        show (c1 0).lt (nq + 2)
        rw [hc1]; show jr < nq + 2; omega
      · rw [hget_hdel] at hi
        split at hi
        · cases hi
        · exact ⟨by have := (ok i t hi).1; omega, fun k hk => SV.lt_mono (by omega) _ ((ok i t hi).2 k hk)⟩
  · show lo ≤ if k < LL.length then r k else jr
    split
    · exact S.rlo k (by assumption)
    · exact hlo
  · show (if k < LL.length then r k else jr) < nq + 2
    split
    · have := S.rlt k (by assumption); omega
    · omega
  · show (if k < LL.length then r k else jr) ≠ nq + 1
    split
    · have := S.rlt k (by assumption); omega
    · omega
  · by_cases hk2 : k < LL.length
    · obtain ⟨s, a1, a2⟩ := (S.row k hk2).row
      simp only [if_pos hk2]
      refine ⟨s, old _ _ (S.rlt k hk2) (S.rj k hk2) a1, ?_⟩
      rw [show (LL ++ [R]).getD k [] = LL.getD k [] by rw [List.getD_eq_getElem?_getD, List.getD_eq_getElem?_getD, List.getElem?_append_left hk2]]
      exact a2
    · have hk1 : k < LL.length + 1 := by simpa using hk
      have ek : k = LL.length := by omega
      subst ek
      obtain ⟨s, a1, a2⟩ := hR.row
      simp only [if_neg hk2]
      refine ⟨s, old _ _ hln hjj a1, ?_⟩
      rw [show (LL ++ [R]).getD LL.length [] = R by simp]
      exact a2
  · have hk1 : k' < LL.length + 1 := by simpa using hk'
    show (if k < LL.length then r k else jr) < if k' < LL.length then r k' else jr
    rw [if_pos (show k < LL.length by omega)]
    split
    · exact S.dis k k' hk (by assumption)
    · exact hgt k (by omega)
/-- What is kept while parts are looked for: the map, the list so far, the list of cells. -/
structure QI (h : List (Nat × Seg)) (n im : Nat) (tm : Seg) (ja : Nat) (tA : Seg) (hq : List (Nat × Seg)) (nq j cap : Nat) (sc : Nat → SV) (r cp : Nat → Nat) (LL : List LSp) : Prop where
  hn : n ≤ nq
  ok : HOk nq hq
  ex : HExt n h hq
  lss : Lss hq n nq j cap sc r cp LL
  mp : hget hq im = some tm
  iml : im < nq
  imn : n ≤ im
  jim : j ≠ im
  rim : ∀ k, k < LL.length → r k ≠ im
  row : hget hq ja = some tA
  jal : ja < nq
  jan : n ≤ ja
  jaj : ja ≠ j
  jam : ja ≠ im
theorem QI.to {h : List (Nat × Seg)} {n im : Nat} {tm : Seg} {ja : Nat} {tA : Seg} {hq : List (Nat × Seg)} {nq j cap : Nat} {sc : Nat → SV} {r cp : Nat → Nat} {LL : List LSp} (I : QI h n im tm ja tA hq nq j cap sc r cp LL) {h' : List (Nat × Seg)} {n' : Nat} (hn : nq ≤ n') (ok : HOk n' h') (hx : HExt nq hq h') : QI h n im tm ja tA h' n' j cap sc r cp LL :=
  ⟨by have := I.hn; omega, ok, I.ex.tr hx I.hn, I.lss.mono hn fun i _ hi => hx i hi, hx _ I.iml _ I.mp, by have := I.iml; omega, I.imn, I.jim, I.rim, hx _ I.jal _ I.row, by have := I.jal; omega, I.jan, I.jaj, I.jam⟩
theorem QI.mark {h : List (Nat × Seg)} {n im : Nat} {tm : Seg} {ja : Nat} {tA : Seg} {hq : List (Nat × Seg)} {nq j cap : Nat} {sc : Nat → SV} {r cp : Nat → Nat} {LL : List LSp} (I : QI h n im tm ja tA hq nq j cap sc r cp LL) (tm' : Seg) (htm : ∀ k, k < tm'.n → (tm'.c k).lt nq) : QI h n im tm' ja tA (hset hq im tm') nq j cap sc r cp LL :=
  ⟨I.hn, fun i t hi => by
      rw [hget_hset] at hi
      split at hi
      · rename_i e; subst e
        rw [I.mp] at hi; cases hi
        exact ⟨I.iml, htm⟩
      · exact I.ok i t hi,
    fun i hi t ht => by rw [hget_hset, if_neg (by have := I.imn; omega)]; exact I.ex i hi t ht,
    by
      have S := I.lss
      refine ⟨S.jlo, S.lt, by rw [hget_hset, if_neg (Ne.symm I.jim)]; exact S.seg, S.le, S.cap, S.rlo, S.rlt, S.rj, S.cell, fun k hk => ?_, S.dis⟩
      obtain ⟨s, a1, a2⟩ := (S.row k hk).row
      exact ⟨s, by rw [hget_hset, if_neg (Ne.symm (I.rim k hk))]; exact a1, a2⟩,
    hget_hset_self I.mp _, I.iml, I.imn, I.jim, I.rim, by rw [hget_hset, if_neg (Ne.symm I.jam)]; exact I.row, I.jal, I.jan, I.jaj, I.jam⟩
theorem QI.app {h : List (Nat × Seg)} {n im : Nat} {tm : Seg} {ja : Nat} {tA : Seg} {hq : List (Nat × Seg)} {nq j cap : Nat} {sc : Nat → SV} {r cp : Nat → Nat} {LL : List LSp} (I : QI h n im tm ja tA hq nq j cap sc r cp LL) {cap' jr cpR : Nat} {c1 : Nat → SV} {R : LSp} {w : Option (Nat × Nat)}
    (hR : RowAt hq jr R) (hlo : n ≤ jr) (hln : jr < nq) (hjj : jr ≠ j) (hjm : jr ≠ im) (hgt : ∀ k, k < LL.length → r k < jr) (hc1 : c1 0 = .sl jr 0 R.length cpR) (m1 : LL.length + 1 ≤ cap') (m2 : cap' ≤ maxLen)
    {hN : List (Nat × Seg)} (e : hN = (nq + 1, ⟨LL.length + 1, both LL.length sc (news c1 0), true, some (46, cap')⟩) :: (nq, ⟨1, c1, true, w⟩) :: hdel hq j) :
    QI h n im tm ja tA hN (nq + 2) (nq + 1) cap' (both LL.length sc (news c1 0)) (fun k => if k < LL.length then r k else jr) (fun k => if k < LL.length then cp k else cpR) (LL ++ [R]) := by
  obtain ⟨a1, a2, a3, a4⟩ := lssApp I.lss I.ok I.ex I.lss.jlo hR hlo hln hjj hgt hc1 m1 m2 e
  refine ⟨by have := I.hn; omega, a1, a2, a3, a4 _ _ I.iml (Ne.symm I.jim) I.mp, by have := I.iml; omega, I.imn, by have := I.iml; omega, fun k hk => ?_, a4 _ _ I.jal I.jaj I.row, by have := I.jal; omega, I.jan, by have := I.jal; omega, I.jam⟩
  show (if k < LL.length then r k else jr) ≠ im
  split
  · exact I.rim k (by assumption)
  · exact hjm
abbrev PI (h : List (Nat × Seg)) (n im b ja : Nat) (tA : Seg) (hq : List (Nat × Seg)) (nq m j cap : Nat) (sc : Nat → SV) (r cp : Nat → Nat) (LL : List LSp) : Prop := QI h n im (mpS b m) ja tA hq nq j cap sc r cp LL
/-- The map has the cells of the parts so far. -/
def MetIs (m : Nat) (L : LSp) : Prop := ∀ px py : Nat, px < 8 → py < 8 → (dig m (py * 8 + px) ≠ 0 ↔ ((px : Int), (py : Int)) ∈ L)
theorem MetIs.add {m : Nat} {L : LSp} (hm : MetIs m L) {px py : Nat} (hx : px < 8) (hy : py < 8) : MetIs (addD m (py * 8 + px)) (L ++ [((px : Int), (py : Int))]) := fun x' y' hx' hy' => by
  rw [dig_add_ne, List.mem_append, List.mem_singleton, hm x' y' hx' hy', Prod.mk.injEq]
  constructor
  · rintro (e | e)
    · exact .inr (by omega)
    · exact .inl e
  · rintro (e | e)
    · exact .inr e
    · exact .inl (by omega)
theorem metIs_nil : MetIs 0 [] := fun px py _ _ => by rw [dig_zero]; simp
end Go.Proofs.Ytddnnodkkdjniaa.V

/- Parts of a sheet: the program's own walk. -/
namespace Go.Proofs.Ytddnnodkkdjniaa.V
theorem mapTy : Try.prog.underlying 72 = some (.map 50 4) := by kernel_rfl
theorem boolZ (w : World) : (zeroValue 4).run Try.prog w = .ok (.bool false) w := by
  obtain ⟨i, z, hi, _, _, hz, _, _, e⟩ := (hti 4).info trivial
  have e : z = .bool false := e
  subst e
  simp [zeroValue, typeInfo, hi, hz]
section
variable {cx : Cx} {Q : List (Nat × SV) → List (Nat × Seg) → Nat → Prop} {k : List It} {l : List (Nat × SV)} {h : List (Nat × Seg)} {n : Nat} {all rest : List Oper} {d : Option Nat} {t ty : Nat} {pos : String} {af : Array Edge}
theorem T_mkMap (hd : dok cx.nt d) (hT : ∀ b, T Try.prog ti cx Q (.ops false all rest :: k) (put l d (.raw (.map (some b)))) ((n, mpS b 0) :: h) (n + 1)) :
    T Try.prog ti cx Q (.ops false all (⟨d, .makeMap t none, ty, pos, af, none⟩ :: rest) :: k) l h n := by
  rw [T]
  refine ⟨hd, ?_⟩
  show if isPv _ = true then _ else _
  rw [if_neg (by simp [isPv])]
  exact ⟨rfl, makeMap_sem rfl hd hT⟩
theorem T_look {x ix : Operand} {i b m px py e : Nat} (hd : dok cx.nt d) (ht : Try.prog.underlying t = some (.map 50 e)) (hz : ∀ w, (zeroValue e).run Try.prog w = .ok (.bool false) w)
    (hx : ev l x = .raw (.map (some b))) (hix : ev l ix = .agg 2 (cl [.int .i8 (px : Int), .int .i8 (py : Int)])) (hpx : px < 8) (hpy : py < 8) (hg : hget h i = some (mpS b m)) {B : Bool} (hB : decide (dig m (py * 8 + px) ≠ 0) = B)
    (hT : T Try.prog ti cx Q (.ops false all rest :: k) (put l d (.bool B)) h n) :
    T Try.prog ti cx Q (.ops false all (⟨d, .lookup t x ix false, ty, pos, af, none⟩ :: rest) :: k) l h n := by
  subst hB
  rw [T]
  refine ⟨hd, ?_⟩
  show if isPv _ = true then _ else _
  rw [if_neg (by simp [isPv])]
  refine ⟨rfl, ?_⟩
  show OpSem Try.prog cx ⟨d, .lookup t x ix false, ty, pos, af, none⟩ l h n _
  have hk : ∀ o : Oper, o.op = .lookup t x ix false → dok cx.nt o.dst → T Try.prog ti cx Q (.ops false all rest :: k) (put l o.dst (.bool (decide (dig m (py * 8 + px) ≠ 0)))) h n → OpSem Try.prog cx o l h n (fun l' h' n' => T Try.prog ti cx Q (.ops false all rest :: k) l' h' n') := fun o ho hd hT => by
    refine lookup_sem ho hd ht hz hx hix hpx hpy hg ?_
    exact hT
  refine hk _ ?_ ?_ ?_
  · rfl
  · exact hd
  · exact hT
theorem T_mapUp {x ix v : Operand} {i b m px py e : Nat} (ht : Try.prog.underlying t = some (.map 50 e))
    (hx : ev l x = .raw (.map (some b))) (hix : ev l ix = .agg 2 (cl [.int .i8 (px : Int), .int .i8 (py : Int)])) (hv : ev l v = .bool true) (hpx : px < 8) (hpy : py < 8) (hg : hget h i = some (mpS b m))
    (hT : T Try.prog ti cx Q (.ops false all rest :: k) l (hset h i (mpS b (addD m (py * 8 + px)))) n) :
    T Try.prog ti cx Q (.ops false all (⟨none, .mapUpdate t x ix v, ty, pos, af, none⟩ :: rest) :: k) l h n := by
  rw [T]
  refine ⟨trivial, ?_⟩
  show if isPv _ = true then _ else _
  rw [if_neg (by simp [isPv])]
  refine ⟨rfl, ?_⟩
  show OpSem Try.prog cx ⟨none, .mapUpdate t x ix v, ty, pos, af, none⟩ l h n _
  have hk : ∀ o : Oper, o.op = .mapUpdate t x ix v → o.dst = none → OpSem Try.prog cx o l h n (fun l' h' n' => T Try.prog ti cx Q (.ops false all rest :: k) l' h' n') := fun o ho hd => by
    refine mapUpdate_sem ho hd ht hx hix hv hpx hpy hg ?_
    exact hT
  refine hk _ ?_ ?_
  · rfl
  · rfl
end
theorem hasB_jW {S : Sh} {W H : Nat} (hW : S.wide = W) (hH : S.high = H) {j : Nat} (hj : j < H * W) : hasB S ((j % W : Nat) : Int) ((j / W : Nat) : Int) = true := by
  have w0 : 0 < W := Nat.pos_of_ne_zero fun e => by subst e; omega
  have h1 := Nat.mod_lt j w0
  have h2 : j / W < H := (Nat.div_lt_iff_lt_mul w0).2 hj
  generalize j % W = u at *
  generalize j / W = v at *
  unfold hasB
  rw [hW, hH]
  simp only [Bool.and_eq_true, decide_eq_true_eq]
  omega
section
variable (cx : Cx) (h : List (Nat × Seg)) (n : Nat)
set_option maxHeartbeats 3200000 in
theorem parts_E (i : Nat) (S : Sh) (W H : Nat) (hs : hget h i = some (shS S)) (hi : i < n) (hR : ShR S) (hsm : Small S) (hW : S.wide = W) (hH : S.high = H) (hW8 : W ≤ 8) (hH8 : H ≤ 8) (f e b : Nat) (G F : Nat → SV) (hfl : (SV.fn f e G b F).lt n) (p : Int → Int → Bool)
    (hp : ∀ x y, hasB S x y = true → Asks cx h n f e b G F x y (p x y)) (K : HK)
    (hK : ∀ V h' n', n ≤ n' → HExt n h h' → HOk n' h' → LssOut h' n n' V (partN (isB S p) ((cellsL W H).filter fun a => p a.1 a.2) ((cellsL W H).filter fun a => p a.1 a.2).length) → K V h' n') :
    CallE Try.prog cx 22 [.ptr i 0, .fn f e G b F] h n K := by
  have his := isB_8 hsm p
  have hFl : (SV.fn f e G b F).lt n = True := eq_true hfl
  refine CallE.hokE ?_
  refine callE_of_T (P := Try.prog) hti (nt := 44) (rs := [.tmp 4]) rfl rfl Try.call22 Try.func22 rfl _ (by simp only [go_sem, and_self]) (Nat.le_of_ble_eq_true rfl) _ fun hok => ?_
  simp only [go_sem, Nat.reduceLT]
  refine T_mkMap (by first | (simp only [go_sem, Nat.reduceLT]; done) | (simp only [go_sem, Nat.reduceBEq, Nat.reduceLT, Nat.reduceLeDiff, Nat.reduceAdd, Nat.reduceMul, Nat.reduceSub, Nat.reduceMod, Nat.reduceDiv, Nat.reduceEqDiff, Int.reduceToNat, reduceIte, reduceCtorEq, Int.reduceLE, Int.reduceLT, Int.reduceEq, Int.reduceNeg, Int.reduceAdd, Int.reduceSub, Int.reduceMul]; trivial)) fun bm => ?_
  simp only [go_sem, Nat.reduceLT]
  refine callA_false (that_E _ _ _ i S W H (by simp only [go_sem, hs, hi]) (by omega) hR hW hH hW8 hH8 f e b G F (SV.lt_mono (by omega) _ hfl) p (fun j hj nt n0 h' n' hn' hx' => ?_) _ fun V h1 n1 hn1 hx1 ok1 hV => ?_)
  · exact hp _ _ (hasB_jW hW hH hj) nt n0 h' n' (by omega) (HExt.tr (m' := n + 2) (by simp only [go_sem, HExt_cons]) hx' (by omega))
  generalize hAA : ((cellsL W H).filter fun a => p a.1 a.2) = A at *
  have Vo := hV.ok
  have hAin : ∀ q, q < A.length → ∃ px py : Nat, A.getD q (0, 0) = ((px : Int), (py : Int)) ∧ px < 8 ∧ py < 8 ∧ In8 ((px : Int), (py : Int)) := fun q hq => by
    have hm : A.getD q (0, 0) ∈ (cellsL W H).filter fun a => p a.1 a.2 := by rw [hAA]; exact spots_at hq
    obtain ⟨h1, -⟩ := List.mem_filter.1 hm
    obtain ⟨k, hk, e⟩ := List.mem_map.1 h1
    rw [List.mem_range] at hk
    have := hasB_in hsm (hasB_jW hW hH hk)
    exact ⟨k % W, k / W, e.symm, by omega, by omega, ⟨this.1, this.2.1⟩, this.2.2⟩
  have hA64 : A.length ≤ 64 := by
    rw [← hAA]
    refine Nat.le_trans (List.length_filter_le _ _) ?_
    rw [cellsL_len]
    exact Nat.mul_le_mul hH8 hW8
  have I0 : ∀ {ja : Nat} {sA : Seg}, hget h1 ja = some sA → ja < n1 → n + 2 ≤ ja → PI h n (n + 1) bm ja sA h1 n1 0 n 0 (zrow (ti 46)) (fun _ => 0) (fun _ => 0) (partN (isB S p) A 0) := fun g1 g2 g3 =>
    ⟨by omega, ok1, HExt.tr (m' := n + 2) (by simp only [go_sem, HExt_cons]) hx1 (by omega), ⟨Nat.le_refl _, by omega, hx1 n (by omega) _ (by simp only [go_sem]; rfl), Nat.le_refl _, by decide, fun k hk => absurd hk (Nat.not_lt_zero k), fun k hk => absurd hk (Nat.not_lt_zero k), fun k hk => absurd hk (Nat.not_lt_zero k), fun k hk => absurd hk (Nat.not_lt_zero k), fun k hk => absurd hk (Nat.not_lt_zero k), fun k k' hk hk' => absurd hk' (Nat.not_lt_zero k')⟩,
      hx1 (n + 1) (by omega) _ (hget_hit _ _ _), by omega, by omega, by omega, fun k hk => absurd hk (Nat.not_lt_zero k), g1, g2, by omega, by omega, by omega⟩
  rcases hV with ⟨rfl, rfl⟩ | ⟨ja, capA, sA, rfl, a1, a2, a3, a4, a5, a6⟩
  · simp only [go_sem, Nat.reduceLT]
    refine T_unroll 0 ?_
    simp only [go_sem, Nat.reduceLT, Int.reduceLT]
    have X1 : HExt n h h1 := HExt.tr (m' := n + 2) (by simp only [go_sem, HExt_cons]) hx1 (by omega)
    refine fun hok' => hK _ _ _ (by omega) X1 hok' (.inr ⟨n, 0, zrow (ti 46), fun _ => 0, fun _ => 0, rfl, ⟨Nat.le_refl _, by omega, hx1 n (by omega) _ (by simp only [go_sem]; rfl), Nat.le_refl _, by decide, fun k hk => absurd hk (Nat.not_lt_zero k), fun k hk => absurd hk (Nat.not_lt_zero k), fun k hk => absurd hk (Nat.not_lt_zero k), fun k hk => absurd hk (Nat.not_lt_zero k), fun k hk => absurd hk (Nat.not_lt_zero k), fun k k' hk hk' => absurd hk' (Nat.not_lt_zero k')⟩⟩)
  simp only [go_sem, Nat.reduceLT]
  refine T_lp (ι := { w : Nat × List (Nat × Seg) × Nat × Nat × (Nat × Nat × (Nat → SV) × (Nat → Nat) × (Nat → Nat)) // w.1 ≤ A.length ∧ PI h n (n + 1) bm ja sA w.2.1 w.2.2.1 w.2.2.2.1 w.2.2.2.2.1 w.2.2.2.2.2.1 w.2.2.2.2.2.2.1 w.2.2.2.2.2.2.2.1 w.2.2.2.2.2.2.2.2 (partN (isB S p) A w.1) ∧ MetIs w.2.2.2.1 (partN (isB S p) A w.1).flatten })
    (fun w => ([(0, .ptr i 0), (1, .fn f e G b F), (5, .sl w.1.2.2.2.2.1 0 (partN (isB S p) A w.1.1).length w.1.2.2.2.2.2.1), (6, .raw (.map (some bm))), (16, .sl ja 0 A.length capA), (17, .int .i64 A.length), (18, .int .i64 ((w.1.1 : Nat) : Int))], w.1.2.1, w.1.2.2.1)) (fun w => A.length - w.1.1)
    ⟨(0, h1, n1, 0, (n, 0, zrow (ti 46), fun _ => 0, fun _ => 0)), Nat.zero_le _, I0 a3 a2 a1, metIs_nil⟩ ?_ ?_
  · refine Imp.id (by show n ≤ n1; omega) ?_ (impH.base0 ok1 (Nat.le_refl _) HExt.rfl)
    simp only [go_sem, Nat.reduceLT, hFl, SV.lt_mono (show n ≤ n1 by omega) _ hfl, partN]
    (try (repeat' apply And.intro) <;> first | omega | rfl | trivial | assumption | skip)
  rintro ⟨⟨q, hq, nq, m, j, cap, sc, r, cp⟩, hqA, I, hM⟩
  simp only at hqA I hM
  have hn0 := I.hn
  have hjn := I.lss.lt
  have hLL := partN_len (isB S p) A q
  simp only [go_sem, Nat.reduceLT, decide_eq_true_eq, decide_eq_false_iff_not]
  refine ⟨fun h1 => ?_, fun h1 => ?_⟩
  rotate_left
  · have eq1 : q = A.length := by omega
    subst eq1
    try simp only [go_sem, Nat.reduceBEq, Nat.reduceLT, Nat.reduceLeDiff, Nat.reduceAdd, Nat.reduceMul, Nat.reduceSub, Nat.reduceMod, Nat.reduceDiv, Nat.reduceEqDiff, Int.reduceToNat, reduceIte, reduceCtorEq, Int.reduceLE, Int.reduceLT, Int.reduceEq, Int.reduceNeg, Int.reduceAdd, Int.reduceSub, Int.reduceMul]
    exact fun hok' => hK _ _ _ I.hn I.ex hok' (.inr ⟨j, cap, sc, r, cp, rfl, I.lss⟩)
  have r1 : (0 : Int) ≤ q ∧ (q : Int) < A.length := ⟨by omega, by omega⟩
  have hqo : q < A.length := by omega
  have b1 : q * 2 ≤ sA.n - 2 := by omega
  have b2 : 2 ≤ sA.n := by omega
  have b3 : q * 2 + 2 ≤ sA.n := by omega
  have v3 := I.row
  have v2 := I.jal
  obtain ⟨px, py, ha, hpx, hpy, ha8⟩ := hAin q hqo
  simp only [go_sem, Nat.reduceLT, Nat.reduceEqDiff, reduceIte, v3, v2, r1, b1, b2, b3, a6 (q * 2) (by omega), a6 (q * 2 + 1) (by omega), spotsC_x, spotsC_y, ha]
  have okC : HOk (nq + 1) ((nq, ⟨2, cl [SV.int .i8 (px : Int), SV.int .i8 (py : Int)], true, none⟩) :: hq) := I.ok.consF fun k hk => pair_flat _ _ hk
  have exC : HExt nq hq ((nq, ⟨2, cl [SV.int .i8 (px : Int), SV.int .i8 (py : Int)], true, none⟩) :: hq) := by simp only [go_sem, HExt_cons]
  have IC := I.to (Nat.le_succ nq) okC exC
  by_cases hmet : A.getD q (0, 0) ∈ (partN (isB S p) A q).flatten
  · have hdg : dig m (py * 8 + px) ≠ 0 := (hM px py hpx hpy).2 (by rw [← ha]; exact hmet)
    refine T_look (i := n + 1) (b := bm) (m := m) (px := px) (py := py) (e := 4) (by first | (simp only [go_sem, Nat.reduceLT]; done) | (simp only [go_sem, Nat.reduceBEq, Nat.reduceLT, Nat.reduceLeDiff, Nat.reduceAdd, Nat.reduceMul, Nat.reduceSub, Nat.reduceMod, Nat.reduceDiv, Nat.reduceEqDiff, Int.reduceToNat, reduceIte, reduceCtorEq, Int.reduceLE, Int.reduceLT, Int.reduceEq, Int.reduceNeg, Int.reduceAdd, Int.reduceSub, Int.reduceMul]; trivial)) mapTy boolZ (by simp only [go_sem, Nat.reduceLT]) (by simp only [go_sem]) hpx hpy IC.mp (B := true) (decide_eq_true hdg) ?_
    simp only [go_sem, Nat.reduceLT]
    refine ⟨⟨(q + 1, _, nq + 1, m, (j, cap, sc, r, cp)), by show q + 1 ≤ A.length; omega, by rw [partN_old hmet]; exact IC, by rw [partN_old hmet]; exact hM⟩, by show A.length - (q + 1) < A.length - q; omega, ?_⟩
    refine Imp.id (by show n ≤ nq + 1; omega) ?_ (impH.base0 okC (Nat.le_refl _) HExt.rfl)
    simp only [go_sem, Nat.reduceLT, hFl, SV.lt_mono (show n ≤ nq + 1 by omega) _ hfl, partN_old hmet, w64N (a := (q : Int) + 1) (k := q + 1) (by omega) (by omega)]
    (try (repeat' apply And.intro) <;> first | omega | rfl | trivial | assumption | skip)
  have hdg : ¬ dig m (py * 8 + px) ≠ 0 := fun e => hmet (by rw [ha]; exact (hM px py hpx hpy).1 e)
  refine T_look (i := n + 1) (b := bm) (m := m) (px := px) (py := py) (e := 4) (by first | (simp only [go_sem, Nat.reduceLT]; done) | (simp only [go_sem, Nat.reduceBEq, Nat.reduceLT, Nat.reduceLeDiff, Nat.reduceAdd, Nat.reduceMul, Nat.reduceSub, Nat.reduceMod, Nat.reduceDiv, Nat.reduceEqDiff, Int.reduceToNat, reduceIte, reduceCtorEq, Int.reduceLE, Int.reduceLT, Int.reduceEq, Int.reduceNeg, Int.reduceAdd, Int.reduceSub, Int.reduceMul]; trivial)) mapTy boolZ (by simp only [go_sem, Nat.reduceLT]) (by simp only [go_sem]) hpx hpy IC.mp (B := false) (decide_eq_false hdg) ?_
  simp only [go_sem, Nat.reduceLT]
  refine callA_false (reach_E ⟨cx.w0, cx.W, 44, n⟩ _ (nq + 1) i S ((px : Int), (py : Int)) (IC.ex i hi _ hs) (by omega) hR hsm ha8 f e b G F (SV.lt_mono (by omega) _ hfl) p (fun x y hb nt n0 h' n' hn' hx' => hp x y hb nt n0 h' n' (by omega) (IC.ex.tr hx' (by omega))) _ fun V2 h2 n2 hn2 hx2 ok2 hV2 => ?_)
  have Vo2 := hV2.ok
  have I2 := IC.to hn2 ok2 hx2
  obtain ⟨hR64, hR8⟩ := reachL_len his ha8
  have hnewL : partN (isB S p) A (q + 1) = partN (isB S p) A q ++ [reachL (isB S p) ((px : Int), (py : Int))] := by rw [partN_new hmet, ha]
  generalize hRR : reachL (isB S p) ((px : Int), (py : Int)) = R at *
  obtain ⟨jr, capR, sR, rfl, c1, c2, c3, c4, c5, c6, c7⟩ := hV2
  simp only [go_sem, Nat.reduceLT]
  refine T_lp (ι := { w : Nat × List (Nat × Seg) × Nat × Nat // (w.1 ≤ R.length ∧ n2 ≤ w.2.2.1) ∧ PI h n (n + 1) bm ja sA w.2.1 w.2.2.1 w.2.2.2 j cap sc r cp (partN (isB S p) A q) ∧ MetIs w.2.2.2 ((partN (isB S p) A q).flatten ++ R.take w.1) ∧ hget w.2.1 jr = some sR })
    (fun w => ([(0, .ptr i 0), (1, .fn f e G b F), (5, .sl j 0 (partN (isB S p) A q).length cap), (6, .raw (.map (some bm))), (9, .sl jr 0 R.length capR), (16, .sl ja 0 A.length capA), (17, .int .i64 A.length), (18, .int .i64 ((q : Nat) : Int)), (29, .sl jr 0 R.length capR), (30, .int .i64 R.length), (31, .int .i64 ((w.1.1 : Nat) : Int))], w.1.2.1, w.1.2.2.1)) (fun w => R.length - w.1.1)
    ⟨(0, h2, n2, m), ⟨Nat.zero_le _, Nat.le_refl _⟩, I2, by simpa using hM, c3⟩ ?_ ?_
  · refine Imp.id (by show n ≤ n2; omega) ?_ (impH.base0 ok2 (Nat.le_refl _) HExt.rfl)
    simp only [go_sem, Nat.reduceLT, hFl, SV.lt_mono (show n ≤ n2 by omega) _ hfl]
    (try (repeat' apply And.intro) <;> first | omega | rfl | trivial | assumption | skip)
  rintro ⟨⟨k, hr, nr, mr⟩, ⟨hk, hrn⟩, J, hMr, g3⟩
  simp only at hk hrn J hMr g3
  have hjr := J.lss.lt
  have hji := J.jim
  simp only [go_sem, Nat.reduceLT, Nat.reduceLeDiff, decide_eq_true_eq, decide_eq_false_iff_not]
  refine ⟨fun k1 => ?_, fun k1 => ?_⟩
  · have q1 : (0 : Int) ≤ k ∧ (k : Int) < R.length := ⟨by omega, by omega⟩
    have hko : k < R.length := by omega
    have d1 : k * 2 ≤ sR.n - 2 := by omega
    have d2 : 2 ≤ sR.n := by omega
    have d3 : k * 2 + 2 ≤ sR.n := by omega
    have hjrn : jr < nr := by omega
    obtain ⟨ux, uy, hu, hux, huy⟩ : ∃ ux uy : Nat, R.getD k (0, 0) = ((ux : Int), (uy : Int)) ∧ ux < 8 ∧ uy < 8 := by
      obtain ⟨⟨e1, e2⟩, e3, e4⟩ := hR8 _ (spots_at hko)
      refine ⟨(R.getD k (0, 0)).1.toNat, (R.getD k (0, 0)).2.toNat, Prod.ext ?_ ?_, by omega, by omega⟩
      · show (R.getD k (0, 0)).1 = ((R.getD k (0, 0)).1.toNat : Int); omega
      · show (R.getD k (0, 0)).2 = ((R.getD k (0, 0)).2.toNat : Int); omega
    simp only [go_sem, Nat.reduceLT, Nat.reduceEqDiff, reduceIte, g3, hjrn, q1, d1, d2, d3, c7 (k * 2) (by omega), c7 (k * 2 + 1) (by omega), spotsC_x, spotsC_y, hu]
    have okR : HOk (nr + 1) ((nr, ⟨2, cl [SV.int .i8 (ux : Int), SV.int .i8 (uy : Int)], true, none⟩) :: hr) := J.ok.consF fun k hk => pair_flat _ _ hk
    have exR : HExt nr hr ((nr, ⟨2, cl [SV.int .i8 (ux : Int), SV.int .i8 (uy : Int)], true, none⟩) :: hr) := by simp only [go_sem, HExt_cons]
    have JR := (J.to (Nat.le_succ nr) okR exR)
    have JM := JR.mark (mpS bm (addD mr (uy * 8 + ux))) fun k hk => absurd hk (Nat.not_lt_zero k)
    have hMM := hMr.add hux huy
    have etk : (partN (isB S p) A q).flatten ++ R.take k ++ [((ux : Int), (uy : Int))] = (partN (isB S p) A q).flatten ++ R.take (k + 1) := by
      rw [List.append_assoc, List.take_succ, List.getElem?_eq_getElem hko]
      congr 2
      rw [← hu, List.getD_eq_getElem?_getD, List.getElem?_eq_getElem hko]
      rfl
    rw [etk] at hMM
    refine T_mapUp (i := n + 1) (b := bm) (m := mr) (px := ux) (py := uy) (e := 4) mapTy (by simp only [go_sem, Nat.reduceLT]) (by simp only [go_sem]) (by simp only [go_sem]) hux huy JR.mp ?_
    have g3M : hget (hset ((nr, (⟨2, cl [SV.int .i8 (ux : Int), SV.int .i8 (uy : Int)], true, none⟩ : Seg)) :: hr) (n + 1) (mpS bm (addD mr (uy * 8 + ux)))) jr = some sR := by
      rw [hget_hset, if_neg (by omega)]; exact exR jr hjrn _ g3
    generalize hHH : hset ((nr, (⟨2, cl [SV.int .i8 (ux : Int), SV.int .i8 (uy : Int)], true, none⟩ : Seg)) :: hr) (n + 1) (mpS bm (addD mr (uy * 8 + ux))) = hM' at *
    simp only [go_sem, Nat.reduceLT]
    refine ⟨⟨(k + 1, hM', nr + 1, addD mr (uy * 8 + ux)), ⟨by show k + 1 ≤ R.length; omega, by show n2 ≤ nr + 1; omega⟩, JM, hMM, g3M⟩, by show R.length - (k + 1) < R.length - k; omega, ?_⟩
    refine Imp.id (by show n ≤ nr + 1; omega) ?_ (impH.base0 JM.ok (Nat.le_refl _) HExt.rfl)
    simp only [go_sem, Nat.reduceLT, hFl, SV.lt_mono (show n ≤ nr + 1 by omega) _ hfl, w64N (a := (k : Int) + 1) (k := k + 1) (by omega) (by omega)]
    (try (repeat' apply And.intro) <;> first | omega | rfl | trivial | assumption | skip)
  have ek : k = R.length := by omega
  subst ek
  rw [List.take_length] at hMr
  have v5 := J.lss.seg
  have v6 := J.lss.le
  have v7 := J.lss.cap
  have v8 : nr ≠ j := by omega
  have v9 : nr + 1 ≠ j := by omega
  simp only [go_sem, Nat.reduceLT, Nat.reduceLeDiff, v5, hjr, v8, v9]
  refine ⟨⟨v6, v7, by omega⟩, fun cap' m1 m2 => ?_⟩
  generalize hC : upd (zrow _) 0 (SV.sl jr 0 R.length capR) = C
  have hC0 : C 0 = .sl jr 0 R.length capR := by rw [← hC]; rfl
  have him := I.iml
  have key := J.app (cap' := cap') (cpR := capR) (c1 := C) (R := R) (jr := jr) (w := some (46, 1)) ⟨sR, g3, c4, c5, c7⟩ (by omega) (by omega) (by omega) (by omega) (fun k hk => by have := I.lss.rlt k hk; omega) hC0 m1 m2 rfl
  rw [← hnewL] at key
  have hlen : (partN (isB S p) A (q + 1)).length = (partN (isB S p) A q).length + 1 := by rw [hnewL, List.length_append]; rfl
  refine ⟨⟨(q + 1, _, nr + 2, mr, (nr + 1, cap', _, _, _)), by show q + 1 ≤ A.length; omega, key, by rw [hnewL, List.flatten_append]; simpa using hMr⟩, by show A.length - (q + 1) < A.length - q; omega, ?_⟩
  refine Imp.id (by show n ≤ nr + 2; omega) ?_ (impH.base0 key.ok (Nat.le_refl _) HExt.rfl)
  simp only [go_sem, Nat.reduceLT, hFl, SV.lt_mono (show n ≤ nr + 2 by omega) _ hfl, hlen, w64N (a := (q : Int) + 1) (k := q + 1) (by omega) (by omega)]
  (try (repeat' apply And.intro) <;> first | omega | rfl | trivial | assumption | skip)
end
end Go.Proofs.Ytddnnodkkdjniaa.V

/- BlotsOf and PuddlesOf: the program's own code. -/
namespace Go.Proofs.Ytddnnodkkdjniaa.V
def wetP (S : Sh) : Int → Int → Bool := fun x y => decide (0 < S.wet y x)
/-- The cells that are asked for, in order. -/
def thoseL (S : Sh) (p : Int → Int → Bool) : LSp := (cellsL S.wide.toNat S.high.toNat).filter fun a => p a.1 a.2
noncomputable def puddR (S : Sh) : List LSp × Int :=
  if codeI S true = 0 then (partN (isB S (wetP S)) (thoseL S (wetP S)) (thoseL S (wetP S)).length, 0) else ([], codeI S true)
theorem thoseL_in8 {S : Sh} (hS : Small S) (p : Int → Int → Bool) : In8s (thoseL S p) := fun a ha => by
  obtain ⟨h1, -⟩ := List.mem_filter.1 ha
  obtain ⟨k, hk, e⟩ := List.mem_map.1 h1
  rw [List.mem_range] at hk
  obtain ⟨hW, hH, _, _⟩ := valid_sides hS
  have := hasB_in hS (hasB_jW hW hH hk)
  rw [← e]
  exact ⟨⟨this.1, this.2.1⟩, this.2.2⟩
theorem thoseL_len {S : Sh} (hS : Small S) (p : Int → Int → Bool) : (thoseL S p).length ≤ 64 := by
  obtain ⟨hW, hH, hW8, hH8⟩ := valid_sides hS
  refine Nat.le_trans (List.length_filter_le _ _) ?_
  rw [cellsL_len]
  exact Nat.mul_le_mul hH8 hW8
theorem parts_small {S : Sh} (hS : Small S) (p : Int → Int → Bool) : (partN (isB S p) (thoseL S p) (thoseL S p).length).length ≤ 64 ∧ ∀ k, ((partN (isB S p) (thoseL S p) (thoseL S p).length).getD k []).length ≤ 64 :=
  ⟨Nat.le_trans (partN_len _ _ _) (thoseL_len hS p), fun k => partN_rows64 (isB_8 hS p) (thoseL_in8 hS p) _ (Nat.le_refl _) k⟩
theorem puddR_small (S : Sh) : (puddR S).1.length ≤ 64 ∧ ∀ k, ((puddR S).1.getD k []).length ≤ 64 := by
  unfold puddR; split
  · rename_i hc; exact parts_small (codeI_0 hc).1.1 _
  · exact ⟨Nat.zero_le _, fun k => by simp⟩
section
variable (cx : Cx) (h : List (Nat × Seg)) (n : Nat)
theorem isWetP_Q (i o : Nat) (s : Seg) (S : Sh) (x y : Int) (hs : hget h i = some s) (hi : i < n) (hS : ShAt s o S) (hx : 0 ≤ x) (hx8 : x < 8) (hy : 0 ≤ y) (hy8 : y < 8) :
    CallQ Try.prog cx 23 [.ptr i o, spot x y] h n (.bool (wetP S x y)) := by
  refine callQ_of_T (P := Try.prog) hti (nt := 9) (rs := [.tmp 4]) rfl rfl Try.call23 Try.func23 rfl _ (by simp only [go_sem, and_self]) (Nat.le_of_ble_eq_true rfl) _ (by first | exact trivial | (refine lt_flat rfl ?_; simp [SV.flat]; done) | simp only [go_sem]) fun hok => ?_
  have hni : n ≠ i := by omega
  simp only [go_sem, Nat.reduceLT]
  refine (wet_Q _ _ _ i o s S x y (by first | (simp only [go_sem, hs, hi, hni]; done) | (simp only [go_sem, Nat.reduceBEq, Nat.reduceLT, Nat.reduceLeDiff, Nat.reduceAdd, Nat.reduceMul, Nat.reduceSub, Nat.reduceMod, Nat.reduceDiv, Nat.reduceEqDiff, Int.reduceToNat, reduceIte, reduceCtorEq, Int.reduceLE, Int.reduceLT, Int.reduceEq, Int.reduceNeg, Int.reduceAdd, Int.reduceSub, Int.reduceMul, hs, hi, hni]; rfl)) (by omega) hS hx hx8 hy hy8).A ?_
  simp only [go_sem, Nat.reduceLT, wetP, gt_iff_lt]
theorem pudd_E (S : Sh) (hR : ShR S) (K : HK)
    (hK : ∀ V h' n', n ≤ n' → HExt n h h' → HOk n' h' → LssOut h' n n' V (puddR S).1 → K (.tup 2 (cl [V, .int .i64 (puddR S).2])) h' n') :
    CallE Try.prog cx 7 [.agg 266 (shC S)] h n K := by
  refine CallE.hokE ?_
  refine callE_of_T (P := Try.prog) hti (nt := 11) (rs := [.tmp 2, .tmp 3]) rfl rfl Try.call7 Try.func7 rfl _ (by simp only [go_sem, and_self]) (Nat.le_of_ble_eq_true rfl) _ fun hok => ?_
  simp only [go_sem, Nat.reduceLT]
  refine (code_Q _ _ _ n 0 (shS S) S true (by simp only [go_sem]) (by omega) (shAt_shC hR)).A ?_
  by_cases hc : codeI S true = 0
  rotate_left
  · have e : puddR S = ([], codeI S true) := by unfold puddR; rw [if_neg hc]
    rw [e] at hK
    simp only [go_sem, Nat.reduceLT, hc]
    exact fun hok' => hK _ _ _ (by omega) (by simp only [go_sem, HExt_cons]) hok' (.inl ⟨rfl, rfl⟩)
  obtain ⟨hV, -⟩ := codeI_0 hc
  have hsm := hV.1
  obtain ⟨hW, hH, hW8, hH8⟩ := valid_sides hsm
  have e : puddR S = (partN (isB S (wetP S)) (thoseL S (wetP S)) (thoseL S (wetP S)).length, 0) := by unfold puddR; rw [if_pos hc]
  rw [e] at hK
  simp only [go_sem, Nat.reduceLT, hc]
  refine callA_false (parts_E ⟨cx.w0, cx.W, 11, n⟩ _ (n + 1) n S _ _ (by simp only [go_sem]) (by omega) hR hsm hW hH hW8 hH8 _ _ _ _ _ ?_ (wetP S) (fun x' y' hb => ?_) _ fun V h' n' hn' hx' hok' hV' => ?_)
  · exact fn_lt (xs := [.ptr n 0]) (ys := []) (fun v hv => by simp at hv; subst hv; exact (show n < _ by omega)) (fun v hv => by cases hv)
  · intro nt n0 h1 n1 hn1 hx1
    obtain ⟨x0, x8, y0, y8⟩ := hasB_in hsm hb
    exact isWetP_Q _ h1 n1 n 0 (shS S) S x' y' (hx1 n (by omega) _ (by simp only [go_sem])) (by omega) (shAt_shC hR) x0 x8 y0 y8
  · have Vo := hV'.ok
    simp only [go_sem, Nat.reduceLT, Vo]
    exact fun hok2 => hK V h' n' (by omega) (HExt.tr (m' := n + 1) (by simp only [go_sem, HExt_cons]) hx' (by omega)) hok2 (hV'.mlo (by omega))
end
end Go.Proofs.Ytddnnodkkdjniaa.V

/- BlotsOf: the reference's walk. -/
namespace Go.Proofs.Ytddnnodkkdjniaa.V
theorem upM_reach {is : Int → Int → Bool} (his : ∀ x y, is x y = true → In8 (x, y)) {a : Int × Int} (ha : In8 a) : upM (bfs is 65 [a] 0) 64 = reachL is a :=
  upM_setL (BOk.bfs his 65 [a] 0 (BOk.one ha)).in8
section
variable (cx : Cx) (h : List (Nat × Seg)) (n : Nat)
end
end Go.Proofs.Ytddnnodkkdjniaa.V

/- PuddlesOf: the reference's walk. -/
namespace Go.Proofs.Ytddnnodkkdjniaa.V
theorem foldl_skip {α β : Type} (f : β → α → β) (P : α → Bool) (h : ∀ b a, P a = false → f b a = b) : ∀ (L : List α) (b : β), (L.filter P).foldl f b = L.foldl f b
  | [], _ => rfl
  | a :: L, b => by
    rw [List.filter_cons]
    cases hp : P a
    · rw [if_neg (by simp), List.foldl_cons, h b a hp]; exact foldl_skip f P h L b
    · rw [if_pos rfl, List.foldl_cons, List.foldl_cons]; exact foldl_skip f P h L _
theorem wet_dry {S : Sh} (hV : Valid S) {x y : Int} (h : nbB S x y = true) : isB S (wetP S) x y = false := by
  unfold nbB at h
  cases hb : hasB S x y
  · unfold isB; rw [hb]; rfl
  · rw [hb, Bool.not_true, Bool.false_or] at h
    obtain ⟨x0, x8, y0, y8⟩ := hasB_in hV.1 hb
    rcases (hV.2 y x y0 y8 x0 x8).2.2.2 with e | e
    · rw [h] at e; cases e.2
    · unfold isB wetP; rw [e.1]; simp
theorem nb_hasB {S : Sh} {x y : Int} {p : Int × Int} (h : p ∈ nb S x y) : hasB S p.1 p.2 = true := by
  have := (List.mem_filter.1 h).2
  unfold nbB at this
  cases hb : hasB S p.1 p.2
  · rw [hb] at this; simp at this
  · rfl
theorem nb_step {S : Sh} (hV : Valid S) (out : LSp) (p : Int × Int) : (nb S p.1 p.2).foldl (addB (isB S (wetP S))) out = stepK (isB S (wetP S)) out p 4 := by
  unfold nb stepK
  rw [foldl_skip]
  · rfl
  · intro b a ha
    refine addB_old fun h => ?_
    rw [wet_dry hV (by simpa using ha)] at h
    cases h.1
section
variable (cx : Cx) (h : List (Nat × Seg)) (n : Nat)
set_option maxHeartbeats 3200000 in
theorem puddle_Q (i : Nat) (S : Sh) (a : Int × Int) (hV : Valid S) (hs : hget h i = some (shS S)) (hi : i < n) (hR : ShR S) (ha8 : In8 a) :
    CallQ Try.prog cx 16 [.ptr i 0, spot a.1 a.2] h n (.agg 64 (mkC (bfs (isB S (wetP S)) 65 [a] 0))) := by
  have hG := hV.good
  have hsm := hG.small
  have his := isB_8 hsm (wetP S)
  have hst0 := mkC_set [] ha8.2.1 ha8.1.1 ha8.1.2
  refine callQ_of_T (P := Try.prog) hti (nt := 80) (rs := [.cell 4 45]) rfl rfl Try.call16 Try.func16 rfl _ (by simp only [go_sem, and_self]) (Nat.le_of_ble_eq_true rfl) _ (by first | exact trivial | (refine lt_flat rfl ?_; simp [SV.flat]; done) | simp only [go_sem]) fun hok => ?_
  simp only [go_sem, Nat.reduceLT, Nat.reduceEqDiff, reduceIte]
  refine T_drawT hti 6 _ _ (by kernel_rfl) (by kernel_rfl) ?_
  simp only [go_sem, Nat.reduceLT, Nat.reduceLeDiff, Nat.reduceMul, Nat.reduceEqDiff, reduceIte, reduceCtorEq, ha8.1.1, ha8.1.2, ha8.2.1, ha8.2.2]
  rw [hst0]
  have e1 : ∀ k, k < 2 → (fun j => if j < 2 then cl [SV.int .i8 a.1, SV.int .i8 a.2] (j - 0) else cl [SV.int .i8 0, SV.int .i8 0] (j % 2)) k = spotsC [a] k := fun k hk => by
    rcases (by omega : k = 0 ∨ k = 1) with rfl | rfl <;> rfl
  refine ⟨by have := ha8.1; have := ha8.2; omega, ?_⟩
  generalize hc0 : (fun j => if j < 2 then cl [SV.int .i8 a.1, SV.int .i8 a.2] (j - 0) else cl [SV.int .i8 0, SV.int .i8 0] (j % 2)) = c0 at *
  have ok1 : HOk (n + 4) ((n + 3, ⟨2, c0, true, some (50, 2)⟩) :: (n + 2, mkS [a]) :: (n + 1, mkS []) :: (n, ⟨2, cl [SV.int .i8 a.1, SV.int .i8 a.2], true, none⟩) :: h) :=
    (((hok.consF fun k hk => pair_flat _ _ hk).consF fun k hk => mkC_flat _ _).consF fun k hk => mkC_flat _ _).consF fun k hk => by rw [show Seg.c _ k = c0 k from rfl, e1 k hk]; exact spotsC_flat _ _
  have I0 : MkI h n ((n + 3, ⟨2, c0, true, some (50, 2)⟩) :: (n + 2, mkS [a]) :: (n + 1, mkS []) :: (n, ⟨2, cl [SV.int .i8 a.1, SV.int .i8 a.2], true, none⟩) :: h) (n + 4) (.sl (n + 3) 0 1 1) [a] :=
    ⟨by omega, ok1, by simp only [go_sem, HExt_cons], by simp only [go_sem, Nat.reduceLT], by simp only [go_sem, Nat.reduceLT], n + 3, 1, _, rfl, Nat.le_refl _, by omega, hget_hit _ _ _, rfl, rfl, rfl, Nat.le_refl _, by decide, e1⟩
  obtain ⟨R, hRR⟩ : ∃ R, bfs (isB S (wetP S)) 65 [a] 0 = R := ⟨_, rfl⟩
  rw [hRR]
  refine T_lp (ι := { q : Nat × List (Int × Int) × List (Nat × Seg) × Nat × SV // (q.1 ≤ q.2.1.length ∧ BOk q.2.1 ∧ bfs (isB S (wetP S)) (65 - q.1) q.2.1 q.1 = R) ∧ MkI h n q.2.2.1 q.2.2.2.1 q.2.2.2.2 q.2.1 })
    (fun q => ([(0, .ptr i 0), (4, .ptr (n + 1) 0), (5, .ptr (n + 2) 0), (6, q.1.2.2.2.2), (7, .int .i64 ((q.1.1 : Nat) : Int))], q.1.2.2.1, q.1.2.2.2.1)) (fun q => 65 - q.1.1) ⟨(0, [a], _, n + 4, .sl (n + 3) 0 1 1), ⟨Nat.zero_le _, BOk.one ha8, hRR⟩, I0⟩ ?_ ?_
  · refine Imp.id (by show n ≤ n + 4; omega) ?_ (impH.base0 ok1 (Nat.le_refl _) HExt.rfl)
    simp only [go_sem, Nat.reduceLT]
    (try (repeat' apply And.intro) <;> first | omega | rfl | trivial | assumption | skip)
  rintro ⟨⟨q, out, hq, nq, V⟩, ⟨hql, hB, hF⟩, I⟩
  simp only at hql hB hF I
  have Vo := I.ls.sp.ok
  have hl64 := hB.len
  have hn0 := I.hn
  have V5 := I.ls
  obtain ⟨jv, capV, sV, e, v1, v2, v3, v4, v5, v6, v7, v8, v9⟩ := V5
  subst e
  simp only [go_sem, Nat.reduceLT, decide_eq_true_eq, decide_eq_false_iff_not]
  refine ⟨fun h1 => ?_, fun h1 => ?_⟩
  rotate_left
  · have hqo : ¬ q < out.length := by omega
    rw [bfs_stop hqo] at hF
    subst hF
    have a1 := I.g1
    have a0 := I.g0
    have c1 : n + 2 < nq := by omega
    have c0' : n + 1 < nq := by omega
    simp only [go_sem, Nat.reduceLT, reduceIte, a1, a0, c1, c0']
    exact fun z hz t ht => by rw [hget_hset, if_neg (by omega)]; exact I.ex z hz t ht
  have hqo : q < out.length := by omega
  have a8 := hB.in8 _ (spots_at hqo)
  rw [bfs_go hqo hl64] at hF
  obtain ⟨c, hcc⟩ : ∃ c, out.getD q (0, 0) = c := ⟨_, rfl⟩
  rw [hcc] at hF a8
  have r1 : (0 : Int) ≤ q ∧ (q : Int) < out.length := ⟨by omega, by omega⟩
  have b1 : q * 2 ≤ sV.n - 2 := by omega
  have b2 : 2 ≤ sV.n := by omega
  have b3 : q * 2 + 2 ≤ sV.n := by omega
  have hiq : hget hq i = some (shS S) := I.ex i hi _ hs
  simp only [go_sem, Nat.reduceLT, v3, v2, r1, b1, b2, b3, v9 (q * 2) (by omega), v9 (q * 2 + 1) (by omega), spotsC_x, spotsC_y, hcc]
  refine callA_false (beside2_E _ _ _ i 0 (shS S) S c.1 c.2 hiq (by omega) (shAt_shC hR) hsm (by have := a8.1; omega) (by have := a8.2; omega) _ fun capN => ?_)
  have hNB4 := nb_len4 S c.1 c.2
  have hstep := nb_step hV out c
  have hNBin : ∀ k, k < (nb S c.1 c.2).length → hasB S ((nb S c.1 c.2).getD k (0, 0)).1 ((nb S c.1 c.2).getD k (0, 0)).2 = true := fun k hk => nb_hasB (spots_at hk)
  generalize hNN : nb S c.1 c.2 = N at *
  have okB : HOk (nq + 1) ((nq, ⟨N.length * 2, spotsC N, true, none⟩) :: hq) := I.ok.consF fun k hk => spotsC_flat _ _
  have exB : HExt nq hq ((nq, ⟨N.length * 2, spotsC N, true, none⟩) :: hq) := by simp only [go_sem, HExt_cons]
  have IB := I.ext exB (Nat.le_succ nq) okB
  simp only [go_sem, Nat.reduceLT]
  refine T_lp (ι := { r : Nat × List (Nat × Seg) × Nat × SV // r.1 ≤ N.length ∧ nq + 1 ≤ r.2.2.1 ∧ MkI h n r.2.1 r.2.2.1 r.2.2.2 ((N.take r.1).foldl (addB (isB S (wetP S))) out) ∧ hget r.2.1 nq = some ⟨N.length * 2, spotsC N, true, none⟩ ∧ BOk ((N.take r.1).foldl (addB (isB S (wetP S))) out) ∧ (∀ o l cp, r.2.2.2 ≠ .sl nq o l cp) ∧ out.length ≤ ((N.take r.1).foldl (addB (isB S (wetP S))) out).length })
    (fun r => ([(0, .ptr i 0), (4, .ptr (n + 1) 0), (5, .ptr (n + 2) 0), (6, r.1.2.2.2), (7, .int .i64 ((q : Nat) : Int)), (8, .sl nq 0 N.length capN), (9, .int .i64 ((r.1.1 : Nat) : Int))], r.1.2.1, r.1.2.2.1)) (fun r => N.length - r.1.1)
    ⟨(0, _, nq + 1, .sl jv 0 out.length capV), Nat.zero_le _, Nat.le_refl _, IB, hget_hit _ _ _, hB, by intro o l cp e; cases e; omega, Nat.le_refl _⟩ ?_ ?_
  · refine Imp.id (by show n ≤ nq + 1; omega) ?_ (impH.base0 okB (Nat.le_refl _) HExt.rfl)
    have v2' : jv < nq + 1 := by omega
    simp only [go_sem, Nat.reduceLT, v2']
    (try (repeat' apply And.intro) <;> first | omega | rfl | trivial | assumption | skip)
  rintro ⟨⟨k, hr, nr, Vr⟩, hk, hrn, J, gN, hBk, hnN, hgrow⟩
  simp only at hk hrn J gN hBk hnN hgrow
  have Vro := J.ls.sp.ok
  have hl64k := hBk.len
  have hnr := J.hn
  simp only [go_sem, Nat.reduceLT, Vro, decide_eq_true_eq, decide_eq_false_iff_not]
  refine ⟨fun k1 => ?_, fun k1 => ?_⟩
  rotate_left
  · have ek : k = N.length := by omega
    subst ek
    rw [List.take_length, hstep] at J hBk hgrow
    try simp only [go_sem, Nat.reduceBEq, Nat.reduceLT, Nat.reduceLeDiff, Nat.reduceAdd, Nat.reduceMul, Nat.reduceSub, Nat.reduceMod, Nat.reduceDiv, Nat.reduceEqDiff, Int.reduceToNat, reduceIte, reduceCtorEq, Int.reduceLE, Int.reduceLT, Int.reduceEq, Int.reduceNeg, Int.reduceAdd, Int.reduceSub, Int.reduceMul, Vro]
    refine ⟨⟨(q + 1, stepK (isB S (wetP S)) out c 4, hr, nr, Vr), ⟨Nat.le_trans (show q + 1 ≤ out.length by omega) hgrow, hBk, hF⟩, J⟩, by show 65 - (q + 1) < 65 - q; omega, ?_⟩
    refine Imp.id (by show n ≤ nr; omega) ?_ (impH.base0 J.ok (Nat.le_refl _) HExt.rfl)
    simp only [go_sem, Nat.reduceLT, Vro, J.ls.sp.lt, w64N (a := (q : Int) + 1) (k := q + 1) (by omega) (by omega)]
    (try (repeat' apply And.intro) <;> first | omega | rfl | trivial | assumption | skip)
  have hko : k < N.length := by omega
  have hd := hNBin k hko
  have hsuc : (N.take (k + 1)).foldl (addB (isB S (wetP S))) out = addB (isB S (wetP S)) ((N.take k).foldl (addB (isB S (wetP S))) out) (N.getD k (0, 0)) := by
    rw [List.take_succ, List.getElem?_eq_getElem hko, List.foldl_append, List.getD_eq_getElem?_getD, List.getElem?_eq_getElem hko]; rfl
  obtain ⟨d, hdd⟩ : ∃ d, N.getD k (0, 0) = d := ⟨_, rfl⟩
  rw [hdd] at hsuc hd
  have d8 := hasB_in hsm hd
  obtain ⟨X, hX⟩ : ∃ X, (N.take k).foldl (addB (isB S (wetP S))) out = X := ⟨_, rfl⟩
  rw [hX] at J hsuc hBk hl64k hgrow
  have hir : hget hr i = some (shS S) := J.ex i hi _ hs
  have hin : i < nr := by omega
  have hnqr : nq < nr := by omega
  have q1 : (0 : Int) ≤ k ∧ (k : Int) < N.length := ⟨by omega, by omega⟩
  have e1 : k * 2 ≤ N.length * 2 - 2 := by omega
  have e2 : 2 ≤ N.length * 2 := by omega
  have e3 : k * 2 + 2 ≤ N.length * 2 := by omega
  have e4 : k * 2 ≤ N.length * 2 - 1 := by omega
  have e5 : k * 2 + 1 ≤ N.length * 2 - 1 := by omega
  have e6 : 1 ≤ N.length * 2 := by omega
  have e7 : k * 2 + 1 ≤ N.length * 2 := by omega
  have j1 := J.g1
  have c2 : n + 2 < nr := by omega
  have J5 := J.ls
  obtain ⟨ju, capU, sU, eU, w1, w2, w3, w4, w5, w6, w7, w8, w9⟩ := J5
  subst eU
  obtain ⟨un, uc, ur, uo⟩ := sU
  simp only at w4 w5 w6 w9
  subst w4 w5 w6
  have hju : ju ≠ nq := fun e => hnN _ _ _ (by rw [e])
  have hmd := mkC_at X d8.2.2.1 d8.1 d8.2.1
  have hd63 : d.2.toNat * 8 + d.1.toNat ≤ 63 := by omega
  have hBnew := hBk.add his d
  have old : addB (isB S (wetP S)) X d = X → ∃ j : { r : Nat × List (Nat × Seg) × Nat × SV // r.1 ≤ N.length ∧ nq + 1 ≤ r.2.2.1 ∧ MkI h n r.2.1 r.2.2.1 r.2.2.2 ((N.take r.1).foldl (addB (isB S (wetP S))) out) ∧ hget r.2.1 nq = some ⟨N.length * 2, spotsC N, true, none⟩ ∧ BOk ((N.take r.1).foldl (addB (isB S (wetP S))) out) ∧ (∀ o l cp, r.2.2.2 ≠ .sl nq o l cp) ∧ out.length ≤ ((N.take r.1).foldl (addB (isB S (wetP S))) out).length },
      j.1 = (k + 1, hr, nr, .sl ju 0 X.length capU) := fun e =>
    ⟨⟨(k + 1, hr, nr, .sl ju 0 X.length capU), hko, hrn, by show MkI _ _ _ _ _ _; rw [hsuc, e]; exact J, gN, by show BOk _; rw [hsuc, e]; exact hBk, hnN, by show _ ≤ List.length _; rw [hsuc, e]; exact hgrow⟩, rfl⟩
  refine T_draw hti _ _ (by kernel_rfl) (by kernel_rfl) ?_
  simp only [go_sem, Nat.reduceLT, gN, hnqr, q1, e1, e2, e3, e4, e5, e6, spotsC_x, spotsC_y, hdd]
  refine (wet2_Q _ _ _ i 0 (shS S) S d.1 d.2 hir hin (shAt_shC hR) d8.1 d8.2.1 d8.2.2.1 d8.2.2.2).A ?_
  by_cases hw : 0 < S.wet d.2 d.1
  rotate_left
  · have e : addB (isB S (wetP S)) X d = X := addB_old (by rintro ⟨h1, _⟩; unfold isB wetP at h1; rw [decide_eq_false hw, Bool.and_false] at h1; cases h1)
    obtain ⟨⟨v, Iv⟩, rfl⟩ := old e
    simp only [go_sem, Nat.reduceLT, hw]
    refine ⟨⟨_, Iv⟩, by show N.length - (k + 1) < N.length - k; omega, ?_⟩
    refine Imp.id (by show n ≤ nr; omega) ?_ (impH.base0 J.ok (Nat.le_refl _) HExt.rfl)
    simp only [go_sem, Nat.reduceLT, w2, w64N (a := (k : Int) + 1) (k := k + 1) (by omega) (by omega)]
    (try (repeat' apply And.intro) <;> first | omega | rfl | trivial | assumption | skip)
  by_cases hdX : d ∈ X
  · have hdX' : ((d.1, d.2) ∈ X) = True := eq_true hdX
    have e : addB (isB S (wetP S)) X d = X := addB_old (fun h => h.2 hdX)
    obtain ⟨⟨v, Iv⟩, rfl⟩ := old e
    simp only [go_sem, Nat.reduceLT, Nat.reduceLeDiff, reduceCtorEq, hw, gN, hnqr, q1, e1, e2, e3, e4, e5, e6, spotsC_x, spotsC_y, hdd, j1, c2, d8.1, d8.2.1, d8.2.2.1, d8.2.2.2, hmd, hd63, hdX']
    refine ⟨e7, ⟨_, Iv⟩, by show N.length - (k + 1) < N.length - k; omega, ?_⟩
    refine Imp.id (by show n ≤ nr; omega) ?_ (impH.base0 J.ok (Nat.le_refl _) HExt.rfl)
    simp only [go_sem, Nat.reduceLT, w2, w64N (a := (k : Int) + 1) (k := k + 1) (by omega) (by omega)]
    (try (repeat' apply And.intro) <;> first | omega | rfl | trivial | assumption | skip)
  have hdX' : ((d.1, d.2) ∈ X) = False := eq_false hdX
  have enew : addB (isB S (wetP S)) X d = X ++ [d] := addB_new (by unfold isB wetP; rw [hd, decide_eq_true hw]; rfl) hdX
  rw [enew] at hsuc hBnew
  have hst3 := mkC_set X d8.2.2.1 d8.1 d8.2.1
  have emk : mkC ((d.1, d.2) :: X) = mkC (X ++ [d]) := mkC_congr fun p => by show p ∈ d :: X ↔ _; simp [or_comm]
  rw [emk] at hst3
  simp only [go_sem, Nat.reduceLT, Nat.reduceLeDiff, reduceCtorEq, hw, gN, hnqr, q1, e1, e2, e3, e4, e5, e6, spotsC_x, spotsC_y, hdd, j1, c2, d8.1, d8.2.1, d8.2.2.1, d8.2.2.2, hmd, hd63, hdX']
  refine ⟨e7, ?_⟩
  refine T_drawT hti 12 _ _ (by kernel_rfl) (by kernel_rfl) ?_
  have w3h : ∀ t, hget (hset hr (n + 2) t) ju = some ⟨X.length * 2, uc, true, some (50, capU * 2)⟩ := fun t => by rw [hget_hset, if_neg (by omega)]; exact w3
  have gNh : ∀ t, hget (hset hr (n + 2) t) nq = some ⟨N.length * 2, spotsC N, true, none⟩ := fun t => by rw [hget_hset, if_neg (by omega)]; exact gN
  have nr1 : nr ≠ ju := by omega
  have nr4 : nr + 1 ≠ ju := by omega
  simp only [go_sem, Nat.reduceLT, Nat.reduceLeDiff, Nat.reduceMul, Nat.reduceSub, Nat.reduceMod, Nat.reduceEqDiff, reduceIte, reduceCtorEq, gN, gNh, hnqr, q1, e1, e2, e3, e4, e5, e6, spotsC_x, spotsC_y, hdd, j1, c2, d8.1, d8.2.1, d8.2.2.1, d8.2.2.2, hd63, hst3, w3h, w2, nr1, nr4]
  refine ⟨e7, ⟨w7, w8, by omega⟩, fun cap' m1 m2 => ?_⟩
  have okH : HOk nr (hset hr (n + 2) (mkS (X ++ [d]))) := J.ok.hset fun k hk => (mkC_flat (X ++ [d]) k).below _
  have exH : HExt n h (hset hr (n + 2) (mkS (X ++ [d]))) := fun z hz t ht => by
    rw [hget_hset, if_neg (by omega)]; exact J.ex z hz t ht
  obtain ⟨okM, exM, -⟩ := app1 (a := d) (n := n) (h := h) (nq := nr) (jv := ju) (w := some (50, 2)) (c1 := fun j => if j < 2 then cl [SV.int IntKind.i8 d.1, SV.int IntKind.i8 d.2] (j - 0) else cl [SV.int IntKind.i8 0, SV.int IntKind.i8 0] (j % 2)) (by omega) okH exH (by omega) rfl rfl w9 m1 m2
  obtain ⟨-, -, spM⟩ := app1 (a := d) (n := n + 3) (h := []) (nq := nr) (jv := ju) (w := some (50, 2)) (c1 := fun j => if j < 2 then cl [SV.int IntKind.i8 d.1, SV.int IntKind.i8 d.2] (j - 0) else cl [SV.int IntKind.i8 0, SV.int IntKind.i8 0] (j % 2)) (by omega) okH (fun z hz t ht => by simp [hget] at ht) w1 rfl rfl w9 m1 m2
  have gg : ∀ z, z < nr → z ≠ ju → z ≠ n + 2 → ∀ t1 t2, hget ((nr + 1, t1) :: (nr, t2) :: hdel (hset hr (n + 2) (mkS (X ++ [d]))) ju) z = hget hr z := fun z hz hz1 hz2 t1 t2 => by
    simp only [hget]; rw [if_neg (by omega), if_neg (by omega), hget_hdel, if_neg (Ne.symm hz1), hget_hset, if_neg (Ne.symm hz2)]
  have JM : MkI h n _ (nr + 2) (.sl (nr + 1) 0 (X.length + 1) cap') (X ++ [d]) := ⟨by omega, okM, exM, by rw [gg (n + 1) (by omega) (by omega) (by omega)]; exact J.g0, by
    simp only [hget]; rw [if_neg (by omega), if_neg (by omega), hget_hdel, if_neg (by omega)]; exact hget_hset_self J.g1 _, spM⟩
  refine ⟨⟨(k + 1, _, nr + 2, .sl (nr + 1) 0 (X.length + 1) cap'), hko, by show nq + 1 ≤ nr + 2; omega, by show MkI _ _ _ _ _ _; rw [hsuc]; exact JM, by show hget _ _ = _; rw [gg nq (by omega) (by omega) (by omega)]; exact gN, by show BOk _; rw [hsuc]; exact hBnew, by intro o l cp e; cases e; omega, by show _ ≤ List.length _; rw [hsuc, List.length_append]; omega⟩, by show N.length - (k + 1) < N.length - k; omega, ?_⟩
  refine Imp.id (by show n ≤ nr + 2; omega) ?_ (impH.base0 okM (Nat.le_refl _) HExt.rfl)
  simp only [go_sem, Nat.reduceLT, w64N (a := (k : Int) + 1) (k := k + 1) (by omega) (by omega)]
  (try (repeat' apply And.intro) <;> first | omega | rfl | trivial | assumption | skip)
end
end Go.Proofs.Ytddnnodkkdjniaa.V

/- PuddlesOf: the reference's walk, all puddles. -/
namespace Go.Proofs.Ytddnnodkkdjniaa.V
theorem filt_get {p : Int × Int → Bool} : ∀ (C : LSp) (q : Nat), q < C.length → p (C.getD q (0, 0)) = true → (C.filter p).getD ((C.take q).filter p).length (0, 0) = C.getD q (0, 0)
  | [], q, h, _ => absurd h (Nat.not_lt_zero q)
  | a :: C, 0, _, hp => by
    have hp : p a = true := hp
    show ((a :: C).filter p).getD 0 (0, 0) = a
    rw [List.filter_cons, if_pos hp]; rfl
  | a :: C, q + 1, h, hp => by
    have ih := filt_get C q (by simpa using h) hp
    show ((a :: C).filter p).getD ((a :: C.take q).filter p).length (0, 0) = C.getD q (0, 0)
    rw [List.filter_cons, List.filter_cons]
    cases p a
    · exact ih
    · exact ih
theorem filt_take {p : Int × Int → Bool} (C : LSp) {q : Nat} (h : q < C.length) : ((C.take (q + 1)).filter p).length = ((C.take q).filter p).length + (if p (C.getD q (0, 0)) = true then 1 else 0) := by
  rw [List.take_succ, List.getElem?_eq_getElem h, List.filter_append, List.length_append, List.getD_eq_getElem?_getD, List.getElem?_eq_getElem h]
  show _ + (List.filter p [C[q]]).length = _
  rw [List.filter_cons]
  show _ = _ + (if p C[q] = true then 1 else 0)
  split <;> rfl
section
variable (cx : Cx) (h : List (Nat × Seg)) (n : Nat)
set_option maxHeartbeats 3200000 in
theorem pudd2_E (S : Sh) (hR : ShR S) (K : HK)
    (hK : ∀ V h' n', n ≤ n' → HExt n h h' → HOk n' h' → LssOut h' n n' V (puddR S).1 → K (.tup 2 (cl [V, .int .i64 (puddR S).2])) h' n') :
    CallE Try.prog cx 5 [.agg 266 (shC S)] h n K := by
  refine CallE.hokE ?_
  refine callE_of_T (P := Try.prog) hti (nt := 73) (rs := [.tmp 2, .tmp 3]) rfl rfl Try.call5 Try.func5 rfl _ (by simp only [go_sem, and_self]) (Nat.le_of_ble_eq_true rfl) _ fun hok => ?_
  have okZ : HOk (n + 2) ((n + 1, ⟨0, zrow (ti 46), true, some (46, 0)⟩) :: (n, shS S) :: h) := (hok.consF fun k hk => shC_flat _ _).consF fun k hk => absurd hk (Nat.not_lt_zero k)
  have lsZ : ∀ {hq : List (Nat × Seg)} {nq : Nat}, n + 2 ≤ nq → hget hq (n + 1) = some ⟨0, zrow (ti 46), true, some (46, 0)⟩ → Lss hq (n + 1) nq (n + 1) 0 (zrow (ti 46)) (fun _ => 0) (fun _ => 0) [] := fun h1 h2 =>
    ⟨Nat.le_refl _, by omega, h2, Nat.le_refl _, by decide, fun k hk => absurd hk (Nat.not_lt_zero k), fun k hk => absurd hk (Nat.not_lt_zero k), fun k hk => absurd hk (Nat.not_lt_zero k), fun k hk => absurd hk (Nat.not_lt_zero k), fun k hk => absurd hk (Nat.not_lt_zero k), fun k k' hk hk' => absurd hk' (Nat.not_lt_zero k')⟩
  have bad : ∀ c, puddR S = ([], c) → K (.tup 2 (cl [.sl (n + 1) 0 0 0, .int .i64 c])) ((n + 1, ⟨0, zrow (ti 46), true, some (46, 0)⟩) :: (n, shS S) :: h) (n + 2) := fun c e => by
    have := hK (.sl (n + 1) 0 0 0) _ (n + 2) (by omega) (by simp only [go_sem, HExt_cons]) okZ (by rw [e]; exact .inr ⟨n + 1, 0, _, _, _, rfl, (lsZ (Nat.le_refl _) (hget_hit _ _ _)).mlo (by omega)⟩)
    rw [e] at this; exact this
  simp only [go_sem, Nat.reduceLT]
  refine (ok2_Q _ _ _ n 0 (shS S) S (by simp only [go_sem]) (by omega) (shAt_shC hR)).A ?_
  by_cases hV : Valid S
  rotate_left
  · have e : puddR S = ([], 1) := by unfold puddR; rw [codeI_bad hV]; rfl
    simp only [go_sem, Nat.reduceLT, validB_false hV]
    exact fun _ => bad _ e
  simp only [go_sem, Nat.reduceLT, Nat.reduceEqDiff, reduceIte, validB_true hV]
  have hsm := hV.1
  obtain ⟨hW, hH, hW8, hH8⟩ := valid_sides hsm
  have his := isB_8 hsm (wetP S)
  have e : puddR S = (partN (isB S (wetP S)) (thoseL S (wetP S)) (thoseL S (wetP S)).length, 0) := by unfold puddR; rw [codeI_ok hV]; rfl
  rw [e] at hK
  refine callA_false (spots_E _ _ _ n 0 (shS S) S _ _ (by simp only [go_sem]) (by omega) (shAt_shC hR) hW hH hW8 hH8 _ fun capA hcA1 hcA2 => ?_)
  have hA64 := thoseL_len hsm (wetP S)
  have hA8 := thoseL_in8 hsm (wetP S)
  have hCl := cellsL_len S.wide.toNat S.high.toNat
  have hC64 : S.high.toNat * S.wide.toNat ≤ 64 := Nat.mul_le_mul hH8 hW8
  have hCc := cellsL_cells S.wide.toNat S.high.toNat
  have hC8 : ∀ q, q < S.high.toNat * S.wide.toNat → In8 ((cellsL S.wide.toNat S.high.toNat).getD q (0, 0)) := fun q hq => by
    rw [cellsL_get _ _ q hq]
    have := hasB_in hsm (hasB_jW hW hH hq)
    exact ⟨⟨this.1, this.2.1⟩, this.2.2⟩
  have hAC : thoseL S (wetP S) = (cellsL S.wide.toNat S.high.toNat).filter fun a => wetP S a.1 a.2 := rfl
  generalize thoseL S (wetP S) = A at *
  generalize cellsL S.wide.toNat S.high.toNat = C at *
  generalize S.high.toNat * S.wide.toNat = m at *
  generalize cellC S.wide.toNat = sA at *
  subst hCl
  have okP : HOk (n + 4) ((n + 3, ⟨C.length * 2, sA, true, some (50, capA * 2)⟩) :: (n + 2, mkS []) :: (n + 1, ⟨0, zrow (ti 46), true, some (46, 0)⟩) :: (n, shS S) :: h) :=
    (okZ.consF fun k hk => mkC_flat _ _).consF fun k hk => by show (sA k).flat; rw [hCc k hk]; exact spotsC_flat _ _
  have I0 : QI ((n, shS S) :: h) (n + 1) (n + 2) (mkS []) (n + 3) ⟨C.length * 2, sA, true, some (50, capA * 2)⟩ ((n + 3, ⟨C.length * 2, sA, true, some (50, capA * 2)⟩) :: (n + 2, mkS []) :: (n + 1, ⟨0, zrow (ti 46), true, some (46, 0)⟩) :: (n, shS S) :: h) (n + 4) (n + 1) 0 (zrow (ti 46)) (fun _ => 0) (fun _ => 0) [] :=
    ⟨by omega, okP, by simp only [go_sem, Nat.reduceLeDiff, HExt_cons], lsZ (by omega) (by simp only [go_sem, Nat.reduceLT]), by simp only [go_sem, Nat.reduceLT], by omega, by omega, by omega, fun k hk => absurd hk (Nat.not_lt_zero k), hget_hit _ _ _, by omega, by omega, by omega, by omega⟩
  simp only [go_sem, Nat.reduceLT]
  refine T_lp (ι := { w : Nat × List (Nat × Seg) × Nat × (Nat × Nat × (Nat → SV) × (Nat → Nat) × (Nat → Nat)) // w.1 ≤ C.length ∧ QI ((n, shS S) :: h) (n + 1) (n + 2) (mkS (partN (isB S (wetP S)) A ((C.take w.1).filter fun a => wetP S a.1 a.2).length).flatten) (n + 3) ⟨C.length * 2, sA, true, some (50, capA * 2)⟩ w.2.1 w.2.2.1 w.2.2.2.1 w.2.2.2.2.1 w.2.2.2.2.2.1 w.2.2.2.2.2.2.1 w.2.2.2.2.2.2.2 (partN (isB S (wetP S)) A ((C.take w.1).filter fun a => wetP S a.1 a.2).length) })
    (fun w => ([(1, .ptr n 0), (4, .sl w.1.2.2.2.1 0 (partN (isB S (wetP S)) A ((C.take w.1.1).filter fun a => wetP S a.1 a.2).length).length w.1.2.2.2.2.1), (5, .ptr (n + 2) 0), (6, .sl (n + 3) 0 C.length capA), (7, .int .i64 ((w.1.1 : Nat) : Int))], w.1.2.1, w.1.2.2.1)) (fun w => C.length - w.1.1)
    ⟨(0, _, n + 4, (n + 1, 0, zrow (ti 46), fun _ => 0, fun _ => 0)), Nat.zero_le _, I0⟩ ?_ ?_
  · refine Imp.id (by show n ≤ n + 4; omega) ?_ (impH.base0 okP (Nat.le_refl _) HExt.rfl)
    simp only [go_sem, Nat.reduceLT, partN, List.take_zero, List.filter_nil, List.length_nil]
    (try (repeat' apply And.intro) <;> first | omega | rfl | trivial | assumption | skip)
  rintro ⟨⟨q, hq, nq, j, cap, sc, r, cp⟩, hqA, I⟩
  simp only at hqA I
  have hn0 := I.hn
  have hjn := I.lss.lt
  have him := I.iml
  have hcnt : ((C.take q).filter fun a => wetP S a.1 a.2).length ≤ q := Nat.le_trans (List.length_filter_le _ _) (by rw [List.length_take]; omega)
  have hcA : ((C.take q).filter fun a => wetP S a.1 a.2).length ≤ A.length := by
    rw [hAC]; exact (List.Sublist.filter _ (List.take_sublist q C)).length_le
  have hLL := partN_len (isB S (wetP S)) A ((C.take q).filter fun a => wetP S a.1 a.2).length
  simp only [go_sem, Nat.reduceLT, decide_eq_true_eq, decide_eq_false_iff_not]
  refine ⟨fun h1 => ?_, fun h1 => ?_⟩
  rotate_left
  · have eq1 : q = C.length := by omega
    subst eq1
    try simp only [go_sem, Nat.reduceBEq, Nat.reduceLT, Nat.reduceLeDiff, Nat.reduceAdd, Nat.reduceMul, Nat.reduceSub, Nat.reduceMod, Nat.reduceDiv, Nat.reduceEqDiff, Int.reduceToNat, reduceIte, reduceCtorEq, Int.reduceLE, Int.reduceLT, Int.reduceEq, Int.reduceNeg, Int.reduceAdd, Int.reduceSub, Int.reduceMul]
    have I' := I.lss
    rw [List.take_length, ← hAC] at I'
    refine fun hok' => ?_
    rw [List.take_length, ← hAC]
    exact hK _ _ _ (by omega) (HExt.tr (m' := n + 1) (by simp only [go_sem, HExt_cons]) I.ex (by omega)) hok' (.inr ⟨j, cap, sc, r, cp, rfl, I'.mlo (by omega)⟩)
  have r1 : (0 : Int) ≤ q ∧ (q : Int) < C.length := ⟨by omega, by omega⟩
  have hqo : q < C.length := by omega
  have b1 : q * 2 ≤ C.length * 2 - 2 := by omega
  have b2 : 2 ≤ C.length * 2 := by omega
  have b3 : q * 2 + 2 ≤ C.length * 2 := by omega
  have b4 : q * 2 ≤ C.length * 2 - 1 := by omega
  have b5 : q * 2 + 1 ≤ C.length * 2 - 1 := by omega
  have b6 : 1 ≤ C.length * 2 := by omega
  have b7 : q * 2 + 1 ≤ C.length * 2 := by omega
  have v3 := I.row
  have v2 := I.jal
  have v4 := I.mp
  have a8 := hC8 q hqo
  have hft := filt_take (p := fun a => wetP S a.1 a.2) C hqo
  have hfg := filt_get (p := fun a => wetP S a.1 a.2) C q hqo
  obtain ⟨c, hcc⟩ : ∃ c, C.getD q (0, 0) = c := ⟨_, rfl⟩
  rw [hcc] at a8 hft hfg
  rw [← hAC] at hfg
  obtain ⟨z, hz⟩ : ∃ z, ((C.take q).filter fun a => wetP S a.1 a.2).length = z := ⟨_, rfl⟩
  have g0q : hget hq n = some (shS S) := I.ex n (by omega) _ (hget_hit _ _ _)
  have hnq : n < nq := by omega
  rw [hz] at I hcnt hcA hLL hft hfg v4
  obtain ⟨⟨x0, x8⟩, y0, y8⟩ := a8
  have a8 : In8 c := ⟨⟨x0, x8⟩, y0, y8⟩
  have hmd := mkC_at (partN (isB S (wetP S)) A z).flatten y0 x0 x8
  have hd63 : c.2.toNat * 8 + c.1.toNat ≤ 63 := by omega
  have skip : partN (isB S (wetP S)) A ((C.take (q + 1)).filter fun a => wetP S a.1 a.2).length = partN (isB S (wetP S)) A z → QI ((n, shS S) :: h) (n + 1) (n + 2) (mkS (partN (isB S (wetP S)) A ((C.take (q + 1)).filter fun a => wetP S a.1 a.2).length).flatten) (n + 3) ⟨C.length * 2, sA, true, some (50, capA * 2)⟩ hq nq j cap sc r cp (partN (isB S (wetP S)) A ((C.take (q + 1)).filter fun a => wetP S a.1 a.2).length) := fun e => by rw [e]; exact I
  rw [hz]
  refine T_draw hti _ _ (by kernel_rfl) (by kernel_rfl) ?_
  simp only [go_sem, Nat.reduceLT, v3, v2, r1, b1, b2, b3, b4, b5, b6, hCc (q * 2) (by omega), hCc (q * 2 + 1) (by omega), spotsC_x, spotsC_y, hcc]
  refine (wet2_Q _ _ _ n 0 (shS S) S c.1 c.2 g0q hnq (shAt_shC hR) x0 x8 y0 y8).A ?_
  by_cases hw : S.wet c.2 c.1 = 0
  · have hwp : ¬ (wetP S c.1 c.2 = true) := by unfold wetP; rw [hw]; simp
    rw [if_neg hwp] at hft
    have hQ := skip (by rw [hft, Nat.add_zero])
    have hlen2 : (partN (isB S (wetP S)) A ((C.take (q + 1)).filter fun a => wetP S a.1 a.2).length).length = (partN (isB S (wetP S)) A z).length := by rw [hft, Nat.add_zero]
    simp only [go_sem, Nat.reduceLT, hw]
    refine ⟨⟨(q + 1, hq, nq, (j, cap, sc, r, cp)), by show q + 1 ≤ C.length; omega, hQ⟩, by show C.length - (q + 1) < C.length - q; omega, ?_⟩
    refine Imp.id (by show n ≤ nq; omega) ?_ (impH.base0 I.ok (Nat.le_refl _) HExt.rfl)
    simp only [go_sem, Nat.reduceLT, hlen2, w64N (a := (q : Int) + 1) (k := q + 1) (by omega) (by omega)]
    (try (repeat' apply And.intro) <;> first | omega | rfl | trivial | assumption | skip)
  have hwp : wetP S c.1 c.2 = true := by
    have := (hV.2 c.2 c.1 y0 y8 x0 x8).2.1
    unfold wetP; rw [decide_eq_true_eq]; omega
  rw [if_pos hwp] at hft
  have hAz := hfg hwp
  by_cases hmet : A.getD z (0, 0) ∈ (partN (isB S (wetP S)) A z).flatten
  · have hm' : ((c.1, c.2) ∈ (partN (isB S (wetP S)) A z).flatten) = True := eq_true (by rw [← hAz]; exact hmet)
    have hQ := skip (by rw [hft, partN_old hmet])
    have hlen2 : (partN (isB S (wetP S)) A ((C.take (q + 1)).filter fun a => wetP S a.1 a.2).length).length = (partN (isB S (wetP S)) A z).length := by rw [hft, partN_old hmet]
    simp only [go_sem, Nat.reduceLT, Nat.reduceLeDiff, reduceCtorEq, hw, v3, v2, v4, him, r1, b1, b2, b3, b4, b5, b6, hCc (q * 2) (by omega), hCc (q * 2 + 1) (by omega), spotsC_x, spotsC_y, hcc, x0, x8, y0, y8, hmd, hd63, hm']
    refine ⟨b7, ⟨(q + 1, hq, nq, (j, cap, sc, r, cp)), by show q + 1 ≤ C.length; omega, hQ⟩, by show C.length - (q + 1) < C.length - q; omega, ?_⟩
    refine Imp.id (by show n ≤ nq; omega) ?_ (impH.base0 I.ok (Nat.le_refl _) HExt.rfl)
    simp only [go_sem, Nat.reduceLT, hlen2, w64N (a := (q : Int) + 1) (k := q + 1) (by omega) (by omega)]
    (try (repeat' apply And.intro) <;> first | omega | rfl | trivial | assumption | skip)
  have hm' : ((c.1, c.2) ∈ (partN (isB S (wetP S)) A z).flatten) = False := eq_false (by show ¬ (c ∈ _); rw [← hAz]; exact hmet)
  simp only [go_sem, Nat.reduceLT, Nat.reduceLeDiff, reduceCtorEq, hw, v3, v2, v4, him, r1, b1, b2, b3, b4, b5, b6, hCc (q * 2) (by omega), hCc (q * 2 + 1) (by omega), spotsC_x, spotsC_y, hcc, x0, x8, y0, y8, hmd, hd63, hm']
  refine ⟨b7, ?_⟩
  refine (puddle_Q _ _ _ n S c hV g0q (by omega) hR a8).A ?_
  simp only [go_sem, Nat.reduceLT, Nat.reduceEqDiff, reduceIte]
  have okM : HOk (nq + 1) ((nq, mkS (bfs (isB S (wetP S)) 65 [c] 0)) :: hq) := I.ok.consF fun k hk => mkC_flat _ _
  have exM : HExt nq hq ((nq, mkS (bfs (isB S (wetP S)) 65 [c] 0)) :: hq) := by simp only [go_sem, HExt_cons]
  have IM := I.to (Nat.le_succ nq) okM exM
  refine callA_false (list_E _ _ _ nq _ (hget_hit _ _ _) (by omega) _ fun V2 h2 n2 hn2 hx2 ok2 hV2 => ?_)
  rw [upM_reach his a8] at hV2
  have I2 := IM.to hn2 ok2 hx2
  obtain ⟨hR64, hR8⟩ := reachL_len his a8
  have hnewL : partN (isB S (wetP S)) A (z + 1) = partN (isB S (wetP S)) A z ++ [reachL (isB S (wetP S)) c] := by rw [partN_new hmet, hAz]
  generalize hRR : reachL (isB S (wetP S)) c = R at *
  obtain ⟨jr, capR, sR, rfl, c1, c2, c3, c4, c5, c6, c7⟩ := hV2
  simp only [go_sem, Nat.reduceLT]
  refine T_lp (ι := { w : Nat × List (Nat × Seg) // w.1 ≤ R.length ∧ QI ((n, shS S) :: h) (n + 1) (n + 2) (mkS ((partN (isB S (wetP S)) A z).flatten ++ R.take w.1)) (n + 3) ⟨C.length * 2, sA, true, some (50, capA * 2)⟩ w.2 n2 j cap sc r cp (partN (isB S (wetP S)) A z) ∧ hget w.2 jr = some sR })
    (fun w => ([(1, .ptr n 0), (4, .sl j 0 (partN (isB S (wetP S)) A z).length cap), (5, .ptr (n + 2) 0), (6, .sl (n + 3) 0 C.length capA), (7, .int .i64 ((q : Nat) : Int)), (9, .sl jr 0 R.length capR), (10, .int .i64 ((w.1.1 : Nat) : Int))], w.1.2, n2)) (fun w => R.length - w.1.1)
    ⟨(0, h2), Nat.zero_le _, by simpa using I2, c3⟩ ?_ ?_
  · refine Imp.id (by show n ≤ n2; omega) ?_ (impH.base0 I2.ok (Nat.le_refl _) HExt.rfl)
    have jal := I2.jal
    have jl := I2.lss.lt
    have iml := I2.iml
    simp only [go_sem, Nat.reduceLT]
    (try (repeat' apply And.intro) <;> first | omega | rfl | trivial | assumption | skip)
  rintro ⟨⟨k, hr⟩, hk, J, g3⟩
  simp only at hk J g3
  have jiml := J.iml
  have jmp := J.mp
  have jal := J.jal
  have jl := J.lss.lt
  simp only [go_sem, Nat.reduceLT, Nat.reduceLeDiff, decide_eq_true_eq, decide_eq_false_iff_not]
  refine ⟨fun k1 => ?_, fun k1 => ?_⟩
  · have q1 : (0 : Int) ≤ k ∧ (k : Int) < R.length := ⟨by omega, by omega⟩
    have hko : k < R.length := by omega
    have d1 : k * 2 ≤ sR.n - 2 := by omega
    have d2 : 2 ≤ sR.n := by omega
    have d3 : k * 2 + 2 ≤ sR.n := by omega
    have d4 : k * 2 ≤ sR.n - 1 := by omega
    have d5 : k * 2 + 1 ≤ sR.n - 1 := by omega
    have d6 : 1 ≤ sR.n := by omega
    have d7 : k * 2 + 1 ≤ sR.n := by omega
    have hu8 := hR8 _ (spots_at hko)
    obtain ⟨u, hu⟩ : ∃ u, R.getD k (0, 0) = u := ⟨_, rfl⟩
    rw [hu] at hu8
    obtain ⟨⟨ux0, ux8⟩, uy0, uy8⟩ := hu8
    have hu63 : u.2.toNat * 8 + u.1.toNat ≤ 63 := by omega
    have hst := mkC_set ((partN (isB S (wetP S)) A z).flatten ++ R.take k) uy0 ux0 ux8
    have emk : mkC ((u.1, u.2) :: ((partN (isB S (wetP S)) A z).flatten ++ R.take k)) = mkC ((partN (isB S (wetP S)) A z).flatten ++ R.take (k + 1)) := by
      refine mkC_congr fun p => ?_
      rw [List.take_succ, List.getElem?_eq_getElem hko]
      have : R[k] = u := by rw [← hu, List.getD_eq_getElem?_getD, List.getElem?_eq_getElem hko]; rfl
      rw [this]
      show p ∈ u :: _ ↔ _
      simp [or_comm, or_assoc]
    rw [emk] at hst
    have JM := J.mark (mkS ((partN (isB S (wetP S)) A z).flatten ++ R.take (k + 1))) fun k hk => (mkC_flat _ k).below _
    have g3M : hget (hset hr (n + 2) (mkS ((partN (isB S (wetP S)) A z).flatten ++ R.take (k + 1)))) jr = some sR := by
      rw [hget_hset, if_neg (by omega)]; exact g3
    refine T_drawT hti 12 _ _ (by kernel_rfl) (by kernel_rfl) ?_
    simp only [go_sem, Nat.reduceLT, Nat.reduceLeDiff, Nat.reduceEqDiff, reduceIte, reduceCtorEq, g3, c2, jmp, jiml, q1, d1, d2, d3, d4, d5, d6, c7 (k * 2) (by omega), c7 (k * 2 + 1) (by omega), spotsC_x, spotsC_y, hu, ux0, ux8, uy0, uy8, hu63, hst]
    refine ⟨d7, ⟨(k + 1, _), by show k + 1 ≤ R.length; omega, JM, g3M⟩, by show R.length - (k + 1) < R.length - k; omega, ?_⟩
    refine Imp.id (by show n ≤ n2; omega) ?_ (impH.base0 JM.ok (Nat.le_refl _) HExt.rfl)
    simp only [go_sem, Nat.reduceLT, w64N (a := (k : Int) + 1) (k := k + 1) (by omega) (by omega)]
    (try (repeat' apply And.intro) <;> first | omega | rfl | trivial | assumption | skip)
  have ek : k = R.length := by omega
  subst ek
  rw [List.take_length] at J
  have v5 := J.lss.seg
  have v6 := J.lss.le
  have v7 := J.lss.cap
  have v8 : n2 ≠ j := by omega
  have v9 : n2 + 1 ≠ j := by omega
  simp only [go_sem, Nat.reduceLT, Nat.reduceLeDiff, v5, jl, v8, v9]
  refine ⟨⟨v6, v7, by omega⟩, fun cap' m1 m2 => ?_⟩
  generalize hC : upd (zrow _) 0 (SV.sl jr 0 R.length capR) = CC
  have hC0 : CC 0 = .sl jr 0 R.length capR := by rw [← hC]; rfl
  have key := J.app (cap' := cap') (cpR := capR) (c1 := CC) (R := R) (jr := jr) (w := some (46, 1)) ⟨sR, g3, c4, c5, c7⟩ (by omega) (by omega) (by omega) (by omega) (fun k hk => by have := I.lss.rlt k hk; omega) hC0 m1 m2 rfl
  have hflat : (partN (isB S (wetP S)) A z).flatten ++ R = (partN (isB S (wetP S)) A (z + 1)).flatten := by rw [hnewL, List.flatten_append]; simp
  rw [hflat, ← hnewL, ← hft] at key
  have hlen : (partN (isB S (wetP S)) A ((C.take (q + 1)).filter fun a => wetP S a.1 a.2).length).length = (partN (isB S (wetP S)) A z).length + 1 := by rw [hft, hnewL, List.length_append]; rfl
  refine ⟨⟨(q + 1, _, n2 + 2, (n2 + 1, cap', _, _, _)), by show q + 1 ≤ C.length; omega, key⟩, by show C.length - (q + 1) < C.length - q; omega, ?_⟩
  refine Imp.id (by show n ≤ n2 + 2; omega) ?_ (impH.base0 key.ok (Nat.le_refl _) HExt.rfl)
  simp only [go_sem, Nat.reduceLT, hlen, w64N (a := (q : Int) + 1) (k := q + 1) (by omega) (by omega)]
  (try (repeat' apply And.intro) <;> first | omega | rfl | trivial | assumption | skip)
end
end Go.Proofs.Ytddnnodkkdjniaa.V

/- The law of PuddlesOf: the walk. -/
namespace Go.Proofs.Ytddnnodkkdjniaa.V
section
variable (cx : Cx) (h : List (Nat × Seg)) (n : Nat)
theorem lawPuddlesOf_Q (F : Nat → SV) (S : Sh) (hF : ShF F S) :
    CallQ Try.prog cx 3 [.agg 266 F] h n (.bool true) := by
  have hone := hF.ones
  obtain ⟨hRl, hRr⟩ := puddR_small S
  refine callQ_of_T (P := Try.prog) hti (nt := 66) (rs := [.tmp 2]) rfl rfl Try.call3 Try.func3 rfl _ (by simp only [go_sem]) (Nat.le_of_ble_eq_true rfl) _ (by trivial) fun hok => ?_
  simp only [go_sem, Nat.reduceLT, hone]
  generalize hRR : (puddR S).1 = R at hRl hRr
  generalize hcc : (puddR S).2 = c
  refine (toSheet_Q _ _ _ F S hF).A ?_
  simp only [go_sem, Nat.reduceLT, hone]
  refine callA_false (pudd2_E _ _ _ S hF.R _ ?_)
  intro V1 h1 n1 hn1 hx1 ok1 I1
  rw [hRR] at I1
  rw [hcc]
  have V1o := I1.ok
  have g10 : hget h1 n = some ⟨266, F, true, none⟩ := hx1 n (by omega) _ (by simp only [go_sem])
  have X1 : HExt n h h1 := HExt.tr (m' := n + 1) (by simp only [go_sem, HExt_cons]) hx1 (by omega)
  have b10 : n < n1 := by omega
  simp only [go_sem, Nat.reduceLT, V1o, g10, b10, hone]
  refine (toSheet_Q _ _ _ F S hF).A ?_
  simp only [go_sem, Nat.reduceLT, V1o, hone]
  refine callA_false (pudd_E _ _ _ S hF.R _ ?_)
  intro V2 h2 n2 hn2 hx2 ok2 I2
  rw [hRR] at I2
  rw [hcc]
  have V2o := I2.ok
  have X2 := X1.tr hx2 (by omega)
  simp only [go_sem, Nat.reduceLT, V1o, V2o]
  refine (eqSpotSS_Q _ _ _ V2 V1 R _ _ I2 (I1.ext (by omega) hx2) hRl hRr).A ?_
  simp only [go_sem, Nat.reduceLT, V1o, V2o]
  refine callA_false (markSS_E _ _ _ V2 R n1 I2 hRl hRr _ ?_)
  intro h4 ok4 keep4 I24
  have x4 : HExt n1 h1 h4 := keep4 _ _ (by omega) hx2
  have X4 : HExt n h h4 := X1.tr x4 (by omega)
  have I14 : LssOut h4 (n + 1) n2 V1 R := I1.ext (by omega) x4
  have g40 : hget h4 n = some ⟨266, F, true, none⟩ := x4 n (by omega) _ g10
  have b40 : n < n2 := by omega
  have posr : ¬ (1 + 2 * (totN R R.length : Int) < 0) := by omega
  simp only [go_sem, Nat.reduceLT, V1o, V2o]
  refine (heldSS_Q _ _ _ V2 R _ I24 hRl hRr).A ?_
  simp only [go_sem, Nat.reduceLT, V1o, V2o, posr, g40, b40, hone]
  refine (toSheet_Q _ _ _ F S hF).A ?_
  simp only [go_sem, Nat.reduceLT, V1o, V2o, hone]
  refine callA_false (pudd_E _ _ _ S hF.R _ ?_)
  intro V3 h5 n5 hn5 hx5 ok5 I35
  rw [hRR] at I35
  rw [hcc]
  have V3o := I35.ok
  have X5 := X4.tr hx5 (by omega)
  simp only [go_sem, Nat.reduceLT, V1o, V2o, V3o]
  refine (eqSpotSS_Q _ _ _ V3 V1 R _ _ I35 (I14.ext (by omega) hx5) hRl hRr).A ?_
  simp only [go_sem, Nat.reduceLT, V1o, V2o, V3o]
  refine (heldSS_Q _ _ _ V2 R _ (I24.ext (by omega) hx5) hRl hRr).A ?_
  simp only [go_sem, Nat.reduceLT, V1o, V2o, V3o, posr]
  exact X5
end
end Go.Proofs.Ytddnnodkkdjniaa.V
