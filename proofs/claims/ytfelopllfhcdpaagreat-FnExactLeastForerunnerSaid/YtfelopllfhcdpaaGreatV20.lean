/- Strings: appended to bytes; conversions. -/
import Derived.Test.YtfelopllfhcdpaaGreatV19
import Derived.Lib.AppendStr
import Derived.Room.AppendFits
set_option linter.all false
namespace Go.Proofs.YtfelopllfhcdpaaGreat.V
/-- A list of bytes as it lies in memory. -/
def bytesC (b : List UInt8) : Nat → SV := fun k => .int .u8 ((b.getD k 0).toNat : Int)
theorem bytesC_flat (b : List UInt8) (k : Nat) : (bytesC b k).flat := trivial
theorem strCells_get (ρ : Rho) (s : ByteArray) {k : Nat} (hk : k < s.size) : (Go.Lib.strCells s)[k]? = some (den ρ (bytesC s.data.toList k)) := by
  unfold Go.Lib.strCells bytesC
  have hk' : k < s.data.toList.length := by rw [Array.length_toList]; exact hk
  rw [List.getElem?_map, List.getElem?_eq_getElem hk', List.getD_eq_getElem?_getD, List.getElem?_eq_getElem hk']
  rfl
theorem execOp_append2 {o : Oper} {x y : Operand} {t t' : Nat} (h : o.op = .call ⟨.builtin .append, ⟨[x, y]⟩, ⟨[t, t']⟩⟩) (f : Operand → Value) :
    execOp f o = (do pure (.value (← Builtin.append_ #[t, t'] o.type #[f x, f y]))) := by
  obtain ⟨d, op, ty, pos, af, g⟩ := o
  simp only at h; subst h
  rw [execOp_built, show (⟨[x, y]⟩ : Array Operand).map f = #[f x, f y] from by simp]
  rfl
section
variable {P : Program} {ti : Nat → TI} {cx : Cx} {l : List (Nat × SV)} {h : List (Nat × Seg)} {n : Nat} {K : List (Nat × SV) → List (Nat × Seg) → Nat → Prop}
/-- The type of bytes. -/
structure U8 (x : TI) : Prop where
  k : x.k = .int .u8
  sz : x.sz = 1
  by_ : x.by_ / 2 = 1
  z : x.z 0 = .int .u8 0
theorem U8.info {e : Nat} (hti : ∀ t, TyOK P t (ti t)) (he : U8 (ti e)) : ∃ i, P.info? e = some i ∧ i.size = 1 ∧ i.bytes = 1 ∧ i.zero = some (.int .u8 0) := by
  obtain ⟨i, z, hi, hs, hb, hz, _, _, hzz⟩ := (hti e).info (by rw [he.k]; trivial)
  refine ⟨i, hi, hs.trans he.sz, hb.trans he.by_, ?_⟩
  rw [hz, hzz, he.k, he.z]; rfl
theorem U8.bnd {e : Nat} (hti : ∀ t, TyOK P t (ti t)) (he : U8 (ti e)) : e < 1000000 := (hti e).bnd (by rw [he.k]; trivial)
theorem strNil_sem (hti : ∀ t, TyOK P t (ti t)) {o : Oper} {x y : Operand} {t t' e : Nat} (hop : o.op = .call ⟨.builtin .append, ⟨[x, y]⟩, ⟨[t, t']⟩⟩) (hd : dok cx.nt o.dst) (hk : (ti t).k = .sl e) (hs : (ti t').k = .str) (he : U8 (ti e)) {s : ByteArray}
    (hx : ev l x = .nils) (hy : ev l y = .str s) (h0 : 0 < s.size) (h9 : s.size ≤ 1000000000)
    (hK : ∀ cap, s.size ≤ cap → cap ≤ maxLen → K (put l o.dst (.sl n 0 s.size cap)) ((n, ⟨s.size, bytesC s.data.toList, true, some (e, cap)⟩) :: h) (n + 1)) : OpSem P cx o l h n K := by
  intro ρ a w st sh hn
  have hu := (hti t).und; rw [hk] at hu
  have hv := (hti t').und; rw [hs] at hv
  obtain ⟨i, hi, hs1, hb1, hz⟩ := he.info hti
  obtain ⟨e1, _⟩ := ev_sound st x (by rw [hx]; simp)
  obtain ⟨f1, _⟩ := ev_sound st y (by rw [hy]; simp)
  rw [hx] at e1
  rw [hy] at f1
  obtain ⟨v', w', hr, hown, hg, hnil⟩ := Go.Lib.run_append_own_string (P := P) w w.heap.size t t' o.type e i hu hv hi hz hs1 hb1 (.slice none 0 0) 0 [] (World.ownsRow_nil w _ _ _) s (by simp [maxLen]; omega) (by omega) (Nat.le_refl _)
  simp only [List.nil_append, Nat.zero_add] at hown
  rcases hown.2 with ⟨h1, _⟩ | ⟨g', cap, cur, rfl, hbase, hheap, hmc, hcm, hcs, htake⟩
  · exact absurd (hnil.1 h1).2 (by omega)
  · rw [Nat.mul_one] at hcs htake
    have hcur : ∀ k, k < s.size → cur[k]? = some (den ρ (bytesC s.data.toList k)) := fun k hk => by
      have h1 : (cur.toList.take s.size)[k]? = (Go.Lib.strCells s)[k]? := by rw [htake]
      rw [List.getElem?_take_of_lt hk, strCells_get ρ s hk] at h1
      rw [← Array.getElem?_toList, h1]
    obtain ⟨ρ', r1, r2, r3⟩ := sh.own_step (h2 := h) hg (fun _ _ h => h) (fun z q hq => by simp [Value.ownBlock]) (fun b hb => by simp [Value.ownBlock] at hb) hheap
      (fun z q hq => Nat.ne_of_lt (Nat.lt_of_lt_of_le (sh.seg z q hq).blk hbase)) (Nat.le_trans sh.keeps.size hbase) s.size (bytesC s.data.toList) hcur (fun _ _ => trivial) (he.bnd hti)
    rw [hcs] at r3
    refine upon_value_eq (v := den ρ' (.sl n 0 s.size cap)) ?_ _ _ ⟨ρ', _, _, n + 1, fun i hi => r1 i (by omega), ((st.rho r1).mono (Nat.le_succ n)).put _ (.sl n 0 s.size cap) (Nat.lt_succ_self n) (dok_lt hd), r3, by omega, hK cap hmc hcm⟩
    simp only [execOp_append2 hop, e1, f1, den, Sem.run_bind, hr, Result.andThen_ok, Sem.run_pure, r2, Nat.add_zero]
theorem strOwn_sem (hti : ∀ t, TyOK P t (ti t)) {o : Oper} {x y : Operand} {t t' e : Nat} (hop : o.op = .call ⟨.builtin .append, ⟨[x, y]⟩, ⟨[t, t']⟩⟩) (hd : dok cx.nt o.dst) (hk : (ti t).k = .sl e) (hs : (ti t').k = .str) (he : U8 (ti e)) {s : ByteArray}
    {j len cap : Nat} {sg : Seg} {b : List UInt8} (hx : ev l x = .sl j 0 len cap) (hy : ev l y = .str s) (h9 : len + s.size ≤ 1000000000) (hj : hget h j = some sg) (hown0 : sg.own = some (e, cap)) (hlc : len ≤ cap) (hcm : cap ≤ maxLen) (hcap : 0 < cap) (hls : len ≤ sg.n) (hb : b.length = len) (hcell : ∀ k, k < len → sg.c k = bytesC b k)
    (hK : ∀ cap', len + s.size ≤ cap' → cap' ≤ maxLen → K (put l o.dst (.sl n 0 (len + s.size) cap')) ((n, ⟨len + s.size, bytesC (b ++ s.data.toList), true, some (e, cap')⟩) :: hdel h j) (n + 1)) : OpSem P cx o l h n K := by
  intro ρ a w st sh hn
  have hu := (hti t).und; rw [hk] at hu
  have hv := (hti t').und; rw [hs] at hv
  obtain ⟨i, hi, hs1, hb1, hz⟩ := he.info hti
  obtain ⟨e1, _⟩ := ev_sound st x (by rw [hx]; simp)
  obtain ⟨f1, _⟩ := ev_sound st y (by rw [hy]; simp)
  rw [hx] at e1
  rw [hy] at f1
  have hseg := sh.seg j sg hj
  obtain ⟨hz2, hbase0, cur0, hheap0, hcur0⟩ := hseg.ownC hown0 (he.bnd hti)
  have holds : ∀ k, k < len → cur0[k]? = some (den ρ (bytesC b k)) := fun k hk => by
    have := hseg.cells k (by omega)
    simp only [World.cell?, hheap0] at this
    rw [hz2, Nat.zero_add, hcell k hk] at this
    simpa using this
  have hxs : ((List.range len).map fun k => den ρ (bytesC b k)).length = len := by simp
  have sub : ∀ z q, hget (hdel h j) z = some q → hget h z = some q := fun z q hq => by
    rw [hget_hdel] at hq; split at hq
    · cases hq
    · exact hq
  have far : ∀ z q, hget (hdel h j) z = some q → (ρ z).1 ≠ (ρ j).1 := by
    intro z q hq
    have hq' := sub z q hq
    have hne : j ≠ z := by
      intro he; subst he; rw [hget_hdel, if_pos rfl] at hq; cases hq
    rcases sh.dis j z sg q hne hj hq' (.inr (by rw [hown0]; rfl)) with h | ⟨h, _⟩
    · exact Ne.symm h
    · rw [hown0] at h; cases h
  have hown : w.ownsRow cx.w0.heap.size e 1 (.slice (some ⟨(ρ j).1, 0, none⟩) len cap) len ((List.range len).map fun k => den ρ (bytesC b k)) := by
    refine ⟨by rw [hxs, Nat.mul_one], .inr ⟨(ρ j).1, cap, cur0, rfl, hbase0, hheap0, hlc, hcm, by rw [hcur0, Nat.mul_one], ?_⟩⟩
    rw [Nat.mul_one]
    apply List.ext_getElem?
    intro k
    by_cases hk : k < len
    · rw [List.getElem?_take_of_lt hk, Array.getElem?_toList, holds k hk]
      simp [List.getElem?_range hk]
    · rw [List.getElem?_eq_none (by simp; omega), List.getElem?_eq_none (by simp; omega)]
  have hcurN : ∀ (cur : Array Value), cur.toList.take (len + s.size) = ((List.range len).map fun k => den ρ (bytesC b k)) ++ Go.Lib.strCells s → ∀ k, k < len + s.size → cur[k]? = some (den ρ (bytesC (b ++ s.data.toList) k)) := by
    intro cur htake k hk
    have h1 : (cur.toList.take (len + s.size))[k]? = (((List.range len).map fun k => den ρ (bytesC b k)) ++ Go.Lib.strCells s)[k]? := by rw [htake]
    rw [List.getElem?_take_of_lt hk] at h1
    rw [← Array.getElem?_toList, h1]
    by_cases hk2 : k < len
    · rw [List.getElem?_append_left (by simpa using hk2)]
      have : bytesC (b ++ s.data.toList) k = bytesC b k := by
        unfold bytesC
        rw [List.getD_eq_getElem?_getD, List.getD_eq_getElem?_getD, List.getElem?_append_left (by omega)]
      rw [this]
      simp [List.getElem?_range hk2]
    · rw [List.getElem?_append_right (by simpa using hk2), hxs, strCells_get ρ s (by omega)]
      have : bytesC (b ++ s.data.toList) k = bytesC s.data.toList (k - len) := by
        unfold bytesC
        rw [List.getD_eq_getElem?_getD, List.getD_eq_getElem?_getD, List.getElem?_append_right (by omega), hb]
      rw [this]
  have e1' : a.eval x = .slice (some ⟨(ρ j).1, 0, none⟩) len cap := by rw [e1]; simp only [den, hz2, Nat.zero_add]
  by_cases hroom : len + s.size ≤ cap
  · obtain ⟨w', hr, hown', hg⟩ := Go.Lib.run_append_fits_string (P := P) w cx.w0.heap.size t t' o.type e i hu hv hi hs1 (some ⟨(ρ j).1, 0, none⟩) len cap _ hown s hcap hroom
    rcases hown'.2 with ⟨h1, _⟩ | ⟨g', cap', cur, hv', hbase, hheap, hmc, hcm', hcs, htake⟩
    · cases h1
    · simp only [Value.slice.injEq, Option.some.injEq, Addr.mk.injEq, and_true, true_and] at hv'
      obtain ⟨rfl, rfl⟩ := hv'
      rw [Nat.mul_one] at hcs htake
      obtain ⟨ρ', r1, r2, r3⟩ := sh.own_step (h2 := hdel h j) hg sub (fun z q hq => by simp only [Value.ownBlock, ne_eq, Option.some.injEq]; exact far z q hq) (fun b hb => by simp only [Value.ownBlock] at hb; cases hb; exact hbase0) hheap
        far hbase (len + s.size) _ (hcurN cur htake) (fun _ _ => trivial) (he.bnd hti)
      rw [hcs] at r3
      refine upon_value_eq (v := den ρ' (.sl n 0 (len + s.size) cap)) ?_ _ _ ⟨ρ', _, _, n + 1, fun i hi => r1 i (by omega), ((st.rho r1).mono (Nat.le_succ n)).put _ (.sl n 0 (len + s.size) cap) (Nat.lt_succ_self n) (dok_lt hd), r3, by omega, hK cap hmc hcm'⟩
      simp only [execOp_append2 hop, e1', f1, den, Sem.run_bind, hr, Result.andThen_ok, Sem.run_pure, r2, Nat.add_zero]
  · have hr := Go.Lib.run_append_grow_string (P := P) w t t' o.type e i (.int .u8 0) hu hv hi hz ⟨(ρ j).1, 0, none⟩ len cap ((List.range len).map fun k => den ρ (bytesC b k)) (by rw [hs1, hxs, Nat.mul_one]) (hown.cells (g := (ρ j).1) rfl) s (by omega) (by omega) (by rw [hb1]; exact growslice_fits (by omega) (by omega))
    have hge := grownCap_ge w (len + s.size) cap e
    have hcm' : grownCap w (len + s.size) cap e ≤ maxLen := grownCap_le_maxLen w (len + s.size) cap e (by simp [maxLen]; omega)
    have hheap : (w.drew.alloc (.cells ((((List.range len).map fun k => den ρ (bytesC b k)).toArray) ++ (Go.Lib.strCells s).toArray ++ Builtin.zeroCells (Value.int .u8 0).cells (grownCap w (len + s.size) cap e - (len + s.size))) e)).heap[w.heap.size]? = some (.cells ((((List.range len).map fun k => den ρ (bytesC b k)).toArray) ++ (Go.Lib.strCells s).toArray ++ Builtin.zeroCells (Value.int .u8 0).cells (grownCap w (len + s.size) cap e - (len + s.size))) e (0, 0)) := heap_alloc_new w.drew _
    have hg : w.grownBy (w.drew.alloc (.cells ((((List.range len).map fun k => den ρ (bytesC b k)).toArray) ++ (Go.Lib.strCells s).toArray ++ Builtin.zeroCells (Value.int .u8 0).cells (grownCap w (len + s.size) cap e - (len + s.size))) e)) none :=
      ⟨rfl, rfl, rfl, by simp, fun k hk _ => heap_alloc_old w.drew _ hk⟩
    obtain ⟨ρ', r1, r2, r3⟩ := sh.own_step (h2 := hdel h j) hg sub (fun z q hq => by simp) (fun b hb => by cases hb) hheap
      (fun z q hq => Nat.ne_of_lt (sh.seg z q (sub z q hq)).blk) sh.keeps.size (len + s.size) _ (hcurN _ (by
        simp only [Array.toList_append, List.append_assoc]
        rw [← List.append_assoc]
        refine List.take_left' ?_
        rw [List.length_append, hxs, Go.Lib.strCells_length])) (fun _ _ => trivial) (he.bnd hti)
    have hcs : ((((List.range len).map fun k => den ρ (bytesC b k)).toArray) ++ (Go.Lib.strCells s).toArray ++ Builtin.zeroCells (Value.int .u8 0).cells (grownCap w (len + s.size) cap e - (len + s.size))).size = grownCap w (len + s.size) cap e := by
      have hz1 : (Value.int IntKind.u8 0).cells.size = 1 := rfl
      simp only [Array.size_append, List.size_toArray, size_zeroCells, hz1, hxs, Go.Lib.strCells_length]
      omega
    rw [hcs] at r3
    refine upon_value_eq (v := den ρ' (.sl n 0 (len + s.size) (grownCap w (len + s.size) cap e))) ?_ _ _ ⟨ρ', _, _, n + 1, fun i hi => r1 i (by omega), ((st.rho r1).mono (Nat.le_succ n)).put _ (.sl n 0 (len + s.size) (grownCap w (len + s.size) cap e)) (Nat.lt_succ_self n) (dok_lt hd), r3, by omega, hK _ hge hcm'⟩
    simp only [execOp_append2 hop, e1', f1, den, Sem.run_bind, hr, Result.andThen_ok, Sem.run_pure, r2, Nat.add_zero]
/-- A number's letter. -/
theorem rune_sem (hti : ∀ t, TyOK P t (ti t)) {o : Oper} {x : Operand} {s t : Nat} {k : IntKind} {m : Int} (hop : o.op = .convert s t x) (hd : dok cx.nt o.dst) (hs : (ti s).k = .int k) (ht : (ti t).k = .str) (hx : ev l x = .int k m)
    (hK : K (put l o.dst (.str (Go.Utf8.encode m))) h n) : OpSem P cx o l h n K := by
  intro ρ a w st sh hn
  have hu := (hti s).und; rw [hs] at hu
  have hv := (hti t).und; rw [ht] at hv
  obtain ⟨e1, _⟩ := ev_sound st x (by rw [hx]; simp)
  rw [hx] at e1
  refine upon_value_eq (v := den ρ (.str (Go.Utf8.encode m))) (w' := w) ?_ _ _ ⟨ρ, _, _, n, fun _ _ => rfl, st.put _ (.str (Go.Utf8.encode m)) trivial (dok_lt hd), sh, hn, hK⟩
  obtain ⟨d, op, ty, pos, af, g⟩ := o
  simp only at hop; subst hop
  simp [execOp, e1, den, convert, run_underlying hu, run_underlying hv, Conv.intToString]
end
end Go.Proofs.YtfelopllfhcdpaaGreat.V
