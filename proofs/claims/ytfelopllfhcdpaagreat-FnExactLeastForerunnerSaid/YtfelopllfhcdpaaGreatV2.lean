/- Pure operations: sound. -/
import Derived.Test.YtfelopllfhcdpaaGreatV1
import Derived.WalkKit
set_option linter.all false
namespace Go.Proofs.YtfelopllfhcdpaaGreat.V

def fnV : Fn → List SV → List SV → PV
  | .func f, xs, ys => ⟨oks xs ∧ oks ys, .fn f xs.length (cl xs) ys.length (cl ys)⟩
  | _, _, _ => .no
@[go_sem] theorem fnV_func (f : Nat) (xs ys : List SV) : fnV (.func f) xs ys = ⟨oks xs ∧ oks ys, .fn f xs.length (cl xs) ys.length (cl ys)⟩ := rfl

def lenV (x : TI) : SV → PV
  | .sl _ _ len _ => match x.k with | .sl _ => ⟨True, .int .i64 len⟩ | _ => .no
  | .nils => match x.k with | .sl _ => ⟨True, .int .i64 0⟩ | _ => .no
  | .str s => match x.k with | .str => ⟨True, .int .i64 s.size⟩ | _ => .no
  | _ => .no
@[go_sem] theorem lenV_sl (e s b : Nat) (z : Nat → SV) (i o len cap : Nat) : lenV ⟨.sl e, s, b, z⟩ (.sl i o len cap) = ⟨True, .int .i64 len⟩ := rfl
@[go_sem] theorem lenV_nils (e s b : Nat) (z : Nat → SV) : lenV ⟨.sl e, s, b, z⟩ .nils = ⟨True, .int .i64 0⟩ := rfl
@[go_sem] theorem lenV_str (s b : Nat) (z : Nat → SV) (x : ByteArray) : lenV ⟨.str, s, b, z⟩ (.str x) = ⟨True, .int .i64 x.size⟩ := rfl
def builtinV (x : TI) : Builtin → List SV → PV
  | .len, [u] => lenV x u
  | .min, vs => minV vs
  | .max, vs => maxV vs
  | _, _ => .no
@[go_sem] theorem builtinV_len (x : TI) (u : SV) : builtinV x .len [u] = lenV x u := rfl
@[go_sem] theorem builtinV_min (x : TI) (vs : List SV) : builtinV x .min vs = minV vs := rfl
@[go_sem] theorem builtinV_max (x : TI) (vs : List SV) : builtinV x .max vs = maxV vs := rfl
def hd0 : List Nat → Nat
  | [] => 0
  | t :: _ => t
@[go_sem] theorem hd0_cons (t : Nat) (l : List Nat) : hd0 (t :: l) = t := rfl

/-- The parts of a composite literal, over zeros. -/
def fillV (place : Nat → Option (Nat × Nat)) (N : Nat) : List (Nat × SV) → PV × (Nat → SV) → PV × (Nat → SV)
  | [], x => x
  | (i, v) :: rest, (p, c) =>
    match place i with
    | none => (.no, c)
    | some (off, size) => fillV place N rest (⟨p.vc ∧ v.ok ∧ v.size = size ∧ off + size ≤ N, .bad⟩, splice c off v)

def pv (ti : Nat → TI) (l : List (Nat × SV)) (h : List (Nat × Seg)) : Op → PV
  | .move x => ⟨(ev l x).ok, ev l x⟩
  | .assign x => ⟨(ev l x).ok, ev l x⟩
  | .pick c a b => pickV (ev l c) (ev l a) (ev l b)
  | .load t x => loadV h (ti t) (ev l x)
  | .nilCheck x => nilCheckV (ev l x)
  | .binOp op t x y _ => binV2 ti t op (ev l x) (ev l y)
  | .unOp op _ x => unV op (ev l x)
  | .convert s d x => convV (ti s) (ti d) (ev l x)
  | .makeFunc f xs ys => fnV f (evs l xs.toList) (evs l ys.toList)
  | .fieldAddr s x f => fieldAddrV ti (ti s) f (ev l x)
  | .field s x f => fieldV ti (ti s) f (ev l x)
  | .indexAddr t x i => indexAddrV ti (ti t) (ev l x) (ev l i)
  | .index t x i => indexV ti (ti t) (ev l x) (ev l i)
  | .extract x i => extractV i (ev l x)
  | .slice t x lo hi none => sliceV ti (ti t) (ev l x) (evo l lo) (evo l hi)
  | .call ⟨.builtin b, xs, ats⟩ => ⟨oks (evs l xs.toList) ∧ ats.toList ≠ [] ∧ (builtinV (ti (hd0 ats.toList)) b (evs l xs.toList)).vc, (builtinV (ti (hd0 ats.toList)) b (evs l xs.toList)).v⟩
  | _ => .no

@[congr] theorem pv_congr (ti : Nat → TI) (l : List (Nat × SV)) (h : List (Nat × Seg)) (o : Op) : pv ti l h o = pv ti l h o := rfl

theorem evs_sound {cx : Cx} {ρ : Rho} {l : List (Nat × SV)} {n : Nat} {a : Act} (s : SatT cx ρ l n a) : ∀ (xs : List Operand), oks (evs l xs) →
    xs.map a.eval = (evs l xs).map (den ρ) ∧ ∀ v ∈ evs l xs, v.lt n
  | [], _ => ⟨rfl, fun v hv => by cases hv⟩
  | x :: xs, h => by
    obtain ⟨h1, h2⟩ := h
    obtain ⟨e1, e2⟩ := ev_sound s x (SV.ok_ne h1)
    obtain ⟨f1, f2⟩ := evs_sound s xs h2
    refine ⟨by simp only [List.map_cons, evs, e1, f1], fun v hv => ?_⟩
    simp only [evs, List.mem_cons] at hv
    rcases hv with rfl | hv
    · exact e2
    · exact f2 v hv
theorem arr_cl (ρ : Rho) (vs : List SV) : arr vs.length (fun j => den ρ (cl vs j)) = (vs.map (den ρ)).toArray := by
  symm
  apply arr_ext (by simp)
  intro j hj
  simp [hj, cl_eq]
theorem cl_lt {n : Nat} {vs : List SV} (h : ∀ v ∈ vs, v.lt n) : ∀ j, j < vs.length → (cl vs j).lt n := by
  intro j hj
  simp only [cl_eq, List.getElem?_eq_getElem hj, Option.getD_some]
  exact h _ (List.getElem_mem hj)

section
variable {P : Program} {ti : Nat → TI} (hti : ∀ t, TyOK P t (ti t))
variable {cx : Cx} {ρ : Rho} {l : List (Nat × SV)} {h : List (Nat × Seg)} {n : Nat} {a : Act} {w : World}

theorem TyOK.runAgg {t : Nat} {x : TI} (hx : TyOK P t x) (hk : match x.k with | .oth => False | _ => True) (w : World) : (Go.isAgg t).run P w = .ok x.k.isAgg w := by
  obtain ⟨k, sz, b, z⟩ := x
  have hu := hx.und
  unfold Go.isAgg
  cases k with
  | oth => exact hk.elim
  | int k => simp [run_underlying hu, TK.isAgg]
  | bool => simp [run_underlying hu, TK.isAgg]
  | str => simp [run_underlying hu, TK.isAgg]
  | ptr => obtain ⟨d, hu, hd⟩ := hu; cases d <;> first | exact hd.elim | simp [run_underlying hu, TK.isAgg]
  | sl e => simp [run_underlying hu, TK.isAgg]
  | arr m e => simp [run_underlying hu, TK.isAgg]
  | st fs => obtain ⟨fl, hu, _⟩ := hu; simp [run_underlying hu, TK.isAgg]
theorem TyOK.runSize {t : Nat} {x : TI} (hx : TyOK P t x) (hk : match x.k with | .oth => False | _ => True) (w : World) : (sizeOf t).run P w = .ok x.sz w := by
  obtain ⟨i, z, hi, hs, _⟩ := hx.info hk
  simp [Go.sizeOf, typeInfo, hi, hs]

theorem addr_add (b o j : Nat) : (⟨b, o, none⟩ : Addr).add j = ⟨b, o + j, none⟩ := Addr.add_lit b o j

theorem load_sound {t : Nat} {x : TI} (hx : TyOK P t x) (sh : SatH cx ρ h n w) {u : SV} (hv : (loadV h x u).vc) : (Instr.loadAt t (den ρ u)).run P w = .ok (den ρ (loadV h x u).v) w ∧ (loadV h x u).v.lt n := by
  cases u <;> try (exact hv.elim)
  rename_i i o
  have hk : match x.k with | .oth => False | _ => True := by
    unfold loadV at hv; simp only [] at hv; split at hv
    · exact hv.elim
    · rename_i hk; split
      · rename_i he; exact hk he
      · trivial
  have hL : loadV h x (.ptr i o) = segV (hget h i) x.k.isAgg x.sz o := by
    unfold loadV; simp only []; split
    · rename_i he; simp [he] at hk
    · rfl
  rw [hL] at hv ⊢
  cases hs : hget h i with
  | none => rw [hs] at hv; exact hv.elim
  | some s =>
    rw [hs] at hv
    have hseg := sh.seg i s hs
    simp only [den, Instr.loadAt, Instr.sureAddr, Sem.run_bind, Sem.run_pure, Result.andThen_ok, loadVar, hx.runAgg hk]
    simp only [segV] at hv ⊢
    split at hv
    · rename_i hag
      simp only [hag, if_true, Sem.run_bind, hx.runSize hk, Result.andThen_ok]
      rw [run_loadCells w _ x.sz (fun j => den ρ (s.c (o + j))) (fun j hj => by
        rw [addr_add, Nat.add_assoc]; exact hseg.cells (o + j) (by simp at hv; omega))]
      simp only [Result.andThen_ok, Sem.run_pure, den_mkAgg]
      exact ⟨rfl, mkAgg_lt fun j hj => (sh.lt i s hs).2 _ (by simp at hv; omega)⟩
    · rename_i hag
      simp only [hag, Bool.false_eq_true, if_false, run_load]
      have hv' : o < s.n := hv
      rw [hseg.cells o hv']
      exact ⟨rfl, (sh.lt i s hs).2 o hv'⟩

theorem part_sound {t : Nat} {x : TI} (hx : TyOK P t x) {N : Nat} {F : Nat → SV} (hF : ∀ j, j < N → (F j).lt n) {off : Nat} (hv : (partV N F x off).vc) (w : World) :
    (part t (arr N fun j => den ρ (F j)) off).run P w = .ok (den ρ (partV N F x off).v) w ∧ (partV N F x off).v.lt n := by
  have hk : match x.k with | .oth => False | _ => True := by
    unfold partV at hv; split at hv
    · exact hv.elim
    · rename_i hk; split
      · rename_i he; exact hk he
      · trivial
  have hL : partV N F x off = if x.k.isAgg then ⟨off + x.sz ≤ N, mkAgg x.sz fun j => F (off + j)⟩ else ⟨off < N, F off⟩ := by
    unfold partV; split
    · rename_i he; simp [he] at hk
    · rfl
  rw [hL] at hv ⊢
  simp only [part, Sem.run_bind, hx.runAgg hk, Result.andThen_ok]
  split at hv
  · rename_i hag
    simp only [hag, if_true, Sem.run_bind, hx.runSize hk, Result.andThen_ok, Sem.run_pure, den_mkAgg]
    simp only at hv
    refine ⟨?_, mkAgg_lt fun j hj => hF _ (by omega)⟩
    congr 2
    apply arr_ext
    · simp; omega
    · intro j hj
      rw [Array.getElem?_extract, if_pos (by simp; omega), arr_get _ _ _ (by omega)]
  · rename_i hag
    simp only [hag, Bool.false_eq_true, if_false]
    simp only at hv
    rw [arr_get _ _ _ hv]
    exact ⟨rfl, hF _ hv⟩

theorem fieldAt_sound (hti : ∀ t, TyOK P t (ti t)) (s f : Nat) {u : SV} (hu : u.lt n) (hv : (fieldAddrV ti (ti s) f u).vc) (w : World) :
    (Instr.fieldAt s (den ρ u) f).run P w = .ok (den ρ (fieldAddrV ti (ti s) f u).v) w ∧ (fieldAddrV ti (ti s) f u).v.lt n := by
  have hx := hti s
  unfold fieldAddrV at *
  split at hv
  · rename_i i o
    split at hv
    · rename_i fs hk
      split at hv
      · rename_i off t hf
        have hund := hx.und
        rw [hk] at hund
        obtain ⟨fl, hfl, hmap⟩ := hund
        have hget : fl[f]?.map (fun g => (g.offset, g.type)) = some (off, t) := by
          have : (fl.toList.map (fun g => (g.offset, g.type)))[f]? = some (off, t) := by rw [hmap]; exact hf
          simpa using this
        obtain ⟨g, hg, he⟩ := Option.map_eq_some_iff.1 hget
        simp only [Prod.mk.injEq] at he
        obtain ⟨rfl, rfl⟩ := he
        simp only at hv
        simp only [Instr.fieldAt, Sem.run_bind, run_underlying hfl, Result.andThen_ok, hg, den, Instr.sureAddr, Sem.run_pure, fieldPlace, (hti g.type).runSize hv.2]
        rw [if_neg hv.1]
        simp only [Sem.run_pure, Result.andThen_ok, addr_add]
        exact ⟨by rw [Nat.add_assoc], hu⟩
      · exact hv.elim
    · exact hv.elim
  · exact hv.elim

theorem field_sound (hti : ∀ t, TyOK P t (ti t)) (s f : Nat) {u : SV} (hu : u.lt n) (hv : (fieldV ti (ti s) f u).vc) (w : World) :
    (Instr.field s (den ρ u) f).run P w = .ok (den ρ (fieldV ti (ti s) f u).v) w ∧ (fieldV ti (ti s) f u).v.lt n := by
  have hx := hti s
  unfold fieldV at *
  split at hv
  · rename_i N F
    split at hv
    · rename_i fs hk
      split at hv
      · rename_i off t hf
        have hund := hx.und
        rw [hk] at hund
        obtain ⟨fl, hfl, hmap⟩ := hund
        have hget : fl[f]?.map (fun g => (g.offset, g.type)) = some (off, t) := by
          have : (fl.toList.map (fun g => (g.offset, g.type)))[f]? = some (off, t) := by rw [hmap]; exact hf
          simpa using this
        obtain ⟨g, hg, he⟩ := Option.map_eq_some_iff.1 hget
        simp only [Prod.mk.injEq] at he
        obtain ⟨rfl, rfl⟩ := he
        have hp := part_sound (ρ := ρ) (hti g.type) (n := n) (F := F) hu hv w
        simp only [Instr.field, Sem.run_bind, run_underlying hfl, Result.andThen_ok, hg, den, asAgg, Sem.run_pure]
        exact hp
      · exact hv.elim
    · exact hv.elim
  · exact hv.elim

theorem indexAt_sound (hti : ∀ t, TyOK P t (ti t)) (t : Nat) {u v : SV} (hu : u.lt n) (hv : (indexAddrV ti (ti t) u v).vc) (w : World) :
    (Instr.indexAt t (den ρ u) (den ρ v)).run P w = .ok (den ρ (indexAddrV ti (ti t) u v).v) w ∧ (indexAddrV ti (ti t) u v).v.lt n := by
  have hx := (hti t).und
  unfold indexAddrV at *
  split at hv
  · rename_i i o k j
    split at hv
    · rename_i m e hk
      rw [hk] at hx
      simp only at hv
      obtain ⟨⟨h0, h1⟩, h2⟩ := hv
      simp only [Instr.indexAt, den, asIntOf, Sem.run_bind, Sem.run_pure, Result.andThen_ok, run_underlying hx, Instr.sureAddr]
      rw [if_pos ⟨h0, h1⟩]
      simp only [Sem.run_bind, (hti e).runSize h2, Result.andThen_ok, Sem.run_pure, addr_add]
      exact ⟨by rw [Nat.add_assoc], hu⟩
    · exact hv.elim
  · rename_i i o len cap k j
    split at hv
    · rename_i e hk
      rw [hk] at hx
      simp only at hv
      obtain ⟨⟨h0, h1⟩, h2⟩ := hv
      simp only [Instr.indexAt, den, asIntOf, Sem.run_bind, Sem.run_pure, Result.andThen_ok, run_underlying hx, Instr.sureAddr]
      rw [if_pos ⟨h0, h1⟩]
      simp only [Sem.run_bind, (hti e).runSize h2, Result.andThen_ok, Sem.run_pure, addr_add]
      exact ⟨by rw [Nat.add_assoc], hu⟩
    · exact hv.elim
  · exact hv.elim

theorem index_sound (hti : ∀ t, TyOK P t (ti t)) (t : Nat) {u v : SV} (hu : u.lt n) (hv : (indexV ti (ti t) u v).vc) (w : World) :
    (Instr.index t (den ρ u) (den ρ v)).run P w = .ok (den ρ (indexV ti (ti t) u v).v) w ∧ (indexV ti (ti t) u v).v.lt n := by
  have hx := (hti t).und
  unfold indexV at *
  split at hv
  · rename_i N F k j
    split at hv
    · rename_i m e hk
      rw [hk] at hx
      simp only at hv
      obtain ⟨⟨h0, h1⟩, h2⟩ := hv
      have hp := part_sound (ρ := ρ) (hti e) (n := n) (F := F) hu h2 w
      have hk' : match (ti e).k with | .oth => False | _ => True := by
        unfold partV at h2; split at h2
        · exact h2.elim
        · rename_i hk; split
          · rename_i he; exact hk he
          · trivial
      simp only [Instr.index, den, asIntOf, Sem.run_bind, Sem.run_pure, Result.andThen_ok, run_underlying hx]
      rw [if_pos ⟨h0, h1⟩]
      simp only [Sem.run_bind, (hti e).runSize hk', Result.andThen_ok]
      exact hp
    · exact hv.elim
  · rename_i s k j
    split at hv
    · rename_i hk
      rw [hk] at hx
      simp only at hv
      obtain ⟨h0, h1⟩ := hv
      simp only [Instr.index, den, asIntOf, Sem.run_bind, Sem.run_pure, Result.andThen_ok, run_underlying hx]
      have hj : j.toNat < s.size := by omega
      have he : s[j.toNat]? = some s[j.toNat] := by simp [hj]
      refine ⟨?_, trivial⟩
      rw [if_pos h0, he]
      simp only [Sem.run_pure, bt, he, Option.getD_some]
    · exact hv.elim
  · exact hv.elim

theorem toList_beq (a b : ByteArray) : (a.toList == b.toList) = decide (a = b) := by
  rw [Bool.eq_iff_iff, beq_iff_eq, ByteArray.toList_eq, ByteArray.toList_eq, decide_eq_true_eq]
  exact ⟨fun h => ByteArray.ext (Array.toList_inj.mp h), fun h => by rw [h]⟩
theorem bin_sound (hti : ∀ t, TyOK P t (ti t)) (op : BinOp) (t : Nat) (x y : Operand) {u v : SV} (hv : (binV (ti t) op u v).vc) (w : World) :
    (do eqGuard op t x y (den ρ u) (den ρ v); binOp op t (den ρ u) (den ρ v) : Sem Value).run P w = .ok (den ρ (binV (ti t) op u v).v) w ∧ (binV (ti t) op u v).v.lt n := by
  cases u <;> try (exact hv.elim)
  case int k a =>
    cases v <;> try (exact hv.elim)
    rename_i k' b
    refine ⟨?_, by cases op <;> trivial⟩
    simp only [den, eqGuard_at_int, Sem.run_bind, Sem.run_pure, Result.andThen_ok]
    cases op <;> simp only [binV] at hv <;> first
      | (subst hv; simp [binOp, binV, den, Op.intArith, Op.intBits, Op.intCmp, bitsI]; done)
      | (obtain ⟨rfl, hb⟩ := hv; simp [binOp, binV, den, Op.intDiv, hb]; done)
      | (have hb : ¬ b < 0 := by omega
         simp [binOp, binV, den, Op.shift, hb, shlI, shrI]; done)
      | skip
    all_goals (subst hv; simp [binOp, binV, den, Op.intCmp, bne]; try rfl)
  case bool a =>
    cases v <;> try (exact hv.elim)
    rename_i b
    have hx := (hti t).und
    cases op <;> (try (exact hv.elim)) <;> simp only [binV] at hv ⊢ <;> (cases hk : (ti t).k <;> rw [hk] at hv hx <;> first | exact hv.elim | skip)
    · exact ⟨by simp [den, eqGuard_at_bool, run_eql_bool w t a b hx], trivial⟩
    · exact ⟨by simp [den, eqGuard_at_bool, run_neq_bool w t a b hx], trivial⟩
  case str a =>
    cases v <;> try (exact hv.elim)
    rename_i b
    cases op <;> (try (exact hv.elim)) <;> refine ⟨?_, trivial⟩
    · have h1 : ¬ (((a.size + b.size : Nat) : Int) > IntKind.i64.max) := by rw [IntKind.max_i64]; simp only [binV] at hv; omega
      simp [den, eqGuard_at_string, binOp, Op.stringOp, binV]
      simp only [binV] at hv; omega
    · simp [den, eqGuard_at_string, binOp, Op.stringOp, binV, toList_beq]
    · simp [den, eqGuard_at_string, binOp, Op.stringOp, binV, toList_beq]

theorem TK.isAgg_kn {k : TK} (h : k.isAgg = true) : match k with | .oth => False | _ => True := by cases k <;> first | trivial | exact (by cases h)

/-- A part of an aggregate, read. -/
theorem part_run (hti : ∀ t, TyOK P t (ti t)) (t : Nat) (hk : match (ti t).k with | .oth => False | _ => True) {N : Nat} {f : Nat → Value} {off : Nat} (hN : off + (ti t).sz ≤ N) (h1 : off < N) (w : World) :
    (part t (arr N f) off).run P w = .ok (if (ti t).k.isAgg then .agg (arr (ti t).sz fun j => f (off + j)) else f off) w := by
  simp only [part, Sem.run_bind, (hti t).runAgg hk, Result.andThen_ok]
  split
  · rename_i hag
    simp only [Sem.run_bind, (hti t).runSize hk, Result.andThen_ok, Sem.run_pure]
    congr 2
    apply arr_ext
    · simp; omega
    · intro j hj
      rw [Array.getElem?_extract, if_pos (by simp; omega), arr_get _ _ _ (by omega)]
  · rename_i hag
    rw [arr_get _ _ _ h1]
    rfl

theorem fitC_k {k : TK} {u v : SV} (h : fitC k u v) : k.isAgg = false := by
  cases k <;> first | rfl | (unfold fitC at h; cases u <;> cases v <;> exact h.elim)
theorem eqc_sound {d t : Nat} (hti : ∀ t, TyOK P t (ti t)) {u v : SV} (h : fitC (ti t).k u v) (w : World) : (Op.equalIn (d + 1) t (den ρ u) (den ρ v)).run P w = .ok (eqc u v) w := by
  have hx := (hti t).und
  unfold fitC at h
  split at h
  · rename_i hk; rw [hk] at hx; subst h; rw [den, den, run_equalIn_int w d t _ _ _ _ hx]; simp only [eqc]; congr 1
  · rename_i hk; rw [hk] at hx; rw [den, den, run_equalIn_bool' w d t _ _ hx]; rfl
  · rename_i hk; rw [hk] at hx; rw [den, den, run_equalIn_string w d t _ _ hx]; simp only [eqc, toList_beq]
  · exact h.elim

theorem eqT_sound (hti : ∀ t, TyOK P t (ti t)) (ρ : Rho) (F G : Nat → SV) : ∀ (m t off d : Nat) (w : World), P.keyTypeAt m t = true → fitT ti m t F G off →
    (Op.equalIn (d + m) t (if (ti t).k.isAgg then .agg (arr (ti t).sz fun j => den ρ (F (off + j))) else den ρ (F off)) (if (ti t).k.isAgg then .agg (arr (ti t).sz fun j => den ρ (G (off + j))) else den ρ (G off))).run P w = .ok (eqT ti m t F G off) w
  | 0, _, _, _, _, hk, _ => by simp [Program.keyTypeAt] at hk
  | m + 1, t, off, d, w, hk, hf => by
    rw [fitT_succ] at hf
    rw [eqT_succ]
    have hx := (hti t).und
    have kn (e : Nat) (he : P.keyTypeAt m e = true) (F' G' : Nat → SV) (o : Nat) (hfe : fitT ti m e F' G' o) : (match (ti e).k with | .oth => False | _ => True) := by
      cases m with
      | zero => simp [Program.keyTypeAt] at he
      | succ m =>
        rw [fitT_succ] at hfe
        cases hke : (ti e).k <;> first | trivial | (rw [hke] at hfe; simp only [fitK, fitC] at hfe)
    cases hkk : (ti t).k with
    | arr n e =>
      rw [hkk] at hx hf
      simp only [TK.isAgg, if_true, fitK_arr, allP_iff] at hf ⊢
      obtain ⟨⟨hz0, hsz⟩, hf⟩ := hf
      unfold Program.keyTypeAt at hk
      simp only [hx] at hk
      rw [eqK_arr]
      cases n with
      | zero =>
        rw [← Nat.add_assoc]
        have hn := (hti t).info (by rw [hkk]; trivial)
        obtain ⟨i, z, hi, hs, _⟩ := hn
        have : (Op.equalIn (d + m + 1) t (.agg (arr (ti t).sz fun j => den ρ (F (off + j)))) (.agg (arr (ti t).sz fun j => den ρ (G (off + j))))).run P w = .ok true w := by
          obtain ⟨ie, hie⟩ := info_of_underlying (P := P) (t := t) hx
          cases he : P.info? e with
          | none =>
            simp only [Op.equalIn, Sem.run_bind, run_underlying hx, Result.andThen_ok]
            exfalso
            cases m with
            | zero => simp [Program.keyTypeAt] at hk
            | succ m =>
              unfold Program.keyTypeAt at hk
              cases hu : P.underlying e with
              | none => simp [hu] at hk
              | some dd => obtain ⟨i', hi'⟩ := info_of_underlying (P := P) hu; rw [hi'] at he; cases he
          | some ie =>
            rw [run_equalIn_array w (d + m) _ _ hx he]
            simp [Op.eqItems]
        rw [this]; rfl
      | succ n =>
        have hke := kn e hk F G _ (hf 0 (by omega))
        obtain ⟨ie, ze, hie, hse, _⟩ := (hti e).info hke
        rw [← Nat.add_assoc, run_equalIn_array w (d + m) _ _ hx hie]
        have hco : P.cellsOf e = (ti e).sz := by simp [Program.cellsOf, hie, hse]
        rw [hco]
        have hN : ∀ i, i < n + 1 → i * (ti e).sz + (ti e).sz ≤ (ti t).sz := by
          intro i hi
          rw [hsz, ← Nat.succ_mul]
          exact Nat.mul_le_mul_right _ hi
        have all : ∀ (is : List Nat), (∀ i ∈ is, i < n + 1) → (Op.eqItems (d + m) e (ti e).sz (arr (ti t).sz fun j => den ρ (F (off + j))) (arr (ti t).sz fun j => den ρ (G (off + j))) is).run P w =
            .ok (is.all fun i => eqT ti m e F G (off + i * (ti e).sz)) w := by
          intro is
          induction is with
          | nil => intro _; simp [Op.eqItems]
          | cons i is ih =>
            intro his
            have hi := his i (by simp)
            have h0 := hN i hi
            have hpos : i * (ti e).sz < (ti t).sz := by omega
            simp only [Op.eqItems, Sem.run_bind, part_run hti e hke h0 hpos, Result.andThen_ok]
            have IH := eqT_sound hti ρ F G m e (off + i * (ti e).sz) d w hk (hf i hi)
            simp only [Nat.add_assoc] at IH ⊢
            rw [IH]
            simp only [Result.andThen_ok, List.all_cons]
            cases eqT ti m e F G (off + i * (ti e).sz)
            · simp
            · simp [ih (fun j hj => his j (by simp [hj]))]
        rw [all _ (fun i hi => by simpa using hi)]
        congr 1
        rw [Bool.eq_iff_iff, allN_iff]
        simp
    | st fs =>
      rw [hkk] at hx hf
      simp only [TK.isAgg, if_true, fitK] at hf ⊢
      obtain ⟨fl, hfl, hmap⟩ := hx
      unfold Program.keyTypeAt at hk
      simp only [hfl, Bool.and_eq_true, Bool.not_eq_true', Array.all_eq_true_iff_forall_mem, bne_iff_ne, ne_eq] at hk
      obtain ⟨⟨hk, _⟩, hst⟩ := hk
      have hof : P.fieldsOf t = fl := by simp [Program.fieldsOf, hfl]
      rw [← Nat.add_assoc, run_equalIn_struct w (d + m) t _ _ (by rw [hof]; exact hfl) hst, hof]
      have all : ∀ (gl : List Field), (∀ f ∈ gl, f ∈ fl) → (Op.eqFields (d + m) (arr (ti t).sz fun j => den ρ (F (off + j))) (arr (ti t).sz fun j => den ρ (G (off + j))) gl).run P w =
          .ok ((gl.map fun f => (f.offset, f.type)).all fun p => eqT ti m p.2 F G (off + p.1)) w := by
        intro gl
        induction gl with
        | nil => intro _; simp [Op.eqFields]
        | cons f gl ih =>
          intro hgl
          have hfm := hgl f (by simp)
          obtain ⟨hn, hkf⟩ := hk f hfm
          obtain ⟨⟨hp0, hp1⟩, hpf⟩ := hf (f.offset, f.type) (by rw [← hmap]; exact List.mem_map.2 ⟨f, by simpa using hfm, rfl⟩)
          simp only at hp0 hp1 hpf
          have hke := kn f.type hkf F G _ hpf
          simp only [Op.eqFields, hn, ne_eq, not_false_eq_true, if_true, Sem.run_bind, part_run hti f.type hke hp1 (by omega : f.offset < (ti t).sz), Result.andThen_ok]
          have IH := eqT_sound hti ρ F G m f.type (off + f.offset) d w hkf hpf
          simp only [Nat.add_assoc] at IH ⊢
          rw [IH]
          simp only [Result.andThen_ok, List.map_cons, List.all_cons]
          cases eqT ti m f.type F G (off + f.offset)
          · simp
          · simp [ih (fun g hg => hgl g (by simp [hg]))]
      rw [all _ (fun f hf => by simpa using hf), hmap]
      rfl
    | oth => rw [hkk] at hf; simp only [fitK, fitC] at hf
    | int k => rw [hkk] at hf; simp only [TK.isAgg, Bool.false_eq_true, if_false]; rw [← Nat.add_assoc]; exact eqc_sound hti (by rw [hkk]; exact hf) w
    | bool => rw [hkk] at hf; simp only [TK.isAgg, Bool.false_eq_true, if_false]; rw [← Nat.add_assoc]; exact eqc_sound hti (by rw [hkk]; exact hf) w
    | str => rw [hkk] at hf; simp only [TK.isAgg, Bool.false_eq_true, if_false]; rw [← Nat.add_assoc]; exact eqc_sound hti (by rw [hkk]; exact hf) w
    | ptr => rw [hkk] at hf; simp only [fitK, fitC] at hf
    | sl e => rw [hkk] at hf; simp only [fitK, fitC] at hf

theorem binV2_bad {ti : Nat → TI} {t : Nat} {op : BinOp} {u : SV} (h : (binV2 ti t op u .bad).vc) : False := by
  cases u <;> first | exact h | (rename_i v; cases v <;> first | exact h | (rename_i a; cases a <;> exact h))
theorem eqSlNil {P : Program} (w : World) (d t e : Nat) (a : Option Addr) (l c : Nat) (h : P.underlying t = some (.slice e)) : (Op.equalIn (d + 1) t (.slice a l c) (.slice none 0 0)).run P w = .ok a.isNone w := by
  cases a <;> simp [Op.equalIn, run_underlying h]
theorem bin2_sound (hti : ∀ t, TyOK P t (ti t)) (op : BinOp) (t : Nat) (x y : Operand) {u v : SV} (hv : (binV2 ti t op u v).vc) (w : World) :
    (do eqGuard op t x y (den ρ u) (den ρ v); binOp op t (den ρ u) (den ρ v) : Sem Value).run P w = .ok (den ρ (binV2 ti t op u v).v) w ∧ (binV2 ti t op u v).v.lt n := by
  unfold binV2 at *
  split at hv
  · rename_i N F M G
    have key : eqVc ti t N M F G → (Op.equalIn 10000 t (.agg (arr N fun j => den ρ (F j))) (.agg (arr M fun j => den ρ (G j)))).run P w = .ok (eqT ti 9 t F G 0) w ∧ P.eqGuardType P.depth t = false := by
      rintro ⟨h1, rfl, rfl, h2, h3⟩
      obtain ⟨hk, hg⟩ := (hti t).eqs h1
      have := eqT_sound hti ρ F G 9 t 0 9991 w hk h3
      simp only [h2, if_true, Nat.zero_add] at this
      exact ⟨this, hg⟩
    unfold eqV at *
    split at hv
    · obtain ⟨k1, k2⟩ := key hv
      refine ⟨?_, trivial⟩
      simp only [den, Sem.run_bind, run_eqGuard_agg w _ t x y _ _ k2, Result.andThen_ok, run_eql_struct, k1]
    · obtain ⟨k1, k2⟩ := key hv
      refine ⟨?_, trivial⟩
      simp only [den, Sem.run_bind, run_eqGuard_agg w _ t x y _ _ k2, Result.andThen_ok, run_neq_struct, k1]
    · exact hv.elim
  · rename_i a o l c
    cases op <;> simp only [nilV] at hv ⊢ <;> first | exact hv.elim | skip
    all_goals
      have hu := (hti t).und
      cases hk : (ti t).k <;> rw [hk] at hv hu <;> first | (simp [TK.isSl] at hv; done) | skip
      refine ⟨?_, trivial⟩
      have he : (Op.equalIn Op.maxDepth t (.slice (some ⟨(ρ a).1, (ρ a).2 + o, none⟩) l c) (.slice none 0 0)).run P w = _ := eqSlNil w 9999 t _ (some ⟨(ρ a).1, (ρ a).2 + o, none⟩) l c hu
      simp [den, eqGuard_at_slice, binOp, Op.equal, he]
  · cases op <;> simp only [nilV] at hv ⊢ <;> first | exact hv.elim | skip
    all_goals
      have hu := (hti t).und
      cases hk : (ti t).k <;> rw [hk] at hv hu <;> first | (simp [TK.isSl] at hv; done) | skip
      refine ⟨?_, trivial⟩
      have he : (Op.equalIn Op.maxDepth t (.slice none 0 0) (.slice none 0 0)).run P w = _ := eqSlNil w 9999 t _ none 0 0 hu
      simp [den, eqGuard_at_slice, binOp, Op.equal, he]
  · rename_i a o
    cases op <;> simp only [nilV] at hv ⊢ <;> first | exact hv.elim | skip
    all_goals
      obtain ⟨e, hu0⟩ := (hti t).ptrs hv.1 hv.2
      have hu : P.underlying t = some (.pointer (P.pointee t)) := by simp [Program.pointee, hu0]
      refine ⟨?_, trivial⟩
      have he : (Op.equalIn Op.maxDepth t (.pointer (some ⟨(ρ a).1, (ρ a).2 + o, none⟩)) (.pointer none)).run P w = _ := run_equalIn_pointer_nil (P := P) w 9999 t (some ⟨(ρ a).1, (ρ a).2 + o, none⟩) hu
      simp [den, eqGuard_at_pointer, binOp, Op.equal, he]
  · cases op <;> simp only [nilV] at hv ⊢ <;> first | exact hv.elim | skip
    all_goals
      obtain ⟨e, hu0⟩ := (hti t).ptrs hv.1 hv.2
      have hu : P.underlying t = some (.pointer (P.pointee t)) := by simp [Program.pointee, hu0]
      refine ⟨?_, trivial⟩
      have he : (Op.equalIn Op.maxDepth t (.pointer none) (.pointer none)).run P w = _ := run_equalIn_pointer_nil (P := P) w 9999 t none hu
      simp [den, eqGuard_at_pointer, binOp, Op.equal, he]
  · exact bin_sound hti op t x y hv w

theorem bnd_sound (isl : BoundsCode) (d y : Nat) {o : Option SV} {n : Int} (ho : bnd d o = some n) (w : World) :
    ∀ (hy : 0 ≤ n ∧ n ≤ (y : Int)), (match o.map (den ρ) with | some v => Instr.sliceBound v y isl | none => pure d : Sem Nat).run P w = .ok n.toNat w := by
  intro hy
  unfold bnd at ho
  split at ho
  · simp at ho; subst ho; simp
  · simp at ho; subst ho; simp [Instr.sliceBound, den, asIntOf, hy.1, hy.2]
  · cases ho

theorem bounds_sound (isl : Bool) (len cap : Nat) {lo hi : Option SV} {a b : Int} (hlo : bnd 0 lo = some a) (hhi : bnd len hi = some b) (h0 : 0 ≤ a) (h1 : a ≤ b) (h2 : b ≤ (cap : Int)) (w : World) :
    (Instr.sliceBounds isl len cap (lo.map (den ρ)) (hi.map (den ρ)) none).run P w = .ok (a.toNat, b.toNat, cap) w := by
  have e1 := fun c => bnd_sound (P := P) (ρ := ρ) c len cap hhi w ⟨by omega, h2⟩
  have e2 := fun c => bnd_sound (P := P) (ρ := ρ) c 0 b.toNat hlo w ⟨h0, by omega⟩
  have e1' := e1 (if isl then .sliceAcap else .sliceAlen)
  have e2' := e2 .sliceB
  cases hi <;> cases lo <;> simp only [Option.map_none, Option.map_some, Sem.run_pure, Result.ok.injEq, and_true] at e1' e2' <;>
    simp only [Instr.sliceBounds, Option.map_none, Option.map_some, Sem.run_bind, Sem.run_pure, Result.andThen_ok, Option.isSome_none, Bool.false_eq_true, if_false, e1', e2'] <;>
    first | rfl | (congr 2 <;> omega) | (simp only [← e1', ← e2', Nat.zero_add]; done) | skip
  all_goals (first | (simp [← e2']; done) | skip)

theorem cut_sound (isl : Bool) (i off sz len cap : Nat) (lo hi : Option SV) (hi' : i < n) (hv : (cutV i off sz cap (bnd 0 lo) (bnd len hi)).vc) (w : World) :
    ∃ a b : Nat, (Instr.sliceBounds isl len cap (lo.map (den ρ)) (hi.map (den ρ)) none).run P w = .ok (a, b, cap) w ∧
      den ρ (cutV i off sz cap (bnd 0 lo) (bnd len hi)).v = .slice (if cap = a then some ⟨(ρ i).1, (ρ i).2 + off, none⟩ else some ⟨(ρ i).1, (ρ i).2 + off + a * sz, none⟩) (b - a) (cap - a) ∧ (cutV i off sz cap (bnd 0 lo) (bnd len hi)).v.lt n := by
  cases h1 : bnd 0 lo with
  | none => rw [h1] at hv; exact hv.elim
  | some x =>
    cases h2 : bnd len hi with
    | none => rw [h1, h2] at hv; exact hv.elim
    | some y =>
      rw [h1, h2] at hv
      obtain ⟨a0, a1, a2⟩ := hv
      refine ⟨x.toNat, y.toNat, bounds_sound isl len cap h1 h2 a0 a1 a2 w, ?_, hi'⟩
      simp only [cutV, den]
      by_cases hc : (cap : Int) = x
      · rw [if_pos hc, if_pos (by omega)]
      · rw [if_neg hc, if_neg (by omega)]
        simp only [Nat.add_assoc]

theorem slice_sound (hti : ∀ t, TyOK P t (ti t)) (t : Nat) {u : SV} {lo hi : Option SV} (hu : u.lt n) (hv : (sliceV ti (ti t) u lo hi).vc) (w : World) :
    (Instr.sliceAt t (den ρ u) (lo.map (den ρ)) (hi.map (den ρ)) none).run P w = .ok (den ρ (sliceV ti (ti t) u lo hi).v) w ∧ (sliceV ti (ti t) u lo hi).v.lt n := by
  have hx := (hti t).und
  unfold sliceV at *
  split at hv
  · rename_i i off len cap e hk
    rw [hk] at hx
    obtain ⟨h1, h2⟩ := hv
    obtain ⟨a, b, e1, e2, e3⟩ := cut_sound (P := P) (ρ := ρ) (n := n) true i off (ti e).sz len cap lo hi hu h2 w
    refine ⟨?_, e3⟩
    simp only [Instr.sliceAt, Sem.run_bind, run_underlying hx, Result.andThen_ok, Instr.slice, den, e1, (hti e).runSize h1, Sem.run_pure, e2]
    congr 2
    by_cases hc : cap = a
    · simp [hc]
    · simp [hc, addr_add]
  · rename_i i off m e hk
    rw [hk] at hx
    obtain ⟨h1, h2⟩ := hv
    obtain ⟨a, b, e1, e2, e3⟩ := cut_sound (P := P) (ρ := ρ) (n := n) false i off (ti e).sz m m lo hi hu h2 w
    refine ⟨?_, e3⟩
    simp only [Instr.sliceAt, Sem.run_bind, run_underlying hx, Result.andThen_ok, Instr.sureAddr, den, e1, (hti e).runSize h1, Sem.run_pure, e2]
    congr 2
    by_cases hc : m = a
    · simp [hc]
    · simp [hc, addr_add]
  · rename_i e hk
    rw [hk] at hx
    obtain ⟨h1, h2⟩ := hv
    cases h3 : bnd 0 lo with
    | none => rw [h3] at h2; exact h2.elim
    | some x =>
      cases h4 : bnd 0 hi with
      | none => rw [h3, h4] at h2; exact h2.elim
      | some y =>
        rw [h3, h4] at h2
        obtain ⟨rfl, rfl⟩ := h2
        refine ⟨?_, trivial⟩
        have := bounds_sound (P := P) (ρ := ρ) true 0 0 h3 h4 (by omega) (by omega) (by omega) w
        simp only [Instr.sliceAt, Sem.run_bind, run_underlying hx, Result.andThen_ok, Instr.slice, den, this, (hti e).runSize h1, Sem.run_pure]
        rfl
  · rename_i s hk
    rw [hk] at hx
    cases h3 : bnd 0 lo with
    | none => rw [h3] at hv; exact hv.elim
    | some x =>
      cases h4 : bnd s.size hi with
      | none => rw [h3, h4] at hv; exact hv.elim
      | some y =>
        rw [h3, h4] at hv
        obtain ⟨a0, a1, a2⟩ := hv
        refine ⟨?_, trivial⟩
        have := bounds_sound (P := P) (ρ := ρ) false s.size s.size h3 h4 a0 a1 a2 w
        simp only [Instr.sliceAt, Sem.run_bind, run_underlying hx, Result.andThen_ok, Instr.slice, den, this, Sem.run_pure, Option.isSome_none, Bool.false_eq_true, if_false]
        rfl
  · exact hv.elim

theorem evo_sound {l : List (Nat × SV)} (s : SatT cx ρ l n a) (o : Option Operand) (h : ∀ x, o = some x → ev l x ≠ .bad) : o.map a.eval = (evo l o).map (den ρ) := by
  cases o with
  | none => rfl
  | some x => simp only [Option.map_some, evo, (ev_sound s x (h x rfl)).1]

theorem un_sound (op : UnOp) {u : SV} (hv : (unV op u).vc) (w : World) : (Op.unary op (den ρ u)).run P w = .ok (den ρ (unV op u).v) w ∧ (unV op u).v.lt n := by
  cases u <;> try (exact hv.elim)
  all_goals (cases op <;> first | exact hv.elim | (refine ⟨?_, trivial⟩; simp [den, Op.unary, unV, Op.intArith]))

theorem conv_sound (hti : ∀ t, TyOK P t (ti t)) (s d : Nat) {u : SV} (hv : (convV (ti s) (ti d) u).vc) (w : World) :
    (convert s d (den ρ u)).run P w = .ok (den ρ (convV (ti s) (ti d) u).v) w ∧ (convV (ti s) (ti d) u).v.lt n := by
  have hs := (hti s).und
  have hd := (hti d).und
  cases u <;> try (exact hv.elim)
  · simp only [convV] at hv ⊢
    split at hv
    · rename_i k0 k n' h1 h2
      rw [h1] at hs; rw [h2] at hd
      refine ⟨?_, trivial⟩
      simp [convert, run_underlying hs, run_underlying hd, den, Conv.intToInt]
    · exact hv.elim
  · simp only [convV] at hv ⊢
    split at hv
    · rename_i h1 h2
      rw [h1] at hs; rw [h2] at hd
      refine ⟨?_, trivial⟩
      simp [convert, run_underlying hs, run_underlying hd, den]
    · exact hv.elim

theorem fn_sound {f : Fn} {xs ys : List SV} (hv : (fnV f xs ys).vc) (hx : ∀ v ∈ xs, v.lt n) (hy : ∀ v ∈ ys, v.lt n) (w : World) :
    (Instr.makeFunc f (xs.map (den ρ)).toArray (ys.map (den ρ)).toArray).run P w = .ok (den ρ (fnV f xs ys).v) w ∧ (fnV f xs ys).v.lt n := by
  cases f <;> try (exact hv.elim)
  refine ⟨?_, cl_lt hx, cl_lt hy⟩
  simp only [Instr.makeFunc, Sem.run_pure, fnV, den, arr_cl]

theorem builtin_sound (hti : ∀ t, TyOK P t (ti t)) (b : Builtin) (ats : Array Nat) (ty : Nat) (cs : Array Bool) {vs : List SV} (hs : ats.toList ≠ [])
    (hv : (builtinV (ti (hd0 ats.toList)) b vs).vc) (w : World) :
    (builtin b ats ty cs (vs.map (den ρ)).toArray).run P w = .ok (.value (den ρ (builtinV (ti (hd0 ats.toList)) b vs).v)) w ∧ (builtinV (ti (hd0 ats.toList)) b vs).v.lt n := by
  obtain ⟨ats⟩ := ats
  cases ats with
  | nil => exact absurd rfl hs
  | cons t r =>
    have hx := (hti t).und
    change (builtinV (ti t) b vs).vc at hv
    show (builtin b _ ty cs (vs.map (den ρ)).toArray).run P w = .ok (.value (den ρ (builtinV (ti t) b vs).v)) w ∧ (builtinV (ti t) b vs).v.lt n
    unfold builtinV at *
    split at hv
    · rename_i u
      unfold lenV at *
      split at hv <;> (try (exact hv.elim)) <;> (cases hk : (ti t).k <;> rw [hk] at hv hx <;> (try (exact hv.elim)))
      all_goals (refine ⟨?_, trivial⟩; simp [builtin, Builtin.len_, run_underlying hx, den, goInt])
    · rename_i vs
      unfold minV at *
      split at hv
      · rename_i k a k' b
        obtain rfl : k = k' := hv
        refine ⟨?_, trivial⟩
        simp only [builtin, Builtin.min_, den, List.map_cons, List.map_nil, List.foldlM_cons, List.foldlM_nil, Builtin.min2]
        simp [Int.min_def]
        split <;> split <;> omega
      · exact hv.elim
    · rename_i vs
      unfold maxV at *
      split at hv
      · rename_i k a k' b
        obtain rfl : k = k' := hv
        refine ⟨?_, trivial⟩
        simp only [builtin, Builtin.max_, den, List.map_cons, List.map_nil, List.foldlM_cons, List.foldlM_nil, Builtin.max2]
        simp [Int.max_def]
        split <;> split <;> omega
      · rename_i k a k' b k'' c
        obtain ⟨rfl, rfl⟩ := hv
        refine ⟨?_, trivial⟩
        simp only [builtin, Builtin.max_, den, List.map_cons, List.map_nil, List.foldlM_cons, List.foldlM_nil, Builtin.max2]
        simp [Int.max_def]
        repeat' split
        all_goals omega
      · exact hv.elim
    · exact hv.elim

theorem evs_arr {l : List (Nat × SV)} (s : SatT cx ρ l n a) (xs : Array Operand) (h : oks (evs l xs.toList)) :
    xs.map a.eval = ((evs l xs.toList).map (den ρ)).toArray ∧ ∀ v ∈ evs l xs.toList, v.lt n := by
  obtain ⟨h1, h2⟩ := evs_sound s xs.toList h
  exact ⟨by rw [← h1, ← Array.toList_map, Array.toArray_toList], h2⟩

theorem no_vc : PV.no.vc ↔ False := Iff.rfl

/-- A pure operation. -/
theorem pv_sound (hti : ∀ t, TyOK P t (ti t)) (o : Oper) (st : SatT cx ρ l n a) (sh : SatH cx ρ h n w) (hv : (pv ti l h o.op).vc) :
    (execOp a.eval o).run P w = .ok (.value (den ρ (pv ti l h o.op).v)) w ∧ (pv ti l h o.op).v.lt n := by
  obtain ⟨d, op, ty, pos, af, g⟩ := o
  change (pv ti l h op).vc at hv
  show (execOp a.eval ⟨d, op, ty, pos, af, g⟩).run P w = .ok (.value (den ρ (pv ti l h op).v)) w ∧ (pv ti l h op).v.lt n
  unfold pv at hv ⊢
  split at hv
  · obtain ⟨e1, e2⟩ := ev_sound st _ (SV.ok_ne hv)
    exact ⟨by simp [execOp, e1], e2⟩
  · obtain ⟨e1, e2⟩ := ev_sound st _ (SV.ok_ne hv)
    exact ⟨by simp [execOp, e1], e2⟩
  · rename_i c x y
    unfold pickV at *
    split at hv
    · rename_i b hb
      obtain ⟨e1, e2⟩ := ev_sound st c (by rw [hb]; simp)
      have : a.eval c = .bool b := by rw [e1, hb]; rfl
      cases b
      · obtain ⟨f1, f2⟩ := ev_sound st y (SV.ok_ne hv)
        exact ⟨by simp [execOp, this, asBool, f1], f2⟩
      · obtain ⟨f1, f2⟩ := ev_sound st x (SV.ok_ne hv)
        exact ⟨by simp [execOp, this, asBool, f1], f2⟩
    · exact hv.elim
  · rename_i t x
    have hne : ev l x ≠ .bad := by intro h; rw [h] at hv; exact hv
    obtain ⟨e1, e2⟩ := ev_sound st x hne
    obtain ⟨f1, f2⟩ := load_sound (hti t) sh hv
    exact ⟨by simp only [execOp, e1, Sem.run_bind, f1, Result.andThen_ok, Sem.run_pure], f2⟩
  · rename_i x
    have hne : ev l x ≠ .bad := by intro h; rw [h] at hv; exact hv
    obtain ⟨e1, e2⟩ := ev_sound st x hne
    unfold nilCheckV at *
    split at hv
    · rename_i i o hx
      rw [hx] at e1 e2
      exact ⟨by simp [execOp, e1, den], e2⟩
    · rename_i f m G k F hx
      rw [hx] at e1 e2
      exact ⟨by simp [execOp, e1, den], e2⟩
    · exact hv.elim
  · rename_i op t x y yt
    have hx : ev l x ≠ .bad := by intro h; rw [h] at hv; exact hv
    have hy : ev l y ≠ .bad := by intro h; rw [h] at hv; exact binV2_bad hv
    obtain ⟨e1, e2⟩ := ev_sound st x hx
    obtain ⟨f1, f2⟩ := ev_sound st y hy
    obtain ⟨g1, g2⟩ := bin2_sound (ρ := ρ) (n := n) hti op t x y hv w
    refine ⟨?_, g2⟩
    simp only [execOp, e1, f1, Sem.run_bind, Sem.run_pure]
    simp only [Sem.run_bind] at g1
    rw [g1]
    rfl
  · rename_i op t x
    have hx : ev l x ≠ .bad := by intro h; rw [h] at hv; exact hv
    obtain ⟨e1, e2⟩ := ev_sound st x hx
    obtain ⟨g1, g2⟩ := un_sound (P := P) (ρ := ρ) (n := n) op hv w
    exact ⟨by simp only [execOp, e1, Sem.run_bind, g1, Result.andThen_ok, Sem.run_pure], g2⟩
  · rename_i s d x
    have hx : ev l x ≠ .bad := by intro h; rw [h] at hv; exact hv
    obtain ⟨e1, e2⟩ := ev_sound st x hx
    obtain ⟨g1, g2⟩ := conv_sound (ρ := ρ) (n := n) hti s d hv w
    exact ⟨by simp only [execOp, e1, Sem.run_bind, g1, Result.andThen_ok, Sem.run_pure], g2⟩
  · rename_i f xs ys
    have hv' : oks (evs l xs.toList) ∧ oks (evs l ys.toList) := by
      unfold fnV at hv; split at hv
      · exact hv
      · exact hv.elim
    obtain ⟨e1, e2⟩ := evs_arr st xs hv'.1
    obtain ⟨f1, f2⟩ := evs_arr st ys hv'.2
    obtain ⟨g1, g2⟩ := fn_sound (P := P) (ρ := ρ) (n := n) hv e2 f2 w
    exact ⟨by simp only [execOp, e1, f1, Sem.run_bind, g1, Result.andThen_ok, Sem.run_pure], g2⟩
  · rename_i s x f
    have hx : ev l x ≠ .bad := by intro h; rw [h] at hv; exact hv
    obtain ⟨e1, e2⟩ := ev_sound st x hx
    obtain ⟨g1, g2⟩ := fieldAt_sound (ρ := ρ) hti s f e2 hv w
    exact ⟨by simp only [execOp, e1, Sem.run_bind, g1, Result.andThen_ok, Sem.run_pure], g2⟩
  · rename_i s x f
    have hx : ev l x ≠ .bad := by intro h; rw [h] at hv; exact hv
    obtain ⟨e1, e2⟩ := ev_sound st x hx
    obtain ⟨g1, g2⟩ := field_sound (ρ := ρ) hti s f e2 hv w
    exact ⟨by simp only [execOp, e1, Sem.run_bind, g1, Result.andThen_ok, Sem.run_pure], g2⟩
  · rename_i t x i
    have hx : ev l x ≠ .bad := by intro h; rw [h] at hv; exact hv
    have hi : ev l i ≠ .bad := by intro h; rw [h] at hv; cases he : ev l x <;> rw [he] at hv <;> exact hv
    obtain ⟨e1, e2⟩ := ev_sound st x hx
    obtain ⟨f1, f2⟩ := ev_sound st i hi
    obtain ⟨g1, g2⟩ := indexAt_sound (ρ := ρ) hti t e2 hv w
    exact ⟨by simp only [execOp, e1, f1, Sem.run_bind, g1, Result.andThen_ok, Sem.run_pure], g2⟩
  · rename_i t x i
    have hx : ev l x ≠ .bad := by intro h; rw [h] at hv; exact hv
    have hi : ev l i ≠ .bad := by intro h; rw [h] at hv; cases he : ev l x <;> rw [he] at hv <;> exact hv
    obtain ⟨e1, e2⟩ := ev_sound st x hx
    obtain ⟨f1, f2⟩ := ev_sound st i hi
    obtain ⟨g1, g2⟩ := index_sound (ρ := ρ) hti t e2 hv w
    exact ⟨by simp only [execOp, e1, f1, Sem.run_bind, g1, Result.andThen_ok, Sem.run_pure], g2⟩
  · rename_i x i
    have hx : ev l x ≠ .bad := by intro h; rw [h] at hv; exact hv
    obtain ⟨e1, e2⟩ := ev_sound st x hx
    unfold extractV at *
    split at hv
    · rename_i k F he
      rw [he] at e1 e2
      simp only at hv
      refine ⟨?_, e2 i hv.1⟩
      simp only [execOp, e1, den, Instr.extract, arr_get _ _ _ hv.1, Sem.run_bind, Sem.run_pure, Result.andThen_ok]
    · exact hv.elim
  · rename_i t x lo hi
    have hx : ev l x ≠ .bad := by intro h; rw [h] at hv; exact hv
    have nb : ∀ (d : Nat) (o : Option Operand), bnd d (evo l o) ≠ none → ∀ x, o = some x → ev l x ≠ .bad := by
      intro d o h x ho he; subst ho; simp [evo, he, bnd] at h
    have cut : ∀ (i off sz cap d : Nat), (cutV i off sz cap (bnd 0 (evo l lo)) (bnd d (evo l hi))).vc → bnd 0 (evo l lo) ≠ none ∧ ∃ d, bnd d (evo l hi) ≠ none := by
      intro i off sz cap d h
      cases h1 : bnd 0 (evo l lo) with
      | none => rw [h1] at h; exact h.elim
      | some x => cases h2 : bnd d (evo l hi) with
        | none => rw [h1, h2] at h; exact h.elim
        | some y => exact ⟨by simp, d, by rw [h2]; simp⟩
    have hlh : bnd 0 (evo l lo) ≠ none ∧ ∃ d, bnd d (evo l hi) ≠ none := by
      unfold sliceV at hv
      split at hv
      · exact cut _ _ _ _ _ hv.2
      · exact cut _ _ _ _ _ hv.2
      · have h := hv.2
        cases h1 : bnd 0 (evo l lo) with
        | none => rw [h1] at h; exact h.elim
        | some x => cases h2 : bnd 0 (evo l hi) with
          | none => rw [h1, h2] at h; exact h.elim
          | some y => exact ⟨by simp, 0, by rw [h2]; simp⟩
      · rename_i s _ _
        cases h1 : bnd 0 (evo l lo) with
        | none => rw [h1] at hv; exact hv.elim
        | some x => cases h2 : bnd s.size (evo l hi) with
          | none => rw [h1, h2] at hv; exact hv.elim
          | some y => exact ⟨by simp, s.size, by rw [h2]; simp⟩
      · exact hv.elim
    obtain ⟨hlo, d, hhi⟩ := hlh
    obtain ⟨e1, e2⟩ := ev_sound st x hx
    obtain ⟨g1, g2⟩ := slice_sound (ρ := ρ) hti t e2 hv w
    refine ⟨?_, g2⟩
    have h1 := evo_sound st lo (nb 0 lo hlo)
    have h2 := evo_sound st hi (nb d hi hhi)
    simp only [execOp, e1, h1, h2, Option.map_none, Sem.run_bind, g1, Result.andThen_ok, Sem.run_pure]
  · rename_i b xs ats
    simp only at hv
    obtain ⟨h1, h2, h3⟩ := hv
    obtain ⟨e1, e2⟩ := evs_arr st xs h1
    refine ⟨?_, (builtin_sound (P := P) (ρ := ρ) (n := n) hti b ats ty #[] h2 h3 w).2⟩
    simp only [execOp, resolve, Sem.run_bind, Sem.run_pure, Result.andThen_ok, invoke, e1]
    exact (builtin_sound (P := P) (ρ := ρ) (n := n) hti b ats ty _ h2 h3 w).1
  · exact hv.elim

end
end Go.Proofs.YtfelopllfhcdpaaGreat.V
