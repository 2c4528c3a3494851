/- The walk's equations, for simp. -/
import Derived.Test.YtfelopllfhcdpaaGreatV5
set_option linter.all false
namespace Go.Proofs.YtfelopllfhcdpaaGreat.V

/-! ### Pure operations -/
section
variable (ti : Nat → TI) (l : List (Nat × SV)) (h : List (Nat × Seg))
@[go_sem ↓] theorem pv_move (x : Operand) : pv ti l h (.move x) = ⟨(ev l x).ok, ev l x⟩ := rfl
@[go_sem ↓] theorem pv_assign (x : Operand) : pv ti l h (.assign x) = ⟨(ev l x).ok, ev l x⟩ := rfl
@[go_sem ↓] theorem pv_pick (c x y : Operand) : pv ti l h (.pick c x y) = pickV (ev l c) (ev l x) (ev l y) := rfl
@[go_sem ↓] theorem pv_load (t : Nat) (x : Operand) : pv ti l h (.load t x) = loadV h (ti t) (ev l x) := rfl
@[go_sem ↓] theorem pv_nilCheck (x : Operand) : pv ti l h (.nilCheck x) = nilCheckV (ev l x) := rfl
@[go_sem ↓] theorem pv_binOp (o : BinOp) (t : Nat) (x y : Operand) (u : Nat) : pv ti l h (.binOp o t x y u) = binV2 ti t o (ev l x) (ev l y) := rfl
@[go_sem ↓] theorem pv_slice (t : Nat) (x : Operand) (lo hi : Option Operand) : pv ti l h (.slice t x lo hi none) = sliceV ti (ti t) (ev l x) (evo l lo) (evo l hi) := rfl
@[go_sem ↓] theorem pv_unOp (o : UnOp) (t : Nat) (x : Operand) : pv ti l h (.unOp o t x) = unV o (ev l x) := rfl
@[go_sem ↓] theorem pv_convert (s d : Nat) (x : Operand) : pv ti l h (.convert s d x) = convV (ti s) (ti d) (ev l x) := rfl
@[go_sem ↓] theorem pv_makeFunc (f : Fn) (xs ys : List Operand) : pv ti l h (.makeFunc f xs.toArray ys.toArray) = fnV f (evs l xs) (evs l ys) := rfl
@[go_sem ↓] theorem pv_fieldAddr (s : Nat) (x : Operand) (f : Nat) : pv ti l h (.fieldAddr s x f) = fieldAddrV ti (ti s) f (ev l x) := rfl
@[go_sem ↓] theorem pv_field (s : Nat) (x : Operand) (f : Nat) : pv ti l h (.field s x f) = fieldV ti (ti s) f (ev l x) := rfl
@[go_sem ↓] theorem pv_indexAddr (t : Nat) (x i : Operand) : pv ti l h (.indexAddr t x i) = indexAddrV ti (ti t) (ev l x) (ev l i) := rfl
@[go_sem ↓] theorem pv_index (t : Nat) (x i : Operand) : pv ti l h (.index t x i) = indexV ti (ti t) (ev l x) (ev l i) := rfl
@[go_sem ↓] theorem pv_extract (x : Operand) (i : Nat) : pv ti l h (.extract x i) = extractV i (ev l x) := rfl
@[go_sem ↓] theorem pv_builtin (b : Builtin) (xs : List Operand) (t : Nat) (r : List Nat) : pv ti l h (.call ⟨.builtin b, xs.toArray, (t :: r).toArray⟩) = ⟨oks (evs l xs) ∧ (builtinV (ti t) b (evs l xs)).vc, (builtinV (ti t) b (evs l xs)).v⟩ := by
  show (⟨_, _⟩ : PV) = _
  congr 1
  simp [hd0]
end

section
variable (P : Program) (ti : Nat → TI) (cx : Cx) (Q : List (Nat × SV) → List (Nat × Seg) → Nat → Prop)
variable (k : List It) (l : List (Nat × SV)) (h : List (Nat × Seg)) (n : Nat)

@[go_sem ↓] theorem T_nil : T P ti cx Q [] l h n = Q l h n := by rw [T]
@[go_sem ↓] theorem T_ret : T P ti cx Q (.code .ret :: k) l h n = Q l h n := by rw [T]
@[go_sem ↓] theorem T_skip : T P ti cx Q (.code .skip :: k) l h n = T P ti cx Q k l h n := by rw [T]
@[go_sem ↓] theorem T_seq (x y : Code) : T P ti cx Q (.code (.seq x y) :: k) l h n = T P ti cx Q (.code x :: .code y :: k) l h n := by rw [T]
@[go_sem ↓] theorem T_block (id : Nat) (x : Code) : T P ti cx Q (.code (.block id x) :: k) l h n = T P ti cx Q (.code x :: .inBlock id :: k) l h n := by rw [T]
/-- A test. -/
def condT (v : SV) (x y : Code) : Prop := condK v (T P ti cx Q (.code x :: k) l h n) (T P ti cx Q (.code y :: k) l h n)
@[go_sem ↓] theorem T_cond (c : Operand) (x y : Code) : T P ti cx Q (.code (.cond c x y) :: k) l h n = condT P ti cx Q k l h n (ev l c) x y := by rw [T]; rfl
@[congr] theorem condT_congr {v v' : SV} (x y : Code) (e : v = v') : condT P ti cx Q k l h n v x y = condT P ti cx Q k l h n v' x y := by rw [e]
@[go_sem high] theorem condT_true (x y : Code) : condT P ti cx Q k l h n (.bool true) x y = T P ti cx Q (.code x :: k) l h n := by simp [condT, condK]
@[go_sem high] theorem condT_false (x y : Code) : condT P ti cx Q k l h n (.bool false) x y = T P ti cx Q (.code y :: k) l h n := by simp [condT, condK]
@[go_sem] theorem condT_bool (b : Bool) (x y : Code) : condT P ti cx Q k l h n (.bool b) x y = ((b = true → T P ti cx Q (.code x :: k) l h n) ∧ (b = false → T P ti cx Q (.code y :: k) l h n)) := rfl
/-- What stands behind a block, found from within. -/
def exitT (id : Nat) : Prop := hasBl id k ∧ T P ti cx Q (popTo id k) l h n
@[go_sem ↓] theorem T_exit (id : Nat) : T P ti cx Q (.code (.exit id) :: k) l h n = exitT P ti cx Q k l h n id := by rw [T]; rfl
@[go_sem ↓ high] theorem exitT_hit (id : Nat) : exitT P ti cx Q (.inBlock id :: k) l h n id = T P ti cx Q k l h n := by simp [exitT, hasBl, popTo]
@[go_sem ↓] theorem exitT_miss (id j : Nat) (hj : (j == id) = false) : exitT P ti cx Q (.inBlock j :: k) l h n id = exitT P ti cx Q k l h n id := by simp at hj; simp [exitT, hasBl, popTo, hj]
@[go_sem ↓] theorem exitT_code (id : Nat) (c : Code) : exitT P ti cx Q (.code c :: k) l h n id = exitT P ti cx Q k l h n id := by simp [exitT, hasBl, popTo]
@[go_sem ↓] theorem exitT_inv (id : Nat) (R) : exitT P ti cx Q (.inv R :: k) l h n id = exitT P ti cx Q k l h n id := by simp [exitT, hasBl, popTo]
@[go_sem ↓] theorem exitT_ops (id : Nat) (q a r) : exitT P ti cx Q (.ops q a r :: k) l h n id = exitT P ti cx Q k l h n id := by simp [exitT, hasBl, popTo]
@[go_sem ↓] theorem T_region (id : Nat) (ops : List Oper) : T P ti cx Q (.code (.region id ops.toArray false) :: k) l h n = T P ti cx Q (.ops false ops ops :: k) l h n := by rw [T]
theorem T_reg (id : Nat) (ops : Array Oper) : T P ti cx Q (.code (.region id ops true) :: k) l h n = RegSem P cx id ops l h n (T P ti cx Q k) := by rw [T]
@[go_sem ↓] theorem T_inBlock (id : Nat) : T P ti cx Q (.inBlock id :: k) l h n = T P ti cx Q k l h n := by rw [T]
@[go_sem ↓] theorem T_inv (R : List (Nat × SV) → List (Nat × Seg) → Nat → Prop) : T P ti cx Q (.inv R :: k) l h n = R l h n := by rw [T]
@[go_sem ↓] theorem T_ops_nil (q : Bool) (all : List Oper) : T P ti cx Q (.ops q all [] :: k) l h n = T P ti cx Q k l h n := by rw [T]

/-- A loop: a family of states, a measure. -/
theorem T_loop (x : Code) {ι : Type} (I : ι → List (Nat × SV) × List (Nat × Seg) × Nat) (μ : ι → Nat) (x0 : ι) (h0 : Imp cx l h n (I x0).1 (I x0).2.1 (I x0).2.2)
    (hr : ∀ i, T P ti cx Q (.code x :: .inv (fun l' h' n' => ∃ j, μ j < μ i ∧ Imp cx l' h' n' (I j).1 (I j).2.1 (I j).2.2) :: k) (I i).1 (I i).2.1 (I i).2.2) :
    T P ti cx Q (.code (.loop x) :: k) l h n := by rw [T]; exact ⟨ι, I, μ, x0, h0, hr⟩

variable (q : Bool) (all rest : List Oper) (d : Option Nat) (ty : Nat) (pos : String) (af : Array Edge)

/-- The operation is passed over. -/
def Skp : Prop := dok cx.nt d ∧ T P ti cx Q (.ops q all rest :: k) (put l d (.raw undef)) h n
@[go_sem ↓] theorem Skp_eq : Skp P ti cx Q k l h n q all rest d = (dok cx.nt d ∧ T P ti cx Q (.ops q all rest :: k) (put l d (.raw undef)) h n) := rfl

/-- The operation o under its guard. -/
def guardU (o : Oper) (t : Nat) (v : SV) (want : Bool) : Prop :=
  guardK v want (T P ti cx Q (.ops q all (⟨o.dst, o.op, o.type, o.pos, o.after, none⟩ :: rest) :: k) ((t, .bool want) :: l) h n) (Skp P ti cx Q k ((t, .bool (!want)) :: l) h n q all rest o.dst) (Skp P ti cx Q k l h n q all rest o.dst)
def guardT (o : Oper) (s : Option Nat) (want : Bool) : Prop :=
  match s with
  | some t => guardU P ti cx Q k l h n q all rest o t (ev l (.tmp t)) want
  | none => False
@[congr] theorem guardT_congr (o : Oper) (want : Bool) {s s' : Option Nat} (e : s = s') : guardT P ti cx Q k l h n q all rest o s want = guardT P ti cx Q k l h n q all rest o s' want := by rw [e]
@[congr] theorem guardU_congr (o : Oper) (t : Nat) (want : Bool) {v v' : SV} (e : v = v') : guardU P ti cx Q k l h n q all rest o t v want = guardU P ti cx Q k l h n q all rest o t v' want := by rw [e]
@[go_sem] theorem guardT_some (o : Oper) (t : Nat) (want : Bool) : guardT P ti cx Q k l h n q all rest o (some t) want = guardU P ti cx Q k l h n q all rest o t (ev l (.tmp t)) want := rfl
@[go_sem ↓] theorem gslot_zero (o : Oper) (r : List Oper) : gslot (o :: r) 0 = o.dst := by simp [gslot]
@[go_sem ↓] theorem gslot_succ (o : Oper) (r : List Oper) (j : Nat) : gslot (o :: r) (j + 1) = gslot r j := by simp [gslot]
section
variable (t : Nat) (op : Op) (g : Option (Nat × Bool))
@[go_sem high] theorem guardU_tt : guardU P ti cx Q k l h n q all rest ⟨d, op, ty, pos, af, g⟩ t (.bool true) true = T P ti cx Q (.ops q all (⟨d, op, ty, pos, af, none⟩ :: rest) :: k) ((t, .bool true) :: l) h n := by simp [guardU, guardK]
@[go_sem high] theorem guardU_tf : guardU P ti cx Q k l h n q all rest ⟨d, op, ty, pos, af, g⟩ t (.bool true) false = Skp P ti cx Q k ((t, .bool true) :: l) h n q all rest d := by simp [guardU, guardK]
@[go_sem high] theorem guardU_ft : guardU P ti cx Q k l h n q all rest ⟨d, op, ty, pos, af, g⟩ t (.bool false) true = Skp P ti cx Q k ((t, .bool false) :: l) h n q all rest d := by simp [guardU, guardK]
@[go_sem high] theorem guardU_ff : guardU P ti cx Q k l h n q all rest ⟨d, op, ty, pos, af, g⟩ t (.bool false) false = T P ti cx Q (.ops q all (⟨d, op, ty, pos, af, none⟩ :: rest) :: k) ((t, .bool false) :: l) h n := by simp [guardU, guardK]
@[go_sem] theorem guardU_bt (b : Bool) : guardU P ti cx Q k l h n q all rest ⟨d, op, ty, pos, af, g⟩ t (.bool b) true = ((b = true → T P ti cx Q (.ops q all (⟨d, op, ty, pos, af, none⟩ :: rest) :: k) ((t, .bool true) :: l) h n) ∧ (b = false → Skp P ti cx Q k ((t, .bool false) :: l) h n q all rest d)) := rfl
@[go_sem] theorem guardU_bf (b : Bool) : guardU P ti cx Q k l h n q all rest ⟨d, op, ty, pos, af, g⟩ t (.bool b) false = ((b = false → T P ti cx Q (.ops q all (⟨d, op, ty, pos, af, none⟩ :: rest) :: k) ((t, .bool false) :: l) h n) ∧ (b = true → Skp P ti cx Q k ((t, .bool true) :: l) h n q all rest d)) := rfl
@[go_sem] theorem guardU_undef (w : Bool) : guardU P ti cx Q k l h n q all rest ⟨d, op, ty, pos, af, g⟩ t (.raw undef) w = Skp P ti cx Q k l h n q all rest d := by simp [guardU, guardK]
end
@[go_sem ↓] theorem T_guardT (op : Op) (j : Nat) (want : Bool) : T P ti cx Q (.ops q all (⟨d, op, ty, pos, af, some (j, want)⟩ :: rest) :: k) l h n =
    guardT P ti cx Q k l h n q all rest ⟨d, op, ty, pos, af, some (j, want)⟩ (gslot all j) want := by
  rw [T]
  simp only [guardT, guardU, Skp]
  cases hs : gslot all j with
  | none => rfl
  | some t =>
    simp only []
    rw [T]
    rfl

/-- A value, put; the rest. -/
def bindT (x : PV) : Prop := x.vc ∧ T P ti cx Q (.ops q all rest :: k) (put l d x.v) h n
@[congr] theorem bindT_congr {x x' : PV} (e : x = x') : bindT P ti cx Q k l h n q all rest d x = bindT P ti cx Q k l h n q all rest d x' := by rw [e]
@[go_sem] theorem bindT_mk (vc : Prop) (v : SV) : bindT P ti cx Q k l h n q all rest d ⟨vc, v⟩ = (vc ∧ T P ti cx Q (.ops q all rest :: k) (put l d v) h n) := rfl
/-- Another operation, by its meaning. -/
def semT (o : Oper) : Prop := q = false ∧ OpSem P cx o l h n fun l' h' n' => T P ti cx Q (.ops q all rest :: k) l' h' n'
def cvT (s t : TK) (x : PV) (o : Oper) : Prop := cvK s t (bindT P ti cx Q k l h n q all rest d x) (semT P ti cx Q k l h n q all rest o)
@[congr] theorem cvT_congr (x : PV) (o : Oper) {s s' t t' : TK} (e : s = s') (e' : t = t') : cvT P ti cx Q k l h n q all rest d s t x o = cvT P ti cx Q k l h n q all rest d s' t' x o := by rw [e, e']
@[go_sem] theorem cvT_istr (i : IntKind) (x : PV) (o : Oper) : cvT P ti cx Q k l h n q all rest d (.int i) .str x o = semT P ti cx Q k l h n q all rest o := rfl
@[go_sem] theorem cvT_bstr (e : Nat) (x : PV) (o : Oper) : cvT P ti cx Q k l h n q all rest d (.sl e) .str x o = semT P ti cx Q k l h n q all rest o := rfl
@[go_sem] theorem cvT_int (i j : IntKind) (x : PV) (o : Oper) : cvT P ti cx Q k l h n q all rest d (.int i) (.int j) x o = bindT P ti cx Q k l h n q all rest d x := rfl

@[go_sem ↓] theorem T_binOp (o : BinOp) (t : Nat) (x y : Operand) (u : Nat) : T P ti cx Q (.ops q all (⟨d, .binOp o t x y u, ty, pos, af, none⟩ :: rest) :: k) l h n =
    (dok cx.nt d ∧ bindT P ti cx Q k l h n q all rest d (pv ti l h (.binOp o t x y u))) := by rw [T]; rfl
@[go_sem ↓] theorem T_slice (t : Nat) (x : Operand) (lo hi : Option Operand) : T P ti cx Q (.ops q all (⟨d, .slice t x lo hi none, ty, pos, af, none⟩ :: rest) :: k) l h n =
    (dok cx.nt d ∧ bindT P ti cx Q k l h n q all rest d (pv ti l h (.slice t x lo hi none))) := by rw [T]; rfl
@[go_sem ↓] theorem T_convert (s t : Nat) (x : Operand) : T P ti cx Q (.ops q all (⟨d, .convert s t x, ty, pos, af, none⟩ :: rest) :: k) l h n =
    (dok cx.nt d ∧ cvT P ti cx Q k l h n q all rest d (ti s).k (ti t).k (pv ti l h (.convert s t x)) ⟨d, .convert s t x, ty, pos, af, none⟩) := by rw [T]; rfl

/-- A new variable. -/
def newT (vc : Prop) (s : Seg) : Prop := vc ∧ T P ti cx Q (.ops q all rest :: k) (put l d (.ptr n 0)) ((n, s) :: h) (n + 1)
@[congr] theorem newT_congr {vc vc' : Prop} {s s' : Seg} (e : vc = vc') (e' : s = s') : newT P ti cx Q k l h n q all rest d vc s = newT P ti cx Q k l h n q all rest d vc' s' := by rw [e, e']
@[go_sem] theorem newT_eq (vc : Prop) (s : Seg) : newT P ti cx Q k l h n q all rest d vc s = (vc ∧ T P ti cx Q (.ops q all rest :: k) (put l d (.ptr n 0)) ((n, s) :: h) (n + 1)) := rfl
@[go_sem ↓] theorem T_alloc (t : Nat) : T P ti cx Q (.ops q all (⟨d, .alloc t, ty, pos, af, none⟩ :: rest) :: k) l h n =
    (dok cx.nt d ∧ q = false ∧ newT P ti cx Q k l h n q all rest d (match (ti t).k with | .oth => False | _ => True) ⟨(ti t).sz, (ti t).z, true, ownA t (ti t)⟩) := by rw [T]; rfl
@[go_sem ↓] theorem T_box (t : Nat) (x : Operand) : T P ti cx Q (.ops q all (⟨d, .box t x, ty, pos, af, none⟩ :: rest) :: k) l h n =
    (dok cx.nt d ∧ q = false ∧ newT P ti cx Q k l h n q all rest d (ev l x).okc ⟨(ev l x).size, cellsV (ev l x), true, none⟩) := by rw [T]; rfl

def letT (h : List (Nat × Seg)) : Prop := T P ti cx Q (.ops q all rest :: k) l h n
@[go_sem] theorem letT_eq : letT P ti cx Q k l n q all rest h = T P ti cx Q (.ops q all rest :: k) l h n := rfl
def setT (i : Nat) (s : Seg) : Prop := letT P ti cx Q k l n q all rest (hset h i s)
@[congr] theorem setT_congr (i : Nat) {s s' : Seg} (e : s = s') : setT P ti cx Q k l h n q all rest i s = setT P ti cx Q k l h n q all rest i s' := by rw [e]
@[go_sem] theorem setT_eq (i : Nat) (s : Seg) : setT P ti cx Q k l h n q all rest i s = letT P ti cx Q k l n q all rest (hset h i s) := rfl
/-! Rows. -/
def rowT (vc : Prop) (v : SV) (s : Seg) (h' : List (Nat × Seg)) : Prop := vc ∧ T P ti cx Q (.ops q all rest :: k) (put l d v) ((n, s) :: h') (n + 1)
@[congr] theorem rowT_congr {vc vc' : Prop} {v v' : SV} {s s' : Seg} {h1 h1' : List (Nat × Seg)} (e : vc = vc') (e1 : v = v') (e' : s = s') (e2 : h1 = h1') : rowT P ti cx Q k l n q all rest d vc v s h1 = rowT P ti cx Q k l n q all rest d vc' v' s' h1' := by rw [e, e1, e', e2]
@[go_sem] theorem rowT_eq (vc : Prop) (v : SV) (s : Seg) (h' : List (Nat × Seg)) : rowT P ti cx Q k l n q all rest d vc v s h' = (vc ∧ T P ti cx Q (.ops q all rest :: k) (put l d v) ((n, s) :: h') (n + 1)) := rfl
@[congr] theorem hdel_congr (h : List (Nat × Seg)) (i : Nat) : hdel h i = hdel h i := rfl
def bsT (t : TK) (len : Nat) (ps : List (Nat × SV)) : Prop := bsK ti t len ps h n fun v h' n' => T P ti cx Q (.ops q all rest :: k) (put l d v) h' n'
@[congr] theorem bsT_congr (len : Nat) {t t' : TK} {ps ps' : List (Nat × SV)} (e : t = t') (e' : ps = ps') : bsT P ti cx Q k l h n q all rest d t len ps = bsT P ti cx Q k l h n q all rest d t' len ps' := by rw [e, e']
@[go_sem] theorem bsT_sl (e len : Nat) (ps : List (Nat × SV)) : bsT P ti cx Q k l h n q all rest d (.sl e) len ps =
    rowT P ti cx Q k l n q all rest d ((ti e).k.kn ∧ 0 < (ti e).sz ∧ fillP (plOf ti (.sl e)) (len * (ti e).sz) ps ∧ len * (ti e).sz ≤ 16777216) (.sl n 0 len len) ⟨len * (ti e).sz, fillC (plOf ti (.sl e)) ps (zrow (ti e)), true, some (e, len * (ti e).sz)⟩ h := rfl
@[go_sem ↓] theorem T_buildSlice (t len : Nat) (parts : List (Nat × Operand)) : T P ti cx Q (.ops q all (⟨d, .buildSlice t len parts.toArray, ty, pos, af, none⟩ :: rest) :: k) l h n =
    (dok cx.nt d ∧ q = false ∧ bsT P ti cx Q k l h n q all rest d (ti t).k len (evp l parts)) := by rw [T]; rfl
def mkT (t : TK) (x y : SV) : Prop := mkK ti t x y h n fun v h' n' => T P ti cx Q (.ops q all rest :: k) (put l d v) h' n'
@[congr] theorem mkT_congr {t t' : TK} {x x' y y' : SV} (e : t = t') (e' : x = x') (e'' : y = y') : mkT P ti cx Q k l h n q all rest d t x y = mkT P ti cx Q k l h n q all rest d t' x' y' := by rw [e, e', e'']
@[go_sem] theorem mkT_sl (e : Nat) (i j : IntKind) (A B : Int) : mkT P ti cx Q k l h n q all rest d (.sl e) (.int i A) (.int j B) =
    rowT P ti cx Q k l n q all rest d ((ti e).k.kn ∧ 0 < (ti e).sz ∧ 0 ≤ A ∧ A ≤ B ∧ B ≤ 1000000000 ∧ (ti e).by_ ≤ 20000) (.sl n 0 A.toNat B.toNat) ⟨B.toNat * (ti e).sz, zrow (ti e), true, some (e, B.toNat * (ti e).sz)⟩ h := rfl
@[go_sem ↓] theorem T_makeSlice (t : Nat) (x y : Operand) : T P ti cx Q (.ops q all (⟨d, .makeSlice t x y, ty, pos, af, none⟩ :: rest) :: k) l h n =
    (dok cx.nt d ∧ q = false ∧ mkT P ti cx Q k l h n q all rest d (ti t).k (ev l x) (ev l y)) := by rw [T]; rfl
def growT (vc : Prop) (e m : Nat) (sz : Nat) (s : Nat → SV) (h' : List (Nat × Seg)) : Prop :=
  vc ∧ ∀ cap, m ≤ cap → cap ≤ maxLen → T P ti cx Q (.ops q all rest :: k) (put l d (.sl n 0 m cap)) ((n, ⟨m * sz, s, true, some (e, cap * sz)⟩) :: h') (n + 1)
@[congr] theorem growT_congr (e : Nat) {vc vc' : Prop} {m m' sz sz' : Nat} {s s' : Nat → SV} {h1 h1' : List (Nat × Seg)} (a : vc = vc') (b : m = m') (c : sz = sz') (f : s = s') (g : h1 = h1') :
    growT P ti cx Q k l n q all rest d vc e m sz s h1 = growT P ti cx Q k l n q all rest d vc' e m' sz' s' h1' := by rw [a, b, c, f, g]
@[go_sem] theorem growT_eq (vc : Prop) (e m sz : Nat) (s : Nat → SV) (h' : List (Nat × Seg)) : growT P ti cx Q k l n q all rest d vc e m sz s h' =
    (vc ∧ ∀ cap, m ≤ cap → cap ≤ maxLen → T P ti cx Q (.ops q all rest :: k) (put l d (.sl n 0 m cap)) ((n, ⟨m * sz, s, true, some (e, cap * sz)⟩) :: h') (n + 1)) := rfl
def nilT (e : Nat) (s : Option Seg) (o m : Nat) : Prop := appN ti e s o m h n fun v h' n' => T P ti cx Q (.ops q all rest :: k) (put l d v) h' n'
def ownT (e i len cap : Nat) (s s' : Option Seg) (o m : Nat) : Prop := appS ti e i len cap s s' o m h n fun v h' n' => T P ti cx Q (.ops q all rest :: k) (put l d v) h' n'
@[congr] theorem nilT_congr (e o m : Nat) {s s' : Option Seg} (a : s = s') : nilT P ti cx Q k l h n q all rest d e s o m = nilT P ti cx Q k l h n q all rest d e s' o m := by rw [a]
@[congr] theorem ownT_congr (e i len cap o m : Nat) {s s' t t' : Option Seg} (a : s = s') (b : t = t') : ownT P ti cx Q k l h n q all rest d e i len cap s t o m = ownT P ti cx Q k l h n q all rest d e i len cap s' t' o m := by rw [a, b]
@[go_sem] theorem nilT_some (e o m : Nat) (s : Seg) : nilT P ti cx Q k l h n q all rest d e (some s) o m =
    growT P ti cx Q k l n q all rest d (okSrc (ti e) s o m ∧ 0 < m ∧ m ≤ 1000000000 ∧ (ti e).by_ ≤ 20000) e m (ti e).sz (news s.c o) h := rfl
@[go_sem] theorem ownT_some (e i len cap o m : Nat) (s s' : Seg) : ownT P ti cx Q k l h n q all rest d e i len cap (some s) (some s') o m =
    growT P ti cx Q k l n q all rest d (okSrc (ti e) s' o m ∧ s.own = some (e, cap * (ti e).sz) ∧ len ≤ cap ∧ cap ≤ maxLen ∧ len * (ti e).sz ≤ s.n ∧ len + m ≤ 1000000000 ∧ (ti e).by_ ≤ 20000) e (len + m) (ti e).sz
      (both (len * (ti e).sz) s.c (news s'.c o)) (hdel h i) := rfl
def appT (t : TK) (x y : SV) : Prop := appK ti t x y h n fun v h' n' => T P ti cx Q (.ops q all rest :: k) (put l d v) h' n'
@[congr] theorem appT_congr {t t' : TK} {x x' y y' : SV} (e : t = t') (e' : x = x') (e'' : y = y') : appT P ti cx Q k l h n q all rest d t x y = appT P ti cx Q k l h n q all rest d t' x' y' := by rw [e, e', e'']
@[go_sem] theorem appT_nil (e j o m c : Nat) : appT P ti cx Q k l h n q all rest d (.sl e) .nils (.sl j o m c) = nilT P ti cx Q k l h n q all rest d e (hget h j) o m := rfl
@[go_sem] theorem appT_sl1 (e i o' len cap j o m c : Nat) (hji : (j == i) = false) : appT P ti cx Q k l h n q all rest d (.sl e) (.sl i o' len cap) (.sl j o m c) = (o' = 0 ∧ ownT P ti cx Q k l h n q all rest d e i len cap (hget h i) (hget h j) o m) := by
  unfold appT appK; simp only [if_neg (ne_of_beq_false hji)]; rfl
@[go_sem] theorem appT_sl2 (e i o' len cap j o m c : Nat) (hij : (i == j) = false) : appT P ti cx Q k l h n q all rest d (.sl e) (.sl i o' len cap) (.sl j o m c) = (o' = 0 ∧ ownT P ti cx Q k l h n q all rest d e i len cap (hget h i) (hget h j) o m) := by
  unfold appT appK; simp only [if_neg (Ne.symm (ne_of_beq_false hij))]; rfl
/-- The very row. -/
def sameT (e i len cap o m : Nat) : Prop := appF ti e i len cap (hget h i) o m h n fun v h' n' => T P ti cx Q (.ops q all rest :: k) (put l d v) h' n'
@[go_sem high] theorem appT_sl0 (e i o' len cap o m c : Nat) : appT P ti cx Q k l h n q all rest d (.sl e) (.sl i o' len cap) (.sl i o m c) = (o' = 0 ∧ sameT P ti cx Q k l h n q all rest d e i len cap o m) := by
  unfold appT appK sameT; simp only [if_true]
/-- The very row, its segment told. -/
def sameS (e i len cap o m : Nat) (s : Option Seg) : Prop := appF ti e i len cap s o m h n fun v h' n' => T P ti cx Q (.ops q all rest :: k) (put l d v) h' n'
@[congr] theorem sameS_congr (e i len cap o m : Nat) {s s' : Option Seg} (a : s = s') : sameS P ti cx Q k l h n q all rest d e i len cap o m s = sameS P ti cx Q k l h n q all rest d e i len cap o m s' := by rw [a]
@[go_sem] theorem sameT_eq (e i len cap o m : Nat) : sameT P ti cx Q k l h n q all rest d e i len cap o m = sameS P ti cx Q k l h n q all rest d e i len cap o m (hget h i) := rfl
@[go_sem] theorem sameS_some (e i len cap o m : Nat) (s : Seg) : sameS P ti cx Q k l h n q all rest d e i len cap o m (some s) =
    ((okSrc (ti e) s o m ∧ s.own = some (e, cap * (ti e).sz) ∧ len + m ≤ cap ∧ cap ≤ maxLen ∧ len * (ti e).sz ≤ s.n ∧ len + m ≤ 1000000000 ∧ (ti e).by_ ≤ 20000) ∧
      ∀ t : Nat → Value, T P ti cx Q (.ops q all rest :: k) (put l d (.sl n 0 (len + m) cap)) ((n, ⟨cap * (ti e).sz, fun j => if j < (len + m) * (ti e).sz then both (len * (ti e).sz) s.c (news s.c o) j else .raw (t j), true, some (e, cap * (ti e).sz)⟩) :: hdel h i) (n + 1)) := rfl
@[go_sem ↓] theorem T_append (x y : Operand) (t : Nat) : T P ti cx Q (.ops q all (⟨d, .call ⟨.builtin .append, #[x, y], #[t, t]⟩, ty, pos, af, none⟩ :: rest) :: k) l h n =
    (dok cx.nt d ∧ q = false ∧ (ev l x).ok ∧ appT P ti cx Q k l h n q all rest d (ti t).k (ev l x) (ev l y)) := by
  rw [T]
  simp only [isPv, memK, Bool.false_eq_true, if_false, ne_eq, not_true_eq_false, false_and, or_false, true_and]
  rfl
@[go_sem ↓] theorem T_appendX (x y : Operand) (t t' : Nat) (ht : (t == t') = false) : T P ti cx Q (.ops q all (⟨d, .call ⟨.builtin .append, #[x, y], #[t, t']⟩, ty, pos, af, none⟩ :: rest) :: k) l h n =
    (dok cx.nt d ∧ semT P ti cx Q k l h n q all rest ⟨d, .call ⟨.builtin .append, #[x, y], #[t, t']⟩, ty, pos, af, none⟩) := by
  rw [T]
  simp only [isPv, memK, Bool.false_eq_true, if_false, ne_of_beq_false ht, ne_eq, not_false_eq_true, false_and, false_or, true_and]
  rfl
def clrT (t : TK) (x : SV) : Prop := clK ti t x h n fun h' => T P ti cx Q (.ops q all rest :: k) l h' n
@[congr] theorem clrT_congr {t t' : TK} {x x' : SV} (e : t = t') (e' : x = x') : clrT P ti cx Q k l h n q all rest t x = clrT P ti cx Q k l h n q all rest t' x' := by rw [e, e']
def clrS (s : Option Seg) (e i o len : Nat) : Prop :=
  match s with
  | some s => ((ti e).k.kn ∧ 0 < (ti e).sz ∧ o + len * (ti e).sz ≤ s.n ∧ s.rw = true) ∧ T P ti cx Q (.ops q all rest :: k) l (hset h i { s with c := fun j => if o ≤ j ∧ j < o + len * (ti e).sz then zrow (ti e) (j - o) else s.c j }) n
  | none => False
@[congr] theorem clrS_congr (e i o len : Nat) {s s' : Option Seg} (a : s = s') : clrS P ti cx Q k l h n q all rest s e i o len = clrS P ti cx Q k l h n q all rest s' e i o len := by rw [a]
@[go_sem] theorem clrT_sl (e i o len cap : Nat) : clrT P ti cx Q k l h n q all rest (.sl e) (.sl i o len cap) = clrS P ti cx Q k l h n q all rest (hget h i) e i o len := by
  unfold clrT clK clrS; rfl
@[go_sem] theorem clrT_nil (e : Nat) : clrT P ti cx Q k l h n q all rest (.sl e) .nils = T P ti cx Q (.ops q all rest :: k) l h n := rfl
/-- What a clearing writes. -/
def clrC (o m : Nat) (z c : Nat → SV) : Nat → SV := fun j => if o ≤ j ∧ j < o + m then z (j - o) else c j
@[go_sem] theorem clrS_some (s : Seg) (e i o len : Nat) : clrS P ti cx Q k l h n q all rest (some s) e i o len =
    (((ti e).k.kn ∧ 0 < (ti e).sz ∧ o + len * (ti e).sz ≤ s.n ∧ s.rw = true) ∧ setT P ti cx Q k l h n q all rest i ⟨s.n, clrC o (len * (ti e).sz) (zrow (ti e)) s.c, s.rw, s.own⟩) := rfl
@[go_sem ↓] theorem T_clear (x : Operand) (t : Nat) : T P ti cx Q (.ops q all (⟨none, .call ⟨.builtin .clear, #[x], #[t]⟩, ty, pos, af, none⟩ :: rest) :: k) l h n =
    (q = false ∧ clrT P ti cx Q k l h n q all rest (ti t).k (ev l x)) := by
  rw [T]
  simp only [dok, true_and, isPv, memK, clrT, Bool.false_eq_true, if_false]

/-- A store. -/
def storeT (s : Option Seg) (i o : Nat) (v : SV) (sz : Nat) : Prop :=
  match s with
  | some s => (v.okc ∧ v.size = sz ∧ o + sz ≤ s.n ∧ s.rw = true) ∧ setT P ti cx Q k l h n q all rest i ⟨s.n, wrN s.n s.c o v, s.rw, s.own⟩
  | none => False
@[congr] theorem storeT_congr (i o : Nat) (v : SV) (sz : Nat) {s s' : Option Seg} (e : s = s') : storeT P ti cx Q k l h n q all rest s i o v sz = storeT P ti cx Q k l h n q all rest s' i o v sz := by rw [e]
@[go_sem] theorem storeT_some (s : Seg) (i o : Nat) (v : SV) (sz : Nat) : storeT P ti cx Q k l h n q all rest (some s) i o v sz =
    ((v.okc ∧ v.size = sz ∧ o + sz ≤ s.n ∧ s.rw = true) ∧ setT P ti cx Q k l h n q all rest i ⟨s.n, wrN s.n s.c o v, s.rw, s.own⟩) := rfl
def storeP (x v : SV) (sz : Nat) : Prop :=
  match x with
  | .ptr i o => storeT P ti cx Q k l h n q all rest (hget h i) i o v sz
  | _ => False
@[congr] theorem storeP_congr {x x' v v' : SV} {sz sz' : Nat} (e : x = x') (e' : v = v') (e'' : sz = sz') : storeP P ti cx Q k l h n q all rest x v sz = storeP P ti cx Q k l h n q all rest x' v' sz' := by rw [e, e', e'']
@[go_sem] theorem storeP_ptr (i o : Nat) (v : SV) (sz : Nat) : storeP P ti cx Q k l h n q all rest (.ptr i o) v sz = storeT P ti cx Q k l h n q all rest (hget h i) i o v sz := rfl
/-- All cells are single ones. -/
def ones (v : SV) : Prop := ∀ j, j < v.size → (cellsV v j).one
@[go_sem] theorem ones_int (k : IntKind) (n : Int) : ones (.int k n) = True := by simp [ones, SV.size, cellsV, cl, SV.one]
@[go_sem] theorem ones_bool (b : Bool) : ones (.bool b) = True := by simp [ones, SV.size, cellsV, cl, SV.one]
@[go_sem] theorem ones_str (b : ByteArray) : ones (.str b) = True := by simp [ones, SV.size, cellsV, cl, SV.one]
@[go_sem] theorem ones_ptr (i o : Nat) : ones (.ptr i o) = True := by simp [ones, SV.size, cellsV, cl, SV.one]
@[go_sem] theorem ones_sl (i o a b : Nat) : ones (.sl i o a b) = True := by simp [ones, SV.size, cellsV, cl, SV.one]
@[go_sem] theorem ones_nils : ones .nils = True := by simp [ones, SV.size, cellsV, cl, SV.one]
@[go_sem] theorem ones_fn (f m n : Nat) (G F : Nat → SV) : ones (.fn f m G n F) = True := by simp [ones, SV.size, cellsV, cl, SV.one]
@[go_sem] theorem ones_rawp (a : Option Addr) : ones (.raw (.pointer a)) = True := by simp [ones, SV.size, cellsV, cl, SV.one, Value.oneCell']
theorem ones_agg (m : Nat) (F : Nat → SV) : ones (.agg m F) = ∀ j, j < m → (F j).one := rfl
attribute [go_sem] SV.one
@[go_sem] theorem ones_agg1 (a : SV) : ones (.agg 1 (cl [a])) = a.one := by
  apply propext; rw [ones_agg]; exact ⟨fun h => h 0 (by omega), fun h j hj => by have e : j = 0 := (by omega); subst e; exact h⟩
@[go_sem] theorem ones_agg2 (a b : SV) : ones (.agg 2 (cl [a, b])) = (a.one ∧ b.one) := by
  apply propext; rw [ones_agg]
  refine ⟨fun h => ⟨h 0 (by omega), h 1 (by omega)⟩, fun h j hj => ?_⟩
  rcases (by omega : j = 0 ∨ j = 1) with rfl | rfl
  · exact h.1
  · exact h.2
@[go_sem] theorem ones_agg3 (a b c : SV) : ones (.agg 3 (cl [a, b, c])) = (a.one ∧ b.one ∧ c.one) := by
  apply propext; rw [ones_agg]
  refine ⟨fun h => ⟨h 0 (by omega), h 1 (by omega), h 2 (by omega)⟩, fun h j hj => ?_⟩
  rcases (by omega : j = 0 ∨ j = 1 ∨ j = 2) with rfl | rfl | rfl
  · exact h.1
  · exact h.2.1
  · exact h.2.2
@[go_sem ↓] theorem T_store (t : Nat) (x v : Operand) : T P ti cx Q (.ops q all (⟨none, .store t x v, ty, pos, af, none⟩ :: rest) :: k) l h n =
    (q = false ∧ (match (ti t).k with | .oth => False | _ => True) ∧ ones (ev l v) ∧ storeP P ti cx Q k l h n q all rest (ev l x) (ev l v) (ti t).sz) := by
  rw [T]
  apply propext
  simp only [dok, true_and]
  constructor
  · rintro ⟨a, b, c, e⟩
    refine ⟨a, b, c, ?_⟩
    unfold storeK at e
    unfold storeP
    split at e
    · rename_i i o hx
      rw [hx]
      simp only []
      split at e
      · rename_i s hs; rw [hs]; exact ⟨e.1, e.2⟩
      · exact e.elim
    · exact e.elim
  · rintro ⟨a, b, c, e⟩
    refine ⟨a, b, c, ?_⟩
    unfold storeK
    unfold storeP at e
    split at e
    · rename_i i o hx
      rw [hx]
      simp only []
      unfold storeT at e
      split at e
      · rename_i s hs; rw [hs]; exact ⟨e.1, e.2⟩
      · exact e.elim
    · exact e.elim

@[go_sem ↓] theorem T_build (t : Nat) (parts : List (Nat × Operand)) : T P ti cx Q (.ops q all (⟨d, .build t parts.toArray, ty, pos, af, none⟩ :: rest) :: k) l h n =
    (dok cx.nt d ∧ bindT P ti cx Q k l h n q all rest d ⟨knK ti (ti t).k ∧ fillP (plOf ti (ti t).k) (ti t).sz (evp l parts), mkAgg (ti t).sz (fillC (plOf ti (ti t).k) (evp l parts) (ti t).z)⟩) := by rw [T]; rfl

/-- A call of a Go function. -/
def callA (f : Nat) (xs : List SV) : Prop :=
  if q then ∃ r, CallQ P cx f xs h n r ∧ T P ti cx Q (.ops q all rest :: k) (put l d r) h n else CallE P cx f xs h n fun r h' n' => T P ti cx Q (.ops q all rest :: k) (put l d r) h' n'
@[congr] theorem callA_congr (f : Nat) {xs xs' : List SV} (e : xs = xs') : callA P ti cx Q k l h n q all rest d f xs = callA P ti cx Q k l h n q all rest d f xs' := by rw [e]
def callT (f : SV) (xs : List SV) : Prop :=
  match callee f with
  | some (f, g) => callA P ti cx Q k l h n q all rest d f (g xs)
  | none => False
@[congr] theorem callT_congr {f f' : SV} {xs xs' : List SV} (e : f = f') (e' : xs = xs') : callT P ti cx Q k l h n q all rest d f xs = callT P ti cx Q k l h n q all rest d f' xs' := by rw [e, e']
@[go_sem] theorem callT_fn (f a b : Nat) (G F : Nat → SV) (xs : List SV) : callT P ti cx Q k l h n q all rest d (.fn f a G b F) xs = callA P ti cx Q k l h n q all rest d f (lst a G ++ xs ++ lst b F) := rfl
@[go_sem ↓] theorem T_call (f : Operand) (xs : List Operand) (ats : Array Nat) : T P ti cx Q (.ops q all (⟨d, .call ⟨.value f, xs.toArray, ats⟩, ty, pos, af, none⟩ :: rest) :: k) l h n =
    (dok cx.nt d ∧ callT P ti cx Q k l h n q all rest d (ev l f) (evs l xs)) := by
  rw [T]
  simp only [callT, callK]
  cases callee (ev l f) <;> rfl

@[go_sem ↓] theorem T_move (x : Operand) : T P ti cx Q (.ops q all (⟨d, .move x, ty, pos, af, none⟩ :: rest) :: k) l h n =
    (dok cx.nt d ∧ bindT P ti cx Q k l h n q all rest d (pv ti l h (.move x))) := by rw [T]; rfl
@[go_sem ↓] theorem T_assign (x : Operand) : T P ti cx Q (.ops q all (⟨d, .assign x, ty, pos, af, none⟩ :: rest) :: k) l h n =
    (dok cx.nt d ∧ bindT P ti cx Q k l h n q all rest d (pv ti l h (.assign x))) := by rw [T]; rfl
@[go_sem ↓] theorem T_pick (c x y : Operand) : T P ti cx Q (.ops q all (⟨d, .pick c x y, ty, pos, af, none⟩ :: rest) :: k) l h n =
    (dok cx.nt d ∧ bindT P ti cx Q k l h n q all rest d (pv ti l h (.pick c x y))) := by rw [T]; rfl
@[go_sem ↓] theorem T_load (t : Nat) (x : Operand) : T P ti cx Q (.ops q all (⟨d, .load t x, ty, pos, af, none⟩ :: rest) :: k) l h n =
    (dok cx.nt d ∧ bindT P ti cx Q k l h n q all rest d (pv ti l h (.load t x))) := by rw [T]; rfl
@[go_sem ↓] theorem T_nilCheck (x : Operand) : T P ti cx Q (.ops q all (⟨d, .nilCheck x, ty, pos, af, none⟩ :: rest) :: k) l h n =
    (dok cx.nt d ∧ bindT P ti cx Q k l h n q all rest d (pv ti l h (.nilCheck x))) := by rw [T]; rfl
@[go_sem ↓] theorem T_unOp (o : UnOp) (t : Nat) (x : Operand) : T P ti cx Q (.ops q all (⟨d, .unOp o t x, ty, pos, af, none⟩ :: rest) :: k) l h n =
    (dok cx.nt d ∧ bindT P ti cx Q k l h n q all rest d (pv ti l h (.unOp o t x))) := by rw [T]; rfl
@[go_sem ↓] theorem T_makeFunc (f : Fn) (xs ys : Array Operand) : T P ti cx Q (.ops q all (⟨d, .makeFunc f xs ys, ty, pos, af, none⟩ :: rest) :: k) l h n =
    (dok cx.nt d ∧ bindT P ti cx Q k l h n q all rest d (pv ti l h (.makeFunc f xs ys))) := by rw [T]; rfl
@[go_sem ↓] theorem T_fieldAddr (t : Nat) (x : Operand) (i : Nat) : T P ti cx Q (.ops q all (⟨d, .fieldAddr t x i, ty, pos, af, none⟩ :: rest) :: k) l h n =
    (dok cx.nt d ∧ bindT P ti cx Q k l h n q all rest d (pv ti l h (.fieldAddr t x i))) := by rw [T]; rfl
@[go_sem ↓] theorem T_field (t : Nat) (x : Operand) (i : Nat) : T P ti cx Q (.ops q all (⟨d, .field t x i, ty, pos, af, none⟩ :: rest) :: k) l h n =
    (dok cx.nt d ∧ bindT P ti cx Q k l h n q all rest d (pv ti l h (.field t x i))) := by rw [T]; rfl
@[go_sem ↓] theorem T_indexAddr (t : Nat) (x y : Operand) : T P ti cx Q (.ops q all (⟨d, .indexAddr t x y, ty, pos, af, none⟩ :: rest) :: k) l h n =
    (dok cx.nt d ∧ bindT P ti cx Q k l h n q all rest d (pv ti l h (.indexAddr t x y))) := by rw [T]; rfl
@[go_sem ↓] theorem T_index (t : Nat) (x y : Operand) : T P ti cx Q (.ops q all (⟨d, .index t x y, ty, pos, af, none⟩ :: rest) :: k) l h n =
    (dok cx.nt d ∧ bindT P ti cx Q k l h n q all rest d (pv ti l h (.index t x y))) := by rw [T]; rfl
@[go_sem ↓] theorem T_extract (x : Operand) (i : Nat) : T P ti cx Q (.ops q all (⟨d, .extract x i, ty, pos, af, none⟩ :: rest) :: k) l h n =
    (dok cx.nt d ∧ bindT P ti cx Q k l h n q all rest d (pv ti l h (.extract x i))) := by rw [T]; rfl
@[go_sem ↓] theorem T_len (xs : Array Operand) (ats : Array Nat) : T P ti cx Q (.ops q all (⟨d, .call ⟨.builtin .len, xs, ats⟩, ty, pos, af, none⟩ :: rest) :: k) l h n =
    (dok cx.nt d ∧ bindT P ti cx Q k l h n q all rest d (pv ti l h (.call ⟨.builtin .len, xs, ats⟩))) := by rw [T]; rfl
@[go_sem ↓] theorem T_min (xs : Array Operand) (ats : Array Nat) : T P ti cx Q (.ops q all (⟨d, .call ⟨.builtin .min, xs, ats⟩, ty, pos, af, none⟩ :: rest) :: k) l h n =
    (dok cx.nt d ∧ bindT P ti cx Q k l h n q all rest d (pv ti l h (.call ⟨.builtin .min, xs, ats⟩))) := by rw [T]; rfl
@[go_sem ↓] theorem T_max (xs : Array Operand) (ats : Array Nat) : T P ti cx Q (.ops q all (⟨d, .call ⟨.builtin .max, xs, ats⟩, ty, pos, af, none⟩ :: rest) :: k) l h n =
    (dok cx.nt d ∧ bindT P ti cx Q k l h n q all rest d (pv ti l h (.call ⟨.builtin .max, xs, ats⟩))) := by rw [T]; rfl

end
end Go.Proofs.YtfelopllfhcdpaaGreat.V
