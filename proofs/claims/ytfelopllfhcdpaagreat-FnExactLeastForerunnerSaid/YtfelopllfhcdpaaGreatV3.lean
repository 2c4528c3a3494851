/- The walk as a function from code and symbolic state to a proposition; that it is sound. -/
import Derived.Test.YtfelopllfhcdpaaGreatV2
set_option linter.all false
namespace Go.Proofs.YtfelopllfhcdpaaGreat.V

inductive It where
  | code (c : Code)
  | inBlock (id : Nat)
  | inv (R : List (Nat × SV) → List (Nat × Seg) → Nat → Prop)
  | ops (q : Bool) (all rest : List Oper)

def csize : Code → Nat
  | .seq x y => csize x + csize y + 1
  | .cond _ x y => csize x + csize y + 1
  | .block _ x => csize x + 2
  | .loop x => csize x + 2
  | .region _ ops _ => ops.size + 2
  | _ => 1
def isize : It → Nat
  | .code c => csize c
  | .inBlock _ => 1
  | .inv _ => 1
  | .ops _ _ rest => rest.length + 1
def tsize : List It → Nat
  | [] => 0
  | i :: k => isize i + tsize k
theorem csize_pos (c : Code) : 0 < csize c := by cases c <;> simp [csize]

def popTo (id : Nat) : List It → List It
  | [] => []
  | .inBlock j :: k => if j = id then k else popTo id k
  | _ :: k => popTo id k
theorem popTo_size (id : Nat) : ∀ k, tsize (popTo id k) ≤ tsize k
  | [] => Nat.le_refl _
  | .inBlock j :: k => by
    simp only [popTo]
    split
    · simp [tsize, isize]
    · have := popTo_size id k; simp [tsize, isize]; omega
  | .code c :: k => by have := popTo_size id k; simp [tsize, popTo]; omega
  | .inv R :: k => by have := popTo_size id k; simp [tsize, popTo]; omega
  | .ops q a r :: k => by have := popTo_size id k; simp [tsize, popTo]; omega
/-- Is there such a block? -/
def hasBl (id : Nat) : List It → Prop
  | [] => False
  | .inBlock j :: k => j = id ∨ hasBl id k
  | _ :: k => hasBl id k

def lst (n : Nat) (F : Nat → SV) : List SV := (List.range n).map F
@[go_sem] theorem lst_0 (F : Nat → SV) : lst 0 F = [] := rfl
@[go_sem] theorem lst_1 (F : Nat → SV) : lst 1 F = [F 0] := rfl
@[go_sem] theorem lst_2 (F : Nat → SV) : lst 2 F = [F 0, F 1] := rfl
@[go_sem] theorem lst_3 (F : Nat → SV) : lst 3 F = [F 0, F 1, F 2] := rfl
@[go_sem] theorem lst_4 (F : Nat → SV) : lst 4 F = [F 0, F 1, F 2, F 3] := rfl
@[go_sem] theorem lst_5 (F : Nat → SV) : lst 5 F = [F 0, F 1, F 2, F 3, F 4] := rfl

def dok (nt : Nat) : Option Nat → Prop
  | some t => t < nt
  | none => True
@[go_sem] theorem dok_some (nt t : Nat) : dok nt (some t) = (t < nt) := rfl
@[go_sem] theorem dok_none (nt : Nat) : dok nt none = True := rfl

abbrev HK := SV → List (Nat × Seg) → Nat → Prop

def bindK (x : PV) (f : SV → Prop) : Prop := x.vc ∧ f x.v
@[congr] theorem bindK_congr {x x' : PV} {f : SV → Prop} (h : x = x') : bindK x f = bindK x' f := by rw [h]
@[go_sem] theorem bindK_mk (vc : Prop) (v : SV) (f : SV → Prop) : bindK ⟨vc, v⟩ f = (vc ∧ f v) := rfl

def condK (v : SV) (A B : Prop) : Prop :=
  match v with
  | .bool b => (b = true → A) ∧ (b = false → B)
  | _ => False
@[congr] theorem condK_congr {v v' : SV} {A B : Prop} (h : v = v') : condK v A B = condK v' A B := by rw [h]
@[go_sem high] theorem condK_true (A B : Prop) : condK (.bool true) A B = A := by simp [condK]
@[go_sem high] theorem condK_false (A B : Prop) : condK (.bool false) A B = B := by simp [condK]
@[go_sem] theorem condK_bool (b : Bool) (A B : Prop) : condK (.bool b) A B = ((b = true → A) ∧ (b = false → B)) := rfl

/-- A guard: met, not met, itself passed over. -/
def guardK (v : SV) (want : Bool) (A B C : Prop) : Prop :=
  match v with
  | .bool b => (b = want → A) ∧ (b = (!want) → B)
  | .raw u => (u = undef) ∧ C
  | _ => False

/-- The slot in which a guard lies. -/
def gslot (all : List Oper) (j : Nat) : Option Nat := (all[j]?).bind (·.dst)

/-! ### Operations that make memory or write it -/
def cellsV : SV → Nat → SV
  | .agg _ F => F
  | v => cl [v]
@[go_sem] theorem cellsV_agg (n : Nat) (F : Nat → SV) : cellsV (.agg n F) = F := rfl
@[go_sem] theorem cellsV_int (k : IntKind) (n : Int) : cellsV (.int k n) = cl [.int k n] := rfl
@[go_sem] theorem cellsV_bool (b : Bool) : cellsV (.bool b) = cl [.bool b] := rfl
@[go_sem] theorem cellsV_str (b : ByteArray) : cellsV (.str b) = cl [.str b] := rfl
@[go_sem] theorem cellsV_ptr (i o : Nat) : cellsV (.ptr i o) = cl [.ptr i o] := rfl
@[go_sem] theorem cellsV_sl (i o a b : Nat) : cellsV (.sl i o a b) = cl [.sl i o a b] := rfl
@[go_sem] theorem cellsV_nils : cellsV .nils = cl [.nils] := rfl
@[go_sem] theorem cellsV_fn (f m : Nat) (G : Nat → SV) (n : Nat) (F : Nat → SV) : cellsV (.fn f m G n F) = cl [.fn f m G n F] := rfl
@[go_sem] theorem cellsV_raw (v : Value) : cellsV (.raw v) = cl [.raw v] := rfl
attribute [go_sem] SV.size
/-- Not a tuple, and known. -/
def SV.okc : SV → Prop
  | .bad => False
  | .tup .. => False
  | .raw v => v.oneCell' = true
  | _ => True
@[go_sem] theorem SV.okc_int (k : IntKind) (n : Int) : (SV.int k n).okc = True := rfl
@[go_sem] theorem SV.okc_bool (b : Bool) : (SV.bool b).okc = True := rfl
@[go_sem] theorem SV.okc_str (b : ByteArray) : (SV.str b).okc = True := rfl
@[go_sem] theorem SV.okc_ptr (i o : Nat) : (SV.ptr i o).okc = True := rfl
@[go_sem] theorem SV.okc_sl (i o a b : Nat) : (SV.sl i o a b).okc = True := rfl
@[go_sem] theorem SV.okc_nils : (SV.nils).okc = True := rfl
@[go_sem] theorem SV.okc_agg (n : Nat) (F : Nat → SV) : (SV.agg n F).okc = True := rfl
@[go_sem] theorem SV.okc_fn (f m n : Nat) (G F : Nat → SV) : (SV.fn f m G n F).okc = True := rfl
@[go_sem] theorem SV.okc_rawp (a : Option Addr) : (SV.raw (.pointer a)).okc = True := by simp [SV.okc, Value.oneCell']

def newK (vc : Prop) (n : Nat) (s : Seg) (h : List (Nat × Seg)) (f : SV → List (Nat × Seg) → Nat → Prop) : Prop := vc ∧ f (.ptr n 0) ((n, s) :: h) (n + 1)
@[congr] theorem newK_congr {vc vc' : Prop} {n : Nat} {s s' : Seg} {h : List (Nat × Seg)} {f : SV → List (Nat × Seg) → Nat → Prop} (e : vc = vc') (e' : s = s') : newK vc n s h f = newK vc' n s' h f := by rw [e, e']
@[go_sem] theorem newK_eq (vc : Prop) (n : Nat) (s : Seg) (h : List (Nat × Seg)) (f : SV → List (Nat × Seg) → Nat → Prop) : newK vc n s h f = (vc ∧ f (.ptr n 0) ((n, s) :: h) (n + 1)) := rfl

/-- Writing. -/
def wr (c : Nat → SV) (o : Nat) : SV → Nat → SV
  | .agg m F => fun j => if o ≤ j ∧ j < o + m then F (j - o) else c j
  | v => upd c o v
def wrN (n : Nat) (c : Nat → SV) (o : Nat) (v : SV) : Nat → SV := if o = 0 ∧ v.size = n then cellsV v else wr c o v
@[go_sem] theorem wrN_agg (n : Nat) (c : Nat → SV) (o m : Nat) (F : Nat → SV) : wrN n c o (.agg m F) = if o = 0 ∧ m = n then F else fun j => if o ≤ j ∧ j < o + m then F (j - o) else c j := rfl
@[go_sem] theorem wrN_int (n : Nat) (c : Nat → SV) (o : Nat) (k : IntKind) (x : Int) : wrN n c o (.int k x) = if o = 0 ∧ 1 = n then cl [.int k x] else upd c o (.int k x) := rfl
@[go_sem] theorem wrN_bool (n : Nat) (c : Nat → SV) (o : Nat) (b : Bool) : wrN n c o (.bool b) = if o = 0 ∧ 1 = n then cl [.bool b] else upd c o (.bool b) := rfl
@[go_sem] theorem wrN_str (n : Nat) (c : Nat → SV) (o : Nat) (b : ByteArray) : wrN n c o (.str b) = if o = 0 ∧ 1 = n then cl [.str b] else upd c o (.str b) := rfl
@[go_sem] theorem wrN_ptr (n : Nat) (c : Nat → SV) (o : Nat) (i j : Nat) : wrN n c o (.ptr i j) = if o = 0 ∧ 1 = n then cl [.ptr i j] else upd c o (.ptr i j) := rfl
@[go_sem] theorem wrN_sl (n : Nat) (c : Nat → SV) (o : Nat) (i j a b : Nat) : wrN n c o (.sl i j a b) = if o = 0 ∧ 1 = n then cl [.sl i j a b] else upd c o (.sl i j a b) := rfl
@[go_sem] theorem wrN_nils (n : Nat) (c : Nat → SV) (o : Nat) : wrN n c o .nils = if o = 0 ∧ 1 = n then cl [.nils] else upd c o .nils := rfl
@[go_sem] theorem wrN_fn (n : Nat) (c : Nat → SV) (o : Nat) (f m k : Nat) (G F : Nat → SV) : wrN n c o (.fn f m G k F) = if o = 0 ∧ 1 = n then cl [.fn f m G k F] else upd c o (.fn f m G k F) := rfl
@[go_sem] theorem wrN_raw (n : Nat) (c : Nat → SV) (o : Nat) (v : Value) : wrN n c o (.raw v) = if o = 0 ∧ 1 = n then cl [.raw v] else upd c o (.raw v) := rfl
@[go_sem high] theorem upd_same (c : Nat → SV) (o : Nat) (v : SV) : upd c o v o = v := by simp [upd]
@[go_sem] theorem upd_ne (c : Nat → SV) (o j : Nat) (v : SV) (h : (j == o) = false) : upd c o v j = c j := by simp at h; simp [upd, h]

def storeK (x : SV) (v : SV) (sz : Nat) (h : List (Nat × Seg)) (f : List (Nat × Seg) → Prop) : Prop :=
  match x with
  | .ptr i o => match hget h i with
    | some s => (v.okc ∧ v.size = sz ∧ o + sz ≤ s.n ∧ s.rw = true) ∧ f (hset h i { s with c := wrN s.n s.c o v })
    | none => False
  | _ => False
def storeS (s : Option Seg) (i o : Nat) (v : SV) (sz : Nat) (h : List (Nat × Seg)) (f : List (Nat × Seg) → Prop) : Prop :=
  match s with
  | some s => (v.okc ∧ v.size = sz ∧ o + sz ≤ s.n ∧ s.rw = true) ∧ f (hset h i { s with c := wrN s.n s.c o v })
  | none => False
def letH (h : List (Nat × Seg)) (f : List (Nat × Seg) → Prop) : Prop := f h
def setK (h : List (Nat × Seg)) (i : Nat) (s : Seg) (f : List (Nat × Seg) → Prop) : Prop := f (hset h i s)
@[congr] theorem storeK_congr {x x' v v' : SV} {sz sz' : Nat} {h : List (Nat × Seg)} {f : List (Nat × Seg) → Prop} (e : x = x') (e' : v = v') (e'' : sz = sz') : storeK x v sz h f = storeK x' v' sz' h f := by rw [e, e', e'']
@[congr] theorem storeS_congr {s s' : Option Seg} {i o : Nat} {v : SV} {sz : Nat} {h : List (Nat × Seg)} {f : List (Nat × Seg) → Prop} (e : s = s') : storeS s i o v sz h f = storeS s' i o v sz h f := by rw [e]
@[congr] theorem letH_congr {h h' : List (Nat × Seg)} {f : List (Nat × Seg) → Prop} (e : h = h') : letH h f = letH h' f := by rw [e]
@[congr] theorem setK_congr {h : List (Nat × Seg)} {i : Nat} {s s' : Seg} {f : List (Nat × Seg) → Prop} (e : s = s') : setK h i s f = setK h i s' f := by rw [e]
@[congr] theorem hset_congr (h : List (Nat × Seg)) (i : Nat) (s : Seg) : hset h i s = hset h i s := rfl
@[go_sem] theorem storeK_ptr (i o : Nat) (v : SV) (sz : Nat) (h : List (Nat × Seg)) (f : List (Nat × Seg) → Prop) : storeK (.ptr i o) v sz h f = storeS (hget h i) i o v sz h f := by
  unfold storeK storeS; rfl
@[go_sem] theorem storeS_some (n : Nat) (c : Nat → SV) (r : Bool) (w : Option (Nat × Nat)) (i o : Nat) (v : SV) (sz : Nat) (h : List (Nat × Seg)) (f : List (Nat × Seg) → Prop) :
    storeS (some ⟨n, c, r, w⟩) i o v sz h f = ((v.okc ∧ v.size = sz ∧ o + sz ≤ n ∧ r = true) ∧ setK h i ⟨n, wrN n c o v, r, w⟩ f) := rfl
@[go_sem] theorem setK_eq (h : List (Nat × Seg)) (i : Nat) (s : Seg) (f : List (Nat × Seg) → Prop) : setK h i s f = letH (hset h i s) f := rfl
@[go_sem] theorem letH_eq (h : List (Nat × Seg)) (f : List (Nat × Seg) → Prop) : letH h f = f h := rfl

/-! ### Composite literals -/
def evp (l : List (Nat × SV)) : List (Nat × Operand) → List (Nat × SV)
  | [] => []
  | (i, x) :: r => (i, ev l x) :: evp l r
@[go_sem ↓] theorem evp_nil (l : List (Nat × SV)) : evp l [] = [] := rfl
@[go_sem ↓] theorem evp_cons (l : List (Nat × SV)) (i : Nat) (x : Operand) (r : List (Nat × Operand)) : evp l ((i, x) :: r) = (i, ev l x) :: evp l r := rfl
@[congr] theorem evp_congr (l : List (Nat × SV)) (r : List (Nat × Operand)) : evp l r = evp l r := rfl
/-- Where a part lies: a struct's field, an array's element. -/
def placeS (ti : Nat → TI) (fs : List (Nat × Nat)) (i : Nat) : Option (Nat × Nat) := (fs[i]?).map fun (off, t) => (off, (ti t).sz)
def fillC (pl : Nat → Option (Nat × Nat)) : List (Nat × SV) → (Nat → SV) → (Nat → SV)
  | [], c => c
  | (i, v) :: r, c => fillC pl r (match pl i with | some (off, _) => wr c off v | none => c)
def fillP (pl : Nat → Option (Nat × Nat)) (N : Nat) : List (Nat × SV) → Prop
  | [] => True
  | (i, v) :: r => (match pl i with | some (off, sz) => v.okc ∧ v.size = sz ∧ off + sz ≤ N | none => False) ∧ fillP pl N r
def plOf (ti : Nat → TI) : TK → Nat → Option (Nat × Nat)
  | .st fs => placeS ti fs
  | .arr _ e => fun i => some (i * (ti e).sz, (ti e).sz)
  | .sl e => fun i => some (i * (ti e).sz, (ti e).sz)
  | _ => fun _ => none

def fill1 (c : Nat → SV) (p : Option (Nat × Nat)) (v : SV) : Nat → SV := match p with | some (off, _) => wr c off v | none => c
def fok (p : Option (Nat × Nat)) (v : SV) (N : Nat) : Prop := match p with | some (off, sz) => v.okc ∧ v.size = sz ∧ off + sz ≤ N | none => False
@[go_sem] theorem fillC_nil (pl : Nat → Option (Nat × Nat)) (c : Nat → SV) : fillC pl [] c = c := rfl
@[go_sem] theorem fillC_cons (pl : Nat → Option (Nat × Nat)) (c : Nat → SV) (i : Nat) (v : SV) (r : List (Nat × SV)) : fillC pl ((i, v) :: r) c = fillC pl r (fill1 c (pl i) v) := rfl
@[go_sem] theorem fill1_some (c : Nat → SV) (off sz : Nat) (v : SV) : fill1 c (some (off, sz)) v = wr c off v := rfl
@[go_sem] theorem fillP_nil (pl : Nat → Option (Nat × Nat)) (N : Nat) : fillP pl N [] = True := rfl
@[go_sem] theorem fillP_cons (pl : Nat → Option (Nat × Nat)) (N i : Nat) (v : SV) (r : List (Nat × SV)) : fillP pl N ((i, v) :: r) = (fok (pl i) v N ∧ fillP pl N r) := rfl
@[go_sem] theorem fok_some (off sz : Nat) (v : SV) (N : Nat) : fok (some (off, sz)) v N = (v.okc ∧ v.size = sz ∧ off + sz ≤ N) := rfl
def pls (ti : Nat → TI) : Option (Nat × Nat) → Option (Nat × Nat)
  | some (off, t) => some (off, (ti t).sz)
  | none => none
@[go_sem] theorem pls_some (ti : Nat → TI) (off t : Nat) : pls ti (some (off, t)) = some (off, (ti t).sz) := rfl
@[go_sem] theorem plOf_st (ti : Nat → TI) (fs : List (Nat × Nat)) (i : Nat) : plOf ti (.st fs) i = pls ti fs[i]? := by
  simp only [plOf, placeS]; cases fs[i]? <;> rfl
@[go_sem] theorem plOf_arr (ti : Nat → TI) (m e i : Nat) : plOf ti (.arr m e) i = some (i * (ti e).sz, (ti e).sz) := rfl
@[go_sem] theorem plOf_sl (ti : Nat → TI) (e i : Nat) : plOf ti (.sl e) i = some (i * (ti e).sz, (ti e).sz) := rfl
@[go_sem] theorem wr_agg (c : Nat → SV) (o m : Nat) (F : Nat → SV) : wr c o (.agg m F) = fun j => if o ≤ j ∧ j < o + m then F (j - o) else c j := rfl
@[go_sem] theorem wr_int (c : Nat → SV) (o : Nat) (k : IntKind) (x : Int) : wr c o (.int k x) = upd c o (.int k x) := rfl
@[go_sem] theorem wr_bool (c : Nat → SV) (o : Nat) (b : Bool) : wr c o (.bool b) = upd c o (.bool b) := rfl
@[go_sem] theorem wr_str (c : Nat → SV) (o : Nat) (b : ByteArray) : wr c o (.str b) = upd c o (.str b) := rfl
@[go_sem] theorem wr_ptr (c : Nat → SV) (o i j : Nat) : wr c o (.ptr i j) = upd c o (.ptr i j) := rfl
@[go_sem] theorem wr_sl (c : Nat → SV) (o i j a b : Nat) : wr c o (.sl i j a b) = upd c o (.sl i j a b) := rfl
@[go_sem] theorem wr_nils (c : Nat → SV) (o : Nat) : wr c o .nils = upd c o .nils := rfl

end Go.Proofs.YtfelopllfhcdpaaGreat.V
