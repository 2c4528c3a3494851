/- Types, pure operations and their values. -/
import Derived.Test.YtfelopllfhcdpaaGreatV0
import Derived.ChangeKeysEq
set_option linter.all false
namespace Go.Proofs.YtfelopllfhcdpaaGreat.V

inductive TK where
  | int (k : IntKind) | bool | str | ptr | sl (e : Nat) | arr (m e : Nat) | st (fs : List (Nat × Nat)) | oth

structure TI where
  k : TK
  sz : Nat
  /-- Twice the bytes; one more if values of this type can be compared cell by cell. -/
  by_ : Nat
  z : Nat → SV

def TK.isAgg : TK → Bool
  | .arr .. | .st _ => true
  | _ => false

def TK.isSl : TK → Bool
  | .sl _ => true
  | _ => false
def TK.isPtr : TK → Bool
  | .ptr => true
  | _ => false
@[go_sem] theorem isSl_sl (e : Nat) : (TK.sl e).isSl = true := rfl
@[go_sem] theorem isPtr_ptr : TK.ptr.isPtr = true := rfl
structure TyOK (P : Program) (t : Nat) (x : TI) : Prop where
  und : match x.k with
    | .int k => P.underlying t = some (.int k)
    | .bool => P.underlying t = some .bool
    | .str => P.underlying t = some .string
    | .ptr => ∃ d, P.underlying t = some d ∧ (match d with | .struct _ => False | .array .. => False | _ => True)
    | .sl e => P.underlying t = some (.slice e)
    | .arr m e => P.underlying t = some (.array m e)
    | .st fs => ∃ fl : Array Field, P.underlying t = some (.struct fl) ∧ fl.toList.map (fun f => (f.offset, f.type)) = fs
    | .oth => True
  info : (match x.k with | .oth => False | _ => True) → ∃ i z, P.info? t = some i ∧ i.size = x.sz ∧ i.bytes = x.by_ / 2 ∧ i.zero = some z ∧ z.cells = arr x.sz (fun j => den (fun _ => (0, 0)) (x.z j)) ∧ (∀ j, j < x.sz → (x.z j).lt 0 ∧ (x.z j).one) ∧
    z = (if x.k.isAgg then den (fun _ => (0, 0)) (.agg x.sz x.z) else den (fun _ => (0, 0)) (x.z 0))
  eqs : x.by_ % 2 = 1 → P.keyTypeAt 9 t = true ∧ P.eqGuardType P.depth t = false
  bnd : (match x.k with | .oth => False | _ => True) → t < 1000000
  ptrs : x.k.isPtr = true → x.z 0 = .raw (.pointer none) → ∃ e, P.underlying t = some (.pointer e)

/-- Cells written out. -/
def cl : List SV → Nat → SV
  | [], _ => .bad
  | v :: _, 0 => v
  | _ :: l, j + 1 => cl l j
theorem cl_eq (l : List SV) (j : Nat) : cl l j = (l[j]?).getD .bad := by
  induction l generalizing j with
  | nil => rfl
  | cons v l ih => cases j <;> simp [cl, ih]
@[go_sem] theorem cl_0 (a : SV) (l : List SV) : cl (a :: l) 0 = a := rfl
@[go_sem] theorem cl_1 (a b : SV) (l : List SV) : cl (a :: b :: l) 1 = b := rfl
@[go_sem] theorem cl_2 (a b c : SV) (l : List SV) : cl (a :: b :: c :: l) 2 = c := rfl
@[go_sem] theorem cl_3 (a b c d : SV) (l : List SV) : cl (a :: b :: c :: d :: l) 3 = d := rfl
@[go_sem] theorem cl_4 (a b c d e : SV) (l : List SV) : cl (a :: b :: c :: d :: e :: l) 4 = e := rfl

def mkAgg (n : Nat) (F : Nat → SV) : SV := if n ≤ 5 then .agg n (cl ((List.range n).map F)) else .agg n F
theorem den_mkAgg (ρ : Rho) (n : Nat) (F : Nat → SV) : den ρ (mkAgg n F) = .agg (arr n fun j => den ρ (F j)) := by
  unfold mkAgg
  split
  · simp only [den]
    congr 1
    apply arr_congr
    intro j hj
    simp [cl_eq, hj]
  · rfl
theorem mkAgg_lt {n m : Nat} {F : Nat → SV} (h : ∀ j, j < n → (F j).lt m) : (mkAgg n F).lt m := by
  unfold mkAgg
  split
  · intro j hj
    simp [cl_eq, hj]
    exact h j hj
  · exact h
@[go_sem] theorem mkAgg_0 (F : Nat → SV) : mkAgg 0 F = .agg 0 (cl []) := rfl
@[go_sem] theorem mkAgg_1 (F : Nat → SV) : mkAgg 1 F = .agg 1 (cl [F 0]) := rfl
@[go_sem] theorem mkAgg_2 (F : Nat → SV) : mkAgg 2 F = .agg 2 (cl [F 0, F 1]) := rfl
@[go_sem] theorem mkAgg_3 (F : Nat → SV) : mkAgg 3 F = .agg 3 (cl [F 0, F 1, F 2]) := rfl
@[go_sem] theorem mkAgg_4 (F : Nat → SV) : mkAgg 4 F = .agg 4 (cl [F 0, F 1, F 2, F 3]) := rfl
@[go_sem] theorem mkAgg_5 (F : Nat → SV) : mkAgg 5 F = .agg 5 (cl [F 0, F 1, F 2, F 3, F 4]) := rfl
theorem mkAgg_big {n : Nat} (F : Nat → SV) (h : 5 < n) : mkAgg n F = .agg n F := by unfold mkAgg; rw [if_neg (by omega)]

def ofV : Value → SV
  | .int k n => .int k n
  | .bool b => .bool b
  | .string s => .str s
  | .slice none 0 0 => .nils
  | v => .raw v
theorem den_ofV (ρ : Rho) (v : Value) : den ρ (ofV v) = v := by
  unfold ofV
  split <;> rfl
theorem ofV_lt (v : Value) : (ofV v).lt 0 := by
  unfold ofV
  split <;> trivial
@[go_sem] theorem ofV_int (k : IntKind) (n : Int) : ofV (.int k n) = .int k n := rfl
@[go_sem] theorem ofV_bool (b : Bool) : ofV (.bool b) = .bool b := rfl
@[go_sem] theorem ofV_string (s : ByteArray) : ofV (.string s) = .str s := rfl
@[go_sem] theorem ofV_nils : ofV (.slice none 0 0) = .nils := rfl
@[go_sem] theorem ofV_pointer (a : Option Addr) : ofV (.pointer a) = .raw (.pointer a) := rfl

def ev (l : List (Nat × SV)) : Operand → SV
  | .tmp t => (look l t).getD .bad
  | .const v => ofV v
  | .global g => .raw (.pointer (some ⟨g, 0, none⟩))
  | .func f => .fn f 0 (cl []) 0 (cl [])

theorem ev_sound {cx : Cx} {ρ : Rho} {l : List (Nat × SV)} {n : Nat} {a : Act} (s : SatT cx ρ l n a) (x : Operand) (h : ev l x ≠ .bad) : a.eval x = den ρ (ev l x) ∧ (ev l x).lt n := by
  cases x with
  | tmp t =>
    simp only [ev] at *
    cases hl : look l t with
    | none => simp [hl] at h
    | some v =>
      rw [hl] at h
      exact s.val t v hl h
  | const v => exact ⟨(den_ofV ρ v).symm, SV.lt_mono (Nat.zero_le _) _ (ofV_lt v)⟩
  | global g => exact ⟨rfl, trivial⟩
  | func f => exact ⟨rfl, fun _ h => by omega, fun _ h => by omega⟩

@[go_sem ↓] theorem ev_const (l : List (Nat × SV)) (v : Value) : ev l (.const v) = ofV v := rfl
@[go_sem ↓] theorem ev_global (l : List (Nat × SV)) (g : Nat) : ev l (.global g) = .raw (.pointer (some ⟨g, 0, none⟩)) := rfl
@[go_sem ↓] theorem ev_func (l : List (Nat × SV)) (f : Nat) : ev l (.func f) = .fn f 0 (cl []) 0 (cl []) := rfl
@[go_sem ↓ high] theorem ev_hit (l : List (Nat × SV)) (t : Nat) (v : SV) : ev ((t, v) :: l) (.tmp t) = v := by simp [ev, look]
@[go_sem ↓] theorem ev_miss (l : List (Nat × SV)) (t u : Nat) (v : SV) (h : (t == u) = false) : ev ((t, v) :: l) (.tmp u) = ev l (.tmp u) := by
  simp at h; simp [ev, look, h]
/-- The state is not looked into. -/
@[congr] theorem ev_congr (l : List (Nat × SV)) (x : Operand) : ev l x = ev l x := rfl

@[go_sem ↓ high] theorem hget_hit (h : List (Nat × Seg)) (i : Nat) (s : Seg) : hget ((i, s) :: h) i = some s := by simp [hget]
@[go_sem ↓] theorem hget_miss (h : List (Nat × Seg)) (i j : Nat) (s : Seg) (hn : (i == j) = false) : hget ((i, s) :: h) j = hget h j := by
  simp at hn; simp [hget, hn]
@[congr] theorem hget_congr (h : List (Nat × Seg)) (i : Nat) : hget h i = hget h i := rfl
@[go_sem ↓ high] theorem hset_hit (h : List (Nat × Seg)) (i : Nat) (s t : Seg) : hset ((i, s) :: h) i t = (i, t) :: h := by simp [hset]
@[go_sem ↓] theorem hset_miss (h : List (Nat × Seg)) (i j : Nat) (s t : Seg) (hn : (i == j) = false) : hset ((i, s) :: h) j t = (i, s) :: hset h j t := by
  simp at hn; simp [hset, hn]
@[go_sem ↓ high] theorem hdel_hit (h : List (Nat × Seg)) (i : Nat) (s : Seg) : hdel ((i, s) :: h) i = hdel h i := by simp [hdel]
@[go_sem ↓] theorem hdel_miss (h : List (Nat × Seg)) (i j : Nat) (s : Seg) (hn : (i == j) = false) : hdel ((i, s) :: h) j = (i, s) :: hdel h j := by
  simp at hn; simp [hdel, hn]
@[go_sem ↓] theorem hdel_nil (i : Nat) : hdel [] i = [] := rfl
attribute [go_sem] put

/-- A value under a condition. -/
structure PV where
  vc : Prop
  v : SV

def PV.no : PV := ⟨False, .bad⟩

def SV.ok : SV → Prop
  | .bad => False
  | _ => True
theorem SV.ok_ne {v : SV} (h : v.ok) : v ≠ .bad := by rintro rfl; exact h
@[go_sem] theorem SV.ok_int (k : IntKind) (n : Int) : (SV.int k n).ok = True := rfl
@[go_sem] theorem SV.ok_bool (b : Bool) : (SV.bool b).ok = True := rfl
@[go_sem] theorem SV.ok_str (b : ByteArray) : (SV.str b).ok = True := rfl
@[go_sem] theorem SV.ok_ptr (i o : Nat) : (SV.ptr i o).ok = True := rfl
@[go_sem] theorem SV.ok_sl (i o a b : Nat) : (SV.sl i o a b).ok = True := rfl
@[go_sem] theorem SV.ok_nils : (SV.nils).ok = True := rfl
@[go_sem] theorem SV.ok_agg (n : Nat) (F : Nat → SV) : (SV.agg n F).ok = True := rfl
@[go_sem] theorem SV.ok_tup (n : Nat) (F : Nat → SV) : (SV.tup n F).ok = True := rfl
@[go_sem] theorem SV.ok_fn (f m n : Nat) (G F : Nat → SV) : (SV.fn f m G n F).ok = True := rfl
@[go_sem] theorem SV.ok_raw (v : Value) : (SV.raw v).ok = True := rfl
@[go_sem] theorem SV.ok_mkAgg (n : Nat) (F : Nat → SV) : (mkAgg n F).ok = True := by unfold mkAgg; split <;> rfl

def pickV : SV → SV → SV → PV
  | .bool c, a, b => ⟨(if c then a else b).ok, if c then a else b⟩
  | _, _, _ => .no
@[go_sem] theorem pickV_true (a b : SV) : pickV (.bool true) a b = ⟨a.ok, a⟩ := rfl
@[go_sem] theorem pickV_false (a b : SV) : pickV (.bool false) a b = ⟨b.ok, b⟩ := rfl
theorem pickV_bool (c x y : Bool) : pickV (.bool c) (.bool x) (.bool y) = ⟨True, .bool (bif c then x else y)⟩ := by cases c <;> rfl

/-- The cells of a value, put at a place among others. -/
def SV.size : SV → Nat
  | .agg n _ => n
  | _ => 1
def splice (c : Nat → SV) (off : Nat) : SV → Nat → SV
  | .agg n F => fun j => if off ≤ j ∧ j < off + n then F (j - off) else c j
  | v => fun j => if j = off then v else c j

def segV (s : Option Seg) (agg : Bool) (sz o : Nat) : PV :=
  match s with
  | some s => if agg then ⟨o + sz ≤ s.n, mkAgg sz fun j => s.c (o + j)⟩ else ⟨o + 1 ≤ s.n, s.c o⟩
  | none => .no
@[go_sem] theorem segV_agg (s : Seg) (sz o : Nat) : segV (some s) true sz o = ⟨o + sz ≤ s.n, mkAgg sz fun j => s.c (o + j)⟩ := rfl
@[go_sem] theorem segV_one (s : Seg) (sz o : Nat) : segV (some s) false sz o = ⟨o + 1 ≤ s.n, s.c o⟩ := rfl
def loadV (h : List (Nat × Seg)) (x : TI) : SV → PV
  | .ptr i o => match x.k with
    | .oth => .no
    | k => segV (hget h i) k.isAgg x.sz o
  | _ => .no
@[go_sem] theorem loadV_int (h : List (Nat × Seg)) (k : IntKind) (s b : Nat) (z : Nat → SV) (i o : Nat) : loadV h ⟨.int k, s, b, z⟩ (.ptr i o) = segV (hget h i) false s o := rfl
@[go_sem] theorem loadV_bool (h : List (Nat × Seg)) (s b : Nat) (z : Nat → SV) (i o : Nat) : loadV h ⟨.bool, s, b, z⟩ (.ptr i o) = segV (hget h i) false s o := rfl
@[go_sem] theorem loadV_str (h : List (Nat × Seg)) (s b : Nat) (z : Nat → SV) (i o : Nat) : loadV h ⟨.str, s, b, z⟩ (.ptr i o) = segV (hget h i) false s o := rfl
@[go_sem] theorem loadV_ptr (h : List (Nat × Seg)) (s b : Nat) (z : Nat → SV) (i o : Nat) : loadV h ⟨.ptr, s, b, z⟩ (.ptr i o) = segV (hget h i) false s o := rfl
@[go_sem] theorem loadV_sl (h : List (Nat × Seg)) (e s b : Nat) (z : Nat → SV) (i o : Nat) : loadV h ⟨.sl e, s, b, z⟩ (.ptr i o) = segV (hget h i) false s o := rfl
@[go_sem] theorem loadV_arr (h : List (Nat × Seg)) (m e s b : Nat) (z : Nat → SV) (i o : Nat) : loadV h ⟨.arr m e, s, b, z⟩ (.ptr i o) = segV (hget h i) true s o := rfl
@[go_sem] theorem loadV_st (h : List (Nat × Seg)) (fs : List (Nat × Nat)) (s b : Nat) (z : Nat → SV) (i o : Nat) : loadV h ⟨.st fs, s, b, z⟩ (.ptr i o) = segV (hget h i) true s o := rfl

def partV (n : Nat) (F : Nat → SV) (x : TI) (off : Nat) : PV :=
  match x.k with
  | .oth => .no
  | k => if k.isAgg then ⟨off + x.sz ≤ n, mkAgg x.sz fun j => F (off + j)⟩ else ⟨off < n, F off⟩
@[go_sem] theorem partV_int (n : Nat) (F : Nat → SV) (k : IntKind) (s b : Nat) (z : Nat → SV) (o : Nat) : partV n F ⟨.int k, s, b, z⟩ o = ⟨o < n, F o⟩ := rfl
@[go_sem] theorem partV_bool (n : Nat) (F : Nat → SV) (s b : Nat) (z : Nat → SV) (o : Nat) : partV n F ⟨.bool, s, b, z⟩ o = ⟨o < n, F o⟩ := rfl
@[go_sem] theorem partV_str (n : Nat) (F : Nat → SV) (s b : Nat) (z : Nat → SV) (o : Nat) : partV n F ⟨.str, s, b, z⟩ o = ⟨o < n, F o⟩ := rfl
@[go_sem] theorem partV_ptr (n : Nat) (F : Nat → SV) (s b : Nat) (z : Nat → SV) (o : Nat) : partV n F ⟨.ptr, s, b, z⟩ o = ⟨o < n, F o⟩ := rfl
@[go_sem] theorem partV_sl (n : Nat) (F : Nat → SV) (e s b : Nat) (z : Nat → SV) (o : Nat) : partV n F ⟨.sl e, s, b, z⟩ o = ⟨o < n, F o⟩ := rfl
@[go_sem] theorem partV_arr (n : Nat) (F : Nat → SV) (m e s b : Nat) (z : Nat → SV) (o : Nat) : partV n F ⟨.arr m e, s, b, z⟩ o = ⟨o + s ≤ n, mkAgg s fun j => F (o + j)⟩ := rfl
@[go_sem] theorem partV_st (n : Nat) (F : Nat → SV) (fs : List (Nat × Nat)) (s b : Nat) (z : Nat → SV) (o : Nat) : partV n F ⟨.st fs, s, b, z⟩ o = ⟨o + s ≤ n, mkAgg s fun j => F (o + j)⟩ := rfl

def fieldAddrV (ti : Nat → TI) (x : TI) (f : Nat) : SV → PV
  | .ptr i o => match x.k with
    | .st fs => match fs[f]? with
      | some (off, t) => ⟨(ti t).sz ≠ 0 ∧ (match (ti t).k with | .oth => False | _ => True), .ptr i (o + off)⟩
      | none => .no
    | _ => .no
  | _ => .no
def fieldV (ti : Nat → TI) (x : TI) (f : Nat) : SV → PV
  | .agg n F => match x.k with
    | .st fs => match fs[f]? with
      | some (off, t) => partV n F (ti t) off
      | none => .no
    | _ => .no
  | _ => .no
def nth (fs : List (Nat × Nat)) (f : Nat) : Option (Nat × Nat) := fs[f]?
def atP (i o : Nat) : Option (Nat × Nat) → (Nat → TI) → PV
  | some (off, t), ti => ⟨(ti t).sz ≠ 0 ∧ (match (ti t).k with | .oth => False | _ => True), .ptr i (o + off)⟩
  | none, _ => .no
@[go_sem] theorem fieldAddrV_st (ti : Nat → TI) (fs : List (Nat × Nat)) (s b : Nat) (z : Nat → SV) (f i o : Nat) : fieldAddrV ti ⟨.st fs, s, b, z⟩ f (.ptr i o) = atP i o fs[f]? ti := by
  unfold fieldAddrV atP; simp only []; split <;> simp_all
@[go_sem] theorem atP_some (i o off t : Nat) (ti : Nat → TI) : atP i o (some (off, t)) ti = ⟨(ti t).sz ≠ 0 ∧ (match (ti t).k with | .oth => False | _ => True), .ptr i (o + off)⟩ := rfl
def atF (n : Nat) (F : Nat → SV) : Option (Nat × Nat) → (Nat → TI) → PV
  | some (off, t), ti => partV n F (ti t) off
  | none, _ => .no
@[go_sem] theorem fieldV_st (ti : Nat → TI) (fs : List (Nat × Nat)) (s b : Nat) (z : Nat → SV) (f n : Nat) (F : Nat → SV) : fieldV ti ⟨.st fs, s, b, z⟩ f (.agg n F) = atF n F fs[f]? ti := by
  unfold fieldV atF; simp only []; split <;> simp_all
@[go_sem] theorem atF_some (n : Nat) (F : Nat → SV) (off t : Nat) (ti : Nat → TI) : atF n F (some (off, t)) ti = partV n F (ti t) off := rfl

def indexAddrV (ti : Nat → TI) (x : TI) : SV → SV → PV
  | .ptr i o, .int _ j => match x.k with
    | .arr m e => ⟨(0 ≤ j ∧ j < (m : Int)) ∧ (match (ti e).k with | .oth => False | _ => True), .ptr i (o + j.toNat * (ti e).sz)⟩
    | _ => .no
  | .sl i o len _, .int _ j => match x.k with
    | .sl e => ⟨(0 ≤ j ∧ j < (len : Int)) ∧ (match (ti e).k with | .oth => False | _ => True), .ptr i (o + j.toNat * (ti e).sz)⟩
    | _ => .no
  | _, _ => .no
@[go_sem] theorem indexAddrV_arr (ti : Nat → TI) (m e s b : Nat) (z : Nat → SV) (i o : Nat) (k : IntKind) (j : Int) :
    indexAddrV ti ⟨.arr m e, s, b, z⟩ (.ptr i o) (.int k j) = ⟨(0 ≤ j ∧ j < (m : Int)) ∧ (match (ti e).k with | .oth => False | _ => True), .ptr i (o + j.toNat * (ti e).sz)⟩ := rfl
@[go_sem] theorem indexAddrV_sl (ti : Nat → TI) (e s b : Nat) (z : Nat → SV) (i o len cap : Nat) (k : IntKind) (j : Int) :
    indexAddrV ti ⟨.sl e, s, b, z⟩ (.sl i o len cap) (.int k j) = ⟨(0 ≤ j ∧ j < (len : Int)) ∧ (match (ti e).k with | .oth => False | _ => True), .ptr i (o + j.toNat * (ti e).sz)⟩ := rfl

/-- A byte of a string. -/
def bt (s : ByteArray) (j : Int) : Int := ((s[j.toNat]?).getD 0).toNat

def indexV (ti : Nat → TI) (x : TI) : SV → SV → PV
  | .agg n F, .int _ j => match x.k with
    | .arr m e => ⟨(0 ≤ j ∧ j < (m : Int)) ∧ (partV n F (ti e) (j.toNat * (ti e).sz)).vc, (partV n F (ti e) (j.toNat * (ti e).sz)).v⟩
    | _ => .no
  | .str s, .int _ j => match x.k with
    | .str => ⟨0 ≤ j ∧ j < (s.size : Int), .int .u8 (bt s j)⟩
    | _ => .no
  | _, _ => .no
@[go_sem] theorem indexV_arr (ti : Nat → TI) (m e s b : Nat) (z : Nat → SV) (n : Nat) (F : Nat → SV) (k : IntKind) (j : Int) :
    indexV ti ⟨.arr m e, s, b, z⟩ (.agg n F) (.int k j) = ⟨(0 ≤ j ∧ j < (m : Int)) ∧ (partV n F (ti e) (j.toNat * (ti e).sz)).vc, (partV n F (ti e) (j.toNat * (ti e).sz)).v⟩ := rfl
@[go_sem] theorem indexV_str (ti : Nat → TI) (s b : Nat) (z : Nat → SV) (x : ByteArray) (k : IntKind) (j : Int) :
    indexV ti ⟨.str, s, b, z⟩ (.str x) (.int k j) = ⟨0 ≤ j ∧ j < (x.size : Int), .int .u8 (bt x j)⟩ := rfl

def extractV (i : Nat) : SV → PV
  | .tup n F => ⟨i < n ∧ (F i).ok, F i⟩
  | _ => .no
@[go_sem] theorem extractV_tup (i n : Nat) (F : Nat → SV) : extractV i (.tup n F) = ⟨i < n ∧ (F i).ok, F i⟩ := rfl

def bitsI (op : BinOp) (k : IntKind) (x y : Int) : Int :=
  let a := BitVec.ofInt k.bits x
  let b := BitVec.ofInt k.bits y
  k.wrap (match op with
  | .and => (a &&& b).toNat
  | .or => (a ||| b).toNat
  | .xor => (a ^^^ b).toNat
  | _ => (a &&& ~~~b).toNat : Nat)
def shlI (k : IntKind) (x y : Int) : Int := k.wrap (x * 2 ^ (min y.toNat k.bits))
def shrI (k : IntKind) (x y : Int) : Int := x.fdiv (2 ^ (min y.toNat k.bits))

def binV (x : TI) (op : BinOp) : SV → SV → PV
  | .int k a, .int k' b => match op with
    | .add => ⟨k = k', .int k (k.wrap (a + b))⟩
    | .sub => ⟨k = k', .int k (k.wrap (a - b))⟩
    | .mul => ⟨k = k', .int k (k.wrap (a * b))⟩
    | .quo => ⟨k = k' ∧ b ≠ 0, .int k (k.wrap (a.tdiv b))⟩
    | .rem => ⟨k = k' ∧ b ≠ 0, .int k (a.tmod b)⟩
    | .eql => ⟨k = k', .bool (decide (a = b))⟩
    | .neq => ⟨k = k', .bool (!decide (a = b))⟩
    | .lss => ⟨k = k', .bool (decide (a < b))⟩
    | .leq => ⟨k = k', .bool (decide (a ≤ b))⟩
    | .gtr => ⟨k = k', .bool (decide (b < a))⟩
    | .geq => ⟨k = k', .bool (decide (b ≤ a))⟩
    | .shl => ⟨0 ≤ b, .int k (shlI k a b)⟩
    | .shr => ⟨0 ≤ b, .int k (shrI k a b)⟩
    | op => ⟨k = k', .int k (bitsI op k a b)⟩
  | .bool a, .bool b => match op with
    | .eql => match x.k with | .bool => ⟨True, .bool (a == b)⟩ | _ => .no
    | .neq => match x.k with | .bool => ⟨True, .bool (!(a == b))⟩ | _ => .no
    | _ => .no
  | .str a, .str b => match op with
    | .eql => ⟨True, .bool (decide (a = b))⟩
    | .neq => ⟨True, .bool (!decide (a = b))⟩
    | .add => ⟨a.size + b.size ≤ 9223372036854775807, .str (a ++ b)⟩
    | _ => .no
  | _, _ => .no
section
variable (x : TI) (k k' : IntKind) (a b : Int)
@[go_sem] theorem binV_add : binV x .add (.int k a) (.int k' b) = ⟨k = k', .int k (k.wrap (a + b))⟩ := rfl
@[go_sem] theorem binV_sub : binV x .sub (.int k a) (.int k' b) = ⟨k = k', .int k (k.wrap (a - b))⟩ := rfl
@[go_sem] theorem binV_mul : binV x .mul (.int k a) (.int k' b) = ⟨k = k', .int k (k.wrap (a * b))⟩ := rfl
@[go_sem] theorem binV_quo : binV x .quo (.int k a) (.int k' b) = ⟨k = k' ∧ b ≠ 0, .int k (k.wrap (a.tdiv b))⟩ := rfl
@[go_sem] theorem binV_rem : binV x .rem (.int k a) (.int k' b) = ⟨k = k' ∧ b ≠ 0, .int k (a.tmod b)⟩ := rfl
@[go_sem] theorem binV_eql : binV x .eql (.int k a) (.int k' b) = ⟨k = k', .bool (decide (a = b))⟩ := rfl
@[go_sem] theorem binV_neq : binV x .neq (.int k a) (.int k' b) = ⟨k = k', .bool (!decide (a = b))⟩ := rfl
@[go_sem] theorem binV_lss : binV x .lss (.int k a) (.int k' b) = ⟨k = k', .bool (decide (a < b))⟩ := rfl
@[go_sem] theorem binV_leq : binV x .leq (.int k a) (.int k' b) = ⟨k = k', .bool (decide (a ≤ b))⟩ := rfl
@[go_sem] theorem binV_gtr : binV x .gtr (.int k a) (.int k' b) = ⟨k = k', .bool (decide (b < a))⟩ := rfl
@[go_sem] theorem binV_geq : binV x .geq (.int k a) (.int k' b) = ⟨k = k', .bool (decide (b ≤ a))⟩ := rfl
@[go_sem] theorem binV_shl : binV x .shl (.int k a) (.int k' b) = ⟨0 ≤ b, .int k (shlI k a b)⟩ := rfl
@[go_sem] theorem binV_shr : binV x .shr (.int k a) (.int k' b) = ⟨0 ≤ b, .int k (shrI k a b)⟩ := rfl
@[go_sem] theorem binV_and : binV x .and (.int k a) (.int k' b) = ⟨k = k', .int k (bitsI .and k a b)⟩ := rfl
@[go_sem] theorem binV_or : binV x .or (.int k a) (.int k' b) = ⟨k = k', .int k (bitsI .or k a b)⟩ := rfl
@[go_sem] theorem binV_xor : binV x .xor (.int k a) (.int k' b) = ⟨k = k', .int k (bitsI .xor k a b)⟩ := rfl
@[go_sem] theorem binV_andNot : binV x .andNot (.int k a) (.int k' b) = ⟨k = k', .int k (bitsI .andNot k a b)⟩ := rfl
@[go_sem] theorem binV_eqlb (s y : Nat) (z : Nat → SV) (a b : Bool) : binV ⟨.bool, s, y, z⟩ .eql (.bool a) (.bool b) = ⟨True, .bool (a == b)⟩ := rfl
@[go_sem] theorem binV_neqb (s y : Nat) (z : Nat → SV) (a b : Bool) : binV ⟨.bool, s, y, z⟩ .neq (.bool a) (.bool b) = ⟨True, .bool (!(a == b))⟩ := rfl
@[go_sem] theorem binV_eqls (a b : ByteArray) : binV x .eql (.str a) (.str b) = ⟨True, .bool (decide (a = b))⟩ := rfl
@[go_sem] theorem binV_neqs (a b : ByteArray) : binV x .neq (.str a) (.str b) = ⟨True, .bool (!decide (a = b))⟩ := rfl
@[go_sem] theorem binV_adds (a b : ByteArray) : binV x .add (.str a) (.str b) = ⟨a.size + b.size ≤ 9223372036854775807, .str (a ++ b)⟩ := rfl
end

def unV (op : UnOp) : SV → PV
  | .bool b => match op with
    | .not => ⟨True, .bool (!b)⟩
    | _ => .no
  | .int k n => match op with
    | .neg => ⟨True, .int k (k.wrap (0 - n))⟩
    | _ => .no
  | _ => .no
@[go_sem] theorem unV_not (b : Bool) : unV .not (.bool b) = ⟨True, .bool (!b)⟩ := rfl
@[go_sem] theorem unV_neg (k : IntKind) (n : Int) : unV .neg (.int k n) = ⟨True, .int k (k.wrap (0 - n))⟩ := rfl

def convV (s d : TI) : SV → PV
  | .int _ n => match s.k, d.k with
    | .int _, .int k => ⟨True, .int k (k.wrap n)⟩
    | _, _ => .no
  | .str x => match s.k, d.k with
    | .str, .str => ⟨True, .str x⟩
    | _, _ => .no
  | _ => .no
@[go_sem] theorem convV_int (k k' k'' : IntKind) (s b s' b' : Nat) (z z' : Nat → SV) (n : Int) : convV ⟨.int k', s, b, z⟩ ⟨.int k'', s', b', z'⟩ (.int k n) = ⟨True, .int k'' (k''.wrap n)⟩ := rfl
@[go_sem] theorem convV_str (s b s' b' : Nat) (z z' : Nat → SV) (x : ByteArray) : convV ⟨.str, s, b, z⟩ ⟨.str, s', b', z'⟩ (.str x) = ⟨True, .str x⟩ := rfl

def nilCheckV : SV → PV
  | .ptr i o => ⟨True, .ptr i o⟩
  | .fn f m G n F => ⟨True, .fn f m G n F⟩
  | _ => .no
@[go_sem] theorem nilCheckV_ptr (i o : Nat) : nilCheckV (.ptr i o) = ⟨True, .ptr i o⟩ := rfl
@[go_sem] theorem nilCheckV_fn (f m n : Nat) (G F : Nat → SV) : nilCheckV (.fn f m G n F) = ⟨True, .fn f m G n F⟩ := rfl

def evs (l : List (Nat × SV)) : List Operand → List SV
  | [] => []
  | x :: xs => ev l x :: evs l xs
@[go_sem ↓] theorem evs_nil (l : List (Nat × SV)) : evs l [] = [] := rfl
@[go_sem ↓] theorem evs_cons (l : List (Nat × SV)) (x : Operand) (xs : List Operand) : evs l (x :: xs) = ev l x :: evs l xs := rfl
@[congr] theorem evs_congr (l : List (Nat × SV)) (xs : List Operand) : evs l xs = evs l xs := rfl
def oks : List SV → Prop
  | [] => True
  | v :: vs => v.ok ∧ oks vs
@[go_sem] theorem oks_nil : oks [] = True := rfl
@[go_sem] theorem oks_cons (v : SV) (vs : List SV) : oks (v :: vs) = (v.ok ∧ oks vs) := rfl

def minV : List SV → PV
  | [.int k a, .int k' b] => ⟨k = k', .int k (min a b)⟩
  | _ => .no
def maxV : List SV → PV
  | [.int k a, .int k' b] => ⟨k = k', .int k (max a b)⟩
  | [.int k a, .int k' b, .int k'' c] => ⟨k = k' ∧ k = k'', .int k (max (max a b) c)⟩
  | _ => .no
@[go_sem] theorem minV_2 (k k' : IntKind) (a b : Int) : minV [.int k a, .int k' b] = ⟨k = k', .int k (min a b)⟩ := rfl
@[go_sem] theorem maxV_2 (k k' : IntKind) (a b : Int) : maxV [.int k a, .int k' b] = ⟨k = k', .int k (max a b)⟩ := rfl
@[go_sem] theorem maxV_3 (k k' k'' : IntKind) (a b c : Int) : maxV [.int k a, .int k' b, .int k'' c] = ⟨k = k' ∧ k = k'', .int k (max (max a b) c)⟩ := rfl

/-! ### Aggregates, compared -/
def allN : Nat → (Nat → Bool) → Bool
  | 0, _ => true
  | n + 1, f => allN n f && f n
def allP : Nat → (Nat → Prop) → Prop
  | 0, _ => True
  | n + 1, f => allP n f ∧ f n
@[go_sem] theorem allN_zero (f : Nat → Bool) : allN 0 f = true := rfl
@[go_sem] theorem allN_succ (n : Nat) (f : Nat → Bool) : allN (n + 1) f = (allN n f && f n) := rfl
@[go_sem] theorem allP_zero (f : Nat → Prop) : allP 0 f = True := rfl
@[go_sem] theorem allP_succ (n : Nat) (f : Nat → Prop) : allP (n + 1) f = (allP n f ∧ f n) := rfl
theorem allP_iff {n : Nat} {f : Nat → Prop} : allP n f ↔ ∀ i, i < n → f i := by
  induction n with
  | zero => simp [allP]
  | succ n ih =>
    simp only [allP, ih]
    exact ⟨fun ⟨h1, h2⟩ i hi => by rcases Nat.lt_succ_iff_lt_or_eq.1 hi with h | rfl; exact h1 i h; exact h2, fun h => ⟨fun i hi => h i (by omega), h n (by omega)⟩⟩
theorem allN_iff {n : Nat} {f : Nat → Bool} : allN n f = true ↔ ∀ i, i < n → f i = true := by
  induction n with
  | zero => simp [allN]
  | succ n ih =>
    simp only [allN, Bool.and_eq_true, ih]
    exact ⟨fun ⟨h1, h2⟩ i hi => by rcases Nat.lt_succ_iff_lt_or_eq.1 hi with h | rfl; exact h1 i h; exact h2, fun h => ⟨fun i hi => h i (by omega), h n (by omega)⟩⟩
def eqc : SV → SV → Bool
  | .int _ a, .int _ b => decide (a = b)
  | .bool a, .bool b => a == b
  | .str a, .str b => decide (a = b)
  | _, _ => false
@[go_sem] theorem eqc_int (k k' : IntKind) (a b : Int) : eqc (.int k a) (.int k' b) = decide (a = b) := rfl
@[go_sem] theorem eqc_bool (a b : Bool) : eqc (.bool a) (.bool b) = (a == b) := rfl
@[go_sem] theorem eqc_str (a b : ByteArray) : eqc (.str a) (.str b) = decide (a = b) := rfl
def fitC : TK → SV → SV → Prop
  | .int _, .int k _, .int k' _ => k = k'
  | .bool, .bool _, .bool _ => True
  | .str, .str _, .str _ => True
  | _, _, _ => False
@[go_sem] theorem fitC_int (k0 k k' : IntKind) (a b : Int) : fitC (.int k0) (.int k a) (.int k' b) = (k = k') := rfl
@[go_sem] theorem fitC_bool (a b : Bool) : fitC .bool (.bool a) (.bool b) = True := rfl
@[go_sem] theorem fitC_str (a b : ByteArray) : fitC .str (.str a) (.str b) = True := rfl
def fitT (ti : Nat → TI) : Nat → Nat → (Nat → SV) → (Nat → SV) → Nat → Prop
  | 0, _, _, _, _ => False
  | m + 1, t, F, G, off => match (ti t).k with
    | .arr n e => (0 < (ti e).sz ∧ (ti t).sz = n * (ti e).sz) ∧ allP n fun i => fitT ti m e F G (off + i * (ti e).sz)
    | .st fs => ∀ p ∈ fs, (0 < (ti p.2).sz ∧ p.1 + (ti p.2).sz ≤ (ti t).sz) ∧ fitT ti m p.2 F G (off + p.1)
    | k => fitC k (F off) (G off)
def eqT (ti : Nat → TI) : Nat → Nat → (Nat → SV) → (Nat → SV) → Nat → Bool
  | 0, _, _, _, _ => false
  | m + 1, t, F, G, off => match (ti t).k with
    | .arr n e => allN n fun i => eqT ti m e F G (off + i * (ti e).sz)
    | .st fs => fs.all fun p => eqT ti m p.2 F G (off + p.1)
    | _ => eqc (F off) (G off)
def fitK (ti : Nat → TI) (m sz : Nat) (F G : Nat → SV) (off : Nat) : TK → Prop
  | .arr n e => (0 < (ti e).sz ∧ sz = n * (ti e).sz) ∧ allP n fun i => fitT ti m e F G (off + i * (ti e).sz)
  | .st fs => ∀ p ∈ fs, (0 < (ti p.2).sz ∧ p.1 + (ti p.2).sz ≤ sz) ∧ fitT ti m p.2 F G (off + p.1)
  | k => fitC k (F off) (G off)
def eqK (ti : Nat → TI) (m : Nat) (F G : Nat → SV) (off : Nat) : TK → Bool
  | .arr n e => allN n fun i => eqT ti m e F G (off + i * (ti e).sz)
  | .st fs => fs.all fun p => eqT ti m p.2 F G (off + p.1)
  | _ => eqc (F off) (G off)
section
variable (ti : Nat → TI) (m sz : Nat) (F G : Nat → SV) (off : Nat)
@[go_sem] theorem fitT_succ (t : Nat) : fitT ti (m + 1) t F G off = fitK ti m (ti t).sz F G off (ti t).k := by
  simp only [fitT, fitK]
@[go_sem] theorem eqT_succ (t : Nat) : eqT ti (m + 1) t F G off = eqK ti m F G off (ti t).k := by
  simp only [eqT, eqK]
@[go_sem] theorem fitK_int (k : IntKind) : fitK ti m sz F G off (.int k) = fitC (.int k) (F off) (G off) := rfl
@[go_sem] theorem fitK_bool : fitK ti m sz F G off .bool = fitC .bool (F off) (G off) := rfl
@[go_sem] theorem fitK_str : fitK ti m sz F G off .str = fitC .str (F off) (G off) := rfl
@[go_sem] theorem fitK_arr (n e : Nat) : fitK ti m sz F G off (.arr n e) = ((0 < (ti e).sz ∧ sz = n * (ti e).sz) ∧ allP n fun i => fitT ti m e F G (off + i * (ti e).sz)) := rfl
def fitL (fs : List (Nat × Nat)) : Prop :=
  match fs with
  | [] => True
  | p :: fs => ((0 < (ti p.2).sz ∧ p.1 + (ti p.2).sz ≤ sz) ∧ fitT ti m p.2 F G (off + p.1)) ∧ fitL fs
@[go_sem] theorem fitL_nil : fitL ti m sz F G off [] = True := rfl
@[go_sem] theorem fitL_cons (a b : Nat) (fs : List (Nat × Nat)) : fitL ti m sz F G off ((a, b) :: fs) = (((0 < (ti b).sz ∧ a + (ti b).sz ≤ sz) ∧ fitT ti m b F G (off + a)) ∧ fitL ti m sz F G off fs) := rfl
@[go_sem] theorem fitK_st (fs : List (Nat × Nat)) : fitK ti m sz F G off (.st fs) = fitL ti m sz F G off fs := by
  simp only [fitK]
  induction fs with
  | nil => simp [fitL]
  | cons p fs ih => rw [fitL, ← ih]; simp
def eqL (fs : List (Nat × Nat)) : Bool :=
  match fs with
  | [] => true
  | p :: fs => eqT ti m p.2 F G (off + p.1) && eqL fs
@[go_sem] theorem eqL_nil : eqL ti m F G off [] = true := rfl
@[go_sem] theorem eqL_cons (a b : Nat) (fs : List (Nat × Nat)) : eqL ti m F G off ((a, b) :: fs) = (eqT ti m b F G (off + a) && eqL ti m F G off fs) := rfl
@[go_sem] theorem eqK_int (k : IntKind) : eqK ti m F G off (.int k) = eqc (F off) (G off) := rfl
@[go_sem] theorem eqK_bool : eqK ti m F G off .bool = eqc (F off) (G off) := rfl
@[go_sem] theorem eqK_str : eqK ti m F G off .str = eqc (F off) (G off) := rfl
@[go_sem] theorem eqK_arr (n e : Nat) : eqK ti m F G off (.arr n e) = allN n fun i => eqT ti m e F G (off + i * (ti e).sz) := rfl
@[go_sem] theorem eqK_st (fs : List (Nat × Nat)) : eqK ti m F G off (.st fs) = eqL ti m F G off fs := by
  simp only [eqK]
  induction fs with
  | nil => simp [eqL]
  | cons p fs ih => rw [eqL, ← ih]; simp
end
def eqVc (ti : Nat → TI) (t n m : Nat) (F G : Nat → SV) : Prop := (ti t).by_ % 2 = 1 ∧ n = (ti t).sz ∧ m = (ti t).sz ∧ (ti t).k.isAgg = true ∧ fitT ti 9 t F G 0
def eqV (ti : Nat → TI) (t : Nat) (op : BinOp) (n : Nat) (F : Nat → SV) (m : Nat) (G : Nat → SV) : PV :=
  match op with
  | .eql => ⟨eqVc ti t n m F G, .bool (eqT ti 9 t F G 0)⟩
  | .neq => ⟨eqVc ti t n m F G, .bool (!eqT ti 9 t F G 0)⟩
  | _ => .no
attribute [go_sem] TK.isAgg
@[go_sem] theorem eqVc_eq (ti : Nat → TI) (t n m : Nat) (F G : Nat → SV) : eqVc ti t n m F G = ((ti t).by_ % 2 = 1 ∧ n = (ti t).sz ∧ m = (ti t).sz ∧ (ti t).k.isAgg = true ∧ fitT ti 9 t F G 0) := rfl
@[go_sem] theorem eqV_eql (ti : Nat → TI) (t n m : Nat) (F G : Nat → SV) : eqV ti t .eql n F m G = ⟨eqVc ti t n m F G, .bool (eqT ti 9 t F G 0)⟩ := rfl
@[go_sem] theorem eqV_neq (ti : Nat → TI) (t n m : Nat) (F G : Nat → SV) : eqV ti t .neq n F m G = ⟨eqVc ti t n m F G, .bool (!eqT ti 9 t F G 0)⟩ := rfl
/-- A comparison with nil. -/
def nilV (op : BinOp) (b : Bool) (c : Prop) : PV :=
  match op with
  | .eql => ⟨c, .bool b⟩
  | .neq => ⟨c, .bool (!b)⟩
  | _ => .no
@[go_sem] theorem nilV_eql (b : Bool) (c : Prop) : nilV .eql b c = ⟨c, .bool b⟩ := rfl
@[go_sem] theorem nilV_neq (b : Bool) (c : Prop) : nilV .neq b c = ⟨c, .bool (!b)⟩ := rfl
def binV2 (ti : Nat → TI) (t : Nat) (op : BinOp) (u v : SV) : PV :=
  match u, v with
  | .agg n F, .agg m G => eqV ti t op n F m G
  | .sl _ _ _ _, .nils => nilV op false ((ti t).k.isSl = true)
  | .nils, .nils => nilV op true ((ti t).k.isSl = true)
  | .ptr _ _, .raw (.pointer none) => nilV op false ((ti t).k.isPtr = true ∧ (ti t).z 0 = .raw (.pointer none))
  | .raw (.pointer none), .raw (.pointer none) => nilV op true ((ti t).k.isPtr = true ∧ (ti t).z 0 = .raw (.pointer none))
  | u, v => binV (ti t) op u v
@[go_sem] theorem binV2_sl (ti : Nat → TI) (t : Nat) (op : BinOp) (i o l c : Nat) : binV2 ti t op (.sl i o l c) .nils = nilV op false ((ti t).k.isSl = true) := rfl
@[go_sem] theorem binV2_nils (ti : Nat → TI) (t : Nat) (op : BinOp) : binV2 ti t op .nils .nils = nilV op true ((ti t).k.isSl = true) := rfl
@[go_sem] theorem binV2_ptr (ti : Nat → TI) (t : Nat) (op : BinOp) (i o : Nat) : binV2 ti t op (.ptr i o) (.raw (.pointer none)) = nilV op false ((ti t).k.isPtr = true ∧ (ti t).z 0 = .raw (.pointer none)) := rfl
@[go_sem] theorem binV2_nilp (ti : Nat → TI) (t : Nat) (op : BinOp) : binV2 ti t op (.raw (.pointer none)) (.raw (.pointer none)) = nilV op true ((ti t).k.isPtr = true ∧ (ti t).z 0 = .raw (.pointer none)) := rfl
@[go_sem] theorem binV2_agg (ti : Nat → TI) (t : Nat) (op : BinOp) (n m : Nat) (F G : Nat → SV) : binV2 ti t op (.agg n F) (.agg m G) = eqV ti t op n F m G := rfl
@[go_sem] theorem binV2_int (ti : Nat → TI) (t : Nat) (op : BinOp) (k : IntKind) (a : Int) (v : SV) : binV2 ti t op (.int k a) v = binV (ti t) op (.int k a) v := rfl
@[go_sem] theorem binV2_bool (ti : Nat → TI) (t : Nat) (op : BinOp) (a : Bool) (v : SV) : binV2 ti t op (.bool a) v = binV (ti t) op (.bool a) v := rfl
@[go_sem] theorem binV2_str (ti : Nat → TI) (t : Nat) (op : BinOp) (a : ByteArray) (v : SV) : binV2 ti t op (.str a) v = binV (ti t) op (.str a) v := rfl

/-! ### Slices of slices, of strings, of arrays -/
def bnd (d : Nat) : Option SV → Option Int
  | none => some d
  | some (.int _ n) => some n
  | _ => none
@[go_sem] theorem bnd_none (d : Nat) : bnd d none = some (d : Int) := rfl
@[go_sem] theorem bnd_int (d : Nat) (k : IntKind) (n : Int) : bnd d (some (.int k n)) = some n := rfl
def cutV (i off sz cap : Nat) : Option Int → Option Int → PV
  | some lo, some hi => ⟨0 ≤ lo ∧ lo ≤ hi ∧ hi ≤ (cap : Int), .sl i (if (cap : Int) = lo then off else off + lo.toNat * sz) (hi.toNat - lo.toNat) (cap - lo.toNat)⟩
  | _, _ => .no
@[go_sem] theorem cutV_some (i off sz cap : Nat) (lo hi : Int) : cutV i off sz cap (some lo) (some hi) = ⟨0 ≤ lo ∧ lo ≤ hi ∧ hi ≤ (cap : Int), .sl i (if (cap : Int) = lo then off else off + lo.toNat * sz) (hi.toNat - lo.toNat) (cap - lo.toNat)⟩ := rfl
def cutS (s : ByteArray) : Option Int → Option Int → PV
  | some lo, some hi => ⟨0 ≤ lo ∧ lo ≤ hi ∧ hi ≤ (s.size : Int), .str (s.extract lo.toNat hi.toNat)⟩
  | _, _ => .no
@[go_sem] theorem cutS_some (s : ByteArray) (lo hi : Int) : cutS s (some lo) (some hi) = ⟨0 ≤ lo ∧ lo ≤ hi ∧ hi ≤ (s.size : Int), .str (s.extract lo.toNat hi.toNat)⟩ := rfl
def cutN : Option Int → Option Int → PV
  | some lo, some hi => ⟨lo = 0 ∧ hi = 0, .nils⟩
  | _, _ => .no
@[go_sem] theorem cutN_some (lo hi : Int) : cutN (some lo) (some hi) = ⟨lo = 0 ∧ hi = 0, .nils⟩ := rfl
def sliceV (ti : Nat → TI) (x : TI) (u : SV) (lo hi : Option SV) : PV :=
  match u, x.k with
  | .sl i off len cap, .sl e => ⟨(match (ti e).k with | .oth => False | _ => True) ∧ (cutV i off (ti e).sz cap (bnd 0 lo) (bnd len hi)).vc, (cutV i off (ti e).sz cap (bnd 0 lo) (bnd len hi)).v⟩
  | .ptr i o, .arr m e => ⟨(match (ti e).k with | .oth => False | _ => True) ∧ (cutV i o (ti e).sz m (bnd 0 lo) (bnd m hi)).vc, (cutV i o (ti e).sz m (bnd 0 lo) (bnd m hi)).v⟩
  | .nils, .sl e => ⟨(match (ti e).k with | .oth => False | _ => True) ∧ (cutN (bnd 0 lo) (bnd 0 hi)).vc, .nils⟩
  | .str s, .str => cutS s (bnd 0 lo) (bnd s.size hi)
  | _, _ => .no
@[go_sem] theorem sliceV_sl (ti : Nat → TI) (e s b : Nat) (z : Nat → SV) (i off len cap : Nat) (lo hi : Option SV) : sliceV ti ⟨.sl e, s, b, z⟩ (.sl i off len cap) lo hi =
    ⟨(match (ti e).k with | .oth => False | _ => True) ∧ (cutV i off (ti e).sz cap (bnd 0 lo) (bnd len hi)).vc, (cutV i off (ti e).sz cap (bnd 0 lo) (bnd len hi)).v⟩ := rfl
@[go_sem] theorem sliceV_arr (ti : Nat → TI) (m e s b : Nat) (z : Nat → SV) (i o : Nat) (lo hi : Option SV) : sliceV ti ⟨.arr m e, s, b, z⟩ (.ptr i o) lo hi =
    ⟨(match (ti e).k with | .oth => False | _ => True) ∧ (cutV i o (ti e).sz m (bnd 0 lo) (bnd m hi)).vc, (cutV i o (ti e).sz m (bnd 0 lo) (bnd m hi)).v⟩ := rfl
@[go_sem] theorem sliceV_nils (ti : Nat → TI) (e s b : Nat) (z : Nat → SV) (lo hi : Option SV) : sliceV ti ⟨.sl e, s, b, z⟩ .nils lo hi =
    ⟨(match (ti e).k with | .oth => False | _ => True) ∧ (cutN (bnd 0 lo) (bnd 0 hi)).vc, .nils⟩ := rfl
@[go_sem] theorem sliceV_str (ti : Nat → TI) (s b : Nat) (z : Nat → SV) (x : ByteArray) (lo hi : Option SV) : sliceV ti ⟨.str, s, b, z⟩ (.str x) lo hi = cutS x (bnd 0 lo) (bnd x.size hi) := rfl
def evo (l : List (Nat × SV)) : Option Operand → Option SV
  | none => none
  | some x => some (ev l x)
@[go_sem ↓] theorem evo_none (l : List (Nat × SV)) : evo l none = none := rfl
@[go_sem ↓] theorem evo_some (l : List (Nat × SV)) (x : Operand) : evo l (some x) = some (ev l x) := rfl
@[congr] theorem evo_congr (l : List (Nat × SV)) (x : Option Operand) : evo l x = evo l x := rfl

end Go.Proofs.YtfelopllfhcdpaaGreat.V
