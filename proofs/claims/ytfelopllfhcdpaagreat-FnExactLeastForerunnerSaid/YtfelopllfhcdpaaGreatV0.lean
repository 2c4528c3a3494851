/- A small symbolic calculus over the kit's rules for walks: symbolic values, segments of memory, what is kept. -/
import Derived.Laws.AppendOwn
import Derived.Deep.Quiet
import Derived.Below
import Derived.Tactics2
set_option linter.all false
namespace Go.Proofs.YtfelopllfhcdpaaGreat.V

inductive SV where
  | bad
  | int (k : IntKind) (n : Int)
  | bool (b : Bool)
  | str (s : ByteArray)
  | ptr (i : Nat) (off : Nat)
  | sl (i off len cap : Nat)
  | nils
  | agg (n : Nat) (F : Nat → SV)
  | tup (n : Nat) (F : Nat → SV)
  | fn (f : Nat) (m : Nat) (G : Nat → SV) (n : Nat) (F : Nat → SV)
  | raw (v : Value)

abbrev Rho := Nat → Nat × Nat

def arr (n : Nat) (F : Nat → Value) : Array Value := ((List.range n).map F).toArray

def den (ρ : Rho) : SV → Value
  | .bad => undef
  | .int k n => .int k n
  | .bool b => .bool b
  | .str s => .string s
  | .ptr i o => .pointer (some ⟨(ρ i).1, (ρ i).2 + o, none⟩)
  | .sl i o len cap => .slice (some ⟨(ρ i).1, (ρ i).2 + o, none⟩) len cap
  | .nils => .slice none 0 0
  | .agg n F => .agg (arr n fun j => den ρ (F j))
  | .tup n F => .tuple (arr n fun j => den ρ (F j))
  | .fn f m G n F => .func (.func f) (arr m fun j => den ρ (G j)) (arr n fun j => den ρ (F j))
  | .raw v => v

def SV.lt (m : Nat) : SV → Prop
  | .ptr i _ => i < m
  | .sl i _ _ _ => i < m
  | .agg n F => ∀ j, j < n → (F j).lt m
  | .tup n F => ∀ j, j < n → (F j).lt m
  | .fn _ k G n F => (∀ j, j < k → (G j).lt m) ∧ ∀ j, j < n → (F j).lt m
  | _ => True

@[simp] theorem arr_size (n : Nat) (F : Nat → Value) : (arr n F).size = n := by simp [arr]
theorem arr_get (n : Nat) (F : Nat → Value) (j : Nat) (h : j < n) : (arr n F)[j]? = some (F j) := by simp [arr, h]
theorem arr_get_none (n : Nat) (F : Nat → Value) (j : Nat) (h : n ≤ j) : (arr n F)[j]? = none := by simp [arr, h]
theorem arr_congr {n : Nat} {F G : Nat → Value} (h : ∀ j, j < n → F j = G j) : arr n F = arr n G := by
  unfold arr; congr 1; apply List.map_congr_left; intro j hj; exact h j (by simpa using hj)
theorem arr_ext {n : Nat} {F : Nat → Value} {a : Array Value} (hs : a.size = n) (h : ∀ j, j < n → a[j]? = some (F j)) : a = arr n F := by
  apply Array.ext_getElem?
  intro j
  by_cases hj : j < n
  · rw [h j hj, arr_get _ _ _ hj]
  · rw [arr_get_none _ _ _ (by omega)]; simp; omega

theorem den_congr {ρ ρ' : Rho} {m : Nat} (h : ∀ i, i < m → ρ i = ρ' i) : ∀ v : SV, v.lt m → den ρ v = den ρ' v
  | .bad, _ | .int .., _ | .bool _, _ | .str _, _ | .nils, _ | .raw _, _ => rfl
  | .ptr i o, hl => by simp only [den]; rw [h i hl]
  | .sl i o a b, hl => by simp only [den]; rw [h i hl]
  | .agg n F, hl => by simp only [den]; congr 1; exact arr_congr fun j hj => den_congr h (F j) (hl j hj)
  | .tup n F, hl => by simp only [den]; congr 1; exact arr_congr fun j hj => den_congr h (F j) (hl j hj)
  | .fn f m G n F, hl => by
    simp only [den]
    congr 1
    · exact arr_congr fun j hj => den_congr h (G j) (hl.1 j hj)
    · exact arr_congr fun j hj => den_congr h (F j) (hl.2 j hj)

theorem SV.lt_mono {m m' : Nat} (h : m ≤ m') : ∀ v : SV, v.lt m → v.lt m'
  | .bad, _ | .int .., _ | .bool _, _ | .str _, _ | .nils, _ | .raw _, _ => trivial
  | .ptr i o, hl => Nat.lt_of_lt_of_le hl h
  | .sl i o a b, hl => Nat.lt_of_lt_of_le hl h
  | .agg n F, hl => fun j hj => SV.lt_mono h (F j) (hl j hj)
  | .tup n F, hl => fun j hj => SV.lt_mono h (F j) (hl j hj)
  | .fn f m G n F, hl => ⟨fun j hj => SV.lt_mono h (G j) (hl.1 j hj), fun j hj => SV.lt_mono h (F j) (hl.2 j hj)⟩

/-- One cell: neither an aggregate nor a tuple. -/
def SV.one : SV → Prop
  | .agg .. | .tup .. => False
  | .raw v => v.oneCell' = true
  | .bad => False
  | _ => True
theorem den_one {ρ : Rho} : ∀ {v : SV}, v.one → (den ρ v).oneCell' = true
  | .int .., _ | .bool _, _ | .str _, _ | .nils, _ | .ptr .., _ | .sl .., _ | .fn .., _ => rfl
  | .raw v, h => h

/-! ### What is kept of a world: only writable places (W) of old blocks may have turned. -/
def ObjK (W : Nat → Prop) (x y : Option Obj) : Prop :=
  match x with
  | some (.cells c T fr) => ∃ c', y = some (.cells c' T fr) ∧ c'.size = c.size ∧ ∀ o, ¬ W o → c'[o]? = c[o]?
  | x => y = x

theorem ObjK.refl (W : Nat → Prop) (x : Option Obj) : ObjK W x x := by
  unfold ObjK; split
  · exact ⟨_, rfl, rfl, fun _ _ => rfl⟩
  · rfl
theorem ObjK.of_eq {W : Nat → Prop} {x y : Option Obj} (h : y = x) : ObjK W x y := h ▸ ObjK.refl W x
theorem ObjK.trans {W W' : Nat → Prop} {x y z : Option Obj} (h : ObjK W x y) (k : ObjK W' y z) (hW : ∀ o, W' o → W o) : ObjK W x z := by
  unfold ObjK at h
  split at h
  · obtain ⟨c', rfl, hs, hc⟩ := h
    simp only [ObjK] at k ⊢
    obtain ⟨c'', rfl, hs', hc'⟩ := k
    exact ⟨c'', rfl, hs'.trans hs, fun o ho => (hc' o (fun h => ho (hW o h))).trans (hc o ho)⟩
  · rename_i hx
    subst h
    unfold ObjK at k ⊢
    split
    · rename_i c T fr _; exact absurd rfl (hx _ _ _)
    · split at k
      · rename_i c T fr; exact absurd rfl (hx _ _ _)
      · exact k
theorem ObjK.eq {W : Nat → Prop} {x y : Option Obj} (h : ObjK W x y) (hW : ∀ o, ¬ W o) : y = x := by
  unfold ObjK at h
  split at h
  · obtain ⟨c', rfl, hs, hc⟩ := h
    have : c' = _ := Array.ext_getElem? fun o => hc o (hW o)
    rw [this]
  · exact h

structure Keeps (W : Nat → Nat → Prop) (w w' : World) : Prop where
  os : w'.os = w.os
  tape : w'.tape = w.tape
  output : w'.output = w.output
  size : w.heap.size ≤ w'.heap.size
  blk : ∀ b, b < w.heap.size → ObjK (W b) w.heap[b]? w'.heap[b]?

def Noth : Nat → Nat → Prop := fun _ _ => False

theorem Keeps.refl (W : Nat → Nat → Prop) (w : World) : Keeps W w w := ⟨rfl, rfl, rfl, Nat.le_refl _, fun _ _ => ObjK.refl _ _⟩
theorem Keeps.trans {W W' : Nat → Nat → Prop} {a b c : World} (h : Keeps W a b) (k : Keeps W' b c) (hW : ∀ x o, x < a.heap.size → W' x o → W x o) : Keeps W a c :=
  ⟨k.os.trans h.os, k.tape.trans h.tape, k.output.trans h.output, Nat.le_trans h.size k.size,
   fun x hx => (h.blk x hx).trans (k.blk x (Nat.lt_of_lt_of_le hx h.size)) (fun o => hW x o hx)⟩
theorem Keeps.then {W : Nat → Nat → Prop} {a b c : World} (h : Keeps W a b) (k : Keeps Noth b c) : Keeps W a c := h.trans k (fun _ _ _ h => h.elim)
theorem Keeps.mono {W W' : Nat → Nat → Prop} {a b : World} (h : Keeps W a b) (hW : ∀ x o, x < a.heap.size → W x o → W' x o) : Keeps W' a b :=
  (Keeps.refl W' a).trans h hW
theorem Keeps.of_below {w w' : World} (h : Go.RowKit.Below w.heap.size w w') : Keeps Noth w w' :=
  ⟨h.os, h.tape, h.output, h.size, fun b hb => ObjK.of_eq (h.block b hb)⟩
theorem Keeps.of_grownBy {w w' : World} (h : w.grownBy w' none) : Keeps Noth w w' :=
  ⟨h.os, h.tape, h.output, h.size, fun b hb => ObjK.of_eq (h.block b hb (by simp))⟩
theorem Keeps.drew (w : World) : Keeps Noth w w.drew := ⟨rfl, rfl, rfl, Nat.le_refl _, fun _ _ => ObjK.refl _ _⟩
theorem Keeps.draw (w : World) : Keeps Noth w { w with drawn := w.drawn + 1 } := ⟨rfl, rfl, rfl, Nat.le_refl _, fun _ _ => ObjK.refl _ _⟩
theorem Keeps.alloc (w : World) (o : Obj) : Keeps Noth w (w.alloc o) :=
  ⟨rfl, rfl, rfl, by simp, fun b hb => ObjK.of_eq (Go.RowKit.Below.heap_alloc w o b hb)⟩
theorem Keeps.block {W : Nat → Nat → Prop} {w w' : World} (h : Keeps W w w') {b : Nat} (hb : b < w.heap.size) (hW : ∀ o, ¬ W b o) : w'.heap[b]? = w.heap[b]? :=
  (h.blk b hb).eq hW
theorem Keeps.noth {w w' : World} (h : Keeps Noth w w') {b : Nat} (hb : b < w.heap.size) : w'.heap[b]? = w.heap[b]? := h.block hb (fun _ h => h)
theorem Keeps.below {w w' : World} (h : Keeps Noth w w') : Go.RowKit.Below w.heap.size w w' :=
  ⟨h.os, h.tape, h.output, h.size, fun b hb => h.noth hb⟩
theorem Keeps.cell {W : Nat → Nat → Prop} {w w' : World} (h : Keeps W w w') {b o : Nat} (hb : b < w.heap.size) (hW : ¬ W b o) : w'.cell? ⟨b, o, none⟩ = w.cell? ⟨b, o, none⟩ := by
  have hk := h.blk b hb
  unfold World.cell?
  unfold ObjK at hk
  split at hk
  · rename_i c T fr hc
    obtain ⟨c', hc', _, hcell⟩ := hk
    simp only [hc, hc']
    simpa using hcell o hW
  · rw [hk]
theorem Keeps.frozen {W : Nat → Nat → Prop} {w w' : World} (h : Keeps W w w') {b o : Nat} (hb : b < w.heap.size) : w'.frozen? ⟨b, o, none⟩ = w.frozen? ⟨b, o, none⟩ := by
  have hk := h.blk b hb
  unfold World.frozen?
  unfold ObjK at hk
  split at hk
  · rename_i c T fr hc
    obtain ⟨c', hc', _, _⟩ := hk
    simp only [hc, hc']
  · rw [hk]
theorem Keeps.setCell (w : World) (b o : Nat) (v : Value) : Keeps (fun x y => x = b ∧ y = o) w (w.setCell ⟨b, o, none⟩ v) := by
  refine ⟨rfl, rfl, rfl, by simp, fun x hx => ?_⟩
  by_cases hxb : x = b
  · subst hxb
    cases hc : w.heap[x]? with
    | none => simp [World.setCell, Array.getElem?_modify, hc, ObjK]
    | some ob =>
      cases ob <;> simp [World.setCell, Array.getElem?_modify, hc, ObjK]
      intro j hj
      rw [Array.getElem?_setIfInBounds, if_neg (fun h => hj h.symm)]
  · exact ObjK.of_eq (Go.RowKit.Below.heap_setCell w _ v x hxb)

/-! ### Segments -/
structure Seg where
  n : Nat
  c : Nat → SV
  rw : Bool
  own : Option (Nat × Nat)

def hget : List (Nat × Seg) → Nat → Option Seg
  | [], _ => none
  | (j, s) :: h, i => if j = i then some s else hget h i
def hdel : List (Nat × Seg) → Nat → List (Nat × Seg)
  | [], _ => []
  | (j, s) :: h, i => if j = i then hdel h i else (j, s) :: hdel h i
def hset : List (Nat × Seg) → Nat → Seg → List (Nat × Seg)
  | [], _, _ => []
  | (j, s) :: h, i, t => if j = i then (j, t) :: h else (j, s) :: hset h i t
def look : List (Nat × SV) → Nat → Option SV
  | [], _ => none
  | (j, v) :: l, i => if j = i then some v else look l i

theorem hget_hset {h : List (Nat × Seg)} {i j : Nat} {t : Seg} : hget (hset h i t) j = if i = j then (hget h i).map (fun _ => t) else hget h j := by
  induction h with
  | nil => simp [hget, hset]
  | cons p h ih =>
    obtain ⟨k, s⟩ := p
    simp only [hset]
    by_cases hk : k = i
    · subst hk
      simp only [↓reduceIte, hget]
      by_cases hj : k = j <;> simp [hj]
    · simp only [if_neg hk, hget]
      by_cases hj : k = j
      · subst hj; simp [Ne.symm hk]
      · simp only [if_neg hj, ih]
theorem hget_hdel {h : List (Nat × Seg)} {i j : Nat} : hget (hdel h i) j = if i = j then none else hget h j := by
  induction h with
  | nil => simp [hget, hdel]
  | cons p h ih =>
    obtain ⟨k, s⟩ := p
    simp only [hdel]
    by_cases hk : k = i
    · subst hk
      simp only [↓reduceIte, hget, ih]
      by_cases hj : k = j <;> simp [hj]
    · simp only [if_neg hk, hget, ih]
      by_cases hj : k = j
      · subst hj; simp [Ne.symm hk]
      · simp only [if_neg hj]

/-- What a segment of our own tells of its block: cells; or, by marks beyond the types, the library's iterator over a string, or a map of cells. -/
def enS : List UInt8 → Nat
  | [] => 0
  | b :: l => enS l * 257 + (b.toNat + 1)
def dig (m c : Nat) : Nat := m / 256 ^ c % 256
def mval (k d : Nat) : Value := if k = 0 then .bool true else .int .i64 ((d : Int) - 1)
def keyV (x y : Nat) : Value := .agg #[.int .i8 x, .int .i8 y]
def MapObj (k m : Nat) (ob : Option Obj) : Prop := ∃ (es : Array MapEntry) (clock : Nat), ob = some (.map es clock) ∧ (∀ e ∈ es.toList, ∃ x y : Nat, x < 8 ∧ y < 8 ∧ e.key = keyV x y ∧ dig m (y * 8 + x) ≠ 0 ∧ e.val = mval k (dig m (y * 8 + x))) ∧
  ∀ x y : Nat, x < 8 → y < 8 → dig m (y * 8 + x) ≠ 0 → ∃ e ∈ es.toList, e.key = keyV x y
def OwnB (T m b : Nat) (ob : Option Obj) : Prop :=
  if T < 1000000 then ∃ a, ob = some (.cells a T (0, 0)) ∧ a.size = m
  else if (T - 1000000) % 3 = 0 then ∃ s : ByteArray, m = enS s.data.toList ∧ ob = some (.stringIter s ((T - 1000000) / 3))
  else (T - 1000000) / 3 = b ∧ MapObj ((T - 1000000) % 3 - 1) m ob
theorem OwnB.cells {T m b : Nat} {ob : Option Obj} (h : OwnB T m b ob) (hT : T < 1000000) : ∃ a, ob = some (.cells a T (0, 0)) ∧ a.size = m := by
  unfold OwnB at h; rwa [if_pos hT] at h
theorem OwnB.of {T b : Nat} {a : Array Value} {ob : Option Obj} (hT : T < 1000000) (h : ob = some (.cells a T (0, 0))) : OwnB T a.size b ob := by
  unfold OwnB; rw [if_pos hT]; exact ⟨a, h, rfl⟩

/-- The frame that a walk keeps: the world in which the call began, and which old places it may write. -/
structure Cx where
  w0 : World
  W : Nat → Nat → Prop
  nt : Nat
  n0 : Nat

structure SegOK (cx : Cx) (ρ : Rho) (i : Nat) (s : Seg) (w : World) : Prop where
  blk : (ρ i).1 < w.heap.size
  cells : ∀ j, j < s.n → w.cell? ⟨(ρ i).1, (ρ i).2 + j, none⟩ = some (den ρ (s.c j))
  rwf : s.rw = true → ∀ j, j < s.n → w.frozen? ⟨(ρ i).1, (ρ i).2 + j, none⟩ = false ∧ ((ρ i).1 < cx.w0.heap.size → cx.W (ρ i).1 ((ρ i).2 + j))
  own : ∀ T m, s.own = some (T, m) → (ρ i).2 = 0 ∧ cx.w0.heap.size ≤ (ρ i).1 ∧ OwnB T m (ρ i).1 w.heap[(ρ i).1]?

theorem SegOK.ownC {cx : Cx} {ρ : Rho} {i : Nat} {s : Seg} {w : World} (h : SegOK cx ρ i s w) {T m : Nat} (hm : s.own = some (T, m)) (hT : T < 1000000) : (ρ i).2 = 0 ∧ cx.w0.heap.size ≤ (ρ i).1 ∧ ∃ a, w.heap[(ρ i).1]? = some (.cells a T (0, 0)) ∧ a.size = m :=
  let ⟨h0, h1, h2⟩ := h.own T m hm
  ⟨h0, h1, h2.cells hT⟩
def apart (ρ : Rho) (i : Nat) (s : Seg) (j : Nat) (t : Seg) : Prop :=
  (ρ i).1 ≠ (ρ j).1 ∨ (s.own = none ∧ t.own = none ∧ ((ρ i).2 + s.n ≤ (ρ j).2 ∨ (ρ j).2 + t.n ≤ (ρ i).2))
theorem apart.symm {ρ : Rho} {i j : Nat} {s t : Seg} (h : apart ρ i s j t) : apart ρ j t i s := by
  rcases h with h | ⟨a, b, c⟩
  · exact .inl (Ne.symm h)
  · exact .inr ⟨b, a, c.symm⟩

structure SatH (cx : Cx) (ρ : Rho) (h : List (Nat × Seg)) (n : Nat) (w : World) : Prop where
  keeps : Keeps cx.W cx.w0 w
  seg : ∀ i s, hget h i = some s → SegOK cx ρ i s w
  dis : ∀ i j s t, i ≠ j → hget h i = some s → hget h j = some t → (s.rw = true ∨ s.own.isSome = true) → apart ρ i s j t
  lt : ∀ i s, hget h i = some s → i < n ∧ ∀ k, k < s.n → (s.c k).lt n

structure SatT (cx : Cx) (ρ : Rho) (l : List (Nat × SV)) (n : Nat) (a : Act) : Prop where
  sz : a.tmps.size = cx.nt
  val : ∀ t v, look l t = some v → v ≠ .bad → a.tmps.getD t undef = den ρ v ∧ v.lt n
  dfr : a.defers = []

theorem SegOK.keep {cx : Cx} {ρ : Rho} {i : Nat} {s : Seg} {w w' : World} (h : SegOK cx ρ i s w) {W : Nat → Nat → Prop} (k : Keeps W w w')
    (hW : ∀ j, j < s.n → ¬ W (ρ i).1 ((ρ i).2 + j)) (hown : s.own.isSome = true → ∀ o, ¬ W (ρ i).1 o) : SegOK cx ρ i s w' where
  blk := Nat.lt_of_lt_of_le h.blk k.size
  cells := fun j hj => (k.cell h.blk (hW j hj)).trans (h.cells j hj)
  rwf := fun hr j hj => ⟨(k.frozen h.blk).trans (h.rwf hr j hj).1, (h.rwf hr j hj).2⟩
  own := fun T m hm => by
    obtain ⟨h0, h1, ho⟩ := h.own T m hm
    exact ⟨h0, h1, by rw [k.block h.blk (hown (by simp [hm]))]; exact ho⟩

theorem SatH.keep {cx : Cx} {ρ : Rho} {h : List (Nat × Seg)} {n : Nat} {w w' : World} (s : SatH cx ρ h n w) (k : Keeps Noth w w') : SatH cx ρ h n w' where
  keeps := s.keeps.then k
  seg := fun i t hi => (s.seg i t hi).keep k (fun _ _ h => h) (fun _ _ h => h)
  dis := s.dis
  lt := s.lt

theorem SegOK.rho {cx : Cx} {ρ ρ' : Rho} {n i : Nat} {s : Seg} {w : World} (h : SegOK cx ρ i s w) (hr : ∀ i, i < n → ρ i = ρ' i) (hi : i < n) (hl : ∀ k, k < s.n → (s.c k).lt n) : SegOK cx ρ' i s w where
  blk := by rw [← hr i hi]; exact h.blk
  cells := fun j hj => by rw [← hr i hi, ← den_congr hr _ (hl j hj)]; exact h.cells j hj
  rwf := fun h1 j hj => by rw [← hr i hi]; exact h.rwf h1 j hj
  own := fun T m hm => by rw [← hr i hi]; exact h.own T m hm

theorem SatH.rho {cx : Cx} {ρ ρ' : Rho} {h : List (Nat × Seg)} {n : Nat} {w : World} (s : SatH cx ρ h n w) (hr : ∀ i, i < n → ρ i = ρ' i) : SatH cx ρ' h n w where
  keeps := s.keeps
  seg := fun i t hi => (s.seg i t hi).rho hr (s.lt i t hi).1 (s.lt i t hi).2
  dis := fun i j a b hij ha hb hw => by
    have := s.dis i j a b hij ha hb hw
    unfold apart at *
    rwa [← hr i (s.lt i a ha).1, ← hr j (s.lt j b hb).1]
  lt := s.lt
theorem SatT.rho {cx : Cx} {ρ ρ' : Rho} {l : List (Nat × SV)} {n : Nat} {a : Act} (s : SatT cx ρ l n a) (hr : ∀ i, i < n → ρ i = ρ' i) : SatT cx ρ' l n a where
  sz := s.sz
  val := fun t v ht hv => by
    obtain ⟨h2, h3⟩ := s.val t v ht hv
    exact ⟨by rw [h2]; exact den_congr hr v h3, h3⟩
  dfr := s.dfr
theorem SatT.mono {cx : Cx} {ρ : Rho} {l : List (Nat × SV)} {n n' : Nat} {a : Act} (s : SatT cx ρ l n a) (h : n ≤ n') : SatT cx ρ l n' a where
  sz := s.sz
  val := fun t v ht hv => let ⟨h2, h3⟩ := s.val t v ht hv; ⟨h2, SV.lt_mono h v h3⟩
  dfr := s.dfr

def put (l : List (Nat × SV)) (d : Option Nat) (v : SV) : List (Nat × SV) :=
  match d with
  | some t => (t, v) :: l
  | none => l
theorem SatT.put {cx : Cx} {ρ : Rho} {l : List (Nat × SV)} {n : Nat} {a : Act} (s : SatT cx ρ l n a) (d : Option Nat) (v : SV) (hv : v.lt n) (hd : ∀ t, d = some t → t < cx.nt) :
    SatT cx ρ (put l d v) n (a.put d (den ρ v)) := by
  cases d with
  | none => exact s
  | some t =>
    refine ⟨by simpa [Act.put] using s.sz, fun t' v' ht' hb => ?_, s.dfr⟩
    simp only [V.put, look] at ht'
    by_cases h : t = t'
    · subst h
      simp at ht'
      subst ht'
      have := hd t rfl
      rw [← s.sz] at this
      exact ⟨by simp [Act.put, this], hv⟩
    · rw [if_neg h] at ht'
      obtain ⟨h2, h3⟩ := s.val t' v' ht' hb
      refine ⟨?_, h3⟩
      rw [← h2]
      simp [Act.put, Array.getElem?_setIfInBounds, h]

/-- Block b of new cells. -/
theorem SatH.new {cx : Cx} {ρ : Rho} {h : List (Nat × Seg)} {n : Nat} {w : World} (s : SatH cx ρ h n w) (T : Nat) (m : Nat) (c : Nat → SV) (a : Array Value) (k : Nat) (hk : k ≤ m)
    (ha : a.size = m) (hc : ∀ j, j < k → a[j]? = some (den ρ (c j))) (hl : ∀ j, j < k → (c j).lt n) (own : Bool) (hT : own = true → T < 1000000) :
    ∃ ρ', (∀ i, i < n → ρ i = ρ' i) ∧ ρ' n = (w.heap.size, 0) ∧ SatH cx ρ' ((n, ⟨k, c, true, if own then some (T, m) else none⟩) :: h) (n + 1) (w.alloc (.cells a T)) := by
  refine ⟨fun i => if i = n then (w.heap.size, 0) else ρ i, fun i hi => by simp [Nat.ne_of_lt hi], by simp, ?_⟩
  generalize hρ : (fun i => if i = n then (w.heap.size, 0) else ρ i) = ρ'
  have hr : ∀ i, i < n → ρ i = ρ' i := fun i hi => by rw [← hρ]; simp [Nat.ne_of_lt hi]
  have hn : ρ' n = (w.heap.size, 0) := by rw [← hρ]; simp
  have s2 := (s.keep (Keeps.alloc w (.cells a T))).rho hr
  have hnew : SegOK cx ρ' n ⟨k, c, true, if own then some (T, m) else none⟩ (w.alloc (.cells a T)) := by
    refine ⟨by rw [hn]; simp, fun j hj => ?_, fun _ j hj => ?_, fun T' m' hm => ?_⟩
    · rw [hn]
      simp only [Nat.zero_add, World.cell?_alloc_new]
      rw [hc j hj, den_congr hr _ (hl j hj)]
    · rw [hn]
      refine ⟨by simp, fun hlt => ?_⟩
      have := s.keeps.size
      simp at hlt
      omega
    · rw [hn]
      refine ⟨rfl, s.keeps.size, ?_⟩
      cases own <;> simp at hm
      obtain ⟨rfl, rfl⟩ := hm
      subst ha
      exact OwnB.of (hT rfl) (Go.heap_alloc_new w _)
  have hblk : ∀ i t, hget h i = some t → (ρ' i).1 ≠ w.heap.size := fun i t hi => by
    rw [← hr i (s.lt i t hi).1]
    exact Nat.ne_of_lt (s.seg i t hi).blk
  refine ⟨s2.keeps, fun i t hi => ?_, fun i j x y hij hx hy hw => ?_, fun i t hi => ?_⟩
  · simp only [hget] at hi
    by_cases h1 : n = i
    · subst h1; simp at hi; subst hi; exact hnew
    · rw [if_neg h1] at hi; exact s2.seg i t hi
  · simp only [hget] at hx hy
    by_cases h1 : n = i
    · subst h1
      rw [if_neg hij] at hy
      exact .inl (by rw [hn]; exact Ne.symm (hblk j y hy))
    · rw [if_neg h1] at hx
      by_cases h2 : n = j
      · subst h2
        exact .inl (by rw [hn]; exact hblk i x hx)
      · rw [if_neg h2] at hy
        exact s2.dis i j x y hij hx hy hw
  · simp only [hget] at hi
    by_cases h1 : n = i
    · subst h1; simp at hi; subst hi
      exact ⟨by omega, fun j hj => SV.lt_mono (by omega) _ (hl j hj)⟩
    · rw [if_neg h1] at hi
      exact ⟨by have := (s.lt i t hi).1; omega, fun j hj => SV.lt_mono (by omega) _ ((s.lt i t hi).2 j hj)⟩

/-- One cell of a writable segment is written. -/
def upd (c : Nat → SV) (o : Nat) (v : SV) : Nat → SV := fun j => if j = o then v else c j
theorem SatH.set1 {cx : Cx} {ρ : Rho} {h : List (Nat × Seg)} {n : Nat} {w : World} (s : SatH cx ρ h n w) {i : Nat} {t : Seg} (hi : hget h i = some t) (hrw : t.rw = true) {o : Nat} (ho : o < t.n)
    {v : SV} (hv : v.lt n) :
    w.cell? ⟨(ρ i).1, (ρ i).2 + o, none⟩ = some (den ρ (t.c o)) ∧ w.frozen? ⟨(ρ i).1, (ρ i).2 + o, none⟩ = false ∧
    SatH cx ρ (hset h i { t with c := upd t.c o v }) n (w.setCell ⟨(ρ i).1, (ρ i).2 + o, none⟩ (den ρ v)) := by
  have hseg := s.seg i t hi
  have hcell := hseg.cells o ho
  have hk := Keeps.setCell w (ρ i).1 ((ρ i).2 + o) (den ρ v)
  refine ⟨hcell, (hseg.rwf hrw o ho).1, ?_⟩
  refine ⟨s.keeps.trans hk (fun x y hx hxy => ?_), fun j u hj => ?_, fun j k x y hjk hx hy hw => ?_, fun j u hj => ?_⟩
  · obtain ⟨rfl, rfl⟩ := hxy
    exact (hseg.rwf hrw o ho).2 hx
  · rw [hget_hset] at hj
    by_cases hij : i = j
    · subst hij
      simp [hi] at hj
      subst hj
      refine ⟨Nat.lt_of_lt_of_le hseg.blk hk.size, fun j hj => ?_, fun hr j hj => ?_, fun T m hm => ?_⟩
      · by_cases hjo : j = o
        · subst hjo
          simp only [upd, if_true]
          exact World.cell?_setCell_same w _ _ hcell
        · simp only [upd, if_neg hjo]
          rw [World.cell?_setCell_other w _ _ _ (by simp; omega)]
          exact hseg.cells j hj
      · refine ⟨?_, (hseg.rwf hr j hj).2⟩
        rw [World.frozen?_setCell]
        exact (hseg.rwf hr j hj).1
      · obtain ⟨h0, h1, ho⟩ := hseg.own T m hm
        refine ⟨h0, h1, ?_⟩
        unfold OwnB at ho ⊢
        by_cases hT : T < 1000000
        · rw [if_pos hT] at ho ⊢
          obtain ⟨a, ha, hs⟩ := ho
          exact ⟨_, Go.heap_setCell_same w _ _ a T _ ha, by simpa using hs⟩
        · exfalso
          rw [if_neg hT] at ho
          split at ho
          · obtain ⟨_, _, hob⟩ := ho
            simp [World.cell?, hob] at hcell
          · obtain ⟨_, es, clock, hob, _⟩ := ho
            simp [World.cell?, hob] at hcell
    · rw [if_neg hij] at hj
      have hap := s.dis i j t u hij hi hj (.inl hrw)
      refine (s.seg j u hj).keep hk (fun q hq hc => ?_) (fun hown q hc => ?_)
      · rcases hap with hap | ⟨_, _, hap⟩
        · exact hap hc.1.symm
        · omega
      · rcases hap with hap | ⟨_, hap, _⟩
        · exact hap hc.1.symm
        · simp [hap] at hown
  · rw [hget_hset] at hx hy
    have fix : ∀ (z : Nat) (q : Seg), (if i = z then (hget h i).map (fun _ => { t with c := upd t.c o v }) else hget h z) = some q → ∃ q', hget h z = some q' ∧ q'.n = q.n ∧ q'.rw = q.rw ∧ q'.own = q.own := by
      intro z q hq
      by_cases hz : i = z
      · subst hz; simp [hi] at hq; subst hq; exact ⟨t, hi, rfl, rfl, rfl⟩
      · rw [if_neg hz] at hq; exact ⟨q, hq, rfl, rfl, rfl⟩
    obtain ⟨x', hx', e1, e2, e3⟩ := fix j x hx
    obtain ⟨y', hy', f1, f2, f3⟩ := fix k y hy
    have := s.dis j k x' y' hjk hx' hy' (by rw [e2, e3]; exact hw)
    unfold apart at *
    rwa [e1, e3, f1, f3] at this
  · rw [hget_hset] at hj
    by_cases hij : i = j
    · subst hij
      simp [hi] at hj
      subst hj
      refine ⟨(s.lt i t hi).1, fun k hk => ?_⟩
      simp only [upd]
      split
      · exact hv
      · exact (s.lt i t hi).2 k hk
    · rw [if_neg hij] at hj
      exact s.lt j u hj

/-- Entries may be forgotten. -/
theorem SatH.weaken {cx : Cx} {ρ : Rho} {h h' : List (Nat × Seg)} {n : Nat} {w : World} (s : SatH cx ρ h n w) (hs : ∀ i t, hget h' i = some t → hget h i = some t) : SatH cx ρ h' n w where
  keeps := s.keeps
  seg := fun i t hi => s.seg i t (hs i t hi)
  dis := fun i j x y hij hx hy => s.dis i j x y hij (hs i x hx) (hs j y hy)
  lt := fun i t hi => s.lt i t (hs i t hi)

end Go.Proofs.YtfelopllfhcdpaaGreat.V
