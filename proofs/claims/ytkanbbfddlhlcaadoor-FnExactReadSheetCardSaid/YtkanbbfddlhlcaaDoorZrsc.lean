/- Part 3 of the texts that this proof stands on: a symbolic walk over the program, what its functions and the reference's do, plain laws. -/
import Derived.Test.YtkanbbfddlhlcaaDoorZrsa
import Derived.Test.YtkanbbfddlhlcaaDoorV17
import Derived.Sort.Walk13a
import Derived.Test.YtkanbbfddlhlcaaDoorZrsb
set_option linter.all false

/- Comparing spots; the library's small functions. -/
namespace Go.Proofs.YtkanbbfddlhlcaaDoor.V
section
variable (cx : Cx) (h : List (Nat × Seg)) (n : Nat)
end
end Go.Proofs.YtkanbbfddlhlcaaDoor.V

/- The library's insertion sort over spots. -/
namespace Go.Proofs.YtkanbbfddlhlcaaDoor.V
open Go.Sort (swp insInner insOuter insertionSort)

/-- A function that compares spots. -/
def Cmps (cx : Cx) (h : List (Nat × Seg)) (n i f p q : Nat) (G F : Nat → SV) (cI : Int × Int → Int × Int → Int) : Prop :=
  ∀ (a b : Int × Int) nt n0 h' n', n ≤ n' → HBut i n h h' → CallQ Tryd.prog ⟨cx.w0, cx.W, nt, n0⟩ f (lst p G ++ [spot a.1 a.2, spot b.1 b.2] ++ lst q F) h' n' (.int .i64 (cI a b))
section
variable (cx : Cx) (h : List (Nat × Seg)) (n : Nat)
end
end Go.Proofs.YtkanbbfddlhlcaaDoor.V

/- Sets of few cells: the program's own walk. -/
namespace Go.Proofs.YtkanbbfddlhlcaaDoor.V
theorem srtS_nodup {L : List (Int × Int)} (h : L.Nodup) : (srtS L).Pairwise fun a b => ltSp a b = true := by
  have h1 := srtS_sorted L
  have h2 : (srtS L).Nodup := (srtS_perm L).nodup_iff.2 h
  refine (h1.and h2).imp fun {a b} ⟨h3, h4⟩ => ?_
  cases hlt : ltSp a b with
  | true => rfl
  | false => exact absurd (ltSp_tri hlt h3) h4
section
variable (cx : Cx) (h : List (Nat × Seg)) (n : Nat)
end
end Go.Proofs.YtkanbbfddlhlcaaDoor.V

/- The cells to which one can go. -/
namespace Go.Proofs.YtkanbbfddlhlcaaDoor.V
def addB (is : Int → Int → Bool) (out : List (Int × Int)) (q : Int × Int) : List (Int × Int) := if is q.1 q.2 = true ∧ q ∉ out then out ++ [q] else out
theorem addB_new {is : Int → Int → Bool} {out : List (Int × Int)} {q : Int × Int} (h1 : is q.1 q.2 = true) (h2 : q ∉ out) : addB is out q = out ++ [q] := if_pos ⟨h1, h2⟩
theorem addB_old {is : Int → Int → Bool} {out : List (Int × Int)} {q : Int × Int} (h : ¬ (is q.1 q.2 = true ∧ q ∉ out)) : addB is out q = out := if_neg h
/-- What is kept: cells of the sheet, each one once. -/
structure BOk (out : List (Int × Int)) : Prop where
  nd : out.Nodup
  in8 : In8s out
theorem BOk.len {out : List (Int × Int)} (h : BOk out) : out.length ≤ 64 := by
  have h1 : Strict (setL out) := setL_strict out
  have h2 := strict_len h1 h.in8.setL
  have h3 : setL out = srtS out := setL_eq (srtS_nodup h.nd) fun a => (srtS_perm out).mem_iff
  rw [h3] at h2
  exact Nat.le_trans (Nat.le_of_eq (srtS_perm out).length_eq.symm) h2
theorem BOk.add {is : Int → Int → Bool} (his : ∀ x y, is x y = true → In8 (x, y)) {out : List (Int × Int)} (h : BOk out) (q : Int × Int) : BOk (addB is out q) := by
  by_cases hq : is q.1 q.2 = true ∧ q ∉ out
  · rw [addB_new hq.1 hq.2]
    refine ⟨List.nodup_append.2 ⟨h.nd, by simp, fun a ha b hb => ?_⟩, fun p hp => ?_⟩
    · rw [List.mem_singleton] at hb; subst hb; exact fun e => hq.2 (e ▸ ha)
    · rcases List.mem_append.1 hp with hp | hp
      · exact h.in8 p hp
      · rw [List.mem_singleton] at hp; subst hp; exact his _ _ hq.1
  · rw [addB_old hq]; exact h
theorem BOk.one {p : Int × Int} (h : In8 p) : BOk [p] := ⟨by simp, fun q hq => by rw [List.mem_singleton] at hq; subst hq; exact h⟩
end Go.Proofs.YtkanbbfddlhlcaaDoor.V

/- The library's heap sort over spots. -/
namespace Go.Proofs.YtkanbbfddlhlcaaDoor.V
open Go.Sort (swp siftDown heapBuild heapPop heapSort)
section
variable (cx : Cx) (h : List (Nat × Seg)) (n : Nat)
end
end Go.Proofs.YtkanbbfddlhlcaaDoor.V

/- The library's heap sort over spots. -/
namespace Go.Proofs.YtkanbbfddlhlcaaDoor.V
open Go.Sort (swp siftDown heapBuild heapPop heapSort)
section
variable (cx : Cx) (h : List (Nat × Seg)) (n : Nat)
theorem Cmps.set {cx : Cx} {h : List (Nat × Seg)} {n i f p q : Nat} {G F : Nat → SV} {cI : Int × Int → Int × Int → Int} (hcmp : Cmps cx h n i f p q G F cI) (t : Seg) : Cmps cx (hset h i t) n i f p q G F cI :=
  fun a b nt n0 h' n' hn hb => hcmp a b nt n0 h' n' hn fun j hj hji u hu => hb j hj hji u (by rw [hget_hset, if_neg (Ne.symm hji)]; exact hu)
theorem Cmps.nt {cx : Cx} {h : List (Nat × Seg)} {n i f p q : Nat} {G F : Nat → SV} {cI : Int × Int → Int × Int → Int} (hcmp : Cmps cx h n i f p q G F cI) (t m : Nat) : Cmps ⟨cx.w0, cx.W, t, m⟩ h n i f p q G F cI :=
  fun a b nt n0 h' n' hn hb => hcmp a b nt n0 h' n' hn hb
end
end Go.Proofs.YtkanbbfddlhlcaaDoor.V

/- The law's spots, and lists of spots that are alike. -/
namespace Go.Proofs.YtkanbbfddlhlcaaDoor.V
section
variable (cx : Cx) (h : List (Nat × Seg)) (n : Nat)
end
end Go.Proofs.YtkanbbfddlhlcaaDoor.V

/- The law's lists of spots that were made: compared, marked, looked at again. -/
namespace Go.Proofs.YtkanbbfddlhlcaaDoor.V
/-- A list of spots that a call has made. -/
def SpsOut (h : List (Nat × Seg)) (lo n : Nat) (V : SV) (L : List (Int × Int)) : Prop :=
  (V = .nils ∧ L = []) ∨ ∃ i cap s, V = .sl i 0 L.length cap ∧ lo ≤ i ∧ i < n ∧ hget h i = some s ∧ s.rw = true ∧ s.n = L.length * 2 ∧ ∀ k, k < L.length * 2 → s.c k = spotsC L k
theorem SpsOut.ok {h : List (Nat × Seg)} {lo n : Nat} {V : SV} {L : List (Int × Int)} (hA : SpsOut h lo n V L) : V.ok = True := by
  rcases hA with ⟨rfl, rfl⟩ | ⟨i, cap, s, rfl, _⟩ <;> rfl
theorem SpsOut.mono {h h' : List (Nat × Seg)} {lo n n' : Nat} {V : SV} {L : List (Int × Int)} (hA : SpsOut h lo n V L) (hn : n ≤ n') (hx : ∀ i, lo ≤ i → i < n → ∀ t, hget h i = some t → hget h' i = some t) : SpsOut h' lo n' V L := by
  rcases hA with h1 | ⟨i, cap, s, rfl, h1, h2, h3, h4⟩
  · exact .inl h1
  · exact .inr ⟨i, cap, s, rfl, h1, by omega, hx i h1 h2 s h3, h4⟩
theorem SpsOut.ext {h h' : List (Nat × Seg)} {lo n n' : Nat} {V : SV} {L : List (Int × Int)} (hA : SpsOut h lo n V L) (hn : n ≤ n') (hx : HExt n h h') : SpsOut h' lo n' V L := hA.mono hn fun i _ hi => hx i hi
/-- Spots that were marked. -/
def SpsHeld (h : List (Nat × Seg)) (lo n : Nat) (V : SV) (len : Nat) : Prop :=
  (V = .nils ∧ len = 0) ∨ ∃ i cap s, V = .sl i 0 len cap ∧ lo ≤ i ∧ i < n ∧ hget h i = some s ∧ s.n = len * 2 ∧ ∀ k : Nat, k < len → s.c (k * 2) = .int .i8 (IntKind.i8.wrap (2 * (k : Int) + 1)) ∧ s.c (k * 2 + 1) = .int .i8 (IntKind.i8.wrap (2 * (k : Int) + 1 + 1))
theorem SpsHeld.ext {h h' : List (Nat × Seg)} {lo n n' : Nat} {V : SV} {len : Nat} (hA : SpsHeld h lo n V len) (hn : n ≤ n') (hx : HExt n h h') : SpsHeld h' lo n' V len := by
  rcases hA with h1 | ⟨i, cap, s, rfl, h1, h2, h3, h4⟩
  · exact .inl h1
  · exact .inr ⟨i, cap, s, rfl, h1, by omega, hx i h2 s h3, h4⟩
section
variable (cx : Cx) (h : List (Nat × Seg)) (n : Nat)
end
end Go.Proofs.YtkanbbfddlhlcaaDoor.V

/- What is stained: the program's own walk. -/
namespace Go.Proofs.YtkanbbfddlhlcaaDoor.V

section
variable (cx : Cx) (h : List (Nat × Seg)) (n : Nat)
end
end Go.Proofs.YtkanbbfddlhlcaaDoor.V

/- StainOf by the program's own code: the walk. -/
namespace Go.Proofs.YtkanbbfddlhlcaaDoor.V
section
variable (cx : Cx) (h : List (Nat × Seg)) (n : Nat)
def dropB (S : Sh) (x y ink amount water : Int) : Bool := hasB S x y && decide (0 ≤ ink ∧ ink ≤ 2) && decide (0 ≤ amount ∧ amount ≤ 1000) && decide (0 ≤ water ∧ water ≤ 200)
end
end Go.Proofs.YtkanbbfddlhlcaaDoor.V

/- What is stained, by the reference: sums of dyes, running until nothing is given, cells with dye. -/
namespace Go.Proofs.YtkanbbfddlhlcaaDoor.V
section
variable (cx : Cx) (h : List (Nat × Seg)) (n : Nat)
end
end Go.Proofs.YtkanbbfddlhlcaaDoor.V

/- StainOf by the reference: the walk. -/
namespace Go.Proofs.YtkanbbfddlhlcaaDoor.V
section
variable (cx : Cx) (h : List (Nat × Seg)) (n : Nat)
end
end Go.Proofs.YtkanbbfddlhlcaaDoor.V

/- Plain laws of running: water and dye are kept, the squares of the water fall, so running stops. -/
namespace Go.Proofs.YtkanbbfddlhlcaaDoor.V
/-- A sum over all places of what stands there. -/
def allS (f : Int → Int → Int) : Int := sumN (fun k => f ((k / 8 : Nat) : Int) ((k % 8 : Nat) : Int)) 64
def watS (S : Sh) : Int := allS S.wet
def sqS (S : Sh) : Int := allS fun y x => S.wet y x * S.wet y x
def dyeS (S : Sh) (i : Int) : Int := allS fun y x => S.dye y x i
section
variable {S : Sh} {fx fy tx ty : Int} (hG : Good S) (hfx : 0 ≤ fx) (hfx8 : fx < 8) (hfy : 0 ≤ fy) (hfy8 : fy < 8) (htx : 0 ≤ tx) (htx8 : tx < 8) (hty : 0 ≤ ty) (hty8 : ty < 8) (h2 : 2 ≤ S.wet fy fx - S.wet ty tx)
include hG hfx hfx8 hfy hfy8 htx htx8 hty hty8 h2
end
/-- Water and dyes are as they were; the squares of the water have fallen by two for each unit given. -/
structure Kept (a b : Sh × Int) : Prop where
  wat : watS b.1 = watS a.1
  dye : ∀ i, dyeS b.1 i = dyeS a.1 i
  sq : sqS b.1 + 2 * (b.2 - a.2) ≤ sqS a.1
  al : Alike' a.1 b.1
  out : ∀ y x, hasB a.1 x y = false → b.1.wet y x = a.1.wet y x ∧ ∀ i, b.1.dye y x i = a.1.dye y x i
theorem Kept.rfl' (a : Sh × Int) : Kept a a := ⟨rfl, fun _ => rfl, by omega, .refl _, fun _ _ _ => ⟨rfl, fun _ => rfl⟩⟩
theorem Kept.tr {a b c : Sh × Int} (h1 : Kept a b) (h2 : Kept b c) : Kept a c := ⟨h2.wat.trans h1.wat, fun i => (h2.dye i).trans (h1.dye i), by have := h1.sq; have := h2.sq; omega, h1.al.trans h2.al, fun y x h => by
  have e1 := h1.out y x h
  have e2 := h2.out y x (by rw [h1.al.hasB]; exact h)
  exact ⟨e2.1.trans e1.1, fun i => (e2.2 i).trans (e1.2 i)⟩⟩
end Go.Proofs.YtkanbbfddlhlcaaDoor.V

/- Stacks, by the reference: small functions, validity. -/
namespace Go.Proofs.YtkanbbfddlhlcaaDoor.V
section
variable (cx : Cx) (h : List (Nat × Seg)) (n : Nat)
end
end Go.Proofs.YtkanbbfddlhlcaaDoor.V

/- Validity of a stack: the program's own walk. -/
namespace Go.Proofs.YtkanbbfddlhlcaaDoor.V
section
variable (cx : Cx) (h : List (Nat × Seg)) (n : Nat)
end
end Go.Proofs.YtkanbbfddlhlcaaDoor.V

/- A function asked of the sheets of a stack. -/
namespace Go.Proofs.YtkanbbfddlhlcaaDoor.V
section
variable (cx : Cx) (h : List (Nat × Seg)) (n : Nat)
end
end Go.Proofs.YtkanbbfddlhlcaaDoor.V

/- A valid stack: the program's own walk. -/
namespace Go.Proofs.YtkanbbfddlhlcaaDoor.V
section
variable (cx : Cx) (h : List (Nat × Seg)) (n : Nat)
end
end Go.Proofs.YtkanbbfddlhlcaaDoor.V

/- The law's stacks: copied. -/
namespace Go.Proofs.YtkanbbfddlhlcaaDoor.V
section
variable (cx : Cx) (h : List (Nat × Seg)) (n : Nat)
end
end Go.Proofs.YtkanbbfddlhlcaaDoor.V

/- The law's stacks: compared. -/
namespace Go.Proofs.YtkanbbfddlhlcaaDoor.V
section
variable (cx : Cx) (h : List (Nat × Seg)) (n : Nat)
end
end Go.Proofs.YtkanbbfddlhlcaaDoor.V

/- Pictures: validity, covered cells: the program's own walk. -/
namespace Go.Proofs.YtkanbbfddlhlcaaDoor.V
section
variable (cx : Cx) (h : List (Nat × Seg)) (n : Nat)
end
end Go.Proofs.YtkanbbfddlhlcaaDoor.V

/- Pictures: validity, covered cells: the reference's walk. -/
namespace Go.Proofs.YtkanbbfddlhlcaaDoor.V
section
variable (cx : Cx) (h : List (Nat × Seg)) (n : Nat)
end
end Go.Proofs.YtkanbbfddlhlcaaDoor.V

/- The law's pictures and drops: copied, compared. -/
namespace Go.Proofs.YtkanbbfddlhlcaaDoor.V
section
variable (cx : Cx) (h : List (Nat × Seg)) (n : Nat)
end
end Go.Proofs.YtkanbbfddlhlcaaDoor.V

/- A drop made upon a picture: both walks. -/
namespace Go.Proofs.YtkanbbfddlhlcaaDoor.V
theorem PcR.setInk {P : Pc} (h : PcR P) {y x v : Int} (hv : 0 ≤ v ∧ v < 256) : PcR (P.setInk y x v) :=
  ⟨h.wide, h.high, fun y' x' => by
    show 0 ≤ (if y' = y ∧ x' = x then v else P.ink y' x') ∧ (if y' = y ∧ x' = x then v else P.ink y' x') < 256
    split
    · exact hv
    · exact h.ink y' x'⟩
theorem PcOk.setInk {P : Pc} (h : PcOk P) {y x v : Int} (hv : v ≤ 3) (hx : x < P.wide) (hy : y < P.high) : PcOk (P.setInk y x v) :=
  ⟨h.1, fun y' x' a b c d => by
    show (if y' = y ∧ x' = x then v else P.ink y' x') ≤ 3 ∧ (0 < (if y' = y ∧ x' = x then v else P.ink y' x') → x' < P.wide ∧ y' < P.high)
    split
    · rename_i e
      rw [e.1, e.2]
      exact ⟨hv, fun _ => ⟨hx, hy⟩⟩
    · exact h.2 y' x' a b c d⟩
theorem wu8 {n : Int} (h : 0 ≤ n ∧ n < 256) : IntKind.u8.wrap n = n := by simp [IntKind.wrap, IntKind.bits, IntKind.signed]; omega
section
variable (cx : Cx) (h : List (Nat × Seg)) (n : Nat)
end
end Go.Proofs.YtkanbbfddlhlcaaDoor.V
