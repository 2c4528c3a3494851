/- Part 3 of the texts that this proof stands on: a symbolic walk over the program, what its functions and the reference's do, plain laws. -/
import Derived.Test.YtpcnhenenjblpaaZfxa
import Derived.Test.YtpcnhenenjblpaaV17
import Derived.Sort.Walk13a
import Derived.Test.YtpcnhenenjblpaaZfxb
set_option linter.all false

/- Comparing spots; the library's small functions. -/
namespace Go.Proofs.Ytpcnhenenjblpaa.V
section
variable (cx : Cx) (h : List (Nat × Seg)) (n : Nat)
end
end Go.Proofs.Ytpcnhenenjblpaa.V

/- The library's insertion sort over spots. -/
namespace Go.Proofs.Ytpcnhenenjblpaa.V
open Go.Sort (swp insInner insOuter insertionSort)

/-- A function that compares spots. -/
def Cmps (cx : Cx) (h : List (Nat × Seg)) (n i f p q : Nat) (G F : Nat → SV) (cI : Int × Int → Int × Int → Int) : Prop :=
  ∀ (a b : Int × Int) nt n0 h' n', n ≤ n' → HBut i n h h' → CallQ Try.prog ⟨cx.w0, cx.W, nt, n0⟩ f (lst p G ++ [spot a.1 a.2, spot b.1 b.2] ++ lst q F) h' n' (.int .i64 (cI a b))
section
variable (cx : Cx) (h : List (Nat × Seg)) (n : Nat)
end
end Go.Proofs.Ytpcnhenenjblpaa.V

/- Sets of few cells: the program's own walk. -/
namespace Go.Proofs.Ytpcnhenenjblpaa.V
theorem srtS_nodup {L : List (Int × Int)} (h : L.Nodup) : (srtS L).Pairwise fun a b => ltSp a b = true := by
  have h1 := srtS_sorted L
  have h2 : (srtS L).Nodup := (srtS_perm L).nodup_iff.2 h
  refine (h1.and h2).imp fun {a b} ⟨h3, h4⟩ => ?_
  cases hlt : ltSp a b with
  | true => rfl
  | false => exact absurd (ltSp_tri hlt h3) h4
section
variable (cx : Cx) (h : List (Nat × Seg)) (n : Nat)
end
end Go.Proofs.Ytpcnhenenjblpaa.V

/- The cells to which one can go. -/
namespace Go.Proofs.Ytpcnhenenjblpaa.V
def addB (is : Int → Int → Bool) (out : List (Int × Int)) (q : Int × Int) : List (Int × Int) := if is q.1 q.2 = true ∧ q ∉ out then out ++ [q] else out
theorem addB_new {is : Int → Int → Bool} {out : List (Int × Int)} {q : Int × Int} (h1 : is q.1 q.2 = true) (h2 : q ∉ out) : addB is out q = out ++ [q] := if_pos ⟨h1, h2⟩
theorem addB_old {is : Int → Int → Bool} {out : List (Int × Int)} {q : Int × Int} (h : ¬ (is q.1 q.2 = true ∧ q ∉ out)) : addB is out q = out := if_neg h
/-- What is kept: cells of the sheet, each one once. -/
structure BOk (out : List (Int × Int)) : Prop where
  nd : out.Nodup
  in8 : In8s out
theorem BOk.len {out : List (Int × Int)} (h : BOk out) : out.length ≤ 64 := by
  have h1 : Strict (setL out) := setL_strict out
  have h2 := strict_len h1 h.in8.setL
  have h3 : setL out = srtS out := setL_eq (srtS_nodup h.nd) fun a => (srtS_perm out).mem_iff
  rw [h3] at h2
  exact Nat.le_trans (Nat.le_of_eq (srtS_perm out).length_eq.symm) h2
theorem BOk.add {is : Int → Int → Bool} (his : ∀ x y, is x y = true → In8 (x, y)) {out : List (Int × Int)} (h : BOk out) (q : Int × Int) : BOk (addB is out q) := by
  by_cases hq : is q.1 q.2 = true ∧ q ∉ out
  · rw [addB_new hq.1 hq.2]
    refine ⟨List.nodup_append.2 ⟨h.nd, by simp, fun a ha b hb => ?_⟩, fun p hp => ?_⟩
    · rw [List.mem_singleton] at hb; subst hb; exact fun e => hq.2 (e ▸ ha)
    · rcases List.mem_append.1 hp with hp | hp
      · exact h.in8 p hp
      · rw [List.mem_singleton] at hp; subst hp; exact his _ _ hq.1
  · rw [addB_old hq]; exact h
theorem BOk.one {p : Int × Int} (h : In8 p) : BOk [p] := ⟨by simp, fun q hq => by rw [List.mem_singleton] at hq; subst hq; exact h⟩
end Go.Proofs.Ytpcnhenenjblpaa.V

/- The library's heap sort over spots. -/
namespace Go.Proofs.Ytpcnhenenjblpaa.V
open Go.Sort (swp siftDown heapBuild heapPop heapSort)
section
variable (cx : Cx) (h : List (Nat × Seg)) (n : Nat)
end
end Go.Proofs.Ytpcnhenenjblpaa.V

/- The library's heap sort over spots. -/
namespace Go.Proofs.Ytpcnhenenjblpaa.V
open Go.Sort (swp siftDown heapBuild heapPop heapSort)
section
variable (cx : Cx) (h : List (Nat × Seg)) (n : Nat)
theorem Cmps.set {cx : Cx} {h : List (Nat × Seg)} {n i f p q : Nat} {G F : Nat → SV} {cI : Int × Int → Int × Int → Int} (hcmp : Cmps cx h n i f p q G F cI) (t : Seg) : Cmps cx (hset h i t) n i f p q G F cI :=
  fun a b nt n0 h' n' hn hb => hcmp a b nt n0 h' n' hn fun j hj hji u hu => hb j hj hji u (by rw [hget_hset, if_neg (Ne.symm hji)]; exact hu)
theorem Cmps.nt {cx : Cx} {h : List (Nat × Seg)} {n i f p q : Nat} {G F : Nat → SV} {cI : Int × Int → Int × Int → Int} (hcmp : Cmps cx h n i f p q G F cI) (t m : Nat) : Cmps ⟨cx.w0, cx.W, t, m⟩ h n i f p q G F cI :=
  fun a b nt n0 h' n' hn hb => hcmp a b nt n0 h' n' hn hb
end
end Go.Proofs.Ytpcnhenenjblpaa.V

/- The law's spots, and lists of spots that are alike. -/
namespace Go.Proofs.Ytpcnhenenjblpaa.V
section
variable (cx : Cx) (h : List (Nat × Seg)) (n : Nat)
end
end Go.Proofs.Ytpcnhenenjblpaa.V

/- The law's lists of spots that were made: compared, marked, looked at again. -/
namespace Go.Proofs.Ytpcnhenenjblpaa.V
/-- A list of spots that a call has made. -/
def SpsOut (h : List (Nat × Seg)) (lo n : Nat) (V : SV) (L : List (Int × Int)) : Prop :=
  (V = .nils ∧ L = []) ∨ ∃ i cap s, V = .sl i 0 L.length cap ∧ lo ≤ i ∧ i < n ∧ hget h i = some s ∧ s.rw = true ∧ s.n = L.length * 2 ∧ ∀ k, k < L.length * 2 → s.c k = spotsC L k
theorem SpsOut.ok {h : List (Nat × Seg)} {lo n : Nat} {V : SV} {L : List (Int × Int)} (hA : SpsOut h lo n V L) : V.ok = True := by
  rcases hA with ⟨rfl, rfl⟩ | ⟨i, cap, s, rfl, _⟩ <;> rfl
theorem SpsOut.mono {h h' : List (Nat × Seg)} {lo n n' : Nat} {V : SV} {L : List (Int × Int)} (hA : SpsOut h lo n V L) (hn : n ≤ n') (hx : ∀ i, lo ≤ i → i < n → ∀ t, hget h i = some t → hget h' i = some t) : SpsOut h' lo n' V L := by
  rcases hA with h1 | ⟨i, cap, s, rfl, h1, h2, h3, h4⟩
  · exact .inl h1
  · exact .inr ⟨i, cap, s, rfl, h1, by omega, hx i h1 h2 s h3, h4⟩
theorem SpsOut.ext {h h' : List (Nat × Seg)} {lo n n' : Nat} {V : SV} {L : List (Int × Int)} (hA : SpsOut h lo n V L) (hn : n ≤ n') (hx : HExt n h h') : SpsOut h' lo n' V L := hA.mono hn fun i _ hi => hx i hi
/-- Spots that were marked. -/
def SpsHeld (h : List (Nat × Seg)) (lo n : Nat) (V : SV) (len : Nat) : Prop :=
  (V = .nils ∧ len = 0) ∨ ∃ i cap s, V = .sl i 0 len cap ∧ lo ≤ i ∧ i < n ∧ hget h i = some s ∧ s.n = len * 2 ∧ ∀ k : Nat, k < len → s.c (k * 2) = .int .i8 (IntKind.i8.wrap (2 * (k : Int) + 1)) ∧ s.c (k * 2 + 1) = .int .i8 (IntKind.i8.wrap (2 * (k : Int) + 1 + 1))
theorem SpsHeld.ext {h h' : List (Nat × Seg)} {lo n n' : Nat} {V : SV} {len : Nat} (hA : SpsHeld h lo n V len) (hn : n ≤ n') (hx : HExt n h h') : SpsHeld h' lo n' V len := by
  rcases hA with h1 | ⟨i, cap, s, rfl, h1, h2, h3, h4⟩
  · exact .inl h1
  · exact .inr ⟨i, cap, s, rfl, h1, by omega, hx i h2 s h3, h4⟩
section
variable (cx : Cx) (h : List (Nat × Seg)) (n : Nat)
end
end Go.Proofs.Ytpcnhenenjblpaa.V

/- What is stained: the program's own walk. -/
namespace Go.Proofs.Ytpcnhenenjblpaa.V

section
variable (cx : Cx) (h : List (Nat × Seg)) (n : Nat)
end
end Go.Proofs.Ytpcnhenenjblpaa.V

/- StainOf by the program's own code: the walk. -/
namespace Go.Proofs.Ytpcnhenenjblpaa.V
section
variable (cx : Cx) (h : List (Nat × Seg)) (n : Nat)
theorem codeI_bad {S : Sh} {b : Bool} (h : ¬ Valid S) : codeI S b = 1 := by simp [codeI, validB_false h]
theorem codeI_ok {S : Sh} {b : Bool} (h : Valid S) : codeI S b = if b then 0 else 2 := by simp [codeI, validB_true h]
def dropB (S : Sh) (x y ink amount water : Int) : Bool := hasB S x y && decide (0 ≤ ink ∧ ink ≤ 2) && decide (0 ≤ amount ∧ amount ≤ 1000) && decide (0 ≤ water ∧ water ≤ 200)
end
end Go.Proofs.Ytpcnhenenjblpaa.V

/- What is stained, by the reference: sums of dyes, running until nothing is given, cells with dye. -/
namespace Go.Proofs.Ytpcnhenenjblpaa.V
section
variable (cx : Cx) (h : List (Nat × Seg)) (n : Nat)
theorem dark2_Q (i : Nat) (S : Sh) (x y : Int) (hs : hget h i = some (shS S)) (hi : i < n) (hG : Good S) (hx : 0 ≤ x) (hx8 : x < 8) (hy : 0 ≤ y) (hy8 : y < 8) :
    CallQ Try.prog cx 62 [.ptr i 0, spot x y] h n (.int .i64 (darkB S x y)) := by
  have h0 := hG.dye y x 0 hy hy8 hx hx8 (by omega) (by omega)
  have h1 := hG.dye y x 1 hy hy8 hx hx8 (by omega) (by omega)
  have h2 := hG.dye y x 2 hy hy8 hx hx8 (by omega) (by omega)
  refine callQ_of_T (P := Try.prog) hti (nt := 27) (rs := [.tmp 4]) rfl rfl Try.call62 Try.func62 rfl _ (by simp only [go_sem, and_self]) (Nat.le_of_ble_eq_true rfl) _ (by first | exact trivial | (refine lt_flat rfl ?_; simp [SV.flat]; done) | simp only [go_sem]) fun hok => ?_
  simp only [go_sem, Nat.reduceLT]
  refine T_drawG hti 12 [11] (.b 0 0 (.b 0 1 (.b 0 2 (.b 0 3 (.b 0 4 (.b 0 5 (.b 0 6 (.b 0 7 (.b 0 8 (.b 0 9 (.b 2 10 (.b 4 11 (.f) .o) .o) .o) .o) .o) .o) .o) .o) .o) .o) .o) .o) _ _ (by kernel_rfl) (by kernel_rfl) ?_
  simp only [go_sem, Nat.reduceLT, Nat.reduceLeDiff, Int.reduceToNat, reduceIte, reduceCtorEq, Int.reduceLE, Int.reduceLT, hs, hi, hx, hx8, hy, hy8, w64 (n := S.dye y x 0) (by omega), w64 (n := S.dye y x 1) (by omega), w64 (n := S.dye y x 2) (by omega), w64 (n := S.dye y x 0 + S.dye y x 1) (by omega), w64 (n := S.dye y x 0 + S.dye y x 1 + S.dye y x 2) (by omega)]
  rfl
theorem asked2_Q (i : Nat) (S : Sh) (x y : Int) (b : Bool) (hs : hget h i = some (shS S)) (hi : i < n) (hR : ShR S) (hx : -128 ≤ x ∧ x < 128) (hy : -128 ≤ y ∧ y < 128) :
    CallQ Try.prog cx 61 [.ptr i 0, spot x y, .bool b] h n (.int .i64 (codeI S (hasB S x y && b))) := by
  refine callQ_of_T (P := Try.prog) hti (nt := 18) (rs := [.tmp 6]) rfl rfl Try.call61 Try.func61 rfl _ (by simp only [go_sem, and_self]) (Nat.le_of_ble_eq_true rfl) _ (by first | exact trivial | (refine lt_flat rfl ?_; simp [SV.flat]; done) | simp only [go_sem]) fun hok => ?_
  simp only [go_sem, Nat.reduceLT]
  refine (ok2_Q _ _ _ i 0 _ S (by simp only [go_sem, hs, hi]) (by omega) (shAt_shC hR)).A ?_
  by_cases hV : Valid S
  rotate_left
  · simp only [go_sem, Nat.reduceLT, validB_false hV, codeI_bad hV]
  simp only [go_sem, Nat.reduceLT, validB_true hV, codeI_ok hV]
  refine (is_Q _ _ _ i 0 _ S x y (by simp only [go_sem, hs, hi]) (by omega) (shAt_shC hR) hx hy).A ?_
  by_cases hh : hasB S x y = true
  · cases b <;> simp only [go_sem, Nat.reduceLT, reduceIte, hh, Bool.true_and]
  · simp only [go_sem, Nat.reduceLT, reduceIte, hh, Bool.false_and]
end
end Go.Proofs.Ytpcnhenenjblpaa.V

/- StainOf by the reference: the walk. -/
namespace Go.Proofs.Ytpcnhenenjblpaa.V
section
variable (cx : Cx) (h : List (Nat × Seg)) (n : Nat)
end
end Go.Proofs.Ytpcnhenenjblpaa.V

/- Plain laws of running: water and dye are kept, the squares of the water fall, so running stops. -/
namespace Go.Proofs.Ytpcnhenenjblpaa.V
/-- A sum over all places of what stands there. -/
def allS (f : Int → Int → Int) : Int := sumN (fun k => f ((k / 8 : Nat) : Int) ((k % 8 : Nat) : Int)) 64
def watS (S : Sh) : Int := allS S.wet
def sqS (S : Sh) : Int := allS fun y x => S.wet y x * S.wet y x
def dyeS (S : Sh) (i : Int) : Int := allS fun y x => S.dye y x i
section
variable {S : Sh} {fx fy tx ty : Int} (hG : Good S) (hfx : 0 ≤ fx) (hfx8 : fx < 8) (hfy : 0 ≤ fy) (hfy8 : fy < 8) (htx : 0 ≤ tx) (htx8 : tx < 8) (hty : 0 ≤ ty) (hty8 : ty < 8) (h2 : 2 ≤ S.wet fy fx - S.wet ty tx)
include hG hfx hfx8 hfy hfy8 htx htx8 hty hty8 h2
end
/-- Water and dyes are as they were; the squares of the water have fallen by two for each unit given. -/
structure Kept (a b : Sh × Int) : Prop where
  wat : watS b.1 = watS a.1
  dye : ∀ i, dyeS b.1 i = dyeS a.1 i
  sq : sqS b.1 + 2 * (b.2 - a.2) ≤ sqS a.1
  al : Alike' a.1 b.1
  out : ∀ y x, hasB a.1 x y = false → b.1.wet y x = a.1.wet y x ∧ ∀ i, b.1.dye y x i = a.1.dye y x i
theorem Kept.rfl' (a : Sh × Int) : Kept a a := ⟨rfl, fun _ => rfl, by omega, .refl _, fun _ _ _ => ⟨rfl, fun _ => rfl⟩⟩
theorem Kept.tr {a b c : Sh × Int} (h1 : Kept a b) (h2 : Kept b c) : Kept a c := ⟨h2.wat.trans h1.wat, fun i => (h2.dye i).trans (h1.dye i), by have := h1.sq; have := h2.sq; omega, h1.al.trans h2.al, fun y x h => by
  have e1 := h1.out y x h
  have e2 := h2.out y x (by rw [h1.al.hasB]; exact h)
  exact ⟨e2.1.trans e1.1, fun i => (e2.2 i).trans (e1.2 i)⟩⟩
end Go.Proofs.Ytpcnhenenjblpaa.V

/- Dips of a brush: what is told, and the small functions of both codes. -/
namespace Go.Proofs.Ytpcnhenenjblpaa.V

def lvSum (S : Sh) (B : Br) (y x : Int) : Int := lvA S B y x + lvB S B y x + lvC S B y x
abbrev DSt := Sh × Br × List Int
/-- One cell of a path. -/
def dipStep (B0 : Br) (least : Int) (p : DSt) (q : Nat) (a : Int × Int) : Option DSt :=
  if waxB p.1 a.1 a.2 then some p
  else if lvSum p.1 p.2.1 a.2 a.1 < least then (if lvSum p.1 B0 a.2 a.1 < least then none else some (touchS p.1 B0 a.2 a.1, touchB p.1 B0 a.2 a.1, p.2.2 ++ [(q : Int)]))
  else some (touchS p.1 p.2.1 a.2 a.1, touchB p.1 p.2.1 a.2 a.1, p.2.2)
def dipN (S : Sh) (B0 : Br) (least : Int) (L : List (Int × Int)) : Nat → Option DSt
  | 0 => some (S, B0, [])
  | q + 1 => (dipN S B0 least L q).bind fun p => dipStep B0 least p q (L.getD q (0, 0))
theorem dipN_none {S : Sh} {B0 : Br} {least : Int} {L : List (Int × Int)} {q : Nat} (h : dipN S B0 least L q = none) : ∀ k, dipN S B0 least L (q + k) = none
  | 0 => h
  | k + 1 => by show (dipN S B0 least L (q + k)).bind _ = none; rw [dipN_none h k]; rfl
theorem dipN_end {S : Sh} {B0 : Br} {least : Int} {L : List (Int × Int)} {q : Nat} (h : dipN S B0 least L q = none) (hq : q ≤ L.length) : dipN S B0 least L L.length = none := by
  have := dipN_none h (L.length - q)
  rwa [show q + (L.length - q) = L.length by omega] at this
theorem touchS_wax {S : Sh} {B : Br} {y x : Int} (h : waxB S x y = true) : touchS S B y x = S := by
  unfold touchS lvA lvB lvC lvW
  simp only [h, if_true, Int.add_zero]
  obtain ⟨w, hh, wet, dye, wax⟩ := S
  simp only [Sh.setWet, Sh.setDye, Sh.mk.injEq, true_and, and_true]
  refine ⟨?_, ?_⟩
  · funext y' x'; split
    · rename_i hc; rw [hc.1, hc.2]
    · rfl
  · funext y' x' i'
    (repeat' split) <;> first | rfl | (rename_i hc; rw [hc.1, hc.2.1, hc.2.2])
theorem touchB_wax {S : Sh} {B : Br} {y x : Int} (h : waxB S x y = true) : touchB S B y x = B := by
  unfold touchB lvA lvB lvC lvW
  simp only [h, if_true, Int.sub_zero]
structure DOk (S0 : Sh) (q : Nat) (p : DSt) : Prop where
  ok : OkSB S0 (p.1, p.2.1)
  len : p.2.2.length ≤ q
theorem dipStep_ok {S0 : Sh} {B0 : Br} {least : Int} {p p' : DSt} {q : Nat} {a : Int × Int} (h : DOk S0 q p) (hB : BrV B0) (hx : 0 ≤ a.1) (hx8 : a.1 < 8) (hy : 0 ≤ a.2) (hy8 : a.2 < 8) (e : dipStep B0 least p q a = some p') : DOk S0 (q + 1) p' := by
  unfold dipStep at e
  split at e
  · obtain rfl : p = p' := by simpa using e
    exact ⟨h.ok, Nat.le_succ_of_le h.len⟩
  · split at e
    · split at e
      · cases e
      · obtain rfl : _ = p' := by simpa using e
        exact ⟨touch_ok (p := (p.1, B0)) ⟨h.ok.R, h.ok.G, hB, h.ok.wide, h.ok.high, h.ok.wax⟩ hx hx8 hy hy8, by simp; exact h.len⟩
    · obtain rfl : _ = p' := by simpa using e
      exact ⟨touch_ok h.ok hx hx8 hy hy8, Nat.le_succ_of_le h.len⟩
theorem dipN_ok {S : Sh} {B0 : Br} {least : Int} {L : List (Int × Int)} (hI : InP S L) (hS : Small S) (h : OkSB S (S, B0)) : ∀ (q : Nat) (p : DSt), q ≤ L.length → dipN S B0 least L q = some p → DOk S q p
  | 0, p, _, e => by
    obtain rfl : (S, B0, ([] : List Int)) = p := by simpa [dipN] using e
    exact ⟨h, Nat.le_refl _⟩
  | q + 1, p, hq, e => by
    cases e1 : dipN S B0 least L q with
    | none => simp [dipN, e1] at e
    | some p1 =>
      simp only [dipN, e1, Option.bind_some] at e
      obtain ⟨a, b, c, d⟩ := hI.at hS (q := q) (by omega)
      exact dipStep_ok (dipN_ok hI hS h q p1 (by omega) e1) h.B a b c d e
open Classical in
/-- What DipsFor returns. -/
noncomputable def dipR (S : Sh) (B : Br) (L : List (Int × Int)) (least : Int) : List Int × Int :=
  if Valid S ∧ BrV B then (if PathP S L ∧ 1 ≤ least ∧ least ≤ 3000 then (match dipN S B least L L.length with | some p => (p.2.2, 0) | none => ([], 6)) else ([], 2)) else ([], 1)
theorem dipR_bad {S : Sh} {B : Br} {L : List (Int × Int)} {least : Int} (h : ¬ (Valid S ∧ BrV B)) : dipR S B L least = ([], 1) := by unfold dipR; rw [if_neg h]
theorem dipR_range {S : Sh} {B : Br} {L : List (Int × Int)} {least : Int} (h : Valid S ∧ BrV B) (h2 : ¬ (PathP S L ∧ 1 ≤ least ∧ least ≤ 3000)) : dipR S B L least = ([], 2) := by unfold dipR; rw [if_pos h, if_neg h2]
theorem dipR_none {S : Sh} {B : Br} {L : List (Int × Int)} {least : Int} (h : Valid S ∧ BrV B) (h2 : PathP S L ∧ 1 ≤ least ∧ least ≤ 3000) (e : dipN S B least L L.length = none) : dipR S B L least = ([], 6) := by unfold dipR; rw [if_pos h, if_pos h2, e]
theorem dipR_some {S : Sh} {B : Br} {L : List (Int × Int)} {least : Int} {p : DSt} (h : Valid S ∧ BrV B) (h2 : PathP S L ∧ 1 ≤ least ∧ least ≤ 3000) (e : dipN S B least L L.length = some p) : dipR S B L least = (p.2.2, 0) := by unfold dipR; rw [if_pos h, if_pos h2, e]

/-- Numbers in a row. -/
def intsC (L : List Int) : Nat → SV := fun k => .int .i64 (L.getD k 0)
/-- A list of numbers that a call has made. -/
def IntsOut (h : List (Nat × Seg)) (lo n : Nat) (V : SV) (L : List Int) : Prop :=
  (V = .nils ∧ L = []) ∨ ∃ i cap s, V = .sl i 0 L.length cap ∧ lo ≤ i ∧ i < n ∧ hget h i = some s ∧ s.rw = true ∧ s.n = L.length ∧ ∀ k, k < L.length → s.c k = intsC L k

section
variable {cx : Cx} {h : List (Nat × Seg)} {n : Nat}
variable (cx) (h) (n)
variable (i : Nat) (S : Sh) (B : Br) (x y least : Int) (hs : hget h i = some (shS S)) (hi : i < n) (hR : ShR S) (hG : Good S) (hB : BrV B) (hx : 0 ≤ x) (hx8 : x < 8) (hy : 0 ≤ y) (hy8 : y < 8)
theorem least2_Q : CallQ Try.prog cx 51 [.int .i64 least] h n (.bool (decide (1 ≤ least ∧ least ≤ 3000))) := by
  refine callQ_of_T (P := Try.prog) hti (nt := 5) (rs := [.tmp 2]) rfl rfl Try.call51 Try.func51 rfl _ (by simp only [go_sem, and_self]) (Nat.le_of_ble_eq_true rfl) _ (by first | exact trivial | (refine lt_flat rfl ?_; simp [SV.flat]; done) | simp only [go_sem]) fun hok => ?_
  simp only [go_sem, Nat.reduceLT]
  refine (in_Q _ _ _ _ _ _).A ?_
  simp only [go_sem, Nat.reduceLT]
theorem isDarkness_Q : CallQ Try.prog cx 44 [.int .i64 least] h n (.bool (decide (1 ≤ least ∧ least ≤ 3000))) := by
  refine callQ_of_T (P := Try.prog) hti (nt := 5) (rs := [.tmp 2]) rfl rfl Try.call44 Try.func44 rfl _ (by simp only [go_sem, and_self]) (Nat.le_of_ble_eq_true rfl) _ (by first | exact trivial | (refine lt_flat rfl ?_; simp [SV.flat]; done) | simp only [go_sem]) fun hok => ?_
  simp only [go_sem, Nat.reduceLT]
  refine (within_Q _ _ _ _ _ _).A ?_
  simp only [go_sem, Nat.reduceLT]
include hs hi hR hG hB hx hx8 hy hy8 in
theorem enough2_Q (j : Nat) (ht : hget h j = some (brS B)) (hj : j < n) : CallQ Try.prog cx 58 [.ptr i 0, .ptr j 0, spot x y, .int .i64 least] h n (.bool (decide (least ≤ lvSum S B y x))) := by
  have l0 := lvA_in hG hB hx hx8 hy hy8
  have l1 := lvB_in hG hB hx hx8 hy hy8
  have l2 := lvC_in hG hB hx hx8 hy hy8
  obtain ⟨⟨b1, b2, b3⟩, b4, b5, b6⟩ := id hB
  refine callQ_of_T (P := Try.prog) hti (nt := 28) (rs := [.tmp 8]) rfl rfl Try.call58 Try.func58 rfl _ (by simp only [go_sem, and_self]) (Nat.le_of_ble_eq_true rfl) _ (by first | exact trivial | (refine lt_flat rfl ?_; simp [SV.flat]; done) | simp only [go_sem]) fun hok => ?_
  simp only [go_sem, Nat.reduceLT]
  refine (leave2_Q _ _ _ i j S B x y (by simp only [go_sem, hs, hi]) (by omega) (by simp only [go_sem, ht, hj]) (by omega) hR hG hB hx hx8 hy hy8).A ?_
  simp only [go_sem, Nat.reduceLT, Nat.reduceLeDiff, Int.reduceToNat, reduceIte, Int.reduceLE, Int.reduceLT, w64 (n := lvA S B y x + lvB S B y x) (by omega), w64 (n := lvA S B y x + lvB S B y x + lvC S B y x) (by omega)]
  rfl
theorem loadOf_G (G : Nat → SV) (B : Br) (hB : BrR B) (h0 : ∀ j, j < 5 → G j = brC B j) : CallQ Try.prog cx 19 [.agg 5 G] h n (.int .i64 (B.a + B.b + B.c)) :=
  CallQ.argsEq (fun ρ => by simp only [List.map_cons, List.map_nil]; rw [den_aggF h0 ρ]) ⟨trivial, trivial⟩ (fun v hv => by rw [List.mem_singleton.1 hv]; exact brC_lt _ _) (loadOf_Q cx h n B hB)
include hs hi hR hG hB hx hx8 hy hy8 in
theorem few_Q (j : Nat) (ht : hget h j = some ⟨1, cl [.int .i64 least], true, none⟩) (hj : j < n) : CallQ Try.prog cx 54 [.agg 5 (brC B), spot x y, .ptr i 0, .ptr j 0] h n (.bool (decide (lvSum S B y x < least))) := by
  have l0 := lvA_in hG hB hx hx8 hy hy8
  have l1 := lvB_in hG hB hx hx8 hy hy8
  have l2 := lvC_in hG hB hx hx8 hy hy8
  obtain ⟨⟨b1, b2, b3⟩, b4, b5, b6⟩ := id hB
  refine callQ_of_T (P := Try.prog) hti (nt := 20) (rs := [.tmp 6]) rfl rfl Try.call54 Try.func54 rfl _ (by simp only [go_sem, and_self]) (Nat.le_of_ble_eq_true rfl) _ (by first | exact trivial | (refine lt_flat rfl ?_; simp [SV.flat]; done) | simp only [go_sem]) fun hok => ?_
  simp only [go_sem, Nat.reduceLT]
  refine (leave_Q _ _ _ i S B x y (by simp only [go_sem, hs, hi]) (by omega) hR hG hB hx hx8 hy hy8).A ?_
  simp only [go_sem, Nat.reduceLT, reduceIte]
  refine T_draw hti _ _ (by kernel_rfl) (by kernel_rfl) ?_
  simp only [go_sem, Nat.reduceLT, Nat.reduceLeDiff, Nat.reduceSub, reduceIte]
  refine (loadOf_G _ _ _ _ ⟨lvA S B y x, lvB S B y x, lvC S B y x, 0, 0⟩ (by constructor <;> simp only <;> omega) (fun j hj => ?_)).A ?_
  · rfl
  simp only [go_sem, Nat.reduceLT, ht, hj]
  rfl
end
end Go.Proofs.Ytpcnhenenjblpaa.V

/- Plain laws for FnDips: strokes keep sheets valid, the least share, dips told again. -/
namespace Go.Proofs.Ytpcnhenenjblpaa.V
theorem touchS_out {S : Sh} {B : Br} {y x y' x' : Int} (h : ¬ (y' = y ∧ x' = x)) : (touchS S B y x).wet y' x' = S.wet y' x' ∧ ∀ i, (touchS S B y x).dye y' x' i = S.dye y' x' i := by
  unfold touchS Sh.setWet Sh.setDye
  refine ⟨by simp only; rw [if_neg h], fun i => ?_⟩
  simp only
  rw [if_neg (fun e => h ⟨e.1, e.2.1⟩), if_neg (fun e => h ⟨e.1, e.2.1⟩), if_neg (fun e => h ⟨e.1, e.2.1⟩)]
theorem touchS_valid {S : Sh} {B : Br} {x y : Int} (hV : Valid S) (hB : BrV B) (hh : hasB S x y = true) : Valid (touchS S B y x) := by
  obtain ⟨x0, x8, y0, y8⟩ := hasB_in hV.1 hh
  have g := touchS_good hV.good hB x0 x8 y0 y8
  by_cases hw : waxB S x y = true
  · rw [touchS_wax hw]; exact hV
  refine ⟨g.small, fun v u a b c d => ?_⟩
  have eh : hasB (touchS S B y x) u v = hasB S u v := rfl
  have ew : waxB (touchS S B y x) u v = waxB S u v := rfl
  obtain ⟨v1, v2, v3, v4⟩ := hV.2 v u a b c d
  refine ⟨fun h => by rw [eh]; rw [ew] at h; exact v1 h, g.wet v u a b c d, fun i e f => g.dye v u i a b c d e f, ?_⟩
  rw [eh, ew]
  by_cases e : v = y ∧ u = x
  · obtain ⟨rfl, rfl⟩ := e
    exact .inl ⟨hh, by simpa using hw⟩
  · obtain ⟨t1, t2⟩ := touchS_out (S := S) (B := B) e
    rw [t1, t2, t2, t2]; exact v4
theorem strokeN_valid {S : Sh} {B : Br} {L : List (Int × Int)} (hV : Valid S) (hR : ShR S) (hb : BrV B) (hI : InP S L) : ∀ q, q ≤ L.length → Valid (strokeN S B L q).1
  | 0, _ => hV
  | q + 1, hq => by
    have ih := strokeN_valid hV hR hb hI q (by omega)
    have ok := strokeN_ok hI hV.1 (hV.ok hb hR) q (by omega)
    refine touchS_valid ih ok.B ?_
    have := hI q (by omega)
    unfold hasB at this ⊢
    rw [ok.wide, ok.high]; exact this
/-- Are all cells of a path dark enough behind a stroke? -/
def enB (S T : Sh) (L : List (Int × Int)) (least : Int) : Bool := L.all fun a => waxB S a.1 a.2 || decide (least ≤ darkB T a.1 a.2)
def Br.withS (B : Br) (k : Int) : Br := ⟨B.a, B.b, B.c, B.w, k⟩
def enK (S : Sh) (B : Br) (L : List (Int × Int)) (least : Int) (k : Nat) : Bool := enB S (strokeN S (B.withS k) L L.length).1 L least
/-- The least share of the first so many. -/
def lsN (f : Nat → Bool) : Nat → Option Nat
  | 0 => none
  | m + 1 => match lsN f m with | some r => some r | none => if f (m + 1) then some (m + 1) else none
theorem lsN_none {f : Nat → Bool} : ∀ {m : Nat}, lsN f m = none → ∀ k, 1 ≤ k → k ≤ m → f k = false
  | 0, _, k, h1, h2 => by omega
  | m + 1, h, k, h1, h2 => by
    unfold lsN at h
    split at h
    · cases h
    · rename_i hm
      split at h
      · cases h
      · rename_i hf
        by_cases hk : k = m + 1
        · subst hk; simpa using hf
        · exact lsN_none hm k h1 (by omega)
theorem lsN_some {f : Nat → Bool} : ∀ {m r : Nat}, lsN f m = some r → 1 ≤ r ∧ r ≤ m ∧ f r = true ∧ ∀ k, 1 ≤ k → k < r → f k = false
  | 0, r, h => by cases h
  | m + 1, r, h => by
    unfold lsN at h
    split at h
    · rename_i q hm
      cases h
      obtain ⟨a, b, c, d⟩ := lsN_some hm
      exact ⟨a, by omega, c, d⟩
    · rename_i hm
      split at h
      · rename_i hf
        cases h
        exact ⟨by omega, Nat.le_refl _, hf, fun k h1 h2 => lsN_none hm k h1 (by omega)⟩
      · cases h
/-- What LeastShare gives, where all is valid. -/
def lsR (S : Sh) (B : Br) (L : List (Int × Int)) (least : Int) : Int × Int := match lsN (enK S B L least) 16 with | some r => (r, 0) | none => (0, 6)
/-! ### Dips told again -/
theorem dipStep_pre {B0 : Br} {least : Int} {p p' : DSt} {q : Nat} {a : Int × Int} (h : dipStep B0 least p q a = some p') : ∃ rest, p'.2.2 = p.2.2 ++ rest ∧ ∀ x ∈ rest, (q : Int) ≤ x := by
  unfold dipStep at h
  split at h
  · cases h; exact ⟨[], by simp, fun x hx => by cases hx⟩
  · split at h
    · split at h
      · cases h
      · cases h; exact ⟨[(q : Int)], rfl, fun x hx => by rw [List.mem_singleton.1 hx]; exact Int.le_refl _⟩
    · cases h; exact ⟨[], by simp, fun x hx => by cases hx⟩
theorem dipN_pre {S : Sh} {B0 : Br} {least : Int} {L : List (Int × Int)} {q : Nat} {p : DSt} (hp : dipN S B0 least L q = some p) : ∀ (d : Nat) (p' : DSt), dipN S B0 least L (q + d) = some p' → ∃ rest, p'.2.2 = p.2.2 ++ rest ∧ ∀ x ∈ rest, (q : Int) ≤ x
  | 0, p', h => by
    rw [Nat.add_zero, hp] at h
    cases h; exact ⟨[], by simp, fun x hx => by cases hx⟩
  | d + 1, p', h => by
    cases hm : dipN S B0 least L (q + d) with
    | none => have := dipN_none hm 1; rw [Nat.add_assoc, h] at this; cases this
    | some pm =>
      obtain ⟨r1, e1, h1⟩ := dipN_pre hp d pm hm
      have h2 : dipStep B0 least pm (q + d) (L.getD (q + d) (0, 0)) = some p' := by
        have : dipN S B0 least L (q + d + 1) = (dipN S B0 least L (q + d)).bind fun p => dipStep B0 least p (q + d) (L.getD (q + d) (0, 0)) := rfl
        rw [hm, Option.bind_some] at this
        rw [← this]; exact h
      obtain ⟨r2, e2, h3⟩ := dipStep_pre h2
      refine ⟨r1 ++ r2, by rw [e2, e1, List.append_assoc], fun x hx => ?_⟩
      rcases List.mem_append.1 hx with hx | hx
      · exact h1 x hx
      · have := h3 x hx; omega
theorem dip_replay {S : Sh} {B : Br} {least : Int} {L : List (Int × Int)} {pe p : DSt} (hE : dipN S B least L L.length = some pe) {q : Nat} (hq : q < L.length) (hp : dipN S B least L q = some p) :
    ∃ p', dipN S B least L (q + 1) = some p' ∧ p.2.2.length ≤ pe.2.2.length ∧
      ((p.2.2.length < pe.2.2.length ∧ pe.2.2.getD p.2.2.length 0 = q ∧ p' = (touchS p.1 B (L.getD q (0, 0)).2 (L.getD q (0, 0)).1, touchB p.1 B (L.getD q (0, 0)).2 (L.getD q (0, 0)).1, p.2.2 ++ [(q : Int)]) ∧ least ≤ lvSum p.1 B (L.getD q (0, 0)).2 (L.getD q (0, 0)).1) ∨
       (¬ (p.2.2.length < pe.2.2.length ∧ pe.2.2.getD p.2.2.length 0 = q) ∧ p' = (touchS p.1 p.2.1 (L.getD q (0, 0)).2 (L.getD q (0, 0)).1, touchB p.1 p.2.1 (L.getD q (0, 0)).2 (L.getD q (0, 0)).1, p.2.2) ∧
        (waxB p.1 (L.getD q (0, 0)).1 (L.getD q (0, 0)).2 = true ∨ least ≤ lvSum p.1 p.2.1 (L.getD q (0, 0)).2 (L.getD q (0, 0)).1))) := by
  have hs : dipN S B least L (q + 1) = dipStep B least p q (L.getD q (0, 0)) := by
    show (dipN S B least L q).bind _ = _
    rw [hp, Option.bind_some]
  obtain ⟨r0, e0, _⟩ := dipN_pre hp (L.length - q) pe (by rw [show q + (L.length - q) = L.length by omega]; exact hE)
  have hlen : p.2.2.length ≤ pe.2.2.length := by rw [e0, List.length_append]; omega
  cases hm : dipN S B least L (q + 1) with
  | none => have := dipN_end hm (by omega); rw [hE] at this; cases this
  | some p' =>
    rw [hm] at hs
    refine ⟨p', rfl, hlen, ?_⟩
    obtain ⟨r1, e1, h1⟩ := dipN_pre hm (L.length - (q + 1)) pe (by rw [show q + 1 + (L.length - (q + 1)) = L.length by omega]; exact hE)
    have no : p'.2.2 = p.2.2 → ¬ (p.2.2.length < pe.2.2.length ∧ pe.2.2.getD p.2.2.length 0 = q) := fun e ⟨g1, g2⟩ => by
      rw [e] at e1
      rw [e1, List.length_append] at g1
      rw [e1, List.getD_eq_getElem?_getD, List.getElem?_append_right (Nat.le_refl _), Nat.sub_self] at g2
      cases r1 with
      | nil => simp at g1
      | cons z r1 =>
        have := h1 z (by simp)
        simp at g2
        omega
    have hs' := hs.symm
    unfold dipStep at hs'
    split at hs'
    · rename_i hw
      cases hs'
      exact .inr ⟨no rfl, by rw [touchS_wax hw, touchB_wax hw], .inl hw⟩
    · split at hs'
      · split at hs'
        · cases hs'
        · rename_i h4
          cases hs'
          refine .inl ⟨?_, ?_, rfl, by omega⟩
          · rw [e1]; simp
          · rw [e1]; simp [List.getD_eq_getElem?_getD]
      · rename_i h3
        cases hs'
        exact .inr ⟨no rfl, rfl, .inr (by omega)⟩
end Go.Proofs.Ytpcnhenenjblpaa.V

/- DipsFor by the program's own code: the walk. -/
namespace Go.Proofs.Ytpcnhenenjblpaa.V

section
variable (cx : Cx) (h : List (Nat × Seg)) (n : Nat)
variable (i cap : Nat) (L : List (Int × Int)) (s : Seg) (hs : hget h i = some s) (hi : i < n) (hL : SpsAt s L) (hm9 : L.length ≤ 1000000000) (S : Sh) (B : Br) (hR : ShR S) (hB : BrR B) (least : Int)
theorem one_flat {v : Int} {k : Nat} (hk : k < 1) : (cl [SV.int .i64 v] k).flat := by obtain rfl : k = 0 := (by omega); trivial
theorem intsC_push (z : Nat) (out : List Int) (v : Int) {k : Nat} (hk : k < (out ++ [v]).length) : both out.length (intsC out) (news (upd (zrow (ti 2)) 0 (.int .i64 v)) 0) k = intsC (out ++ [v]) k := by
  rw [List.length_append, List.length_singleton] at hk
  unfold intsC
  by_cases h : k < out.length
  · simp only [both, h, if_true]
    rw [List.getD_eq_getElem?_getD, List.getD_eq_getElem?_getD, List.getElem?_append_left h]
  · obtain rfl : k = out.length := by omega
    simp only [both, Nat.lt_irrefl, if_false, Nat.sub_self, news, upd, if_true]
    simp
theorem dipN_succ {S : Sh} {B0 : Br} {least : Int} {L : List (Int × Int)} {q : Nat} {p : DSt} (h : dipN S B0 least L q = some p) : dipN S B0 least L (q + 1) = dipStep B0 least p q (L.getD q (0, 0)) := by
  simp only [dipN, h, Option.bind_some]
include hs hi hL hm9 hR hB in
theorem dips_E (K : HK) (hK : ∀ V h' n', n ≤ n' → HExt n h h' → HOk n' h' → IntsOut h' n n' V (dipR S B L least).1 → K (.tup 2 (cl [V, .int .i64 (dipR S B L least).2])) h' n') :
    CallE Try.prog cx 12 [.agg 266 (shC S), .agg 5 (brC B), .sl i 0 L.length cap, .int .i64 least] h n K := by
  have hn := hL.1
  refine CallE.hokE ?_
  refine callE_of_T (P := Try.prog) hti (nt := 61) (rs := [.tmp 8, .tmp 9]) rfl rfl Try.call12 Try.func12 rfl _ (by simp only [go_sem, and_self]) (Nat.le_of_ble_eq_true rfl) _ fun hok => ?_
  simp only [go_sem, Nat.reduceLT]
  refine T_draw hti _ _ (by kernel_rfl) (by kernel_rfl) ?_
  simp only [go_sem, Nat.reduceLT]
  refine (validPath_Q _ _ _ i cap L s (by simp only [go_sem, hs, hi]) (by omega) hL hm9 S hR).A ?_
  have bad : ∀ (c : Int) (h' : List (Nat × Seg)) (n' : Nat), dipR S B L least = ([], c) → n ≤ n' → HExt n h h' → HOk n' h' → K (.tup 2 (cl [.nils, .int .i64 c])) h' n' := fun c h' n' e hn' hx hok' => by
    have := hK .nils h' n' hn' hx hok' (by rw [e]; exact .inl ⟨rfl, rfl⟩)
    rw [e] at this; exact this
  by_cases hP : Valid S ∧ PathP S L
  rotate_left
  · simp only [go_sem, Nat.reduceLT, boolOf_f hP]
    refine (brushCode_Q _ _ _ S B _ hR hB).A ?_
    by_cases hv : Valid S ∧ BrV B
    · simp only [go_sem, Nat.reduceLT, reduceIte, Int.reduceEq, bCode_ok hv]
      exact fun hok' => bad 2 _ _ (dipR_range hv fun h => hP ⟨hv.1, h.1⟩) (by omega) (by simp only [go_sem, HExt_cons]) hok'
    · simp only [go_sem, Nat.reduceLT, Int.reduceEq, bCode_bad hv]
      exact fun hok' => bad 1 _ _ (dipR_bad hv) (by omega) (by simp only [go_sem, HExt_cons]) hok'
  simp only [go_sem, Nat.reduceLT, boolOf_t hP]
  refine (isDarkness_Q _ _ _ _).A ?_
  simp only [go_sem, Nat.reduceLT]
  refine (brushCode_Q _ _ _ S B _ hR hB).A ?_
  by_cases hv : Valid S ∧ BrV B
  rotate_left
  · simp only [go_sem, Nat.reduceLT, Int.reduceEq, bCode_bad hv]
    exact fun hok' => bad 1 _ _ (dipR_bad hv) (by omega) (by simp only [go_sem, HExt_cons]) hok'
  by_cases hd : 1 ≤ least ∧ least ≤ 3000
  rotate_left
  · simp only [go_sem, Nat.reduceLT, reduceIte, Int.reduceEq, bCode_ok hv, hd]
    exact fun hok' => bad 2 _ _ (dipR_range hv fun h => hd h.2) (by omega) (by simp only [go_sem, HExt_cons]) hok'
  simp only [go_sem, Nat.reduceLT, reduceIte, bCode_ok hv, hd]
  have hsm : Small S := hv.1.1
  have hO := hv.1.ok hv.2 hR
  have hI : InP S L := hP.2.2.2
  have h80 : L.length ≤ 80 := hP.2.2.1.2
  have ok3 : HOk (n + 3) ((n + 2, ⟨1, cl [.int .i64 least], true, none⟩) :: (n + 1, brS B) :: (n, shS S) :: h) :=
    hok_cons (hok_cons (hok_cons (hok_up hok (by omega)) (by omega) fun k hk => shC_flat _ _) (by omega) fun k hk => brC_flat _ hk) (by omega) fun k hk => one_flat hk
  refine T_drawH hti 5 [4] (.b 0 1 (.b 2 0 (.b 2 2 (.b 0 3 (.b 4 4 (.f) .o) .o) .o) (.b 2 2 (.b 2 0 (.b 0 3 (.b 4 4 (.f) .o) .o) .o) .o)) .o)  [(2, .sl i 0 L.length cap), (4, .ptr n 0), (5, .ptr (n + 1) 0), (7, .ptr (n + 2) 0), (11, .sl (n + 4) 0 0 0), (12, .ptr (n + 3) 0)]
    ((n + 4, ⟨0, intsC [], true, some (2, 0)⟩) :: (n + 3, brS B) :: (n + 2, ⟨1, cl [.int .i64 least], true, none⟩) :: (n + 1, brS B) :: (n, shS S) :: h) (n + 5) _ _ (by kernel_rfl) (by kernel_rfl) ?_ ?_
  · simp only [go_sem, Nat.reduceLT]
    refine T_lp (ι := { w : Nat × DSt × Nat // w.1 ≤ L.length ∧ dipN S B least L w.1 = some w.2.1 ∧ w.2.1.2.2.length ≤ w.2.2 ∧ w.2.2 ≤ maxLen })
      (fun w => ([(4, .ptr n 0), (5, .ptr (n + 1) 0), (11, .sl (n + 4) 0 w.1.2.1.2.2.length w.1.2.2), (12, .ptr (n + 3) 0), (13, .fn 54 0 (cl []) 2 (cl [.ptr n 0, .ptr (n + 2) 0])), (32, .sl i 0 L.length cap), (33, .int .i64 L.length), (34, .int .i64 w.1.1)],
        (n + 4, ⟨w.1.2.1.2.2.length, intsC w.1.2.1.2.2, true, some (2, w.1.2.2)⟩) :: (n + 3, brS w.1.2.1.2.1) :: (n + 2, ⟨1, cl [.int .i64 least], true, none⟩) :: (n + 1, brS B) :: (n, shS w.1.2.1.1) :: h, n + 5)) (fun w => L.length - w.1.1) ⟨(0, (S, B, []), 0), by simp, rfl, by simp, by simp [Go.maxLen]⟩ ?_ ?_
    · refine Imp.id (by simp) ?_ ?_
      · simp only [go_sem, Nat.reduceLT, hi]
        (try omega)
      · (repeat (refine impH.cons0 (by first | (simp only [go_sem, Nat.reduceLT]; done) | (simp only [go_sem, Nat.reduceBEq, Nat.reduceLT, Nat.reduceLeDiff, Nat.reduceAdd, Nat.reduceMul, Nat.reduceSub, Nat.reduceMod, Nat.reduceDiv, Nat.reduceEqDiff, Int.reduceToNat, reduceIte, reduceCtorEq, Int.reduceLE, Int.reduceLT, Int.reduceEq, Int.reduceNeg, Int.reduceAdd, Int.reduceSub, Int.reduceMul]; rfl)) (by simp) (SegLe.flat (Nat.le_refl _) id (.inr rfl) fun z hz => ⟨rfl, by first | exact shC_flat _ _ | exact brC_flat _ hz | exact cl_flat (l := [_, _, _, _, _]) (by simp [SV.flat]) hz | exact one_flat hz | trivial⟩) ?_)); exact impH.base0 hok (by simp) (by simp only [go_sem, HExt_cons])
    · rintro ⟨⟨q, p, capo⟩, hq, he, hcap, hmx⟩
      have hD := dipN_ok hI hsm hO q p hq he
      obtain ⟨Sq, Bq, out⟩ := p
      have hR' := hD.ok.R; have hG' := hD.ok.G; have hB' := hD.ok.B; have hlen := hD.len
      simp only at hR' hG' hB' hlen hcap hmx hq
      simp only [go_sem, Nat.reduceLT, decide_eq_true_eq, decide_eq_false_iff_not]
      refine ⟨fun h1 => ?_, fun h1 => ?_⟩
      · have r1 : (0 : Int) ≤ q ∧ (q : Int) < L.length := ⟨by omega, by omega⟩
        have b1 : q * 2 ≤ s.n - 2 := by omega
        have b3 : 2 ≤ s.n := by omega
        obtain ⟨x0, x8, y0, y8⟩ := hI.at hsm (q := q) (by omega)
        have hsucc := dipN_succ he
        generalize hx : (L.getD q (0, 0)).1 = x at *
        generalize hy : (L.getD q (0, 0)).2 = y at *
        have ex : s.c (q * 2) = .int .i8 x := by rw [hL.x (j := q) (by omega), hx]
        have ey : s.c (q * 2 + 1) = .int .i8 y := by rw [hL.y (j := q) (by omega), hy]
        have ok4 : ∀ S' B', HOk (n + 4) ((n + 3, brS B') :: (n + 2, ⟨1, cl [.int .i64 least], true, none⟩) :: (n + 1, brS B) :: (n, shS S') :: h) := fun S' B' =>
          hok_cons (hok_cons (hok_cons (hok_cons (hok_up hok (by omega)) (by omega) fun k hk => shC_flat _ _) (by omega) fun k hk => brC_flat _ hk) (by omega) fun k hk => one_flat hk) (by omega) fun k hk => brC_flat _ hk
        simp only [go_sem, Nat.reduceLT, reduceIte, hs, hi, r1, b1, b3, ex, ey]
        refine ⟨by omega, (waxed_Q _ _ _ n 0 _ Sq x y (by simp only [go_sem]) (by omega) (shAt_shC hR') x0 y0 y8).A ?_⟩
        by_cases hw : waxB Sq x y = true
        · have hst : dipN S B least L (q + 1) = some (Sq, Bq, out) := by rw [hsucc]; unfold dipStep; simp only [hx, hy, hw, if_true]
          simp only [go_sem, Nat.reduceLT, hw]
          refine callA_false (touch_E _ _ _ n Sq Bq x y (by simp only [go_sem]) (by omega) hR' hG' hB' x0 x8 y0 y8 (n + 3) (by simp only [go_sem, Nat.reduceLT]) (by omega) (by simp only [go_sem]) _ ?_)
          rw [touchS_wax hw, touchB_wax hw]
          simp only [go_sem, Nat.reduceLT]
          refine ⟨⟨(q + 1, (Sq, Bq, out), capo), by show q + 1 ≤ L.length; omega, hst, hcap, hmx⟩, by show L.length - (q + 1) < L.length - q; omega, ?_⟩
          exact imp_one (n + 4) (n + 4) (Nat.le_add_right n 4) (ok4 Sq Bq) (by simp only [go_sem, Nat.reduceLeDiff, HExt_cons]) (by omega) (by simp only [go_sem, Nat.reduceLT]) (fun k hk => trivial) (by simp only [go_sem, Nat.reduceLT, hi, w64 (n := (q : Int) + 1) (by omega), Int.natCast_add, Int.natCast_one]; omega)
        · simp only [go_sem, Nat.reduceLT, hw]
          refine (few_Q _ _ _ n Sq Bq x y least (by simp only [go_sem]) (by omega) hR' hG' hB' x0 x8 y0 y8 (n + 2) (by simp only [go_sem, Nat.reduceLT]) (by omega)).A ?_
          by_cases hf : lvSum Sq Bq y x < least
          · simp only [go_sem, Nat.reduceLT, hf]
            refine (few_Q _ _ _ n Sq B x y least (by simp only [go_sem]) (by omega) hR' hG' hv.2 x0 x8 y0 y8 (n + 2) (by simp only [go_sem, Nat.reduceLT]) (by omega)).A ?_
            by_cases hf0 : lvSum Sq B y x < least
            · have hst : dipN S B least L (q + 1) = none := by rw [hsucc]; unfold dipStep; simp only [hx, hy, hw, hf, hf0, if_true, if_false, Bool.false_eq_true]
              simp only [go_sem, Nat.reduceLT, hf0]
              exact fun hok' => bad 6 _ _ (dipR_none hv ⟨hP.2, hd⟩ (dipN_end hst (by omega))) (by omega) (by simp only [go_sem, HExt_cons]) hok'
            · have hst : dipN S B least L (q + 1) = some (touchS Sq B y x, touchB Sq B y x, out ++ [(q : Int)]) := by rw [hsucc]; unfold dipStep; simp only [hx, hy, hw, hf, hf0, if_true, if_false, Bool.false_eq_true]
              simp only [go_sem, Nat.reduceLT, Nat.reduceLeDiff, reduceIte, hf0, ↓hok.del (show n ≤ n + 4 by omega)]
              refine ⟨by omega, fun cap1 c1 c2 => ?_⟩
              refine callA_false (touch_E _ _ _ n Sq B x y (by simp only [go_sem]) (by omega) hR' hG' hv.2 x0 x8 y0 y8 (n + 3) (by simp only [go_sem, Nat.reduceLT]) (by omega) (by simp only [go_sem]) _ ?_)
              simp only [go_sem, Nat.reduceLT]
              refine ⟨⟨(q + 1, (touchS Sq B y x, touchB Sq B y x, out ++ [(q : Int)]), cap1), by show q + 1 ≤ L.length; omega, hst, by simpa using c1, c2⟩, by show L.length - (q + 1) < L.length - q; omega, ?_⟩
              exact imp_oneE (s' := ⟨out.length + 1, both out.length (intsC out) (news (upd (zrow (ti 2)) 0 (.int .i64 (q : Int))) 0), true, some (2, cap1)⟩) (n + 4) (n + 7) (Nat.le_add_right n 4) (ok4 (touchS Sq B y x) (touchB Sq B y x)) (by simp only [go_sem, Nat.reduceLeDiff, HExt_cons]) (by omega) (by simp only [go_sem]) ⟨by simp, by simp, by simp, fun k hk => intsC_push cap1 out _ hk⟩ (fun k hk => trivial) (by simp only [go_sem, Nat.reduceLT, hi, List.length_append, List.length_cons, List.length_nil, w64 (n := (q : Int) + 1) (by omega), Int.natCast_add, Int.natCast_one]; omega)
          · have hst : dipN S B least L (q + 1) = some (touchS Sq Bq y x, touchB Sq Bq y x, out) := by rw [hsucc]; unfold dipStep; simp only [hx, hy, hw, hf, if_true, if_false, Bool.false_eq_true]
            simp only [go_sem, Nat.reduceLT, hf]
            refine callA_false (touch_E _ _ _ n Sq Bq x y (by simp only [go_sem]) (by omega) hR' hG' hB' x0 x8 y0 y8 (n + 3) (by simp only [go_sem, Nat.reduceLT]) (by omega) (by simp only [go_sem]) _ ?_)
            simp only [go_sem, Nat.reduceLT]
            refine ⟨⟨(q + 1, (touchS Sq Bq y x, touchB Sq Bq y x, out), capo), by show q + 1 ≤ L.length; omega, hst, hcap, hmx⟩, by show L.length - (q + 1) < L.length - q; omega, ?_⟩
            exact imp_one (n + 4) (n + 4) (Nat.le_add_right n 4) (ok4 (touchS Sq Bq y x) (touchB Sq Bq y x)) (by simp only [go_sem, Nat.reduceLeDiff, HExt_cons]) (by omega) (by simp only [go_sem, Nat.reduceLT]) (fun k hk => trivial) (by simp only [go_sem, Nat.reduceLT, hi, w64 (n := (q : Int) + 1) (by omega), Int.natCast_add, Int.natCast_one]; omega)
      · have hq' : q = L.length := by omega
        subst hq'
        intro hok'
        have hr := dipR_some hv ⟨hP.2, hd⟩ he
        have := hK (.sl (n + 4) 0 out.length capo) _ _ (Nat.le_add_right n 5) (by simp only [go_sem, HExt_cons]) hok' (by rw [hr]; exact .inr ⟨n + 4, capo, _, rfl, by omega, by omega, hget_hit _ _ _, rfl, rfl, fun k hk => rfl⟩)
        rw [hr] at this
        exact this
  · simp only [go_sem, Nat.reduceLT, Nat.reduceLeDiff, reduceIte]
    repeat' (with_reducible refine And.intro ?_ ?_)
    all_goals first | exact imp_twoE (t' := ⟨0, zrow (ti 2), true, some (2, 0)⟩) (n + 3) (n + 3) (n + 4) (Nat.le_add_right n 3) ok3 (by simp only [go_sem, Nat.reduceLeDiff, HExt_cons]) (by omega) (by omega) (by omega) (by simp only [go_sem, Nat.reduceLT]) (by simp only [go_sem]) .rfl' ⟨Nat.le_refl _, fun _ => rfl, .inr rfl, fun k hk => absurd hk (Nat.not_lt_zero k)⟩ (fun k hk => brC_flat _ hk) (fun k hk => trivial) (by simp only [go_sem, Nat.reduceLT, hi]; omega) | exact imp_twoE (t' := ⟨0, zrow (ti 2), true, some (2, 0)⟩) (n + 3) (n + 4) (n + 3) (Nat.le_add_right n 3) ok3 (by simp only [go_sem, Nat.reduceLeDiff, HExt_cons]) (by omega) (by omega) (by omega) (by simp only [go_sem]) (by simp only [go_sem, Nat.reduceLT]) .rfl' ⟨Nat.le_refl _, fun _ => rfl, .inr rfl, fun k hk => absurd hk (Nat.not_lt_zero k)⟩ (fun k hk => brC_flat _ hk) (fun k hk => trivial) (by simp only [go_sem, Nat.reduceLT, hi]; omega)
end
end Go.Proofs.Ytpcnhenenjblpaa.V

/- DipsFor by the reference: the walk. -/
namespace Go.Proofs.Ytpcnhenenjblpaa.V

/-- A slice that is not nil. -/
def NN (V : SV) : Prop := ∃ i o len cap, V = .sl i o len cap
section
variable (cx : Cx) (h : List (Nat × Seg)) (n : Nat)
variable (i cap : Nat) (L : List (Int × Int)) (s : Seg) (hs : hget h i = some s) (hi : i < n) (hL : SpsAt s L) (hm9 : L.length ≤ 1000000000) (S : Sh) (B : Br) (hR : ShR S) (hB : BrR B) (least : Int)
include hs hi hL hm9 hR hB in
theorem dips2N_E (hLR : SpotsR L) (K : HK) (hK : ∀ V h' n', n ≤ n' → HExt n h h' → HOk n' h' → IntsOut h' n n' V (dipR S B L least).1 → NN V → K (.tup 2 (cl [V, .int .i64 (dipR S B L least).2])) h' n') :
    CallE Try.prog cx 13 [.agg 266 (shC S), .agg 5 (brC B), .sl i 0 L.length cap, .int .i64 least] h n K := by
  have hn := hL.1
  refine CallE.hokE ?_
  refine callE_of_T (P := Try.prog) hti (nt := 66) (rs := [.tmp 8, .tmp 9]) rfl rfl Try.call13 Try.func13 rfl _ (by simp only [go_sem, and_self]) (Nat.le_of_ble_eq_true rfl) _ fun hok => ?_
  simp only [go_sem, Nat.reduceLT]
  refine (along_Q _ _ _ i cap L s (by simp only [go_sem, hs, hi]) (by omega) hL hm9 n (n + 1) S B (by simp only [go_sem]) (by omega) (by simp only [go_sem]) (by omega) hR hB hLR).A ?_
  have bad : ∀ (c : Int) (k cp : Nat) (z : Nat → SV) (ow : Option (Nat × Nat)) (h' : List (Nat × Seg)) (n' : Nat), dipR S B L least = ([], c) → n ≤ k → k < n' → n ≤ n' → hget h' k = some ⟨0, z, true, ow⟩ → HExt n h h' → HOk n' h' → K (.tup 2 (cl [.sl k 0 0 cp, .int .i64 c])) h' n' := fun c k cp z ow h' n' e hk hk' hn' hg hx hok' => by
    have := hK (.sl k 0 0 cp) h' n' hn' hx hok' (by rw [e]; exact .inr ⟨k, cp, _, rfl, hk, hk', hg, rfl, rfl, fun j hj => absurd hj (Nat.not_lt_zero j)⟩) ⟨_, _, _, _, rfl⟩
    rw [e] at this; exact this
  by_cases hv : Valid S ∧ BrV B
  rotate_left
  · rw [bCode_bad hv]
    simp only [go_sem, Nat.reduceLT, Int.reduceEq]
    exact fun hok' => bad 1 (n + 2) _ _ _ _ _ (dipR_bad hv) (by omega) (by omega) (by omega) (by simp only [go_sem]; rfl) (by simp only [go_sem, HExt_cons]) hok'
  by_cases hP : PathP S L
  rotate_left
  · rw [boolOf_f (show ¬ (Valid S ∧ PathP S L) from fun h => hP h.2), bCode_ok hv]
    simp only [go_sem, Nat.reduceLT, reduceIte, Int.reduceEq]
    exact fun hok' => bad 2 (n + 2) _ _ _ _ _ (dipR_range hv fun h => hP h.1) (by omega) (by omega) (by omega) (by simp only [go_sem]; rfl) (by simp only [go_sem, HExt_cons]) hok'
  rw [boolOf_t (show Valid S ∧ PathP S L from ⟨hv.1, hP⟩), bCode_ok hv]
  simp only [go_sem, Nat.reduceLT, reduceIte]
  refine (least2_Q _ _ _ _).A ?_
  by_cases hd : 1 ≤ least ∧ least ≤ 3000
  rotate_left
  · simp only [go_sem, Nat.reduceLT, Int.reduceEq, hd]
    exact fun hok' => bad 2 (n + 2) _ _ _ _ _ (dipR_range hv fun h => hd h.2) (by omega) (by omega) (by omega) (by simp only [go_sem]; rfl) (by simp only [go_sem, HExt_cons]) hok'
  simp only [go_sem, Nat.reduceLT, reduceIte, hd]
  have hsm : Small S := hv.1.1
  have hO := hv.1.ok hv.2 hR
  have hI : InP S L := hP.2.2
  have h80 : L.length ≤ 80 := hP.2.1.2
  have ok2 : ∀ S', HOk (n + 2) ((n + 1, brS B) :: (n, shS S') :: h) := fun S' =>
    hok_cons (hok_cons (hok_up hok (by omega)) (by omega) fun k hk => shC_flat _ _) (by omega) fun k hk => brC_flat _ hk
  refine T_lp (ι := { w : Nat × DSt × Nat // w.1 ≤ L.length ∧ dipN S B least L w.1 = some w.2.1 ∧ w.2.1.2.2.length ≤ w.2.2 ∧ w.2.2 ≤ maxLen })
      (fun w => ([(2, .sl i 0 L.length cap), (3, .int .i64 least), (4, .ptr n 0), (5, .ptr (n + 1) 0), (11, .sl (n + 3) 0 w.1.2.1.2.2.length w.1.2.2), (12, .ptr (n + 2) 0), (13, .int .i64 w.1.1)],
        (n + 3, ⟨w.1.2.1.2.2.length, intsC w.1.2.1.2.2, true, some (2, w.1.2.2)⟩) :: (n + 2, brS w.1.2.1.2.1) :: (n + 1, brS B) :: (n, shS w.1.2.1.1) :: h, n + 4)) (fun w => L.length - w.1.1) ⟨(0, (S, B, []), 0), by simp, rfl, by simp, by simp [Go.maxLen]⟩ ?_ ?_
  · exact imp_twoE (t' := ⟨0, zrow (ti 2), true, some (2, 0)⟩) (n + 2) (n + 3) (n + 2) (Nat.le_add_right n 2) (ok2 S) (by simp only [go_sem, Nat.reduceLeDiff, HExt_cons]) (by omega) (by omega) (by omega) (by simp only [go_sem]) (by simp only [go_sem, Nat.reduceLT]) .rfl' ⟨Nat.le_refl _, fun _ => rfl, .inr rfl, fun k hk => absurd hk (Nat.not_lt_zero k)⟩ (fun k hk => brC_flat _ hk) (fun k hk => trivial) (by simp only [go_sem, Nat.reduceLT, hi]; omega)
  · rintro ⟨⟨q, p, capo⟩, hq, he, hcap, hmx⟩
    have hD := dipN_ok hI hsm hO q p hq he
    obtain ⟨Sq, Bq, out⟩ := p
    have hR' := hD.ok.R; have hG' := hD.ok.G; have hB' := hD.ok.B; have hlen := hD.len
    simp only at hR' hG' hB' hlen hcap hmx hq
    simp only [go_sem, Nat.reduceLT, decide_eq_true_eq, decide_eq_false_iff_not]
    refine ⟨fun h1 => ?_, fun h1 => ?_⟩
    · have r1 : (0 : Int) ≤ q ∧ (q : Int) < L.length := ⟨by omega, by omega⟩
      have b1 : q * 2 ≤ s.n - 2 := by omega
      have b3 : 2 ≤ s.n := by omega
      obtain ⟨x0, x8, y0, y8⟩ := hI.at hsm (q := q) (by omega)
      have hsucc := dipN_succ he
      generalize hx : (L.getD q (0, 0)).1 = x at *
      generalize hy : (L.getD q (0, 0)).2 = y at *
      have ex : s.c (q * 2) = .int .i8 x := by rw [hL.x (j := q) (by omega), hx]
      have ey : s.c (q * 2 + 1) = .int .i8 y := by rw [hL.y (j := q) (by omega), hy]
      simp only [go_sem, Nat.reduceLT, hs, hi, r1, b1, b3, ex, ey]
      refine ⟨by omega, (waxed2_Q _ _ _ n 0 _ Sq x y (by simp only [go_sem]) (by omega) (shAt_shC hR') x0 (by omega) y0 y8).A ?_⟩
      by_cases hw : waxB Sq x y = true
      · have hst : dipN S B least L (q + 1) = some (Sq, Bq, out) := by rw [hsucc]; unfold dipStep; simp only [hx, hy, hw, if_true]
        simp only [go_sem, Nat.reduceLT, hw]
        refine ⟨⟨(q + 1, (Sq, Bq, out), capo), by show q + 1 ≤ L.length; omega, hst, hcap, hmx⟩, by show L.length - (q + 1) < L.length - q; omega, ?_⟩
        exact imp_twoE (n + 2) (n + 2) (n + 3) (Nat.le_add_right n 2) (ok2 Sq) (by simp only [go_sem, Nat.reduceLeDiff, HExt_cons]) (by omega) (by omega) (by omega) (by simp only [go_sem, Nat.reduceLT]) (by simp only [go_sem]) .rfl' .rfl' (fun k hk => brC_flat _ hk) (fun k hk => trivial) (by simp only [go_sem, Nat.reduceLT, hi, w64 (n := (q : Int) + 1) (by omega), Int.natCast_add, Int.natCast_one]; omega)
      · simp only [go_sem, Nat.reduceLT, hw, hs, hi, r1, b1, b3, ex, ey]
        refine ⟨by omega, (enough2_Q _ _ _ n Sq Bq x y least (by simp only [go_sem]) (by omega) hR' hG' hB' x0 x8 y0 y8 (n + 2) (by simp only [go_sem, Nat.reduceLT]) (by omega)).A ?_⟩
        by_cases hf : lvSum Sq Bq y x < least
        · have hf' : ¬ least ≤ lvSum Sq Bq y x := by omega
          simp only [go_sem, Nat.reduceLT, Nat.reduceLeDiff, reduceIte, hf', ↓hok.del (show n ≤ n + 3 by omega)]
          refine ⟨by omega, fun cap1 c1 c2 => ?_⟩
          simp only [go_sem, Nat.reduceLT, hs, hi, r1, b1, b3, ex, ey]
          refine ⟨by omega, (enough2_Q _ _ _ n Sq B x y least (by simp only [go_sem]) (by omega) hR' hG' hv.2 x0 x8 y0 y8 (n + 2) (by simp only [go_sem, Nat.reduceLT]) (by omega)).A ?_⟩
          by_cases hf0 : lvSum Sq B y x < least
          · have hst : dipN S B least L (q + 1) = none := by rw [hsucc]; unfold dipStep; simp only [hx, hy, hw, hf, hf0, if_true, if_false, Bool.false_eq_true]
            have hf0' : ¬ least ≤ lvSum Sq B y x := by omega
            simp only [go_sem, Nat.reduceLT, hf0']
            exact fun hok' => bad 6 (n + 6) _ _ _ _ _ (dipR_none hv ⟨hP, hd⟩ (dipN_end hst (by omega))) (by omega) (by omega) (by omega) (by simp only [go_sem]; rfl) (by simp only [go_sem, HExt_cons]) hok'
          · have hst : dipN S B least L (q + 1) = some (touchS Sq B y x, touchB Sq B y x, out ++ [(q : Int)]) := by rw [hsucc]; unfold dipStep; simp only [hx, hy, hw, hf, hf0, if_true, if_false, Bool.false_eq_true]
            have hf0' : least ≤ lvSum Sq B y x := by omega
            simp only [go_sem, Nat.reduceLT, hf0', hs, hi, r1, b1, b3, ex, ey]
            refine ⟨by omega, callA_false (touch2_E _ _ _ n (n + 2) Sq B _ _ (by simp only [go_sem]) (by omega) (by simp only [go_sem, Nat.reduceLT]) (by omega) hR' hG' hv.2 x0 x8 y0 y8 (by simp only [go_sem]) _ ?_)⟩
            simp only [go_sem, Nat.reduceLT]
            refine ⟨⟨(q + 1, (touchS Sq B y x, touchB Sq B y x, out ++ [(q : Int)]), cap1), by show q + 1 ≤ L.length; omega, hst, by simpa using c1, c2⟩, by show L.length - (q + 1) < L.length - q; omega, ?_⟩
            exact imp_twoE (t' := ⟨out.length + 1, both out.length (intsC out) (news (upd (zrow (ti 2)) 0 (.int .i64 (q : Int))) 0), true, some (2, cap1)⟩) (n + 2) (n + 2) (n + 5) (Nat.le_add_right n 2) (ok2 (touchS Sq B y x)) (by simp only [go_sem, Nat.reduceLeDiff, HExt_cons]) (by omega) (by omega) (by omega) (by simp only [go_sem, Nat.reduceLT]) (by simp only [go_sem]) .rfl' ⟨by simp, by simp, by simp, fun k hk => intsC_push cap1 out _ hk⟩ (fun k hk => brC_flat _ hk) (fun k hk => trivial) (by simp only [go_sem, Nat.reduceLT, hi, List.length_append, List.length_cons, List.length_nil, w64 (n := (q : Int) + 1) (by omega), Int.natCast_add, Int.natCast_one]; omega)
        · have hst : dipN S B least L (q + 1) = some (touchS Sq Bq y x, touchB Sq Bq y x, out) := by rw [hsucc]; unfold dipStep; simp only [hx, hy, hw, hf, if_true, if_false, Bool.false_eq_true]
          have hf' : least ≤ lvSum Sq Bq y x := by omega
          simp only [go_sem, Nat.reduceLT, hf', hs, hi, r1, b1, b3, ex, ey]
          refine ⟨by omega, callA_false (touch2_E _ _ _ n (n + 2) Sq Bq _ _ (by simp only [go_sem]) (by omega) (by simp only [go_sem, Nat.reduceLT]) (by omega) hR' hG' hB' x0 x8 y0 y8 (by simp only [go_sem]) _ ?_)⟩
          simp only [go_sem, Nat.reduceLT]
          refine ⟨⟨(q + 1, (touchS Sq Bq y x, touchB Sq Bq y x, out), capo), by show q + 1 ≤ L.length; omega, hst, hcap, hmx⟩, by show L.length - (q + 1) < L.length - q; omega, ?_⟩
          exact imp_twoE (n + 2) (n + 2) (n + 3) (Nat.le_add_right n 2) (ok2 (touchS Sq Bq y x)) (by simp only [go_sem, Nat.reduceLeDiff, HExt_cons]) (by omega) (by omega) (by omega) (by simp only [go_sem, Nat.reduceLT]) (by simp only [go_sem]) .rfl' .rfl' (fun k hk => brC_flat _ hk) (fun k hk => trivial) (by simp only [go_sem, Nat.reduceLT, hi, w64 (n := (q : Int) + 1) (by omega), Int.natCast_add, Int.natCast_one]; omega)
    · have hq' : q = L.length := by omega
      subst hq'
      intro hok'
      have hr := dipR_some hv ⟨hP, hd⟩ he
      have := hK (.sl (n + 3) 0 out.length capo) _ _ (Nat.le_add_right n 4) (by simp only [go_sem, HExt_cons]) hok' (by rw [hr]; exact .inr ⟨n + 3, capo, _, rfl, by omega, by omega, hget_hit _ _ _, rfl, rfl, fun k hk => rfl⟩) ⟨_, _, _, _, rfl⟩
      rw [hr] at this
      exact this
include hs hi hL hm9 hR hB in
end
end Go.Proofs.Ytpcnhenenjblpaa.V

/- Touching, darkness, the least share: the walks, where all is valid. -/
namespace Go.Proofs.Ytpcnhenenjblpaa.V
theorem withS_V {B : Br} (h : BrV B) {k : Int} (hk : 1 ≤ k ∧ k ≤ 16) : BrV (B.withS k) := ⟨h.1, h.2.1, h.2.2.1, hk⟩
theorem enB_any {S T : Sh} {L : List (Int × Int)} {least : Int} (hw : T.wax = S.wax) : (L.any fun a => !waxB T a.1 a.2 && decide (darkB T a.1 a.2 < least)) = !enB S T L least := by
  unfold enB
  rw [List.not_all_eq_any_not]
  congr 1
  funext a
  have : waxB T a.1 a.2 = waxB S a.1 a.2 := by unfold waxB; rw [hw]
  rw [this]
  cases waxB S a.1 a.2
  · simp only [Bool.not_false, Bool.true_and, Bool.false_or]
    rw [← decide_not, decide_eq_decide]; omega
  · simp
section
variable (cx : Cx) (h : List (Nat × Seg)) (n : Nat)
theorem touchCell_Q (S : Sh) (B : Br) (x y : Int) (hV : Valid S) (hR : ShR S) (hb : BrV B) (hh : hasB S x y = true) :
    CallQ Try.prog cx 18 [.agg 266 (shC S), .agg 5 (brC B), spot x y] h n (.tup 3 (cl [.agg 266 (shC (touchS S B y x)), .agg 5 (brC (touchB S B y x)), .int .i64 0])) := by
  obtain ⟨x0, x8, y0, y8⟩ := hasB_in hV.1 hh
  refine callQ_of_T (P := Try.prog) hti (nt := 24) (rs := [.cell 6 33, .cell 7 36, .tmp 8]) rfl rfl Try.call18 Try.func18 rfl _ (by simp only [go_sem, and_self]) (Nat.le_of_ble_eq_true rfl) _ (tup3_lt _ _ 0 _ _) fun hok => ?_
  simp only [go_sem, Nat.reduceLT]
  refine T_drawG hti 6 [] (.b 0 0 (.b 0 1 (.b 0 2 (.b 2 3 (.b 2 4 (.b 0 5 (.f) .o) .o) .o) .o) .o) .o) _ _ (by kernel_rfl) (by kernel_rfl) ?_
  simp only [go_sem, Nat.reduceLT]
  refine (has_Q _ _ _ n 0 _ S x y (by simp only [go_sem]) (by omega) (shAt_shC hR)).A ?_
  rw [hh]
  simp only [go_sem, Nat.reduceLT]
  refine (brushCode_Q _ _ _ S B true hR hb.R).A ?_
  rw [bCode_ok ⟨hV, hb⟩]
  simp only [go_sem, Nat.reduceLT, if_true]
  refine callA_false (touch_E _ _ _ n S B x y (by simp only [go_sem]) (by omega) hR hV.good hb x0 x8 y0 y8 (n + 1) (by simp only [go_sem, Nat.reduceLT]) (by omega) (by simp) _ ?_)
  simp only [go_sem, Nat.reduceLT]
  refine T_drawG hti 5 [2, 3] (.b 0 0 (.b 2 1 (.b 4 2 (.b 4 3 (.b 0 4 (.f) .o) .o) .o) (.b 4 2 (.b 2 1 (.b 4 3 (.b 0 4 (.f) .o) .o) .o) .o)) .o) _ _ (by kernel_rfl) (by kernel_rfl) ?_
  simp only [go_sem, Nat.reduceLT, reduceIte]
theorem darkAt2_Q (S : Sh) (x y : Int) (hV : Valid S) (hR : ShR S) (hh : hasB S x y = true) :
    CallQ Try.prog cx 16 [.agg 266 (shC S), spot x y] h n (.tup 2 (cl [.int .i64 (darkB S x y), .int .i64 0])) := by
  obtain ⟨x0, x8, y0, y8⟩ := hasB_in hV.1 hh
  refine callQ_of_T (P := Try.prog) hti (nt := 14) (rs := [.tmp 4, .tmp 5]) rfl rfl Try.call16 Try.func16 rfl _ (by simp only [go_sem, and_self]) (Nat.le_of_ble_eq_true rfl) _ (by first | exact trivial | (refine lt_flat rfl ?_; simp [SV.flat]; done) | simp only [go_sem]) fun hok => ?_
  simp only [go_sem, Nat.reduceLT]
  refine (asked2_Q _ _ _ n S x y true (by simp only [go_sem]) (by omega) hR (by omega) (by omega)).A ?_
  rw [hh, codeI_ok hV]
  simp only [go_sem, Nat.reduceLT, Bool.and_self, if_true]
  refine (dark2_Q _ _ _ n S x y (by simp only [go_sem]) (by omega) hV.good x0 x8 y0 y8).A ?_
  simp only [go_sem, Nat.reduceLT]
theorem loadOf2_Q (B : Br) (hb : BrV B) : CallQ Try.prog cx 23 [.agg 5 (brC B)] h n (.int .i64 (B.a + B.b + B.c)) := by
  refine callQ_of_T (P := Try.prog) hti (nt := 4) (rs := [.tmp 2]) rfl rfl Try.call23 Try.func23 rfl _ (by simp only [go_sem, and_self]) (Nat.le_of_ble_eq_true rfl) _ (by first | exact trivial | (refine lt_flat rfl ?_; simp [SV.flat]; done) | simp only [go_sem]) fun hok => ?_
  simp only [go_sem, Nat.reduceLT]
  refine (load2_Q _ _ _ n B (by simp only [go_sem]) (by omega) hb.R).A ?_
  simp only [go_sem, Nat.reduceLT]
variable (i cap : Nat) (L : List (Int × Int)) (s : Seg) (hs : hget h i = some s) (hi : i < n) (hL : SpsAt s L) (S : Sh) (B : Br) (hV : Valid S) (hR : ShR S) (hb : BrV B) (hP : PathP S L) (least : Int) (hl : 1 ≤ least ∧ least ≤ 3000)
include hs hi hL hV in
theorem l04dark_Q (p : Nat) (T : Sh) (hp : hget h p = some (shS T)) (hpn : p < n) (hR' : ShR T) (hG' : Good T) (hI : InP T L) (h80 : L.length ≤ 80) (hw : T.wax = S.wax) :
    CallQ Try.prog cx 53 [.ptr p 0, .sl i 0 L.length cap, .int .i64 least] h n (.bool (enB S T L least)) := by
  have hn := hL.1
  have hwB : ∀ x y, waxB T x y = waxB S x y := fun x y => by unfold waxB; rw [hw]
  refine callQ_of_T (P := Try.prog) hti (nt := 31) (rs := [.tmp 6]) rfl rfl Try.call53 Try.func53 rfl _ (by simp only [go_sem, and_self]) (Nat.le_of_ble_eq_true rfl) _ (by first | exact trivial | (refine lt_flat rfl ?_; simp [SV.flat]; done) | simp only [go_sem]) fun hok => ?_
  simp only [go_sem, Nat.reduceLT]
  refine T_lp (ι := { q : Nat // q ≤ L.length ∧ ∀ k, k < q → (waxB S (L.getD k (0, 0)).1 (L.getD k (0, 0)).2 || decide (least ≤ darkB T (L.getD k (0, 0)).1 (L.getD k (0, 0)).2)) = true })
    (fun q => ([(0, .ptr p 0), (1, .sl i 0 L.length cap), (2, .int .i64 least), (7, .int .i64 q.1)], h, n)) (fun q => L.length - q.1) ⟨0, by omega, fun k hk => by omega⟩ ?_ ?_
  · refine Imp.id (by simp) ?_ (impH.base0 hok (by simp) HExt.rfl)
    simp only [go_sem, Nat.reduceLT, hi, hpn]
    (try (repeat' apply And.intro) <;> first | omega | rfl | trivial | assumption | skip)
  rintro ⟨q, hq, hall⟩
  simp only [go_sem, Nat.reduceLT, decide_eq_true_eq, decide_eq_false_iff_not]
  refine ⟨fun h1 => ?_, fun h1 => ?_⟩
  · have hql : q < L.length := by omega
    have r1 : (0 : Int) ≤ q ∧ (q : Int) < L.length := ⟨by omega, h1⟩
    have b1 : q * 2 ≤ s.n - 2 := by omega
    have b2 : 2 ≤ s.n := by omega
    have b3 : q * 2 + 2 ≤ s.n := by omega
    have ex := hL.x hql
    have ey := hL.y hql
    have hmem : L.getD q (0, 0) ∈ L := by rw [List.getD_eq_getElem?_getD, List.getElem?_eq_getElem hql]; exact List.getElem_mem _
    obtain ⟨x0, x8, y0, y8⟩ := hI.at hG'.small hql
    have bad : (waxB S (L.getD q (0, 0)).1 (L.getD q (0, 0)).2 || decide (least ≤ darkB T (L.getD q (0, 0)).1 (L.getD q (0, 0)).2)) = false → enB S T L least = false := fun e => by
      unfold enB
      rw [Bool.eq_false_iff]
      intro ha
      have := List.all_eq_true.1 ha _ hmem
      rw [e] at this; cases this
    have nxt : (waxB S (L.getD q (0, 0)).1 (L.getD q (0, 0)).2 || decide (least ≤ darkB T (L.getD q (0, 0)).1 (L.getD q (0, 0)).2)) = true → ∀ k, k < q + 1 → (waxB S (L.getD k (0, 0)).1 (L.getD k (0, 0)).2 || decide (least ≤ darkB T (L.getD k (0, 0)).1 (L.getD k (0, 0)).2)) = true := fun e k hk => by
      by_cases hkq : k = q
      · rw [hkq]; exact e
      · exact hall k (by omega)
    generalize (L.getD q (0, 0)).1 = x at *
    generalize (L.getD q (0, 0)).2 = y at *
    simp only [go_sem, Nat.reduceLT, hs, hi, r1, b1, b2, b3, ex, ey]
    refine (waxed2_Q _ _ _ p 0 _ T x y (by simp only [go_sem, hp]) (by omega) (shAt_shC hR') x0 (by omega) y0 y8).A ?_
    rw [hwB]
    cases hx : waxB S x y
    · rw [hx, Bool.false_or] at bad nxt
      simp only [go_sem, Nat.reduceLT, hs, hi, r1, b1, b2, b3, ex, ey]
      refine (dark2_Q _ _ _ p T x y (by simp only [go_sem, hp]) (by omega) hG' x0 x8 y0 y8).A ?_
      by_cases hd : darkB T x y < least
      · rw [bad (decide_eq_false (by omega))]
        simp only [go_sem, Nat.reduceLT, hd]
      · simp only [go_sem, Nat.reduceLT, hd]
        refine ⟨⟨q + 1, by omega, nxt (decide_eq_true (by omega))⟩, by show L.length - (q + 1) < L.length - q; omega, ?_⟩
        refine Imp.id (by simp) ?_ (impH.base0 hok (Nat.le_refl _) HExt.rfl)
        simp only [go_sem, Nat.reduceLT, hi, hpn, w64 (n := (q : Int) + 1) (by omega), Int.natCast_add, Int.natCast_one]
        (try (repeat' apply And.intro) <;> first | omega | rfl | trivial | assumption | skip)
    · rw [hx, Bool.true_or] at nxt
      simp only [go_sem, Nat.reduceLT]
      refine ⟨⟨q + 1, by omega, nxt rfl⟩, by show L.length - (q + 1) < L.length - q; omega, ?_⟩
      refine Imp.id (by simp) ?_ (impH.base0 hok (Nat.le_refl _) HExt.rfl)
      simp only [go_sem, Nat.reduceLT, hi, hpn, w64 (n := (q : Int) + 1) (by omega), Int.natCast_add, Int.natCast_one]
      (try (repeat' apply And.intro) <;> first | omega | rfl | trivial | assumption | skip)
  · have hql : q = L.length := by omega
    subst hql
    have e : enB S T L least = true := List.all_eq_true.2 fun a ha => by
      obtain ⟨k, hk, rfl⟩ := List.mem_iff_getElem.1 ha
      have := hall k hk
      rw [List.getD_eq_getElem?_getD, List.getElem?_eq_getElem hk] at this
      exact this
    rw [e]
theorem least1_Q (iv il : Nat) (T : Sh) (x y : Int) (hv : hget h iv = some (shS T)) (hvn : iv < n) (hg : hget h il = some ⟨1, cl [.int .i64 least], true, none⟩) (hgn : il < n) (hR' : ShR T) (hG' : Good T) (hx : 0 ≤ x) (hx8 : x < 8) (hy : 0 ≤ y) (hy8 : y < 8) :
    CallQ Try.prog cx 47 [spot x y, .ptr iv 0, .ptr il 0] h n (.bool (!waxB T x y && decide (darkB T x y < least))) := by
  have hne : (n == iv) = false := by simp; omega
  have hnl : (n == il) = false := by simp; omega
  refine callQ_of_T (P := Try.prog) hti (nt := 14) (rs := [.tmp 4]) rfl rfl Try.call47 Try.func47 rfl _ (by simp only [go_sem, and_self]) (Nat.le_of_ble_eq_true rfl) _ (by first | exact trivial | (refine lt_flat rfl ?_; simp [SV.flat]; done) | simp only [go_sem]) fun hok => ?_
  simp only [go_sem, Nat.reduceLT]
  refine T_drawG hti 10 [] (.b 0 0 (.b 2 1 (.b 0 2 (.b 0 3 (.b 0 4 (.b 0 6 (.b 2 5 (.b 0 7 (.b 0 8 (.b 0 9 (.f) .o) .o) .o) .o) .o) .o) .o) .o) .o) .o) _ _ (by kernel_rfl) (by kernel_rfl) ?_
  simp only [go_sem, Nat.reduceLT]
  refine (waxed_Q _ _ _ iv 0 _ T x y (by simp only [go_sem, hne, hv]) (by omega) (shAt_shC hR') hx hy hy8).A ?_
  cases hw : waxB T x y
  · simp only [go_sem, Nat.reduceLT, Bool.not_false, Bool.true_and, hnl, hg, hgn]
    refine (dark_Q _ _ _ iv 0 _ T x y (by simp only [go_sem, hne, hv]) (by omega) (shAt_shC hR') hG' hx hx8 hy hy8).A ?_
    simp only [go_sem, Nat.reduceLT, hnl, hg, hgn]
  · simp only [go_sem, Nat.reduceLT, Bool.not_true, Bool.false_and]
end
end Go.Proofs.Ytpcnhenenjblpaa.V

/- The least share: the walks of both codes. -/
namespace Go.Proofs.Ytpcnhenenjblpaa.V
theorem lsN_first {f : Nat → Bool} {r : Nat} (h1 : 1 ≤ r) (hf : f r = true) (hn : ∀ k, 1 ≤ k → k < r → f k = false) : ∀ m, r ≤ m → lsN f m = some r
  | 0, h => by omega
  | m + 1, h => by
    unfold lsN
    by_cases hm : r ≤ m
    · rw [lsN_first h1 hf hn m hm]
    · have e : r = m + 1 := by omega
      subst e
      have : lsN f m = none := by
        cases hq : lsN f m with
        | none => rfl
        | some q =>
          obtain ⟨a, b, c, d⟩ := lsN_some hq
          rw [hn q a (by omega)] at c; cases c
      rw [this]
      simp [hf]
theorem lsN_all {f : Nat → Bool} {m : Nat} (h : ∀ k, 1 ≤ k → k ≤ m → f k = false) : lsN f m = none := by
  cases hq : lsN f m with
  | none => rfl
  | some q =>
    obtain ⟨a, b, c, d⟩ := lsN_some hq
    rw [h q a b] at c; cases c
section
variable (cx : Cx) (h : List (Nat × Seg)) (n : Nat)
variable (i cap : Nat) (L : List (Int × Int)) (s : Seg) (hs : hget h i = some s) (hi : i < n) (hL : SpsAt s L) (S : Sh) (B : Br) (hV : Valid S) (hR : ShR S) (hb : BrV B) (hP : PathP S L) (hLR : SpotsR L) (least : Int) (hl : 1 ≤ least ∧ least ≤ 3000)
include hs hi hL hV hR hb hP hLR hl
theorem leastShare2_Q : CallQ Try.prog cx 11 [.agg 266 (shC S), .agg 5 (brC B), .sl i 0 L.length cap, .int .i64 least] h n (.tup 2 (cl [.int .i64 (lsR S B L least).1, .int .i64 (lsR S B L least).2])) := by
  have h80 : L.length ≤ 80 := hP.2.1.2
  have hI := hP.2.2
  have hn := hL.1
  refine callQ_of_T (P := Try.prog) hti (nt := 44) (rs := [.tmp 8, .tmp 9]) rfl rfl Try.call11 Try.func11 rfl _ (by simp only [go_sem, and_self]) (Nat.le_of_ble_eq_true rfl) _ (by first | exact trivial | (refine lt_flat rfl ?_; simp [SV.flat]; done) | simp only [go_sem]) fun hok => ?_
  simp only [go_sem, Nat.reduceLT]
  refine (along_Q _ _ _ i cap L s (by simp only [go_sem, hs, hi]) (by omega) hL (by omega) n (n + 1) S B (by simp only [go_sem]) (by omega) (by simp only [go_sem]) (by omega) hR hb.R hLR).A ?_
  rw [boolOf_t ⟨hV, hP⟩, bCode_ok ⟨hV, hb⟩]
  simp only [go_sem, Nat.reduceLT, if_true]
  refine (least2_Q _ _ _ least).A ?_
  simp only [go_sem, Nat.reduceLT, hl]
  have okM : ∀ k, HOk (n + 2) ((n + 1, brS (B.withS k)) :: (n, shS S) :: h) := fun k => hok_cons (hok_cons (hok_up hok (by omega)) (by omega) fun k hk => shC_flat _ _) (by omega) fun k hk => brC_flat _ hk
  refine T_lp (ι := { w : Nat × Int // w.1 ≤ 16 ∧ ∀ k, 1 ≤ k → k ≤ w.1 → enK S B L least k = false })
    (fun w => ([(2, .sl i 0 L.length cap), (3, .int .i64 least), (4, .ptr n 0), (5, .ptr (n + 1) 0), (11, .int .i64 ((w.1.1 + 1 : Nat) : Int))], (n + 1, brS (B.withS w.1.2)) :: (n, shS S) :: h, n + 2)) (fun w => 16 - w.1.1) ⟨(0, B.s), by show 0 ≤ 16; omega, fun k h1 h2 => by simp only at h2; omega⟩ ?_ ?_
  · refine Imp.id (by simp) ?_ (impH.base0 (okM B.s) (by simp) HExt.rfl)
    simp only [go_sem, Nat.reduceLT, hi]
    (try (repeat' apply And.intro) <;> first | omega | rfl | trivial | assumption | skip)
  rintro ⟨⟨j, c⟩, hj, hall⟩
  simp only at hj hall
  have j1 : (((j + 1 : Nat) : Int) ≤ 16) = (j < 16) := by rw [eq_iff_iff]; omega
  simp only [go_sem, Nat.reduceLT, Nat.reduceEqDiff, reduceIte, reduceCtorEq, decide_eq_true_eq, decide_eq_false_iff_not, j1]
  refine ⟨fun h1 => ?_, fun h1 => ?_⟩
  · have w8' : IntKind.i8.wrap ((j + 1 : Nat) : Int) = ((j + 1 : Nat) : Int) := w8 (by omega)
    have hb' : BrV (B.withS ((j + 1 : Nat) : Int)) := withS_V hb (by omega)
    have hO := hV.ok hb' hR
    have hT := strokeN_ok hI hV.1 hO L.length (Nat.le_refl _)
    have hIT : InP (strokeN S (B.withS ((j + 1 : Nat) : Int)) L L.length).1 L := fun k hk => by
      have := hI k hk
      unfold hasB at this ⊢
      rw [hT.wide, hT.high]; exact this
    simp only [go_sem, w8', Br.withS]
    refine (stroke2_Q _ _ _ i cap L s (by simp only [go_sem, hs, hi]) (by omega) hL (by omega) S (B.withS ((j + 1 : Nat) : Int)) hO hI).A ?_
    have hEn : enB S (strokeN S (B.withS ((j + 1 : Nat) : Int)) L L.length).1 L least = enK S B L least (j + 1) := rfl
    generalize hTT : strokeN S (B.withS ((j + 1 : Nat) : Int)) L L.length = T at *
    simp only [go_sem, Nat.reduceLT, reduceIte]
    refine (l04dark_Q _ _ _ i cap L s (by simp only [go_sem, hs, hi]) (by omega) hL S hV least (n + 2) T.1 (by simp only [go_sem, Nat.reduceLT]) (by omega) hT.R hT.G hIT h80 hT.wax).A ?_
    rw [hEn]
    cases he : enK S B L least (j + 1)
    · simp only [go_sem, Nat.reduceLT]
      refine ⟨⟨(j + 1, ((j + 1 : Nat) : Int)), by show j + 1 ≤ 16; omega, fun k k1 k2 => ?_⟩, by show 16 - (j + 1) < 16 - j; omega, ?_⟩
      · simp only at k2
        by_cases hk : k = j + 1
        · rw [hk]; exact he
        · exact hall k k1 (by omega)
      · refine Imp.id (by simp) ?_ (impH.base0 (okM ((j + 1 : Nat) : Int)) (Nat.le_refl _) (by simp only [go_sem, Nat.reduceLeDiff, HExt_cons, Br.withS]))
        have e2 : IntKind.i64.wrap (((j + 1 : Nat) : Int) + 1) = ((j + 1 + 1 : Nat) : Int) := by rw [w64 (by omega)]; rfl
        simp only [go_sem, Nat.reduceLT, hi, e2]
        (try (repeat' apply And.intro) <;> first | omega | rfl | trivial | assumption | skip)
    · have hls : lsR S B L least = (((j + 1 : Nat) : Int), 0) := by
        unfold lsR
        rw [lsN_first (by omega) he (fun k k1 k2 => hall k k1 (by omega)) 16 (by omega)]
      rw [hls]
      simp only [go_sem, Nat.reduceLT, HExt_cons]
  · have hj16 : j = 16 := by omega
    subst hj16
    have hls : lsR S B L least = (0, 6) := by
      unfold lsR
      rw [lsN_all hall]
    rw [hls]
end
end Go.Proofs.Ytpcnhenenjblpaa.V

/- The least share: the program's walk. -/
namespace Go.Proofs.Ytpcnhenenjblpaa.V
theorem any_boolOf (p : Int → Int → Bool) (L : List (Int × Int)) : boolOf (AnyP p L) = L.any fun a => p a.1 a.2 := by
  by_cases h : AnyP p L
  · rw [boolOf_t h]
    obtain ⟨k, hk, e⟩ := h
    symm
    refine List.any_eq_true.2 ⟨L.getD k (0, 0), ?_, e⟩
    rw [List.getD_eq_getElem?_getD, List.getElem?_eq_getElem hk]; exact List.getElem_mem _
  · rw [boolOf_f h]
    symm
    rw [Bool.eq_false_iff]
    intro ha
    obtain ⟨a, hm, e⟩ := List.any_eq_true.1 ha
    obtain ⟨k, hk, rfl⟩ := List.mem_iff_getElem.1 hm
    exact h ⟨k, hk, by rw [List.getD_eq_getElem?_getD, List.getElem?_eq_getElem hk]; exact e⟩
section
variable (cx : Cx) (h : List (Nat × Seg)) (n : Nat)
variable (i cap : Nat) (L : List (Int × Int)) (s : Seg) (hs : hget h i = some s) (hi : i < n) (hL : SpsAt s L) (S : Sh) (B : Br) (hV : Valid S) (hR : ShR S) (hb : BrV B) (hP : PathP S L) (least : Int) (hl : 1 ≤ least ∧ least ≤ 3000)
include hs hi hL hV hR hb hP hl
theorem leastShare_Q : CallQ Try.prog cx 10 [.agg 266 (shC S), .agg 5 (brC B), .sl i 0 L.length cap, .int .i64 least] h n (.tup 2 (cl [.int .i64 (lsR S B L least).1, .int .i64 (lsR S B L least).2])) := by
  have h80 : L.length ≤ 80 := hP.2.1.2
  have hI := hP.2.2
  have hn := hL.1
  refine callQ_of_T (P := Try.prog) hti (nt := 45) (rs := [.tmp 8, .tmp 9]) rfl rfl Try.call10 Try.func10 rfl _ (by simp only [go_sem, and_self]) (Nat.le_of_ble_eq_true rfl) _ (by first | exact trivial | (refine lt_flat rfl ?_; simp [SV.flat]; done) | simp only [go_sem]) fun hok => ?_
  simp only [go_sem, Nat.reduceLT]
  refine T_drawG hti 11 [] (.b 0 0 (.b 0 1 (.b 0 2 (.b 0 3 (.b 2 4 (.b 0 5 (.b 0 6 (.b 2 7 (.b 0 8 (.b 2 9 (.b 0 10 (.f) .o) .o) .o) .o) .o) .o) .o) .o) .o) .o) .o) _ _ (by kernel_rfl) (by kernel_rfl) ?_
  simp only [go_sem, Nat.reduceLT]
  refine (validPath_Q _ _ _ i cap L s (by simp only [go_sem, hs, hi]) (by omega) hL (by omega) S hR).A ?_
  rw [boolOf_t ⟨hV, hP⟩]
  simp only [go_sem, Nat.reduceLT]
  refine (isDarkness_Q _ _ _ least).A ?_
  simp only [go_sem, Nat.reduceLT, hl]
  refine (brushCode_Q _ _ _ S B true hR hb.R).A ?_
  rw [bCode_ok ⟨hV, hb⟩]
  simp only [go_sem, Nat.reduceLT, if_true]
  have ok3 : HOk (n + 3) ((n + 2, ⟨1, cl [.int .i64 least], true, none⟩) :: (n + 1, brS B) :: (n, shS S) :: h) :=
    hok_cons (hok_cons (hok_cons (hok_up hok (by omega)) (by omega) fun k hk => shC_flat _ _) (by omega) fun k hk => brC_flat _ hk) (by omega) fun k hk => one_flat hk
  refine T_lp (ι := { w : Nat // w ≤ 16 ∧ ∀ k, 1 ≤ k → k ≤ w → enK S B L least k = false })
    (fun w => ([(2, .sl i 0 L.length cap), (4, .ptr n 0), (5, .ptr (n + 1) 0), (7, .ptr (n + 2) 0), (27, .int .i8 w.1)], (n + 2, ⟨1, cl [.int .i64 least], true, none⟩) :: (n + 1, brS B) :: (n, shS S) :: h, n + 3)) (fun w => 16 - w.1) ⟨0, by omega, fun k h1 h2 => by omega⟩ ?_ ?_
  · refine Imp.id (by simp) ?_ (impH.base0 ok3 (by simp) HExt.rfl)
    simp only [go_sem, Nat.reduceLT, hi]
    (try (repeat' apply And.intro) <;> first | omega | rfl | trivial | assumption | skip)
  rintro ⟨j, hj, hall⟩
  simp only [go_sem, Nat.reduceLT, decide_eq_true_eq, decide_eq_false_iff_not]
  refine ⟨fun h1 => ?_, fun h1 => ?_⟩
  rotate_left
  · have hj16 : j = 16 := by omega
    subst hj16
    have hls : lsR S B L least = (0, 6) := by unfold lsR; rw [lsN_all hall]
    rw [hls]
  refine T_drawH hti 6 [4, 5] (.b 0 0 (.b 2 1 (.b 2 2 (.b 2 3 (.b 4 4 (.b 4 5 (.f) .o) .o) .o) (.b 2 3 (.b 2 2 (.b 4 4 (.b 4 5 (.f) .o) .o) .o) .o)) (.b 2 2 (.b 2 1 (.b 2 3 (.b 4 4 (.b 4 5 (.f) .o) .o) .o) (.b 2 3 (.b 2 1 (.b 4 4 (.b 4 5 (.f) .o) .o) (.b 4 4 (.b 2 1 (.b 4 5 (.f) .o) .o) .o)) .o)) (.b 2 3 (.b 2 1 (.b 2 2 (.b 4 4 (.b 4 5 (.f) .o) .o) .o) (.b 2 2 (.b 2 1 (.b 4 4 (.b 4 5 (.f) .o) .o) (.b 4 4 (.b 2 1 (.b 4 5 (.f) .o) .o) .o)) .o)) .o))) .o)  [(2, .sl i 0 L.length cap), (4, .ptr n 0), (5, .ptr (n + 1) 0), (7, .ptr (n + 2) 0), (11, .int .i8 j), (12, .ptr (n + 3) 0), (13, .ptr (n + 4) 0), (27, .int .i8 j)]
    ((n + 4, brS B) :: (n + 3, shS S) :: (n + 2, ⟨1, cl [.int .i64 least], true, none⟩) :: (n + 1, brS B) :: (n, shS S) :: h) (n + 5) _ _ (by kernel_rfl) (by kernel_rfl) ?_ ?_
  rotate_left
  · simp only [go_sem, Nat.reduceLT, Nat.reduceLeDiff, reduceIte]
    repeat' (with_reducible refine And.intro ?_ ?_)
    all_goals first | exact imp_two (n + 3) (n + 3) (n + 4) (Nat.le_add_right n 3) ok3 (by simp only [go_sem, Nat.reduceLeDiff, HExt_cons]) (by omega) (by omega) (by omega) (by simp only [go_sem, Nat.reduceLT]) (by simp only [go_sem]) (fun k hk => shC_flat _ _) (fun k hk => brC_flat _ hk) (by simp only [go_sem, Nat.reduceLT, hi]; omega) | exact imp_two (n + 3) (n + 4) (n + 3) (Nat.le_add_right n 3) ok3 (by simp only [go_sem, Nat.reduceLeDiff, HExt_cons]) (by omega) (by omega) (by omega) (by simp only [go_sem]) (by simp only [go_sem, Nat.reduceLT]) (fun k hk => shC_flat _ _) (fun k hk => brC_flat _ hk) (by simp only [go_sem, Nat.reduceLT, hi]; omega)
  have w8' : IntKind.i8.wrap ((j : Int) + 1) = ((j + 1 : Nat) : Int) := by rw [w8 (by omega)]; rfl
  have hb' : BrV (B.withS ((j + 1 : Nat) : Int)) := withS_V hb (by omega)
  have hO := hV.ok hb' hR
  have hT := strokeN_ok hI hV.1 hO L.length (Nat.le_refl _)
  simp only [go_sem, Nat.reduceLT, Nat.reduceEqDiff, reduceIte, reduceCtorEq, w8']
  refine callA_false (stroke_E _ _ _ i cap L s (by simp only [go_sem, hs, hi]) (by omega) hL (by omega) (n + 3) (n + 4) S (B.withS ((j + 1 : Nat) : Int)) (by simp only [go_sem, Nat.reduceLT]) (by omega) (by simp only [go_sem, Br.withS]) (by omega) (by simp only [go_sem, Nat.reduceLT]) (by simp only [go_sem, hi]) (by simp only [go_sem, hi]) hO hI _ ?_)
  have hEn : enB S (strokeN S (B.withS ((j + 1 : Nat) : Int)) L L.length).1 L least = enK S B L least (j + 1) := rfl
  generalize hTT : strokeN S (B.withS ((j + 1 : Nat) : Int)) L L.length = T at *
  have ha : boolOf (AnyP (fun x y => !waxB T.1 x y && decide (darkB T.1 x y < least)) L) = !enK S B L least (j + 1) := by
    rw [any_boolOf, ← hEn]; exact enB_any hT.wax
  simp only [go_sem, Nat.reduceLT]
  refine (containsFunc_Q _ _ _ i cap L s 47 0 2 (cl []) (cl [.ptr (n + 3) 0, .ptr (n + 2) 0]) (fun x y => !waxB T.1 x y && decide (darkB T.1 x y < least)) (by simp only [go_sem, hs, hi]) (by omega) (by omega) hL (by simp only [go_sem]; omega) (fun k hk nt n0 => ?_)).A ?_
  · obtain ⟨x0, x8, y0, y8⟩ := hI.at hV.1 hk
    exact least1_Q _ _ _ least (n + 3) (n + 2) T.1 _ _ (by simp only [go_sem, Nat.reduceLT]) (by omega) (by simp only [go_sem, Nat.reduceLT]) (by omega) hT.R hT.G x0 x8 y0 y8
  rw [ha]
  have jw : IntKind.i64.wrap (j : Int) = (j : Int) := w64 (by omega)
  have jw1 : IntKind.i64.wrap ((j : Int) + 1) = ((j + 1 : Nat) : Int) := by rw [w64 (by omega)]; rfl
  cases he : enK S B L least (j + 1)
  · simp only [go_sem, Nat.reduceLT, w8']
    refine ⟨⟨j + 1, by omega, fun k k1 k2 => ?_⟩, by show 16 - (j + 1) < 16 - j; omega, ?_⟩
    · by_cases hk : k = j + 1
      · rw [hk]; exact he
      · exact hall k k1 (by omega)
    · refine Imp.id (by simp) ?_ (impH.base0 ok3 (by omega) (by simp only [go_sem, Nat.reduceLeDiff, HExt_cons]))
      simp only [go_sem, Nat.reduceLT, hi, w8']
      (try (repeat' apply And.intro) <;> first | omega | rfl | trivial | assumption | skip)
  · have hls : lsR S B L least = (((j + 1 : Nat) : Int), 0) := by
      unfold lsR
      rw [lsN_first (by omega) he (fun k k1 k2 => hall k k1 (by omega)) 16 (by omega)]
    rw [hls]
    simp only [go_sem, Nat.reduceLT, HExt_cons, jw, jw1]
end
end Go.Proofs.Ytpcnhenenjblpaa.V
