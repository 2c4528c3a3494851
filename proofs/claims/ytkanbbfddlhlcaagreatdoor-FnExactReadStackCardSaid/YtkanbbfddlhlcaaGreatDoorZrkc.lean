/- Part 3 of the texts that this proof stands on: a symbolic walk over the program, what its functions and the reference's do, plain laws. -/
import Derived.Test.YtkanbbfddlhlcaaGreatDoorZrka
import Derived.Test.YtkanbbfddlhlcaaGreatDoorV17
import Derived.Sort.Walk13a
import Derived.Test.YtkanbbfddlhlcaaGreatDoorZrkb
set_option linter.all false

/- Comparing spots; the library's small functions. -/
namespace Go.Proofs.YtkanbbfddlhlcaaGreatDoor.V
section
variable (cx : Cx) (h : List (Nat × Seg)) (n : Nat)
end
end Go.Proofs.YtkanbbfddlhlcaaGreatDoor.V

/- The library's insertion sort over spots. -/
namespace Go.Proofs.YtkanbbfddlhlcaaGreatDoor.V
open Go.Sort (swp insInner insOuter insertionSort)

/-- A function that compares spots. -/
def Cmps (cx : Cx) (h : List (Nat × Seg)) (n i f p q : Nat) (G F : Nat → SV) (cI : Int × Int → Int × Int → Int) : Prop :=
  ∀ (a b : Int × Int) nt n0 h' n', n ≤ n' → HBut i n h h' → CallQ Tryz.prog ⟨cx.w0, cx.W, nt, n0⟩ f (lst p G ++ [spot a.1 a.2, spot b.1 b.2] ++ lst q F) h' n' (.int .i64 (cI a b))
section
variable (cx : Cx) (h : List (Nat × Seg)) (n : Nat)
end
end Go.Proofs.YtkanbbfddlhlcaaGreatDoor.V

/- Sets of few cells: the program's own walk. -/
namespace Go.Proofs.YtkanbbfddlhlcaaGreatDoor.V
theorem srtS_nodup {L : List (Int × Int)} (h : L.Nodup) : (srtS L).Pairwise fun a b => ltSp a b = true := by
  have h1 := srtS_sorted L
  have h2 : (srtS L).Nodup := (srtS_perm L).nodup_iff.2 h
  refine (h1.and h2).imp fun {a b} ⟨h3, h4⟩ => ?_
  cases hlt : ltSp a b with
  | true => rfl
  | false => exact absurd (ltSp_tri hlt h3) h4
section
variable (cx : Cx) (h : List (Nat × Seg)) (n : Nat)
end
end Go.Proofs.YtkanbbfddlhlcaaGreatDoor.V

/- The cells to which one can go. -/
namespace Go.Proofs.YtkanbbfddlhlcaaGreatDoor.V
def addB (is : Int → Int → Bool) (out : List (Int × Int)) (q : Int × Int) : List (Int × Int) := if is q.1 q.2 = true ∧ q ∉ out then out ++ [q] else out
theorem addB_new {is : Int → Int → Bool} {out : List (Int × Int)} {q : Int × Int} (h1 : is q.1 q.2 = true) (h2 : q ∉ out) : addB is out q = out ++ [q] := if_pos ⟨h1, h2⟩
theorem addB_old {is : Int → Int → Bool} {out : List (Int × Int)} {q : Int × Int} (h : ¬ (is q.1 q.2 = true ∧ q ∉ out)) : addB is out q = out := if_neg h
/-- What is kept: cells of the sheet, each one once. -/
structure BOk (out : List (Int × Int)) : Prop where
  nd : out.Nodup
  in8 : In8s out
theorem BOk.len {out : List (Int × Int)} (h : BOk out) : out.length ≤ 64 := by
  have h1 : Strict (setL out) := setL_strict out
  have h2 := strict_len h1 h.in8.setL
  have h3 : setL out = srtS out := setL_eq (srtS_nodup h.nd) fun a => (srtS_perm out).mem_iff
  rw [h3] at h2
  exact Nat.le_trans (Nat.le_of_eq (srtS_perm out).length_eq.symm) h2
theorem BOk.add {is : Int → Int → Bool} (his : ∀ x y, is x y = true → In8 (x, y)) {out : List (Int × Int)} (h : BOk out) (q : Int × Int) : BOk (addB is out q) := by
  by_cases hq : is q.1 q.2 = true ∧ q ∉ out
  · rw [addB_new hq.1 hq.2]
    refine ⟨List.nodup_append.2 ⟨h.nd, by simp, fun a ha b hb => ?_⟩, fun p hp => ?_⟩
    · rw [List.mem_singleton] at hb; subst hb; exact fun e => hq.2 (e ▸ ha)
    · rcases List.mem_append.1 hp with hp | hp
      · exact h.in8 p hp
      · rw [List.mem_singleton] at hp; subst hp; exact his _ _ hq.1
  · rw [addB_old hq]; exact h
theorem BOk.one {p : Int × Int} (h : In8 p) : BOk [p] := ⟨by simp, fun q hq => by rw [List.mem_singleton] at hq; subst hq; exact h⟩
end Go.Proofs.YtkanbbfddlhlcaaGreatDoor.V

/- The library's heap sort over spots. -/
namespace Go.Proofs.YtkanbbfddlhlcaaGreatDoor.V
open Go.Sort (swp siftDown heapBuild heapPop heapSort)
section
variable (cx : Cx) (h : List (Nat × Seg)) (n : Nat)
end
end Go.Proofs.YtkanbbfddlhlcaaGreatDoor.V

/- The library's heap sort over spots. -/
namespace Go.Proofs.YtkanbbfddlhlcaaGreatDoor.V
open Go.Sort (swp siftDown heapBuild heapPop heapSort)
section
variable (cx : Cx) (h : List (Nat × Seg)) (n : Nat)
theorem Cmps.set {cx : Cx} {h : List (Nat × Seg)} {n i f p q : Nat} {G F : Nat → SV} {cI : Int × Int → Int × Int → Int} (hcmp : Cmps cx h n i f p q G F cI) (t : Seg) : Cmps cx (hset h i t) n i f p q G F cI :=
  fun a b nt n0 h' n' hn hb => hcmp a b nt n0 h' n' hn fun j hj hji u hu => hb j hj hji u (by rw [hget_hset, if_neg (Ne.symm hji)]; exact hu)
theorem Cmps.nt {cx : Cx} {h : List (Nat × Seg)} {n i f p q : Nat} {G F : Nat → SV} {cI : Int × Int → Int × Int → Int} (hcmp : Cmps cx h n i f p q G F cI) (t m : Nat) : Cmps ⟨cx.w0, cx.W, t, m⟩ h n i f p q G F cI :=
  fun a b nt n0 h' n' hn hb => hcmp a b nt n0 h' n' hn hb
end
end Go.Proofs.YtkanbbfddlhlcaaGreatDoor.V

/- The law's spots, and lists of spots that are alike. -/
namespace Go.Proofs.YtkanbbfddlhlcaaGreatDoor.V
section
variable (cx : Cx) (h : List (Nat × Seg)) (n : Nat)
end
end Go.Proofs.YtkanbbfddlhlcaaGreatDoor.V

/- The law's lists of spots that were made: compared, marked, looked at again. -/
namespace Go.Proofs.YtkanbbfddlhlcaaGreatDoor.V
/-- A list of spots that a call has made. -/
def SpsOut (h : List (Nat × Seg)) (lo n : Nat) (V : SV) (L : List (Int × Int)) : Prop :=
  (V = .nils ∧ L = []) ∨ ∃ i cap s, V = .sl i 0 L.length cap ∧ lo ≤ i ∧ i < n ∧ hget h i = some s ∧ s.rw = true ∧ s.n = L.length * 2 ∧ ∀ k, k < L.length * 2 → s.c k = spotsC L k
theorem SpsOut.ok {h : List (Nat × Seg)} {lo n : Nat} {V : SV} {L : List (Int × Int)} (hA : SpsOut h lo n V L) : V.ok = True := by
  rcases hA with ⟨rfl, rfl⟩ | ⟨i, cap, s, rfl, _⟩ <;> rfl
theorem SpsOut.mono {h h' : List (Nat × Seg)} {lo n n' : Nat} {V : SV} {L : List (Int × Int)} (hA : SpsOut h lo n V L) (hn : n ≤ n') (hx : ∀ i, lo ≤ i → i < n → ∀ t, hget h i = some t → hget h' i = some t) : SpsOut h' lo n' V L := by
  rcases hA with h1 | ⟨i, cap, s, rfl, h1, h2, h3, h4⟩
  · exact .inl h1
  · exact .inr ⟨i, cap, s, rfl, h1, by omega, hx i h1 h2 s h3, h4⟩
theorem SpsOut.ext {h h' : List (Nat × Seg)} {lo n n' : Nat} {V : SV} {L : List (Int × Int)} (hA : SpsOut h lo n V L) (hn : n ≤ n') (hx : HExt n h h') : SpsOut h' lo n' V L := hA.mono hn fun i _ hi => hx i hi
/-- Spots that were marked. -/
def SpsHeld (h : List (Nat × Seg)) (lo n : Nat) (V : SV) (len : Nat) : Prop :=
  (V = .nils ∧ len = 0) ∨ ∃ i cap s, V = .sl i 0 len cap ∧ lo ≤ i ∧ i < n ∧ hget h i = some s ∧ s.n = len * 2 ∧ ∀ k : Nat, k < len → s.c (k * 2) = .int .i8 (IntKind.i8.wrap (2 * (k : Int) + 1)) ∧ s.c (k * 2 + 1) = .int .i8 (IntKind.i8.wrap (2 * (k : Int) + 1 + 1))
theorem SpsHeld.ext {h h' : List (Nat × Seg)} {lo n n' : Nat} {V : SV} {len : Nat} (hA : SpsHeld h lo n V len) (hn : n ≤ n') (hx : HExt n h h') : SpsHeld h' lo n' V len := by
  rcases hA with h1 | ⟨i, cap, s, rfl, h1, h2, h3, h4⟩
  · exact .inl h1
  · exact .inr ⟨i, cap, s, rfl, h1, by omega, hx i h2 s h3, h4⟩
section
variable (cx : Cx) (h : List (Nat × Seg)) (n : Nat)
end
end Go.Proofs.YtkanbbfddlhlcaaGreatDoor.V

/- What is stained: the program's own walk. -/
namespace Go.Proofs.YtkanbbfddlhlcaaGreatDoor.V

section
variable (cx : Cx) (h : List (Nat × Seg)) (n : Nat)
end
end Go.Proofs.YtkanbbfddlhlcaaGreatDoor.V

/- StainOf by the program's own code: the walk. -/
namespace Go.Proofs.YtkanbbfddlhlcaaGreatDoor.V
section
variable (cx : Cx) (h : List (Nat × Seg)) (n : Nat)
def dropB (S : Sh) (x y ink amount water : Int) : Bool := hasB S x y && decide (0 ≤ ink ∧ ink ≤ 2) && decide (0 ≤ amount ∧ amount ≤ 1000) && decide (0 ≤ water ∧ water ≤ 200)
end
end Go.Proofs.YtkanbbfddlhlcaaGreatDoor.V

/- What is stained, by the reference: sums of dyes, running until nothing is given, cells with dye. -/
namespace Go.Proofs.YtkanbbfddlhlcaaGreatDoor.V
section
variable (cx : Cx) (h : List (Nat × Seg)) (n : Nat)
end
end Go.Proofs.YtkanbbfddlhlcaaGreatDoor.V

/- StainOf by the reference: the walk. -/
namespace Go.Proofs.YtkanbbfddlhlcaaGreatDoor.V
section
variable (cx : Cx) (h : List (Nat × Seg)) (n : Nat)
end
end Go.Proofs.YtkanbbfddlhlcaaGreatDoor.V

/- Plain laws of running: water and dye are kept, the squares of the water fall, so running stops. -/
namespace Go.Proofs.YtkanbbfddlhlcaaGreatDoor.V
/-- A sum over all places of what stands there. -/
def allS (f : Int → Int → Int) : Int := sumN (fun k => f ((k / 8 : Nat) : Int) ((k % 8 : Nat) : Int)) 64
def watS (S : Sh) : Int := allS S.wet
def sqS (S : Sh) : Int := allS fun y x => S.wet y x * S.wet y x
def dyeS (S : Sh) (i : Int) : Int := allS fun y x => S.dye y x i
section
variable {S : Sh} {fx fy tx ty : Int} (hG : Good S) (hfx : 0 ≤ fx) (hfx8 : fx < 8) (hfy : 0 ≤ fy) (hfy8 : fy < 8) (htx : 0 ≤ tx) (htx8 : tx < 8) (hty : 0 ≤ ty) (hty8 : ty < 8) (h2 : 2 ≤ S.wet fy fx - S.wet ty tx)
include hG hfx hfx8 hfy hfy8 htx htx8 hty hty8 h2
end
/-- Water and dyes are as they were; the squares of the water have fallen by two for each unit given. -/
structure Kept (a b : Sh × Int) : Prop where
  wat : watS b.1 = watS a.1
  dye : ∀ i, dyeS b.1 i = dyeS a.1 i
  sq : sqS b.1 + 2 * (b.2 - a.2) ≤ sqS a.1
  al : Alike' a.1 b.1
  out : ∀ y x, hasB a.1 x y = false → b.1.wet y x = a.1.wet y x ∧ ∀ i, b.1.dye y x i = a.1.dye y x i
theorem Kept.rfl' (a : Sh × Int) : Kept a a := ⟨rfl, fun _ => rfl, by omega, .refl _, fun _ _ _ => ⟨rfl, fun _ => rfl⟩⟩
theorem Kept.tr {a b c : Sh × Int} (h1 : Kept a b) (h2 : Kept b c) : Kept a c := ⟨h2.wat.trans h1.wat, fun i => (h2.dye i).trans (h1.dye i), by have := h1.sq; have := h2.sq; omega, h1.al.trans h2.al, fun y x h => by
  have e1 := h1.out y x h
  have e2 := h2.out y x (by rw [h1.al.hasB]; exact h)
  exact ⟨e2.1.trans e1.1, fun i => (e2.2 i).trans (e1.2 i)⟩⟩
end Go.Proofs.YtkanbbfddlhlcaaGreatDoor.V

/- Stacks, by the reference: small functions, validity. -/
namespace Go.Proofs.YtkanbbfddlhlcaaGreatDoor.V
/-- A stack as it should be. -/
def StOk1 (L : List Sh) (i : Nat) : Prop := Valid (L.getD i sh0) ∧ (L.getD i sh0).wide = (L.getD 0 sh0).wide ∧ (L.getD i sh0).high = (L.getD 0 sh0).high
def StOk (L : List Sh) : Prop := L.length ≤ 6 ∧ ∀ i, i < L.length → StOk1 L i
open Classical in
noncomputable def stokB (L : List Sh) : Bool := decide (StOk L)
theorem stokB_t {L : List Sh} (h : StOk L) : stokB L = true := by simp [stokB, h]
theorem stokB_f {L : List Sh} (h : ¬ StOk L) : stokB L = false := by simp [stokB, h]
theorem stokB_len {L : List Sh} (h : ∀ i, i < L.length → StOk1 L i) : decide ((L.length : Int) ≤ 6) = stokB L := by
  by_cases h6 : L.length ≤ 6
  · rw [stokB_t ⟨h6, h⟩]; simp; omega
  · rw [stokB_f (fun hk => h6 hk.1)]; simp; omega
section
variable (cx : Cx) (h : List (Nat × Seg)) (n : Nat)
set_option maxRecDepth 100000 in
theorem stok2_Q (A : SV) (L : List Sh) (hA : StArg h n A L) (hLR : StR L) (hm9 : L.length ≤ 10000000) : CallQ Tryz.prog cx 11 [A] h n (.bool (stokB L)) := by
  rcases hA with ⟨rfl, rfl⟩ | ⟨i, cap, s, rfl, hi, hs, hL⟩
  · have e : stokB [] = true := stokB_t ⟨by simp, fun i hi => by simp at hi⟩
    refine callQ_of_T (P := Tryz.prog) hti (nt := 42) (rs := [.tmp 2]) rfl rfl Tryz.call11 Tryz.func11 rfl _ (by simp only [go_sem, and_self]) (Nat.le_of_ble_eq_true rfl) _ (by first | exact trivial | (refine lt_flat rfl ?_; simp [SV.flat]; done) | simp only [go_sem]) fun hok => ?_
    simp only [go_sem, Nat.reduceLT, e]
    refine T_unroll 0 ?_
    simp only [go_sem, Nat.reduceLT, Int.reduceLE, Int.reduceLT]
  have hn := hL.1
  refine callQ_of_T (P := Tryz.prog) hti (nt := 42) (rs := [.tmp 2]) rfl rfl Tryz.call11 Tryz.func11 rfl _ (by simp only [go_sem, and_self]) (Nat.le_of_ble_eq_true rfl) _ (by first | exact trivial | (refine lt_flat rfl ?_; simp [SV.flat]; done) | simp only [go_sem]) fun hok => ?_
  simp only [go_sem, Nat.reduceLT]
  refine T_lp (ι := { q : Nat // q ≤ L.length ∧ ∀ k, k < q → StOk1 L k }) (fun q => ([(0, .sl i 0 L.length cap), (3, .int .i64 q.1)], h, n)) (fun q => L.length - q.1) ⟨0, by omega, fun k hk => absurd hk (Nat.not_lt_zero k)⟩ ?_ ?_
  · refine Imp.id (by simp) ?_ (impH.base0 hok (by simp) HExt.rfl)
    simp only [go_sem, Nat.reduceLT]
    exact hi
  · rintro ⟨q, hq, hall⟩
    simp only [go_sem, Nat.reduceLT, decide_eq_true_eq, decide_eq_false_iff_not]
    refine ⟨fun h1 => ?_, fun h1 => ?_⟩
    · have r1 : (0 : Int) ≤ q ∧ (q : Int) < L.length := ⟨by omega, by omega⟩
      have r0 : (0 : Int) < L.length := by omega
      have b1 : q * 266 ≤ s.n - 1 := by omega
      have b2 : q * 266 + 1 ≤ s.n - 1 := by omega
      have b5 : 1 ≤ s.n := by omega
      have b6 : 2 ≤ s.n := by omega
      have hq1 : q < L.length := by omega
      have hS := hL.sh hLR hq1
      have hS0 := hL.sh hLR (i := 0) (by omega)
      have ew := hS.wide; have eh := hS.high
      have ew0 := hS0.wide; have eh0 := hS0.high
      simp only [Nat.zero_mul, Nat.zero_add] at ew0 eh0
      have fin : ¬ StOk1 L q → stokB L = false := fun h2 => stokB_f fun h3 => h2 (h3.2 q hq1)
      refine T_draw hti _ _ (by kernel_rfl) (by kernel_rfl) ?_
      simp only [go_sem, Nat.reduceLT, r1, r0]
      refine (ok2_Q _ _ _ i (q * 266) s (L.getD q sh0) hs (by omega) hS).A ?_
      by_cases hV : Valid (L.getD q sh0)
      rotate_left
      · simp only [go_sem, Nat.reduceLT, validB_false hV, fin (fun h => hV h.1)]
      by_cases hw : (L.getD q sh0).wide = (L.getD 0 sh0).wide
      rotate_left
      · simp only [go_sem, Nat.reduceLT, Nat.reduceMul, Int.reduceToNat, reduceCtorEq, Int.reduceLE, validB_true hV, hs, hi, r1, r0, ew, eh, ew0, eh0, b1, b2, b5, b6, hw, fin (fun h => hw h.2.1)]
        (try omega)
      rw [hw] at ew
      by_cases hh : (L.getD q sh0).high = (L.getD 0 sh0).high
      rotate_left
      · simp only [go_sem, Nat.reduceLT, Nat.reduceMul, Int.reduceToNat, reduceCtorEq, Int.reduceLE, validB_true hV, hs, hi, r1, r0, ew, eh, ew0, eh0, b1, b2, b5, b6, hh, fin (fun h => hh h.2.2)]
        (try omega)
      rw [hh] at eh
      simp only [go_sem, Nat.reduceLT, Nat.reduceMul, Int.reduceToNat, reduceCtorEq, Int.reduceLE, validB_true hV, hs, hi, r1, r0, ew, eh, ew0, eh0, b1, b2, b5, b6]
      refine ⟨by omega, by omega, ⟨q + 1, by omega, fun k hk => by rcases (by omega : k < q ∨ k = q) with h | rfl; exact hall k h; exact ⟨hV, hw, hh⟩⟩, by show L.length - (q + 1) < L.length - q; omega, ?_⟩
      refine Imp.id (by simp) ?_ (impH.base0 hok (by simp) HExt.rfl)
      simp only [go_sem, Nat.reduceLT, w64 (n := (q : Int) + 1) (by omega), Int.natCast_add, Int.natCast_one]
      exact hi
    · have hq' : q = L.length := by omega
      subst hq'
      have := stokB_len hall
      simp only [go_sem, this]
end
end Go.Proofs.YtkanbbfddlhlcaaGreatDoor.V

/- Validity of a stack: the program's own walk. -/
namespace Go.Proofs.YtkanbbfddlhlcaaGreatDoor.V
section
variable (cx : Cx) (h : List (Nat × Seg)) (n : Nat)
theorem sameSides_Q (F F' : Nat → SV) (S S' : Sh) (hF : ShF F S) (hF' : ShF F' S') : CallQ Tryz.prog cx 28 [.agg 266 F, .agg 266 F'] h n (.bool (decide (S.wide = S'.wide) && decide (S.high = S'.high))) := by
  have hone := hF.ones; have hone' := hF'.ones
  refine callQ_of_T (P := Tryz.prog) hti (nt := 17) (rs := [.tmp 4]) rfl rfl Tryz.call28 Tryz.func28 rfl _ (by simp only [go_sem, and_self]) (Nat.le_of_ble_eq_true rfl) _ (by first | exact trivial | (refine lt_flat rfl ?_; simp [SV.flat]; done) | simp only [go_sem]) fun hok => ?_
  simp only [go_sem, Nat.reduceLT, Nat.reduceLeDiff, reduceCtorEq, hone, hone', hF.wide, hF.high, hF'.wide, hF'.high]
  by_cases hw : S.wide = S'.wide
  · simp only [go_sem, reduceCtorEq, hw]
  · simp only [go_sem, hw]
theorem validSt1_Q (F : Nat → SV) (S : Sh) (hF : ShF F S) (iv i cap : Nat) (L : List Sh) (s : Seg) (hv : hget h iv = some ⟨1, cl [.sl i 0 L.length cap], true, none⟩) (hvi : iv < n) (hs : hget h i = some s) (hi : i < n) (hL : StAt s L) (hLR : StR L) (h0 : 0 < L.length) :
    CallQ Tryz.prog cx 27 [.agg 266 F, .ptr iv 0] h n (.bool (!(validB S && (decide (S.wide = (L.getD 0 sh0).wide) && decide (S.high = (L.getD 0 sh0).high))))) := by
  have hone := hF.ones
  have hS0 := hL.sh hLR h0
  rw [Nat.zero_mul] at hS0
  have hSF : ShF s.c (L.getD 0 sh0) := by have := hS0.2; simpa only [Nat.zero_add] using this
  have hone0 := hSF.ones
  have hl := hS0.1
  have r0 : (0 : Int) < L.length := by omega
  refine callQ_of_T (P := Tryz.prog) hti (nt := 15) (rs := [.tmp 3]) rfl rfl Tryz.call27 Tryz.func27 rfl _ (by simp only [go_sem, and_self]) (Nat.le_of_ble_eq_true rfl) _ (by first | exact trivial | (refine lt_flat rfl ?_; simp [SV.flat]; done) | simp only [go_sem]) fun hok => ?_
  simp only [go_sem, Nat.reduceLT, hone]
  refine T_draw hti _ _ (by kernel_rfl) (by kernel_rfl) ?_
  simp only [go_sem, Nat.reduceLT, hone]
  refine (valid_Q _ _ _ F S hF).A ?_
  by_cases hV : Valid S
  rotate_left
  · simp only [go_sem, Nat.reduceLT, validB_false hV]
  have b1 : 266 ≤ s.n := hl
  simp only [go_sem, Nat.reduceLT, Nat.reduceMul, Int.reduceToNat, Int.reduceLE, validB_true hV, hv, hvi, hs, hi, hone, hone0, r0, b1]
  refine (sameSides_Q _ _ _ F s.c S (L.getD 0 sh0) hF hSF).A ?_
  simp only [go_sem, Nat.reduceLT, Bool.true_and]
end
end Go.Proofs.YtkanbbfddlhlcaaGreatDoor.V

/- A function asked of the sheets of a stack. -/
namespace Go.Proofs.YtkanbbfddlhlcaaGreatDoor.V
section
variable (cx : Cx) (h : List (Nat × Seg)) (n : Nat)
set_option maxRecDepth 100000 in
theorem indexSt_Q (i cap : Nat) (L : List Sh) (s : Seg) (f a b : Nat) (G F : Nat → SV) (p : Nat → Bool) (r : Int)
    (hs : hget h i = some s) (hi : i < n) (hm9 : L.length ≤ 10000000) (hL : StAt s L) (hLR : StR L) (hF : (SV.fn f a G b F).lt n)
    (hr0 : r = -1 → ∀ j, j < L.length → p j = false) (hr1 : r ≠ -1 → 0 ≤ r ∧ r < L.length ∧ p r.toNat = true ∧ ∀ j : Nat, (j : Int) < r → p j = false)
    (hp : ∀ j, j < L.length → ∀ nt n0, CallQ Tryz.prog ⟨cx.w0, cx.W, nt, n0⟩ f (lst a G ++ [.agg 266 fun k => s.c (j * 266 + k)] ++ lst b F) h n (.bool (p j))) :
    CallQ Tryz.prog cx 54 [.sl i 0 L.length cap, .fn f a G b F] h n (.int .i64 r) := by
  have hn := hL.1
  refine callQ_of_T (P := Tryz.prog) hti (nt := 19) (rs := [.tmp 4]) rfl rfl Tryz.call54 Tryz.func54 rfl _ (by simp only [go_sem, and_self]) (Nat.le_of_ble_eq_true rfl) _ (by first | exact trivial | (refine lt_flat rfl ?_; simp [SV.flat]; done) | simp only [go_sem]) fun hok => ?_
  simp only [go_sem, Nat.reduceLT, Int.reduceNeg]
  refine T_lp (ι := { j : Nat // j ≤ L.length ∧ ∀ k, k < j → p k = false })
    (fun j => ([(0, .sl i 0 L.length cap), (1, .fn f a G b F), (7, .int .i64 L.length), (8, .int .i64 j.1)], h, n)) (fun j => L.length - j.1) ⟨0, by simp⟩ ?_ ?_
  · refine Imp.id (by simp) ?_ ?_
    · simp only [go_sem, Nat.reduceLT]
      exact ⟨hi, hF⟩
    · exact impH.base0 hok (by simp) (by simp only [go_sem])
  · rintro ⟨j, hj, hall⟩
    simp only [go_sem, Nat.reduceLT, Int.reduceNeg, decide_eq_true_eq, decide_eq_false_iff_not]
    refine ⟨fun h1 => ?_, fun h1 => ?_⟩
    · have hj1 : j < L.length := by omega
      have r1 : (0 : Int) ≤ j ∧ (j : Int) < L.length := ⟨by omega, by omega⟩
      have b1 : j * 266 ≤ s.n - 266 := by omega
      have b3 : 266 ≤ s.n := by omega
      have b6 : j * 266 + 266 ≤ s.n := by omega
      have hSF : ShF (fun k => s.c (j * 266 + k)) (L.getD j sh0) := (hL.sh hLR hj1).2
      have hone := hSF.ones
      simp only [go_sem, Nat.reduceLT, Int.reduceNeg, hs, hi, r1, b1, b3, b6, hone]
      refine (hp j hj1 _ _).A ?_
      cases hpj : p j
      · simp only [go_sem, Nat.reduceLT, Int.reduceNeg]
        refine ⟨⟨j + 1, by omega, fun k hk => by rcases (by omega : k < j ∨ k = j) with h | rfl; exact hall k h; exact hpj⟩, by show L.length - (j + 1) < L.length - j; omega, ?_⟩
        refine Imp.id (by simp) ?_ (impH.base0 hok (by simp) HExt.rfl)
        simp only [go_sem, Nat.reduceLT, w64 (n := (j : Int) + 1) (by omega), Int.natCast_add, Int.natCast_one]
        exact ⟨hi, hF⟩
      · have e : r = j := by
          rcases (by omega : r = -1 ∨ r ≠ -1) with hr | hr
          · have := hr0 hr j hj1; rw [this] at hpj; cases hpj
          · obtain ⟨r0, r1', r2, r3⟩ := hr1 hr
            rcases (by omega : (j : Int) < r ∨ r < j ∨ r = j) with h | h | h
            · rw [r3 j h] at hpj; cases hpj
            · have := hall r.toNat (by omega)
              rw [r2] at this; cases this
            · exact h
        simp only [go_sem, Nat.reduceLT, Int.reduceNeg, e]
    · have e : r = -1 := by
        rcases (by omega : r = -1 ∨ r ≠ -1) with hr | hr
        · exact hr
        · obtain ⟨r0, r1, r2, r3⟩ := hr1 hr
          have := hall r.toNat (by omega)
          rw [r2] at this; cases this
      rw [e]
end
end Go.Proofs.YtkanbbfddlhlcaaGreatDoor.V

/- A valid stack: the program's own walk. -/
namespace Go.Proofs.YtkanbbfddlhlcaaGreatDoor.V
section
variable (cx : Cx) (h : List (Nat × Seg)) (n : Nat)
theorem indexSt0_Q (f a b : Nat) (G F : Nat → SV) (hF : (SV.fn f a G b F).lt n) :
    CallQ Tryz.prog cx 54 [.nils, .fn f a G b F] h n (.int .i64 (-1)) := by
  refine callQ_of_T (P := Tryz.prog) hti (nt := 19) (rs := [.tmp 4]) rfl rfl Tryz.call54 Tryz.func54 rfl _ (by simp only [go_sem, and_self]) (Nat.le_of_ble_eq_true rfl) _ (by first | exact trivial | (refine lt_flat rfl ?_; simp [SV.flat]; done) | simp only [go_sem]) fun hok => ?_
  simp only [go_sem, Nat.reduceLT, Int.reduceNeg]
  refine T_unroll 0 ?_
  simp only [go_sem, Nat.reduceLT, Int.reduceLT, Int.reduceNeg]
theorem containsSt_Q (A : SV) (f a b : Nat) (G F : Nat → SV) (r : Int) (hAo : A.ok = True) (hc : ∀ nt n0, CallQ Tryz.prog ⟨cx.w0, cx.W, nt, n0⟩ 54 [A, .fn f a G b F] h n (.int .i64 r)) :
    CallQ Tryz.prog cx 26 [A, .fn f a G b F] h n (.bool (decide (0 ≤ r))) := by
  refine callQ_of_T (P := Tryz.prog) hti (nt := 9) (rs := [.tmp 4]) rfl rfl Tryz.call26 Tryz.func26 rfl _ (by simp only [go_sem, hAo]) (Nat.le_of_ble_eq_true rfl) _ (by trivial) fun hok => ?_
  simp only [go_sem, Nat.reduceLT, hAo]
  refine (hc _ _).A ?_
  simp only [go_sem, Nat.reduceLT]
theorem fstN_ex (p : Nat → Bool) : ∀ m : Nat, ∃ r : Int, (r = -1 → ∀ j : Nat, j < m → p j = false) ∧ (r ≠ -1 → 0 ≤ r ∧ r < m ∧ p r.toNat = true ∧ ∀ j : Nat, (j : Int) < r → p j = false)
  | 0 => ⟨-1, fun _ j hj => absurd hj (Nat.not_lt_zero j), fun h => absurd rfl h⟩
  | m + 1 => by
    obtain ⟨r, h0, h1⟩ := fstN_ex p m
    by_cases hr : r = -1
    · by_cases hp : p m = true
      · exact ⟨m, fun e => by omega, fun _ => ⟨by omega, by omega, by rw [Int.toNat_natCast]; exact hp, fun j hj => h0 hr j (by omega)⟩⟩
      · refine ⟨-1, fun _ j hj => ?_, fun h => absurd rfl h⟩
        rcases (by omega : j < m ∨ j = m) with h | rfl
        · exact h0 hr j h
        · simpa using hp
    · obtain ⟨a, b, c, d⟩ := h1 hr
      exact ⟨r, fun e => absurd e hr, fun _ => ⟨a, by omega, c, d⟩⟩
theorem validStack_Q (A : SV) (L : List Sh) (hA : StArg h n A L) (hLR : StR L) (hm9 : L.length ≤ 10000000) : CallQ Tryz.prog cx 14 [A] h n (.bool (stokB L)) := by
  rcases hA with ⟨rfl, rfl⟩ | ⟨i, cap, s, rfl, hi, hs, hL⟩
  · have e : stokB [] = true := stokB_t ⟨by simp, fun i hi => by simp at hi⟩
    refine callQ_of_T (P := Tryz.prog) hti (nt := 12) (rs := [.tmp 2]) rfl rfl Tryz.call14 Tryz.func14 rfl _ (by simp only [go_sem, and_self]) (Nat.le_of_ble_eq_true rfl) _ (by first | exact trivial | (refine lt_flat rfl ?_; simp [SV.flat]; done) | simp only [go_sem]) fun hok => ?_
    simp only [go_sem, Nat.reduceLT, Int.reduceLE, e]
    refine (containsSt_Q _ _ _ .nils _ _ _ _ _ (-1) rfl fun nt n0 => indexSt0_Q _ _ _ _ _ _ _ _ ?_).A ?_
    · exact fn_lt (xs := []) (ys := [.ptr n 0]) (fun v hv => by cases hv) (fun v hv => by simp at hv; subst hv; show n < _; omega)
    · simp only [go_sem, Nat.reduceLT, Int.reduceLE, Int.reduceNeg]
  refine callQ_of_T (P := Tryz.prog) hti (nt := 12) (rs := [.tmp 2]) rfl rfl Tryz.call14 Tryz.func14 rfl _ (by simp only [go_sem, and_self]) (Nat.le_of_ble_eq_true rfl) _ (by first | exact trivial | (refine lt_flat rfl ?_; simp [SV.flat]; done) | simp only [go_sem]) fun hok => ?_
  by_cases h6 : L.length ≤ 6
  rotate_left
  · have h6' : ¬ ((L.length : Int) ≤ 6) := by omega
    simp only [go_sem, Nat.reduceLT, h6', stokB_f (fun hk : StOk L => h6 hk.1)]
  have h6' : (L.length : Int) ≤ 6 := by omega
  simp only [go_sem, Nat.reduceLT, h6']
  obtain ⟨r, hr0, hr1⟩ := fstN_ex (fun j => !(validB (L.getD j sh0) && (decide ((L.getD j sh0).wide = (L.getD 0 sh0).wide) && decide ((L.getD j sh0).high = (L.getD 0 sh0).high)))) L.length
  refine (containsSt_Q _ _ _ (.sl i 0 L.length cap) _ _ _ _ _ r rfl fun nt n0 => indexSt_Q _ _ _ i cap L s _ _ _ _ _ (fun j => !(validB (L.getD j sh0) && (decide ((L.getD j sh0).wide = (L.getD 0 sh0).wide) && decide ((L.getD j sh0).high = (L.getD 0 sh0).high)))) r (by simp only [go_sem, hs, hi]) (by omega) hm9 hL hLR ?_ hr0 hr1 fun j hj nt n0 => ?_).A ?_
  · exact fn_lt (xs := []) (ys := [.ptr n 0]) (fun v hv => by cases hv) (fun v hv => by simp at hv; subst hv; show n < _; omega)
  · exact validSt1_Q _ _ _ _ _ (hL.sh hLR hj).2 n i cap L s (by simp only [go_sem]) (by omega) (by simp only [go_sem, hs, hi]) (by omega) hL hLR (by omega)
  · have key : (!decide (0 ≤ r)) = stokB L := by
      by_cases hr : r = -1
      · rw [stokB_t ⟨h6, fun j hj => by
          have := hr0 hr j hj
          simp only [Bool.not_eq_false', Bool.and_eq_true, decide_eq_true_eq] at this
          exact ⟨by simpa [validB] using this.1, this.2⟩⟩]
        subst hr; rfl
      · obtain ⟨r0, r1, r2, _⟩ := hr1 hr
        rw [stokB_f (fun hk => by
          obtain ⟨k1, k2, k3⟩ := hk.2 r.toNat (by omega)
          rw [validB_true k1, decide_eq_true k2, decide_eq_true k3] at r2
          cases r2)]
        simp [r0]
    simp only [go_sem, Nat.reduceLT]
    rw [← key]
end
end Go.Proofs.YtkanbbfddlhlcaaGreatDoor.V

/- The law's stacks: copied. -/
namespace Go.Proofs.YtkanbbfddlhlcaaGreatDoor.V
section
variable (cx : Cx) (h : List (Nat × Seg)) (n : Nat)
end
end Go.Proofs.YtkanbbfddlhlcaaGreatDoor.V

/- The law's stacks: compared. -/
namespace Go.Proofs.YtkanbbfddlhlcaaGreatDoor.V
section
variable (cx : Cx) (h : List (Nat × Seg)) (n : Nat)
set_option maxRecDepth 100000 in
theorem eqStack_Q (i cap i' cap' : Nat) (L : List Sh) (s s' : Seg) (hs : hget h i = some s) (hi : i < n) (hL : StAt s L) (hs' : hget h i' = some s') (hi' : i' < n) (hL' : StAt s' L) (hLR : StR L) (hm9 : L.length ≤ 10000000) :
    CallQ Tryz.prog cx 6 [.sl i 0 L.length cap, .sl i' 0 L.length cap'] h n (.bool true) := by
  have hn := hL.1; have hn' := hL'.1
  refine callQ_of_T (P := Tryz.prog) hti (nt := 27) (rs := [.tmp 4]) rfl rfl Tryz.call6 Tryz.func6 rfl _ (by simp only [go_sem, and_self]) (Nat.le_of_ble_eq_true rfl) _ (by first | exact trivial | (refine lt_flat rfl ?_; simp [SV.flat]; done) | simp only [go_sem]) fun hok => ?_
  simp only [go_sem, Nat.reduceLT]
  refine T_lp (ι := { q : Nat // q ≤ L.length }) (fun q => ([(0, .sl i 0 L.length cap), (1, .sl i' 0 L.length cap'), (5, .int .i64 q.1)], h, n)) (fun q => L.length - q.1) ⟨0, by omega⟩ ?_ ?_
  · refine Imp.id (by simp) ?_ (impH.base0 hok (by simp) HExt.rfl)
    simp only [go_sem, Nat.reduceLT]
    exact ⟨hi, hi'⟩
  · rintro ⟨q, hq⟩
    simp only [go_sem, Nat.reduceLT, decide_eq_true_eq, decide_eq_false_iff_not]
    refine ⟨fun h1 => ?_, fun h1 => ?_⟩
    · have r1 : (0 : Int) ≤ q ∧ (q : Int) < L.length := ⟨by omega, by omega⟩
      have b1 : q * 266 ≤ s.n - 266 := by omega
      have b2 : q * 266 ≤ s'.n - 266 := by omega
      have b3 : 266 ≤ s.n := by omega
      have b4 : 266 ≤ s'.n := by omega
      have b5 : q * 266 + 266 ≤ s.n := by omega
      have b6 : q * 266 + 266 ≤ s'.n := by omega
      have hSF : ShF (fun j => s.c (q * 266 + j)) (L.getD q sh0) := (hL.sh hLR (by omega)).2
      have hSF' : ShF (fun j => s'.c (q * 266 + j)) (L.getD q sh0) := (hL'.sh hLR (by omega)).2
      have hone := hSF.ones
      have hone' := hSF'.ones
      refine T_draw hti _ _ (by kernel_rfl) (by kernel_rfl) ?_
      simp only [go_sem, Nat.reduceLT, hs, hs', r1, b1, b2, b3, b4, b5, b6, hone, hone']
      refine (eqSheet_Q _ _ _ _ _ (L.getD q sh0) hSF hSF').A ?_
      simp only [go_sem, Nat.reduceLT]
      refine ⟨⟨q + 1, by omega⟩, by show L.length - (q + 1) < L.length - q; omega, ?_⟩
      refine Imp.id (by simp) ?_ (impH.base0 hok (by simp) HExt.rfl)
      simp only [go_sem, Nat.reduceLT, w64 (n := (q : Int) + 1) (by omega), Int.natCast_add, Int.natCast_one]
      exact ⟨hi, hi'⟩
    · simp only [go_sem]
end
end Go.Proofs.YtkanbbfddlhlcaaGreatDoor.V

/- Pictures: validity, covered cells: the program's own walk. -/
namespace Go.Proofs.YtkanbbfddlhlcaaGreatDoor.V
section
variable (cx : Cx) (h : List (Nat × Seg)) (n : Nat)
end
end Go.Proofs.YtkanbbfddlhlcaaGreatDoor.V

/- Pictures: validity, covered cells: the reference's walk. -/
namespace Go.Proofs.YtkanbbfddlhlcaaGreatDoor.V
section
variable (cx : Cx) (h : List (Nat × Seg)) (n : Nat)
end
end Go.Proofs.YtkanbbfddlhlcaaGreatDoor.V

/- The law's pictures and drops: copied, compared. -/
namespace Go.Proofs.YtkanbbfddlhlcaaGreatDoor.V
section
variable (cx : Cx) (h : List (Nat × Seg)) (n : Nat)
end
end Go.Proofs.YtkanbbfddlhlcaaGreatDoor.V

/- A drop made upon a picture: both walks. -/
namespace Go.Proofs.YtkanbbfddlhlcaaGreatDoor.V
theorem PcR.setInk {P : Pc} (h : PcR P) {y x v : Int} (hv : 0 ≤ v ∧ v < 256) : PcR (P.setInk y x v) :=
  ⟨h.wide, h.high, fun y' x' => by
    show 0 ≤ (if y' = y ∧ x' = x then v else P.ink y' x') ∧ (if y' = y ∧ x' = x then v else P.ink y' x') < 256
    split
    · exact hv
    · exact h.ink y' x'⟩
theorem PcOk.setInk {P : Pc} (h : PcOk P) {y x v : Int} (hv : v ≤ 3) (hx : x < P.wide) (hy : y < P.high) : PcOk (P.setInk y x v) :=
  ⟨h.1, fun y' x' a b c d => by
    show (if y' = y ∧ x' = x then v else P.ink y' x') ≤ 3 ∧ (0 < (if y' = y ∧ x' = x then v else P.ink y' x') → x' < P.wide ∧ y' < P.high)
    split
    · rename_i e
      rw [e.1, e.2]
      exact ⟨hv, fun _ => ⟨hx, hy⟩⟩
    · exact h.2 y' x' a b c d⟩
theorem wu8 {n : Int} (h : 0 ≤ n ∧ n < 256) : IntKind.u8.wrap n = n := by simp [IntKind.wrap, IntKind.bits, IntKind.signed]; omega
section
variable (cx : Cx) (h : List (Nat × Seg)) (n : Nat)
end
end Go.Proofs.YtkanbbfddlhlcaaGreatDoor.V

/- Giving from a place to another: give, isShare, plus; the program's own walks. -/
namespace Go.Proofs.YtkanbbfddlhlcaaGreatDoor.V

section
variable (cx : Cx) (h : List (Nat × Seg)) (n : Nat)
end
end Go.Proofs.YtkanbbfddlhlcaaGreatDoor.V

/- Passing down: the plain model, its cells in memory. -/
namespace Go.Proofs.YtkanbbfddlhlcaaGreatDoor.V

/-! ### Stacks of good sheets of the same sides -/
structure PG (L : List Sh) (W H : Nat) (S : Sh) : Prop where
  good : Good S
  R : ShR S
  wide : S.wide = W
  high : S.high = H
def PGood (L : List Sh) (W H : Nat) : Prop := ∀ i, i < L.length → PG L W H (L.getD i sh0)
theorem getD_set (L : List Sh) (i j : Nat) (S : Sh) : (L.set i S).getD j sh0 = if i = j ∧ i < L.length then S else L.getD j sh0 := by
  simp only [List.getD_eq_getElem?_getD, List.getElem?_set]
  by_cases h : i = j
  · subst h
    by_cases h2 : i < L.length
    · simp [h2]
    · simp [h2]
  · simp [h]
theorem PGood.set {L : List Sh} {W H i : Nat} {S : Sh} (h : PGood L W H) (h1 : Good S) (h2 : ShR S) (h3 : S.wide = W) (h4 : S.high = H) : PGood (L.set i S) W H := by
  intro j hj
  rw [List.length_set] at hj
  rw [getD_set]
  split
  · exact ⟨h1, h2, h3, h4⟩
  · exact ⟨(h j hj).good, (h j hj).R, (h j hj).wide, (h j hj).high⟩
theorem Good.setDye {S : Sh} (h : Good S) {y x i v : Int} (hv : 0 ≤ v ∧ v ≤ 1000) : Good (S.setDye y x i v) :=
  ⟨h.small, h.wet, fun y' x' i' a b c d e f => by
    show 0 ≤ (if y' = y ∧ x' = x ∧ i' = i then v else S.dye y' x' i') ∧ (if y' = y ∧ x' = x ∧ i' = i then v else S.dye y' x' i') ≤ 1000
    split
    · exact hv
    · exact h.dye y' x' i' a b c d e f⟩
theorem Good.setWet {S : Sh} (h : Good S) {y x v : Int} (hv : 0 ≤ v ∧ v ≤ 200) : Good (S.setWet y x v) :=
  ⟨h.small, fun y' x' a b c d => by
    show 0 ≤ (if y' = y ∧ x' = x then v else S.wet y' x') ∧ (if y' = y ∧ x' = x then v else S.wet y' x') ≤ 200
    split
    · exact hv
    · exact h.wet y' x' a b c d, h.dye⟩
theorem PGood.setDye {L : List Sh} {W H i : Nat} (h : PGood L W H) (hi : i < L.length) {y x k v : Int} (hv : 0 ≤ v ∧ v ≤ 1000) : PGood (L.set i ((L.getD i sh0).setDye y x k v)) W H :=
  h.set ((h i hi).good.setDye hv) ((h i hi).R.setDye (by omega)) (h i hi).wide (h i hi).high
theorem PGood.setWet {L : List Sh} {W H i : Nat} (h : PGood L W H) (hi : i < L.length) {y x v : Int} (hv : 0 ≤ v ∧ v ≤ 200) : PGood (L.set i ((L.getD i sh0).setWet y x v)) W H :=
  h.set ((h i hi).good.setWet hv) ((h i hi).R.setWet (by omega)) (h i hi).wide (h i hi).high

/-! ### Cells of a stack -/
section
variable (L : List Sh) (i : Nat) {y x : Int} (v : Int)
end
/-! ### The table's part; a sheet's giving to the one below -/
section
variable (share : Int) (i : Nat) (x y : Int)
end
section
variable {share : Int} (hsh : 1 ≤ share ∧ share ≤ 15) {i W H : Nat} {x y : Int} (hx : 0 ≤ x) (hx8 : x < 8) (hy : 0 ≤ y) (hy8 : y < 8)
include hsh hx hx8 hy hy8
end
theorem PGood.sides {L : List Sh} {W H : Nat} (h : PGood L W H) (h0 : 0 < L.length) : Small (L.getD 0 sh0) ∧ W ≤ 8 ∧ H ≤ 8 ∧ H * W ≤ 64 := by
  have h1 := h 0 h0
  have hs := h1.good.small
  have hw := h1.wide; have hh := h1.high
  have hWH : W ≤ 8 ∧ H ≤ 8 := by have := hs; unfold Small at this; omega
  exact ⟨hs, hWH.1, hWH.2, Nat.mul_le_mul hWH.2 hWH.1⟩
theorem PGood.cell {L : List Sh} {W H : Nat} (h : PGood L W H) (h0 : 0 < L.length) {j : Nat} (hj : j < H * W) : 0 ≤ ((j % W : Nat) : Int) ∧ ((j % W : Nat) : Int) < 8 ∧ 0 ≤ ((j / W : Nat) : Int) ∧ ((j / W : Nat) : Int) < 8 :=
  cell_in (h.sides h0).1 (h 0 h0).wide (h 0 h0).high hj
section
variable {share : Int} (hsh : 1 ≤ share ∧ share ≤ 15) {i W H : Nat}
include hsh
end

/-! ### What is written -/
section
variable {share : Int} {i : Nat} {x y : Int} (h1 : 0 ≤ y) (h2 : y < 8) (h3 : 0 ≤ x) (h4 : x < 8)
include h1 h2 h3 h4
end

/-! ### Sums in memory -/
def dC (d : Nat → Int) : Nat → SV := fun k => .int .i64 (d k)
@[go_sem] theorem dC_eq (d : Nat → Int) (k : Nat) : dC d k = .int .i64 (d k) := rfl
end Go.Proofs.YtkanbbfddlhlcaaGreatDoor.V

/- Passing down: the reference's walk. -/
namespace Go.Proofs.YtkanbbfddlhlcaaGreatDoor.V
section
variable (cx : Cx) (h : List (Nat × Seg)) (n : Nat)
end
end Go.Proofs.YtkanbbfddlhlcaaGreatDoor.V

/- What the table gets: the reference's walk. -/
namespace Go.Proofs.YtkanbbfddlhlcaaGreatDoor.V
section
variable (cx : Cx) (h : List (Nat × Seg)) (n : Nat)
end
end Go.Proofs.YtkanbbfddlhlcaaGreatDoor.V

/- Passing down: the program's own walk. -/
namespace Go.Proofs.YtkanbbfddlhlcaaGreatDoor.V
section
variable (cx : Cx) (h : List (Nat × Seg)) (n : Nat)
end
end Go.Proofs.YtkanbbfddlhlcaaGreatDoor.V

/- Sums of dyes; a pass, by the reference. -/
namespace Go.Proofs.YtkanbbfddlhlcaaGreatDoor.V
abbrev d3 (d : Nat → Int) : SV := .agg 3 (cl [.int .i64 (d 0), .int .i64 (d 1), .int .i64 (d 2)])
section
variable (cx : Cx) (h : List (Nat × Seg)) (n : Nat)
end
end Go.Proofs.YtkanbbfddlhlcaaGreatDoor.V

/- A copy of a stack. -/
namespace Go.Proofs.YtkanbbfddlhlcaaGreatDoor.V
section
variable (cx : Cx) (h : List (Nat × Seg)) (n : Nat)
end
end Go.Proofs.YtkanbbfddlhlcaaGreatDoor.V

/- The darkest cell of a sheet, by the reference. -/
namespace Go.Proofs.YtkanbbfddlhlcaaGreatDoor.V
section
variable (cx : Cx) (h : List (Nat × Seg)) (n : Nat)
end
end Go.Proofs.YtkanbbfddlhlcaaGreatDoor.V

/- The darkest cell, by the program; copies of stacks; times until. -/
namespace Go.Proofs.YtkanbbfddlhlcaaGreatDoor.V
section
variable (cx : Cx) (h : List (Nat × Seg)) (n : Nat)
end
end Go.Proofs.YtkanbbfddlhlcaaGreatDoor.V

/- Times until: both walks. -/
namespace Go.Proofs.YtkanbbfddlhlcaaGreatDoor.V
section
variable (cx : Cx) (h : List (Nat × Seg)) (n : Nat)
end
end Go.Proofs.YtkanbbfddlhlcaaGreatDoor.V

/- Passing several times: both walks. -/
namespace Go.Proofs.YtkanbbfddlhlcaaGreatDoor.V
/-- A stack that a call has made. -/
def StOut (h : List (Nat × Seg)) (lo n : Nat) (V : SV) (L : List Sh) : Prop :=
  (V = .nils ∧ L = []) ∨ ∃ i cap s, V = .sl i 0 L.length cap ∧ lo ≤ i ∧ i < n ∧ hget h i = some s ∧ s.rw = true ∧ s.n = L.length * 266 ∧ ∀ k, k < L.length * 266 → s.c k = stC L k
theorem StOut.ok {h : List (Nat × Seg)} {lo n : Nat} {V : SV} {L : List Sh} (hA : StOut h lo n V L) : V.ok = True := by
  rcases hA with ⟨rfl, rfl⟩ | ⟨i, cap, s, rfl, _⟩ <;> rfl
theorem StOut.mono {h h' : List (Nat × Seg)} {lo n n' : Nat} {V : SV} {L : List Sh} (hA : StOut h lo n V L) (hn : n ≤ n') (hx : ∀ i, lo ≤ i → i < n → ∀ t, hget h i = some t → hget h' i = some t) : StOut h' lo n' V L := by
  rcases hA with h1 | ⟨i, cap, s, rfl, h1, h2, h3, h4⟩
  · exact .inl h1
  · exact .inr ⟨i, cap, s, rfl, h1, by omega, hx i h1 h2 s h3, h4⟩
theorem StOut.ext {h h' : List (Nat × Seg)} {lo n n' : Nat} {V : SV} {L : List Sh} (hA : StOut h lo n V L) (hn : n ≤ n') (hx : HExt n h h') : StOut h' lo n' V L := hA.mono hn fun i _ hi => hx i hi
section
variable (cx : Cx) (h : List (Nat × Seg)) (n : Nat)
end
end Go.Proofs.YtkanbbfddlhlcaaGreatDoor.V

/- The law's stacks that were made: marked, looked at again; passing down once. -/
namespace Go.Proofs.YtkanbbfddlhlcaaGreatDoor.V
def Sh.setWide (S : Sh) (v : Int) : Sh := { S with wide := v }
def Sh.setHigh (S : Sh) (v : Int) : Sh := { S with high := v }
section
variable (L : List Sh) (i : Nat) (v : Int)
theorem stC_wide : stC L (i * 266) = .int .i8 (L.getD i sh0).wide := by
  have := stC_at L i (k := 0) (by omega)
  rwa [Nat.add_zero] at this
theorem stC_high : stC L (i * 266 + 1) = .int .i8 (L.getD i sh0).high := stC_at L i (k := 1) (by omega)
theorem stC_wax {y : Nat} (hy : y < 8) : stC L (i * 266 + 258 + y) = .int .u8 ((L.getD i sh0).wax y) := by
  rw [show i * 266 + 258 + y = i * 266 + (258 + y) by omega, stC_at L i (by omega)]
  exact shC_wax (L.getD i sh0) (y : Int) (by omega) (by omega)
theorem stC_setWide (hi : i < L.length) : upd (stC L) (i * 266) (.int .i8 v) = stC (L.set i ((L.getD i sh0).setWide v)) := by
  have := stC_set (k := 0) hi (by omega) (shC_setWide (L.getD i sh0) v)
  rw [Nat.add_zero] at this
  exact this
theorem stC_setHigh (hi : i < L.length) : upd (stC L) (i * 266 + 1) (.int .i8 v) = stC (L.set i ((L.getD i sh0).setHigh v)) := by
  exact stC_set (k := 1) hi (by omega) (shC_setHigh (L.getD i sh0) v)
theorem stC_setWax (hi : i < L.length) {y : Nat} (hy : y < 8) : upd (stC L) (i * 266 + 258 + y) (.int .u8 v) = stC (L.set i ((L.getD i sh0).setWax y v)) := by
  rw [show i * 266 + 258 + y = i * 266 + (258 + y) by omega]
  exact stC_set hi (by omega) (shC_setWax (L.getD i sh0) (y : Int) v (by omega) (by omega))
end
def waxP (S : Sh) (k : Int) : Nat → Sh
  | 0 => S
  | j + 1 => (waxP S k j).setWax j (IntKind.u8.wrap (k + j))
theorem waxP_wax (S : Sh) (k : Int) : ∀ (j : Nat) (y : Nat), y < j → (waxP S k j).wax y = IntKind.u8.wrap (k + y)
  | j + 1, y, h => by
    simp only [waxP, Sh.setWax]
    by_cases e : y = j
    · subst e; simp
    · rw [if_neg (by omega)]; exact waxP_wax S k j y (by omega)
theorem waxP_sides (S : Sh) (k : Int) : ∀ j, (waxP S k j).wide = S.wide ∧ (waxP S k j).high = S.high
  | 0 => ⟨rfl, rfl⟩
  | j + 1 => waxP_sides S k j
def markS (S : Sh) (q : Nat) (j : Nat) : Sh := waxP ((S.setWide (IntKind.i8.wrap (10 * (q : Int) + 1))).setHigh (IntKind.i8.wrap (10 * (q : Int) + 1 + 1))) (10 * (q : Int) + 1 + 1 + 1) j
def markP (L : List Sh) : Nat → List Sh
  | 0 => L
  | q + 1 => (markP L q).set q (markS ((markP L q).getD q sh0) q 8)
theorem markP_len (L : List Sh) : ∀ q, (markP L q).length = L.length
  | 0 => rfl
  | q + 1 => by simp only [markP, List.length_set]; exact markP_len L q
/-- A stack that was marked. -/
def Marked (L : List Sh) : Prop := ∀ q, q < L.length → (L.getD q sh0).wide = IntKind.i8.wrap (10 * (q : Int) + 1) ∧ (L.getD q sh0).high = IntKind.i8.wrap (10 * (q : Int) + 1 + 1) ∧ ∀ y : Nat, y < 8 → (L.getD q sh0).wax y = IntKind.u8.wrap (10 * (q : Int) + 1 + 1 + 1 + y)
theorem markP_get (L : List Sh) : ∀ m q, m ≤ L.length → q < m → ((markP L m).getD q sh0).wide = IntKind.i8.wrap (10 * (q : Int) + 1) ∧ ((markP L m).getD q sh0).high = IntKind.i8.wrap (10 * (q : Int) + 1 + 1) ∧ ∀ y : Nat, y < 8 → ((markP L m).getD q sh0).wax y = IntKind.u8.wrap (10 * (q : Int) + 1 + 1 + 1 + y)
  | m + 1, q, hm, h => by
    simp only [markP, getD_set]
    have hl := markP_len L m
    by_cases e : m = q
    · subst e
      rw [if_pos ⟨rfl, by omega⟩]
      exact ⟨(waxP_sides _ _ 8).1, (waxP_sides _ _ 8).2, fun y hy => waxP_wax _ _ 8 y hy⟩
    · rw [if_neg (by omega)]
      exact markP_get L m q (by omega) (by omega)
theorem markP_marked (L : List Sh) : Marked (markP L L.length) := fun q hq => markP_get L L.length q (Nat.le_refl _) (by rwa [markP_len] at hq)
/-- A stack that was marked, in memory. -/
def StHeld (h : List (Nat × Seg)) (lo n : Nat) (V : SV) (len : Nat) : Prop :=
  (V = .nils ∧ len = 0) ∨ ∃ i cap s L, V = .sl i 0 len cap ∧ lo ≤ i ∧ i < n ∧ hget h i = some s ∧ s.n = len * 266 ∧ s.c = stC L ∧ L.length = len ∧ Marked L
theorem StHeld.ext {h h' : List (Nat × Seg)} {lo n n' : Nat} {V : SV} {len : Nat} (hA : StHeld h lo n V len) (hn : n ≤ n') (hx : HExt n h h') : StHeld h' lo n' V len := by
  rcases hA with h1 | ⟨i, cap, s, L, rfl, h1, h2, h3, h4⟩
  · exact .inl h1
  · exact .inr ⟨i, cap, s, L, rfl, h1, by omega, hx i h2 s h3, h4⟩
section
variable (cx : Cx) (h : List (Nat × Seg)) (n : Nat)
set_option maxRecDepth 100000 in
theorem eqStOut_Q (V V' : SV) (L : List Sh) (lo lo' : Nat) (hA : StOut h lo n V L) (hA' : StOut h lo' n V' L) (hLR : StR L) (hm9 : L.length ≤ 10000000) :
    CallQ Tryz.prog cx 6 [V, V'] h n (.bool true) := by
  rcases hA with ⟨rfl, rfl⟩ | ⟨i, cap, s, rfl, h0, hi, hs, _, hn, hc⟩ <;> rcases hA' with ⟨rfl, hL⟩ | ⟨i', cap', s', rfl, h0', hi', hs', _, hn', hc'⟩
  · refine callQ_of_T (P := Tryz.prog) hti (nt := 27) (rs := [.tmp 4]) rfl rfl Tryz.call6 Tryz.func6 rfl _ (by simp only [go_sem, and_self]) (Nat.le_of_ble_eq_true rfl) _ (by first | exact trivial | (refine lt_flat rfl ?_; simp [SV.flat]; done) | simp only [go_sem]) fun hok => ?_
    simp only [go_sem, Nat.reduceLT]
    refine T_unroll 0 ?_
    simp only [go_sem, Nat.reduceLT, Int.reduceLT]
  · refine callQ_of_T (P := Tryz.prog) hti (nt := 27) (rs := [.tmp 4]) rfl rfl Tryz.call6 Tryz.func6 rfl _ (by simp only [go_sem, and_self]) (Nat.le_of_ble_eq_true rfl) _ (by first | exact trivial | (refine lt_flat rfl ?_; simp [SV.flat]; done) | simp only [go_sem]) fun hok => ?_
    simp only [go_sem, Nat.reduceLT]
    refine T_unroll 0 ?_
    simp only [go_sem, Nat.reduceLT, Int.reduceLT]
  · subst hL
    refine callQ_of_T (P := Tryz.prog) hti (nt := 27) (rs := [.tmp 4]) rfl rfl Tryz.call6 Tryz.func6 rfl _ (by simp only [go_sem, and_self]) (Nat.le_of_ble_eq_true rfl) _ (by first | exact trivial | (refine lt_flat rfl ?_; simp [SV.flat]; done) | simp only [go_sem]) fun hok => ?_
    simp only [go_sem, Nat.reduceLT]
    refine T_unroll 0 ?_
    simp only [go_sem, Nat.reduceLT, Int.reduceLT]
  · exact eqStack_Q cx h n i cap i' cap' L s s' hs hi ⟨by omega, hc⟩ hs' hi' ⟨by omega, hc'⟩ hLR hm9
set_option maxRecDepth 100000 in
set_option maxHeartbeats 1600000 in
theorem markSt_E (i cap : Nat) (L : List Sh) (s : Seg) (hs : hget h i = some s) (hi : i < n) (hrw : s.rw = true) (hn : s.n = L.length * 266) (hc : ∀ k, k < L.length * 266 → s.c k = stC L k) (hm9 : L.length ≤ 10000000) (K : HK)
    (hK : K (.int .i64 (10 * L.length + 1)) (hset h i ⟨L.length * 266, stC (markP L L.length), true, s.own⟩) n) :
    CallE Tryz.prog cx 7 [.sl i 0 L.length cap, .int .i64 1] h n K := by
  refine CallE.to _ _ (by simp only [go_sem]) (fun hok => hok_set hok fun k hk => stC_flat _ _) hK ?_
  refine callE_of_T (P := Tryz.prog) hti (nt := 44) (rs := [.tmp 4]) rfl rfl Tryz.call7 Tryz.func7 rfl _ (by simp only [go_sem, and_self]) (Nat.le_of_ble_eq_true rfl) _ fun hok => ?_
  simp only [go_sem, Nat.reduceLT]
  have hgi : ∀ t, hget (hset h i t) i = some t := hget_hset_self hs
  refine T_lp (ι := { q : Nat // q ≤ L.length })
    (fun q => ([(0, .sl i 0 L.length cap), (1, .int .i64 (10 * q.1 + 1)), (5, .int .i64 q.1)], hset h i ⟨L.length * 266, stC (markP L q.1), true, s.own⟩, n)) (fun q => L.length - q.1) ⟨0, Nat.zero_le _⟩ ?_ ?_
  · refine Imp.id (by simp) ?_ ?_
    · simp only [go_sem, Nat.reduceLT, Int.reduceAdd, Int.reduceMul]
      exact hi
    · exact impH.set0 hok (Nat.le_refl _) hs (fun j hj hji t ht => ht) hs (SegLe.flat (by rw [hn]; exact Nat.le_refl _) (fun _ => hrw) (.inr rfl) fun k hk => ⟨hc k hk, stC_flat _ _⟩)
  · rintro ⟨q, hq⟩
    simp only [go_sem, Nat.reduceLT, reduceCtorEq, decide_eq_true_eq, decide_eq_false_iff_not]
    refine ⟨fun h1 => ?_, fun h1 => ?_⟩
    · have hq1 : q < L.length := by omega
      have r1 : (0 : Int) ≤ q ∧ (q : Int) < L.length := ⟨by omega, by omega⟩
      have b1 : q * 266 ≤ L.length * 266 - 1 := by omega
      have b2 : q * 266 + 1 ≤ L.length * 266 := by omega
      have b3 : q * 266 + 1 ≤ L.length * 266 - 1 := by omega
      have b4 : q * 266 + 1 + 1 ≤ L.length * 266 := by omega
      have b4' : q * 266 + 2 ≤ L.length * 266 := by omega
      have b5 : 1 ≤ L.length * 266 := by omega
      have b6 : (1 = L.length * 266) = False := eq_false (by omega)
      have hl := markP_len L q
      have e1 := stC_setWide (markP L q) q (IntKind.i8.wrap (10 * (q : Int) + 1)) (by omega)
      have e2 := stC_setHigh ((markP L q).set q (((markP L q).getD q sh0).setWide (IntKind.i8.wrap (10 * (q : Int) + 1)))) q (IntKind.i8.wrap (10 * (q : Int) + 1 + 1)) (by rw [List.length_set]; omega)
      have e3 : ((markP L q).set q (((markP L q).getD q sh0).setWide (IntKind.i8.wrap (10 * (q : Int) + 1)))).getD q sh0 = (((markP L q).getD q sh0).setWide (IntKind.i8.wrap (10 * (q : Int) + 1))) := by rw [getD_set, if_pos ⟨rfl, by omega⟩]
      rw [e3, List.set_set] at e2
      simp only [go_sem, Nat.reduceLT, reduceCtorEq, hgi, hi, r1, b1, b2, b3, b4, b4', b5, b6, and_false, if_false, e1, e2, w64 (n := 10 * (q : Int) + 1 + 1) (by omega), w64 (n := 10 * (q : Int) + 1 + 1 + 1) (by omega)]
      refine T_lp (ι := { j : Nat // j ≤ 8 })
        (fun j => ([(0, .sl i 0 L.length cap), (1, .int .i64 (10 * q + 1 + 1 + 1 + j.1)), (5, .int .i64 q), (6, .int .i64 j.1)], hset h i ⟨L.length * 266, stC ((markP L q).set q (markS ((markP L q).getD q sh0) q j.1)), true, s.own⟩, n)) (fun j => 8 - j.1) ⟨0, Nat.zero_le _⟩ ?_ ?_
      · refine Imp.id (by simp) ?_ ?_
        · simp only [go_sem, Nat.reduceLT]
          exact ⟨hi, congrArg (SV.int IntKind.i64) (Int.add_zero _).symm⟩
        · exact impH.base0 (hok_set hok fun k hk => stC_flat _ _) (by simp) HExt.rfl
      · rintro ⟨j, hj⟩
        simp only [go_sem, Nat.reduceLT, reduceCtorEq, decide_eq_true_eq, decide_eq_false_iff_not]
        refine ⟨fun h2 => ?_, fun h2 => ?_⟩
        · have j0 : (0 : Int) ≤ j ∧ (j : Int) < 8 := ⟨by omega, h2⟩
          have c1 : q * 266 + 258 + j ≤ L.length * 266 - 1 := by omega
          have c2 : q * 266 + 258 + j + 1 ≤ L.length * 266 := by omega
          have e4 := stC_setWax ((markP L q).set q (markS ((markP L q).getD q sh0) q j)) q (IntKind.u8.wrap (10 * (q : Int) + 1 + 1 + 1 + j)) (by rw [List.length_set]; omega) (y := j) (by omega)
          have e5 : ((markP L q).set q (markS ((markP L q).getD q sh0) q j)).getD q sh0 = markS ((markP L q).getD q sh0) q j := by rw [getD_set, if_pos ⟨rfl, by omega⟩]
          rw [e5, List.set_set] at e4
          simp only [go_sem, Nat.reduceLT, hgi, hi, r1, j0, b5, b6, and_false, if_false, c1, c2, e4]
          refine ⟨⟨j + 1, by omega⟩, by show 8 - (j + 1) < 8 - j; omega, ?_⟩
          refine Imp.id (by simp) ?_ ?_
          · simp only [go_sem, Nat.reduceLT, w64 (n := (j : Int) + 1) (by omega), w64 (n := 10 * (q : Int) + 1 + 1 + 1 + j + 1) (by omega), Int.natCast_add, Int.natCast_one]
            exact ⟨hi, congrArg (SV.int IntKind.i64) (by omega)⟩
          · exact impH.base0 (hok_set hok fun k hk => stC_flat _ _) (by simp) HExt.rfl
        · have hj8 : j = 8 := by omega
          subst hj8
          refine ⟨⟨q + 1, by omega⟩, by show L.length - (q + 1) < L.length - q; omega, ?_⟩
          refine Imp.id (by simp) ?_ ?_
          · simp only [go_sem, Nat.reduceLT, w64 (n := (q : Int) + 1) (by omega), Int.natCast_add, Int.natCast_one]
            exact ⟨hi, congrArg (SV.int IntKind.i64) (by omega)⟩
          · exact impH.base0 (hok_set hok fun k hk => stC_flat _ _) (by simp) HExt.rfl
    · have hq' : q = L.length := by omega
      subst hq'
      simp only [go_sem, HExt_cons]
set_option maxRecDepth 100000 in
theorem heldSt_Q (i cap : Nat) (L : List Sh) (s : Seg) (hs : hget h i = some s) (hi : i < n) (hn : s.n = L.length * 266) (hc : s.c = stC L) (hM : Marked L) (hm9 : L.length ≤ 10000000) :
    CallQ Tryz.prog cx 8 [.sl i 0 L.length cap, .int .i64 1] h n (.int .i64 (10 * L.length + 1)) := by
  refine callQ_of_T (P := Tryz.prog) hti (nt := 50) (rs := [.tmp 4]) rfl rfl Tryz.call8 Tryz.func8 rfl _ (by simp only [go_sem, and_self]) (Nat.le_of_ble_eq_true rfl) _ (by first | exact trivial | (refine lt_flat rfl ?_; simp [SV.flat]; done) | simp only [go_sem]) fun hok => ?_
  simp only [go_sem, Nat.reduceLT, Int.reduceNeg]
  refine T_lp (ι := { q : Nat // q ≤ L.length })
    (fun q => ([(0, .sl i 0 L.length cap), (1, .int .i64 (10 * q.1 + 1)), (5, .int .i64 q.1)], h, n)) (fun q => L.length - q.1) ⟨0, Nat.zero_le _⟩ ?_ ?_
  · refine Imp.id (by simp) ?_ (impH.base0 hok (by simp) HExt.rfl)
    simp only [go_sem, Nat.reduceLT, Int.reduceAdd, Int.reduceMul]
    exact hi
  · rintro ⟨q, hq⟩
    simp only [go_sem, Nat.reduceLT, reduceCtorEq, Int.reduceNeg, decide_eq_true_eq, decide_eq_false_iff_not]
    refine ⟨fun h1 => ?_, fun h1 => ?_⟩
    · have hq1 : q < L.length := by omega
      obtain ⟨m1, m2, m3⟩ := hM q hq1
      have r1 : (0 : Int) ≤ q ∧ (q : Int) < L.length := ⟨by omega, by omega⟩
      have b1 : q * 266 ≤ s.n - 1 := by omega
      have b2 : q * 266 + 1 ≤ s.n := by omega
      have b3 : q * 266 + 1 ≤ s.n - 1 := by omega
      have b4' : q * 266 + 2 ≤ s.n := by omega
      have b5 : 1 ≤ s.n := by omega
      have e1 : s.c (q * 266) = .int .i8 (IntKind.i8.wrap (10 * (q : Int) + 1)) := by rw [hc, stC_wide, m1]
      have e2 : s.c (q * 266 + 1) = .int .i8 (IntKind.i8.wrap (10 * (q : Int) + 1 + 1)) := by rw [hc, stC_high, m2]
      simp only [go_sem, Nat.reduceLT, reduceCtorEq, Int.reduceNeg, hs, hi, r1, b1, b2, b3, b4', b5, e1, e2, w64 (n := 10 * (q : Int) + 1 + 1) (by omega), w64 (n := 10 * (q : Int) + 1 + 1 + 1) (by omega)]
      refine T_lp (ι := { j : Nat // j ≤ 8 })
        (fun j => ([(0, .sl i 0 L.length cap), (1, .int .i64 (10 * q + 1 + 1 + 1 + j.1)), (5, .int .i64 q), (6, .int .i64 j.1)], h, n)) (fun j => 8 - j.1) ⟨0, Nat.zero_le _⟩ ?_ ?_
      · refine Imp.id (by simp) ?_ (impH.base0 hok (by simp) HExt.rfl)
        simp only [go_sem, Nat.reduceLT]
        exact ⟨hi, congrArg (SV.int IntKind.i64) (Int.add_zero _).symm⟩
      · rintro ⟨j, hj⟩
        simp only [go_sem, Nat.reduceLT, reduceCtorEq, Int.reduceNeg, decide_eq_true_eq, decide_eq_false_iff_not]
        refine ⟨fun h2 => ?_, fun h2 => ?_⟩
        · have j0 : (0 : Int) ≤ j ∧ (j : Int) < 8 := ⟨by omega, h2⟩
          have c1 : q * 266 + 258 + j ≤ s.n - 1 := by omega
          have c2 : q * 266 + 258 + j + 1 ≤ s.n := by omega
          have e4 : s.c (q * 266 + 258 + j) = .int .u8 (IntKind.u8.wrap (10 * (q : Int) + 1 + 1 + 1 + j)) := by rw [hc, stC_wax L q (y := j) (by omega), m3 j (by omega)]
          simp only [go_sem, Nat.reduceLT, Int.reduceNeg, hs, hi, r1, j0, b5, c1, c2, e4]
          refine ⟨⟨j + 1, by omega⟩, by show 8 - (j + 1) < 8 - j; omega, ?_⟩
          refine Imp.id (by simp) ?_ (impH.base0 hok (by simp) HExt.rfl)
          simp only [go_sem, Nat.reduceLT, w64 (n := (j : Int) + 1) (by omega), w64 (n := 10 * (q : Int) + 1 + 1 + 1 + j + 1) (by omega), Int.natCast_add, Int.natCast_one]
          exact ⟨hi, congrArg (SV.int IntKind.i64) (by omega)⟩
        · have hj8 : j = 8 := by omega
          subst hj8
          refine ⟨⟨q + 1, by omega⟩, by show L.length - (q + 1) < L.length - q; omega, ?_⟩
          refine Imp.id (by simp) ?_ (impH.base0 hok (by simp) HExt.rfl)
          simp only [go_sem, Nat.reduceLT, w64 (n := (q : Int) + 1) (by omega), Int.natCast_add, Int.natCast_one]
          exact ⟨hi, congrArg (SV.int IntKind.i64) (by omega)⟩
    · have hq' : q = L.length := by omega
      subst hq'
      simp only [go_sem]
theorem markOut_E (V : SV) (L : List Sh) (lo : Nat) (hA : StOut h lo n V L) (hm9 : L.length ≤ 10000000) (K : HK)
    (hK : ∀ h', HOk n h' → (∀ m h0, m ≤ lo → HExt m h0 h → HExt m h0 h') → StHeld h' lo n V L.length → K (.int .i64 (10 * L.length + 1)) h' n) :
    CallE Tryz.prog cx 7 [V, .int .i64 1] h n K := by
  refine CallE.hokE ?_
  rcases hA with ⟨rfl, rfl⟩ | ⟨i, cap, s, rfl, h0, hi, hs, hrw, hn, hc⟩
  · refine callE_of_T (P := Tryz.prog) hti (nt := 44) (rs := [.tmp 4]) rfl rfl Tryz.call7 Tryz.func7 rfl _ (by simp only [go_sem, and_self]) (Nat.le_of_ble_eq_true rfl) _ fun hok => ?_
    simp only [go_sem, Nat.reduceLT]
    refine T_unroll 0 ?_
    simp only [go_sem, Nat.reduceLT, Int.reduceLT]
    exact fun hok' => hK h hok' (fun m h0 _ hx => hx) (.inl ⟨rfl, rfl⟩)
  · refine markSt_E cx h n i cap L s hs hi hrw hn hc hm9 _ ?_
    refine fun hok' => hK _ hok' (fun m h0 hm hx j hj t ht => ?_) (.inr ⟨i, cap, _, markP L L.length, rfl, h0, hi, hget_hset_self hs _, rfl, rfl, markP_len L _, markP_marked L⟩)
    rw [hget_hset, if_neg (by omega)]; exact hx j hj t ht
theorem heldOut_Q (V : SV) (len lo : Nat) (hA : StHeld h lo n V len) (hm9 : len ≤ 10000000) :
    CallQ Tryz.prog cx 8 [V, .int .i64 1] h n (.int .i64 (10 * len + 1)) := by
  rcases hA with ⟨rfl, rfl⟩ | ⟨i, cap, s, L, rfl, h0, hi, hs, hn, hc, hl, hM⟩
  · refine callQ_of_T (P := Tryz.prog) hti (nt := 50) (rs := [.tmp 4]) rfl rfl Tryz.call8 Tryz.func8 rfl _ (by simp only [go_sem, and_self]) (Nat.le_of_ble_eq_true rfl) _ (by first | exact trivial | (refine lt_flat rfl ?_; simp [SV.flat]; done) | simp only [go_sem]) fun hok => ?_
    simp only [go_sem, Nat.reduceLT, Int.reduceNeg, Int.reduceAdd, Int.reduceMul]
    refine T_unroll 0 ?_
    simp only [go_sem, Nat.reduceLT, Int.reduceLT, Int.reduceNeg]
  · subst hl
    exact heldSt_Q cx h n i cap L s hs hi hn hc hM hm9
end
end Go.Proofs.YtkanbbfddlhlcaaGreatDoor.V

/- Passing down once; the laws of PassTimes and PassDown: the walks. -/
namespace Go.Proofs.YtkanbbfddlhlcaaGreatDoor.V
section
variable (cx : Cx) (h : List (Nat × Seg)) (n : Nat)
end
end Go.Proofs.YtkanbbfddlhlcaaGreatDoor.V
