/- Part 5 of the texts that this proof stands on: a symbolic walk over the program, what its functions and the reference's do, plain laws. -/
import Derived.Test.YtkanbbfddlhlcaaGreatDoorZrkd
import Derived.Test.YtkanbbfddlhlcaaGreatDoorZrkc
import Derived.Test.YtkanbbfddlhlcaaGreatDoorV19
import Derived.Sort.LotD4
import Derived.Sort.LotD5
import Derived.Test.YtkanbbfddlhlcaaGreatDoorZrka
set_option linter.all false

/- The library's partitions of spots. -/
namespace Go.Proofs.YtkanbbfddlhlcaaGreatDoor.V
open Go.Sort (swp scanUp scanDown partLoop partition partEqLoop partitionEqual round_facts partLoop_eq partEqLoop_eq)
section
variable (cx : Cx) (h : List (Nat × Seg)) (n : Nat)
end
end Go.Proofs.YtkanbbfddlhlcaaGreatDoor.V

/- The library's partition of spots by equality. -/
namespace Go.Proofs.YtkanbbfddlhlcaaGreatDoor.V
open Go.Sort (swp scanUp scanDown partEqLoop partitionEqual round_facts partEqLoop_eq)
section
variable (cx : Cx) (h : List (Nat × Seg)) (n : Nat)
end
end Go.Proofs.YtkanbbfddlhlcaaGreatDoor.V

/- The library's reversal and its partial insertion sort of spots. -/
namespace Go.Proofs.YtkanbbfddlhlcaaGreatDoor.V
open Go.Sort (swp scanSorted shiftDown shiftUp partialIns partialInsertionSort reverseLoop reverseRange fixDown fixUp partialIns_succ)
section
variable (cx : Cx) (h : List (Nat × Seg)) (n : Nat)
end
end Go.Proofs.YtkanbbfddlhlcaaGreatDoor.V

/- The library's choice of a pivot among spots. -/
namespace Go.Proofs.YtkanbbfddlhlcaaGreatDoor.V
open Go.Sort (order2 median medianAdjacent choosePivot rawPivot hintOf hintCode order2_mem median_mem medianAdjacent_mem median_count medianAdjacent_count order2_count choosePivot_eq)
/-- A function that compares spots and looks at no memory. -/
def CmpA (cx : Cx) (n f p q : Nat) (G F : Nat → SV) (cI : Int × Int → Int × Int → Int) : Prop :=
  ∀ (a b : Int × Int) nt n0 h' n', n ≤ n' → CallQ Tryz.prog ⟨cx.w0, cx.W, nt, n0⟩ f (lst p G ++ [spot a.1 a.2, spot b.1 b.2] ++ lst q F) h' n' (.int .i64 (cI a b))
theorem CmpA.nt {cx : Cx} {n f p q : Nat} {G F : Nat → SV} {cI : Int × Int → Int × Int → Int} (hc : CmpA cx n f p q G F cI) (t m : Nat) : CmpA ⟨cx.w0, cx.W, t, m⟩ n f p q G F cI := fun a b nt n0 h' n' hn => hc a b nt n0 h' n' hn
section
variable (cx : Cx) (h : List (Nat × Seg)) (n : Nat)
end
end Go.Proofs.YtkanbbfddlhlcaaGreatDoor.V

/- Lengths of numbers in bits, exactly; patterns broken among spots. -/
namespace Go.Proofs.YtkanbbfddlhlcaaGreatDoor.V
open Go.Sort (bitsLen bitsLen_le_iff xorNext xorNextN xorNext_toNat xorNextN_lt breakPatterns breakStep swp)
section
variable (cx : Cx) (h : List (Nat × Seg)) (n : Nat)
end
end Go.Proofs.YtkanbbfddlhlcaaGreatDoor.V

/- Patterns broken among spots. -/
namespace Go.Proofs.YtkanbbfddlhlcaaGreatDoor.V
open Go.Sort (bitsLen bitsLen_le_iff xorNext xorNextN xorNext_toNat xorNextN_lt breakPatterns breakStep swp two_pow_bitsLen_le)
section
variable (cx : Cx) (h : List (Nat × Seg)) (n : Nat)
end
end Go.Proofs.YtkanbbfddlhlcaaGreatDoor.V

/- The library's sort of spots. -/
namespace Go.Proofs.YtkanbbfddlhlcaaGreatDoor.V
open Go.Sort (bitsLen swp insertionSort heapSort breakPatterns choosePivot reverseRange partialInsertionSort partition partitionEqual pdq rd Hint hintCode SWO Below rd_facts rd_c rd_true rd_false rd_dec rd_not rd_pi_yes rd_pi_no rd_lim_le round_part round_eq pdq_small pdq_heap pdq_done pdq_eq pdq_left pdq_right insertionSort_holds heapSort_holds partialInsertionSort_holds partition_holds partitionEqual_holds reverseRange_holds pdq_sorts)
section
variable (cx : Cx) (h : List (Nat × Seg)) (n : Nat)
end
end Go.Proofs.YtkanbbfddlhlcaaGreatDoor.V

/- Sorted lists of spots made compact; sets of spots, of whatever length. -/
namespace Go.Proofs.YtkanbbfddlhlcaaGreatDoor.V
section
variable (cx : Cx) (h : List (Nat × Seg)) (n : Nat)
end
end Go.Proofs.YtkanbbfddlhlcaaGreatDoor.V

/- The library's sort of spots, of whatever length; sets of spots. -/
namespace Go.Proofs.YtkanbbfddlhlcaaGreatDoor.V
open Go.Sort (pdq pdq_sorts PermIn SortedIn SWO bitsLen bitsLen_le_iff)
section
variable (cx : Cx) (h : List (Nat × Seg)) (n : Nat)
end
section
variable (cx : Cx) (h : List (Nat × Seg)) (n : Nat)
end
end Go.Proofs.YtkanbbfddlhlcaaGreatDoor.V

/- Lists of cells: the program's own walk. -/
namespace Go.Proofs.YtkanbbfddlhlcaaGreatDoor.V
/-- A list of spots in memory. -/
def Sp (h : List (Nat × Seg)) (lo n : Nat) (V : SV) (L : List (Int × Int)) : Prop :=
  ∃ i cap s, V = .sl i 0 L.length cap ∧ lo ≤ i ∧ i < n ∧ hget h i = some s ∧ s.rw = true ∧ s.n = L.length * 2 ∧ L.length ≤ cap ∧ ∀ k, k < L.length * 2 → s.c k = spotsC L k
theorem Sp.out {h : List (Nat × Seg)} {lo n : Nat} {V : SV} {L : List (Int × Int)} (hA : Sp h lo n V L) : SpsOut h lo n V L := by
  obtain ⟨i, cap, s, h1, h2, h3, h4, h5, h6, h7, h8⟩ := hA
  exact .inr ⟨i, cap, s, h1, h2, h3, h4, h5, h6, h8⟩
theorem Sp.ok {h : List (Nat × Seg)} {lo n : Nat} {V : SV} {L : List (Int × Int)} (hA : Sp h lo n V L) : V.ok = True := hA.out.ok
theorem Sp.ext {h h' : List (Nat × Seg)} {lo n n' : Nat} {V : SV} {L : List (Int × Int)} (hA : Sp h lo n V L) (hn : n ≤ n') (hx : HExt n h h') : Sp h' lo n' V L := by
  obtain ⟨i, cap, s, h1, h2, h3, h4, h5⟩ := hA
  exact ⟨i, cap, s, h1, h2, by omega, hx i h3 s h4, h5⟩
theorem Sp.lo {h : List (Nat × Seg)} {lo lo' n : Nat} {V : SV} {L : List (Int × Int)} (hA : Sp h lo n V L) (hl : lo' ≤ lo) : Sp h lo' n V L := by
  obtain ⟨i, cap, s, h1, h2, h3⟩ := hA
  exact ⟨i, cap, s, h1, by omega, h3⟩
theorem Sp.lt {h : List (Nat × Seg)} {lo n : Nat} {V : SV} {L : List (Int × Int)} (hA : Sp h lo n V L) : V.lt n := by
  obtain ⟨i, cap, s, rfl, h2, h3, _⟩ := hA
  exact h3
theorem HOk.hdel {n j : Nat} {h : List (Nat × Seg)} (hok : HOk n h) : HOk n (hdel h j) := fun i t hi => by
  rw [hget_hdel] at hi
  split at hi
  · cases hi
  · exact hok i t hi
section
variable (cx : Cx) (h : List (Nat × Seg)) (n : Nat)
end
end Go.Proofs.YtkanbbfddlhlcaaGreatDoor.V

/- Sets of cells: the reference's walk. -/
namespace Go.Proofs.YtkanbbfddlhlcaaGreatDoor.V
@[go_sem] theorem zz_mk : zz_a010c9 = mkC [] := by funext j; simp [mkC, zz_a010c9]
@[go_sem] theorem ones_mk (L : List (Int × Int)) : ones (.agg 64 (mkC L)) = True := eq_true fun j hj => trivial
@[go_sem] theorem okc_mk (L : List (Int × Int)) : (SV.agg 64 (mkC L)).okc = True := eq_true trivial
@[go_sem] theorem mkS_eq (L : List (Int × Int)) : mkS L = ⟨64, mkC L, true, none⟩ := rfl
@[go_sem] theorem lt_mk (m : Nat) (L : List (Int × Int)) : (SV.agg 64 (mkC L)).lt m = True := eq_true fun j hj => trivial
section
variable (cx : Cx) (h : List (Nat × Seg)) (n : Nat)
end
end Go.Proofs.YtkanbbfddlhlcaaGreatDoor.V

/- Lists of cells: the program's own walk, on. -/
namespace Go.Proofs.YtkanbbfddlhlcaaGreatDoor.V
section
variable (cx : Cx) (h : List (Nat × Seg)) (n : Nat)
end
end Go.Proofs.YtkanbbfddlhlcaaGreatDoor.V

/- Spreads: the program's own walk. -/
namespace Go.Proofs.YtkanbbfddlhlcaaGreatDoor.V
/-- A list to which one may append. -/
def SpO (h : List (Nat × Seg)) (lo n : Nat) (V : SV) (L : List (Int × Int)) : Prop :=
  ∃ j cap s, V = .sl j 0 L.length cap ∧ lo ≤ j ∧ j < n ∧ hget h j = some s ∧ s.own = some (50, cap * 2) ∧ s.rw = true ∧ s.n = L.length * 2 ∧ L.length ≤ cap ∧ cap ≤ maxLen ∧ ∀ k, k < L.length * 2 → s.c k = spotsC L k
theorem SpO.sp {h : List (Nat × Seg)} {lo n : Nat} {V : SV} {L : List (Int × Int)} (hA : SpO h lo n V L) : Sp h lo n V L := by
  obtain ⟨i, cap, s, h1, h2, h3, h4, h5, h6, h7, h8, h9, h10⟩ := hA
  exact ⟨i, cap, s, h1, h2, h3, h4, h6, h7, h8, h10⟩
section
variable (cx : Cx) (h : List (Nat × Seg)) (n : Nat)
end
end Go.Proofs.YtkanbbfddlhlcaaGreatDoor.V

/- Sets of cells: the reference's lists and spreads. -/
namespace Go.Proofs.YtkanbbfddlhlcaaGreatDoor.V
section
variable (cx : Cx) (h : List (Nat × Seg)) (n : Nat)
end
end Go.Proofs.YtkanbbfddlhlcaaGreatDoor.V

/- Sets of cells: the program's answers. -/
namespace Go.Proofs.YtkanbbfddlhlcaaGreatDoor.V
section
variable (cx : Cx) (h : List (Nat × Seg)) (n : Nat)
end
end Go.Proofs.YtkanbbfddlhlcaaGreatDoor.V

/- Spreads, inner cells: the reference's walk. -/
namespace Go.Proofs.YtkanbbfddlhlcaaGreatDoor.V
structure SI (h : List (Nat × Seg)) (n : Nat) (hq : List (Nat × Seg)) (nq : Nat) (V : SV) (Lst M : List (Int × Int)) : Prop where
  hn : n + 2 ≤ nq
  ok : HOk nq hq
  ex : HExt n h hq
  g0 : hget hq n = some (mkS [])
  g1 : hget hq (n + 1) = some (mkS M)
  ls : Sp hq (n + 2) nq V Lst
theorem SI.ext {h hq h' : List (Nat × Seg)} {n nq n' : Nat} {V : SV} {Lst M : List (Int × Int)} (I : SI h n hq nq V Lst M) (hx : HExt nq hq h') (hn : nq ≤ n') (ok : HOk n' h') : SI h n h' n' V Lst M :=
  ⟨Nat.le_trans I.hn hn, ok, I.ex.tr hx (by have := I.hn; omega), hx n (by have := I.hn; omega) _ I.g0, hx (n + 1) (by have := I.hn; omega) _ I.g1, I.ls.ext hn hx⟩
theorem Sp.hset {h : List (Nat × Seg)} {lo n g : Nat} {V : SV} {L : List (Int × Int)} {t : Seg} (hA : Sp h lo n V L) (hg : g < lo) : Sp (hset h g t) lo n V L := by
  obtain ⟨i, cap, s, h1, h2, h3, h4, h5⟩ := hA
  exact ⟨i, cap, s, h1, h2, h3, by rw [hget_hset, if_neg (by omega)]; exact h4, h5⟩
theorem SI.set {h hq : List (Nat × Seg)} {n nq : Nat} {V : SV} {Lst M : List (Int × Int)} (I : SI h n hq nq V Lst M) (M' : List (Int × Int)) : SI h n (hset hq (n + 1) (mkS M')) nq V Lst M' :=
  ⟨I.hn, I.ok.hset fun k hk => (mkC_flat M' k).below _, fun z hz t ht => by rw [hget_hset, if_neg (by omega)]; exact I.ex z hz t ht, by rw [hget_hset, if_neg (by omega)]; exact I.g0, hget_hset_self I.g1 _, I.ls.hset (by omega)⟩
section
variable (cx : Cx) (h : List (Nat × Seg)) (n : Nat)
end
end Go.Proofs.YtkanbbfddlhlcaaGreatDoor.V

/- Forerunners: the program's answers. -/
namespace Go.Proofs.YtkanbbfddlhlcaaGreatDoor.V
section
variable (cx : Cx) (h : List (Nat × Seg)) (n : Nat)
end
end Go.Proofs.YtkanbbfddlhlcaaGreatDoor.V

/- Sets of cells: the reference's answers. -/
namespace Go.Proofs.YtkanbbfddlhlcaaGreatDoor.V
@[go_sem] theorem fitC_mk (A B : List (Int × Int)) (j k : Nat) : fitC .bool (mkC A j) (mkC B k) = True := rfl
section
variable (cx : Cx) (h : List (Nat × Seg)) (n : Nat)
end
end Go.Proofs.YtkanbbfddlhlcaaGreatDoor.V

/- Sets of cells: what the reference answers. -/
namespace Go.Proofs.YtkanbbfddlhlcaaGreatDoor.V
section
variable (cx : Cx) (h : List (Nat × Seg)) (n : Nat)
end
end Go.Proofs.YtkanbbfddlhlcaaGreatDoor.V

/- Drops that make a blot. -/
namespace Go.Proofs.YtkanbbfddlhlcaaGreatDoor.V
section
variable (cx : Cx) (h : List (Nat × Seg)) (n : Nat)
end
end Go.Proofs.YtkanbbfddlhlcaaGreatDoor.V

/- Drops that make a blot: the reference's walk; the codes. -/
namespace Go.Proofs.YtkanbbfddlhlcaaGreatDoor.V
section
variable (cx : Cx) (h : List (Nat × Seg)) (n : Nat)
end
end Go.Proofs.YtkanbbfddlhlcaaGreatDoor.V

/- LeastWater, LeastDye: both codes. -/
namespace Go.Proofs.YtkanbbfddlhlcaaGreatDoor.V
section
variable (cx : Cx) (h : List (Nat × Seg)) (n : Nat)
end
end Go.Proofs.YtkanbbfddlhlcaaGreatDoor.V

/- LeastWater, LeastDye: the answers of both codes. -/
namespace Go.Proofs.YtkanbbfddlhlcaaGreatDoor.V
section
variable (cx : Cx) (h : List (Nat × Seg)) (n : Nat)
end
end Go.Proofs.YtkanbbfddlhlcaaGreatDoor.V

/- OriginsOf: both codes. -/
namespace Go.Proofs.YtkanbbfddlhlcaaGreatDoor.V
section
variable (cx : Cx) (h : List (Nat × Seg)) (n : Nat)
end
end Go.Proofs.YtkanbbfddlhlcaaGreatDoor.V

/- Plain laws for FnOrigins. -/
namespace Go.Proofs.YtkanbbfddlhlcaaGreatDoor.V
section
variable {S : Sh} {x y ink amount water : Int} (hV : Valid S) (hB : Blank S S.wide.toNat S.high.toNat) (hd : dropB S x y ink amount water = true) (hwx : waxB S x y = false) (hw : water ≤ 30)
include hV hB hd hwx hw
end
end Go.Proofs.YtkanbbfddlhlcaaGreatDoor.V

/- The helpers of FnOrigins: clean, bytes, cells. -/
namespace Go.Proofs.YtkanbbfddlhlcaaGreatDoor.V
section
variable (cx : Cx) (h : List (Nat × Seg)) (n : Nat)
end
end Go.Proofs.YtkanbbfddlhlcaaGreatDoor.V

/- The helpers of FnOrigins: cells in a list, equal lists, clean sheets. -/
namespace Go.Proofs.YtkanbbfddlhlcaaGreatDoor.V
section
variable (cx : Cx) (h : List (Nat × Seg)) (n : Nat)
end
end Go.Proofs.YtkanbbfddlhlcaaGreatDoor.V

/- Equal lists of cells. -/
namespace Go.Proofs.YtkanbbfddlhlcaaGreatDoor.V
section
variable (cx : Cx) (h : List (Nat × Seg)) (n : Nat)
end
end Go.Proofs.YtkanbbfddlhlcaaGreatDoor.V

/- A cell of a sheet; all cells. -/
namespace Go.Proofs.YtkanbbfddlhlcaaGreatDoor.V
theorem BySl.hset {h : List (Nat × Seg)} {n i : Nat} {A : SV} (hA : BySl h n i A) (t : Seg) : BySl (hset h i t) n i A := by
  rcases hA with rfl | ⟨j, o, len, cap, s, rfl, hj, hji, hg, hl, hl2, hv⟩
  · exact .inl rfl
  · exact .inr ⟨j, o, len, cap, s, rfl, hj, hji, by rw [hget_hset, if_neg (Ne.symm hji)]; exact hg, hl, hl2, hv⟩
theorem BySl.arg {h : List (Nat × Seg)} {n i : Nat} {A : SV} (hA : BySl h n i A) : ∃ j o len cap, A = .sl j o len cap ∧ j < n ∨ A = .nils := by
  rcases hA with rfl | ⟨j, o, len, cap, s, rfl, hj, hji, hg, hl, hl2, hv⟩
  · exact ⟨0, 0, 0, 0, .inr rfl⟩
  · exact ⟨j, o, len, cap, .inl ⟨rfl, hj⟩⟩
end Go.Proofs.YtkanbbfddlhlcaaGreatDoor.V

/- A cell of a sheet. -/
namespace Go.Proofs.YtkanbbfddlhlcaaGreatDoor.V
section
variable (cx : Cx) (h : List (Nat × Seg)) (n : Nat)
end
end Go.Proofs.YtkanbbfddlhlcaaGreatDoor.V

/- All cells of a sheet; a drawn sheet. -/
namespace Go.Proofs.YtkanbbfddlhlcaaGreatDoor.V
section
variable (cx : Cx) (h : List (Nat × Seg)) (n : Nat)
end
end Go.Proofs.YtkanbbfddlhlcaaGreatDoor.V

/- A sheet that is being drawn: plain laws. -/
namespace Go.Proofs.YtkanbbfddlhlcaaGreatDoor.V
/-- The first q cells of a sheet are drawn. -/
structure DrawnI (W H q : Nat) (S : Sh) : Prop where
  R : ShR S
  wide : S.wide = W
  high : S.high = H
  wax : ∀ y x : Int, 0 ≤ y → y < 8 → 0 ≤ x → x < 8 → waxB S x y = true → hasB S x y = true
  wet : ∀ y x, 0 ≤ S.wet y x ∧ S.wet y x < 30
  dye : ∀ y x i, 0 ≤ S.dye y x i ∧ S.dye y x i < 40
  zero : ∀ y x : Int, 0 ≤ y → y < 8 → 0 ≤ x → x < 8 → hasB S x y = false ∨ waxB S x y = true → S.wet y x = 0 ∧ ∀ i, S.dye y x i = 0
  new : ∀ k, q ≤ k → k < H * W → waxB S ((k % W : Nat) : Int) ((k / W : Nat) : Int) = false ∧ S.wet ((k / W : Nat) : Int) ((k % W : Nat) : Int) = 0 ∧ ∀ i, S.dye ((k / W : Nat) : Int) ((k % W : Nat) : Int) i = 0
theorem hasB_setWet (S : Sh) (y x v a b : Int) : hasB (S.setWet y x v) a b = hasB S a b := rfl
theorem hasB_setDye (S : Sh) (y x i v a b : Int) : hasB (S.setDye y x i v) a b = hasB S a b := rfl
theorem hasB_setWax (S : Sh) (y v a b : Int) : hasB (S.setWax y v) a b = hasB S a b := rfl
theorem waxB_setWet (S : Sh) (y x v a b : Int) : waxB (S.setWet y x v) a b = waxB S a b := rfl
theorem waxB_setDye (S : Sh) (y x i v a b : Int) : waxB (S.setDye y x i v) a b = waxB S a b := rfl
theorem cell_neW {W H k q : Nat} (hk : k < H * W) (hq : q < H * W) (h : k ≠ q) : ¬ (((k / W : Nat) : Int) = ((q / W : Nat) : Int) ∧ ((k % W : Nat) : Int) = ((q % W : Nat) : Int)) := by
  rintro ⟨h1, h2⟩
  have e1 := Nat.div_add_mod k W
  have e2 := Nat.div_add_mod q W
  rw [show k / W = q / W by omega, show k % W = q % W by omega] at e1
  omega
theorem cell_hasW {W H q : Nat} {S : Sh} (hW : S.wide = W) (hH : S.high = H) (hq : q < H * W) : hasB S ((q % W : Nat) : Int) ((q / W : Nat) : Int) = true := by
  have hW0 : 0 < W := by
    rcases Nat.eq_zero_or_pos W with h0 | h0
    · rw [h0] at hq; omega
    · exact h0
  have h3 := Nat.mod_lt q hW0
  have h4 : q / W < H := (Nat.div_lt_iff_lt_mul hW0).2 hq
  generalize q % W = a at *
  generalize q / W = b at *
  simp only [hasB, Bool.and_eq_true, decide_eq_true_eq, hW, hH]
  omega
section
variable {W H q : Nat} {S : Sh}
theorem DrawnI.next (h : DrawnI W H q S) : DrawnI W H (q + 1) S := ⟨h.R, h.wide, h.high, h.wax, h.wet, h.dye, h.zero, fun k hk => h.new k (by omega)⟩
theorem DrawnI.setWet (h : DrawnI W H (q + 1) S) (hq : q < H * W) (hx : waxB S ((q % W : Nat) : Int) ((q / W : Nat) : Int) = false) {v : Int} (hv : 0 ≤ v ∧ v < 30) :
    DrawnI W H (q + 1) (S.setWet ((q / W : Nat) : Int) ((q % W : Nat) : Int) v) := by
  refine ⟨h.R.setWet (by omega), h.wide, h.high, h.wax, fun y x => ?_, h.dye, fun y x a b c d e => ?_, fun k hk hk2 => ?_⟩
  · simp only [Sh.setWet]; split
    · exact hv
    · exact h.wet y x
  · rw [hasB_setWet, waxB_setWet] at e
    refine ⟨?_, (h.zero y x a b c d e).2⟩
    simp only [Sh.setWet]
    rw [if_neg]
    · exact (h.zero y x a b c d e).1
    · rintro ⟨rfl, rfl⟩
      rw [hx, cell_hasW h.wide h.high hq] at e
      rcases e with e | e <;> cases e
  · obtain ⟨n1, n2, n3⟩ := h.new k hk hk2
    refine ⟨n1, ?_, n3⟩
    simp only [Sh.setWet]
    rw [if_neg (cell_neW hk2 hq (by omega))]; exact n2
theorem DrawnI.setDye (h : DrawnI W H (q + 1) S) (hq : q < H * W) (hx : waxB S ((q % W : Nat) : Int) ((q / W : Nat) : Int) = false) {i v : Int} (hv : 0 ≤ v ∧ v < 40) :
    DrawnI W H (q + 1) (S.setDye ((q / W : Nat) : Int) ((q % W : Nat) : Int) i v) := by
  refine ⟨h.R.setDye (by omega), h.wide, h.high, h.wax, h.wet, fun y x j => ?_, fun y x a b c d e => ?_, fun k hk hk2 => ?_⟩
  · simp only [Sh.setDye]; split
    · exact hv
    · exact h.dye y x j
  · rw [hasB_setDye, waxB_setDye] at e
    refine ⟨(h.zero y x a b c d e).1, fun j => ?_⟩
    simp only [Sh.setDye]
    rw [if_neg]
    · exact (h.zero y x a b c d e).2 j
    · rintro ⟨rfl, rfl, _⟩
      rw [hx, cell_hasW h.wide h.high hq] at e
      rcases e with e | e <;> cases e
  · obtain ⟨n1, n2, n3⟩ := h.new k hk hk2
    refine ⟨n1, n2, fun j => ?_⟩
    simp only [Sh.setDye]
    rw [if_neg fun e => cell_neW hk2 hq (by omega) ⟨e.1, e.2.1⟩]; exact n3 j
theorem or8 {v x : Int} (hv : 0 ≤ v ∧ v < 256) (hx : 0 ≤ x ∧ x < 8) : 0 ≤ bitsI .or .u8 v (shlI .u8 1 x) ∧ bitsI .or .u8 v (shlI .u8 1 x) < 256 := by
  obtain ⟨a, rfl⟩ := Int.eq_ofNat_of_zero_le hv.1
  obtain ⟨k, rfl⟩ := Int.eq_ofNat_of_zero_le hx.1
  obtain ⟨e, hl⟩ := wax_or (a := a) (k := k) (by omega) (by omega)
  rw [e]; omega
theorem waxB_or {x y x' y' : Int} (hR : ShR S) (hx : 0 ≤ x ∧ x < 8) (hx' : 0 ≤ x' ∧ x' < 8) : waxB (S.setWax y (bitsI .or .u8 (S.wax y) (shlI .u8 1 x))) x' y' = (decide (y' = y ∧ x' = x) || waxB S x' y') := by
  have key : ∀ w w' : Int, w = w' → decide (bitsI .and .u8 (shrI .u8 w x') 1 = 1) = decide (bitsI .and .u8 (shrI .u8 w' x') 1 = 1) := fun w w' e => by rw [e]
  by_cases hy : y' = y
  · subst hy
    have e : (S.setWax y' (bitsI .or .u8 (S.wax y') (shlI .u8 1 x))).wax y' = bitsI .or .u8 (S.wax y') (shlI .u8 1 x) := if_pos rfl
    unfold waxB
    rw [key _ _ e, wax_set (hR.wax _) hx hx']
    congr 1
    rw [decide_eq_decide]; simp
  · have e : (S.setWax y (bitsI .or .u8 (S.wax y) (shlI .u8 1 x))).wax y' = S.wax y' := if_neg hy
    unfold waxB
    have hd : decide (y' = y ∧ x' = x) = false := decide_eq_false (fun e' => hy e'.1)
    rw [key _ _ e, hd, Bool.false_or]
theorem DrawnI.setWax (h : DrawnI W H q S) (hS : Small S) (hq : q < H * W) :
    DrawnI W H (q + 1) (S.setWax ((q / W : Nat) : Int) (bitsI .or .u8 (S.wax ((q / W : Nat) : Int)) (shlI .u8 1 ((q % W : Nat) : Int)))) := by
  obtain ⟨x0, x8, y0, y8⟩ := cell_in hS h.wide h.high hq
  have hh := cell_hasW h.wide h.high hq
  have hn := h.new q (Nat.le_refl _) hq
  refine ⟨h.R.setWax (or8 (h.R.wax _) ⟨x0, x8⟩), h.wide, h.high, fun y x a b c d e => ?_, h.wet, h.dye, fun y x a b c d e => ?_, fun k hk hk2 => ?_⟩
  · rw [waxB_or h.R ⟨x0, x8⟩ ⟨c, d⟩, Bool.or_eq_true, decide_eq_true_eq] at e
    rw [hasB_setWax]
    rcases e with ⟨rfl, rfl⟩ | e
    · exact hh
    · exact h.wax y x a b c d e
  · rw [waxB_or h.R ⟨x0, x8⟩ ⟨c, d⟩, Bool.or_eq_true, decide_eq_true_eq, hasB_setWax] at e
    rcases e with e | ⟨rfl, rfl⟩ | e
    · exact h.zero y x a b c d (.inl e)
    · exact hn.2
    · exact h.zero y x a b c d (.inr e)
  · obtain ⟨n1, n2, n3⟩ := h.new k (by omega) hk2
    obtain ⟨kx0, kx8, ky0, ky8⟩ := cell_in hS h.wide h.high hk2
    refine ⟨?_, n2, n3⟩
    rw [waxB_or h.R ⟨x0, x8⟩ ⟨kx0, kx8⟩, n1, decide_eq_false (cell_neW hk2 hq (by omega))]; rfl
/-- A drawn sheet is valid. -/
theorem DrawnI.valid (h : DrawnI W H (H * W) S) (hS : Small S) : Valid S := ⟨hS, fun y x a b c d => ⟨h.wax y x a b c d, by have := h.wet y x; exact ⟨this.1, by omega⟩, fun i _ _ => by have := h.dye y x i; exact ⟨this.1, by omega⟩, by
  by_cases e : hasB S x y = true ∧ waxB S x y = false
  · exact .inl e
  · have := h.zero y x a b c d (by cases h1 : hasB S x y <;> cases h2 : waxB S x y <;> simp_all)
    exact .inr ⟨this.1, this.2 0, this.2 1, this.2 2⟩⟩⟩
end
end Go.Proofs.YtkanbbfddlhlcaaGreatDoor.V
