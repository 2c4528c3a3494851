/- Part 5 of the texts that this proof stands on: a symbolic walk over the program, what its functions and the reference's do, plain laws. -/
import Derived.Test.YtpcnhenenjblpaaZfxc
import Derived.Test.YtpcnhenenjblpaaV19
import Derived.Sort.LotD4
import Derived.Sort.LotD5
import Derived.Test.YtpcnhenenjblpaaZfxa
import Derived.Test.YtpcnhenenjblpaaZfxd
import Derived.Test.YtpcnhenenjblpaaZfxb
set_option linter.all false

/- The library's partitions of spots. -/
namespace Go.Proofs.Ytpcnhenenjblpaa.V
open Go.Sort (swp scanUp scanDown partLoop partition partEqLoop partitionEqual round_facts partLoop_eq partEqLoop_eq)
section
variable (cx : Cx) (h : List (Nat × Seg)) (n : Nat)
end
end Go.Proofs.Ytpcnhenenjblpaa.V

/- The library's partition of spots by equality. -/
namespace Go.Proofs.Ytpcnhenenjblpaa.V
open Go.Sort (swp scanUp scanDown partEqLoop partitionEqual round_facts partEqLoop_eq)
section
variable (cx : Cx) (h : List (Nat × Seg)) (n : Nat)
end
end Go.Proofs.Ytpcnhenenjblpaa.V

/- The library's reversal and its partial insertion sort of spots. -/
namespace Go.Proofs.Ytpcnhenenjblpaa.V
open Go.Sort (swp scanSorted shiftDown shiftUp partialIns partialInsertionSort reverseLoop reverseRange fixDown fixUp partialIns_succ)
section
variable (cx : Cx) (h : List (Nat × Seg)) (n : Nat)
end
end Go.Proofs.Ytpcnhenenjblpaa.V

/- The library's choice of a pivot among spots. -/
namespace Go.Proofs.Ytpcnhenenjblpaa.V
open Go.Sort (order2 median medianAdjacent choosePivot rawPivot hintOf hintCode order2_mem median_mem medianAdjacent_mem median_count medianAdjacent_count order2_count choosePivot_eq)
/-- A function that compares spots and looks at no memory. -/
def CmpA (cx : Cx) (n f p q : Nat) (G F : Nat → SV) (cI : Int × Int → Int × Int → Int) : Prop :=
  ∀ (a b : Int × Int) nt n0 h' n', n ≤ n' → CallQ Try.prog ⟨cx.w0, cx.W, nt, n0⟩ f (lst p G ++ [spot a.1 a.2, spot b.1 b.2] ++ lst q F) h' n' (.int .i64 (cI a b))
theorem CmpA.nt {cx : Cx} {n f p q : Nat} {G F : Nat → SV} {cI : Int × Int → Int × Int → Int} (hc : CmpA cx n f p q G F cI) (t m : Nat) : CmpA ⟨cx.w0, cx.W, t, m⟩ n f p q G F cI := fun a b nt n0 h' n' hn => hc a b nt n0 h' n' hn
theorem CmpA.up {cx : Cx} {n f p q : Nat} {G F : Nat → SV} {cI : Int × Int → Int × Int → Int} (hc : CmpA cx n f p q G F cI) {m : Nat} (hm : n ≤ m) : CmpA cx m f p q G F cI := fun a b nt n0 h' n' hn => hc a b nt n0 h' n' (by omega)
section
variable (cx : Cx) (h : List (Nat × Seg)) (n : Nat)
end
end Go.Proofs.Ytpcnhenenjblpaa.V

/- Lengths of numbers in bits, exactly; patterns broken among spots. -/
namespace Go.Proofs.Ytpcnhenenjblpaa.V
open Go.Sort (bitsLen bitsLen_le_iff xorNext xorNextN xorNext_toNat xorNextN_lt breakPatterns breakStep swp)
section
variable (cx : Cx) (h : List (Nat × Seg)) (n : Nat)
end
end Go.Proofs.Ytpcnhenenjblpaa.V

/- Patterns broken among spots. -/
namespace Go.Proofs.Ytpcnhenenjblpaa.V
open Go.Sort (bitsLen bitsLen_le_iff xorNext xorNextN xorNext_toNat xorNextN_lt breakPatterns breakStep swp two_pow_bitsLen_le)
section
variable (cx : Cx) (h : List (Nat × Seg)) (n : Nat)
end
end Go.Proofs.Ytpcnhenenjblpaa.V

/- The library's sort of spots. -/
namespace Go.Proofs.Ytpcnhenenjblpaa.V
open Go.Sort (bitsLen swp insertionSort heapSort breakPatterns choosePivot reverseRange partialInsertionSort partition partitionEqual pdq rd Hint hintCode SWO Below rd_facts rd_c rd_true rd_false rd_dec rd_not rd_pi_yes rd_pi_no rd_lim_le round_part round_eq pdq_small pdq_heap pdq_done pdq_eq pdq_left pdq_right insertionSort_holds heapSort_holds partialInsertionSort_holds partition_holds partitionEqual_holds reverseRange_holds pdq_sorts)
section
variable (cx : Cx) (h : List (Nat × Seg)) (n : Nat)
end
end Go.Proofs.Ytpcnhenenjblpaa.V

/- Sorted lists of spots made compact; sets of spots, of whatever length. -/
namespace Go.Proofs.Ytpcnhenenjblpaa.V
section
variable (cx : Cx) (h : List (Nat × Seg)) (n : Nat)
end
end Go.Proofs.Ytpcnhenenjblpaa.V

/- The library's sort of spots, of whatever length; sets of spots. -/
namespace Go.Proofs.Ytpcnhenenjblpaa.V
open Go.Sort (pdq pdq_sorts PermIn SortedIn SWO bitsLen bitsLen_le_iff)
section
variable (cx : Cx) (h : List (Nat × Seg)) (n : Nat)
end
section
variable (cx : Cx) (h : List (Nat × Seg)) (n : Nat)
end
end Go.Proofs.Ytpcnhenenjblpaa.V

/- Lists of cells: the program's own walk. -/
namespace Go.Proofs.Ytpcnhenenjblpaa.V
/-- A list of spots in memory. -/
def Sp (h : List (Nat × Seg)) (lo n : Nat) (V : SV) (L : List (Int × Int)) : Prop :=
  ∃ i cap s, V = .sl i 0 L.length cap ∧ lo ≤ i ∧ i < n ∧ hget h i = some s ∧ s.rw = true ∧ s.n = L.length * 2 ∧ L.length ≤ cap ∧ ∀ k, k < L.length * 2 → s.c k = spotsC L k
theorem Sp.out {h : List (Nat × Seg)} {lo n : Nat} {V : SV} {L : List (Int × Int)} (hA : Sp h lo n V L) : SpsOut h lo n V L := by
  obtain ⟨i, cap, s, h1, h2, h3, h4, h5, h6, h7, h8⟩ := hA
  exact .inr ⟨i, cap, s, h1, h2, h3, h4, h5, h6, h8⟩
theorem Sp.ok {h : List (Nat × Seg)} {lo n : Nat} {V : SV} {L : List (Int × Int)} (hA : Sp h lo n V L) : V.ok = True := hA.out.ok
theorem Sp.ext {h h' : List (Nat × Seg)} {lo n n' : Nat} {V : SV} {L : List (Int × Int)} (hA : Sp h lo n V L) (hn : n ≤ n') (hx : HExt n h h') : Sp h' lo n' V L := by
  obtain ⟨i, cap, s, h1, h2, h3, h4, h5⟩ := hA
  exact ⟨i, cap, s, h1, h2, by omega, hx i h3 s h4, h5⟩
theorem Sp.lo {h : List (Nat × Seg)} {lo lo' n : Nat} {V : SV} {L : List (Int × Int)} (hA : Sp h lo n V L) (hl : lo' ≤ lo) : Sp h lo' n V L := by
  obtain ⟨i, cap, s, h1, h2, h3⟩ := hA
  exact ⟨i, cap, s, h1, by omega, h3⟩
theorem Sp.lt {h : List (Nat × Seg)} {lo n : Nat} {V : SV} {L : List (Int × Int)} (hA : Sp h lo n V L) : V.lt n := by
  obtain ⟨i, cap, s, rfl, h2, h3, _⟩ := hA
  exact h3
theorem HOk.consF {n : Nat} {h : List (Nat × Seg)} {s : Seg} (hok : HOk n h) (hs : ∀ k, k < s.n → (s.c k).flat) : HOk (n + 1) ((n, s) :: h) := fun i t hi => by
  simp only [hget] at hi
  by_cases e : n = i
  · rw [if_pos e] at hi; cases hi
    exact ⟨by omega, fun k hk => (hs k hk).below _⟩
  · rw [if_neg e] at hi
    obtain ⟨g1, g2⟩ := hok i t hi
    exact ⟨by omega, fun k hk => SV.lt_mono (by omega) _ (g2 k hk)⟩
theorem HOk.hdel {n j : Nat} {h : List (Nat × Seg)} (hok : HOk n h) : HOk n (hdel h j) := fun i t hi => by
  rw [hget_hdel] at hi
  split at hi
  · cases hi
  · exact hok i t hi
section
variable (cx : Cx) (h : List (Nat × Seg)) (n : Nat)
end
end Go.Proofs.Ytpcnhenenjblpaa.V

/- Sets of cells: the reference's walk. -/
namespace Go.Proofs.Ytpcnhenenjblpaa.V
@[go_sem] theorem zz_mk : zz_a010c9 = mkC [] := by funext j; simp [mkC, zz_a010c9]
@[go_sem] theorem ones_mk (L : List (Int × Int)) : ones (.agg 64 (mkC L)) = True := eq_true fun j hj => trivial
@[go_sem] theorem okc_mk (L : List (Int × Int)) : (SV.agg 64 (mkC L)).okc = True := eq_true trivial
@[go_sem] theorem mkS_eq (L : List (Int × Int)) : mkS L = ⟨64, mkC L, true, none⟩ := rfl
@[go_sem] theorem lt_mk (m : Nat) (L : List (Int × Int)) : (SV.agg 64 (mkC L)).lt m = True := eq_true fun j hj => trivial
section
variable (cx : Cx) (h : List (Nat × Seg)) (n : Nat)
end
end Go.Proofs.Ytpcnhenenjblpaa.V

/- Lists of cells: the program's own walk, on. -/
namespace Go.Proofs.Ytpcnhenenjblpaa.V
section
variable (cx : Cx) (h : List (Nat × Seg)) (n : Nat)
end
end Go.Proofs.Ytpcnhenenjblpaa.V

/- Spreads: the program's own walk. -/
namespace Go.Proofs.Ytpcnhenenjblpaa.V
/-- A list to which one may append. -/
def SpO (h : List (Nat × Seg)) (lo n : Nat) (V : SV) (L : List (Int × Int)) : Prop :=
  ∃ j cap s, V = .sl j 0 L.length cap ∧ lo ≤ j ∧ j < n ∧ hget h j = some s ∧ s.own = some (51, cap * 2) ∧ s.rw = true ∧ s.n = L.length * 2 ∧ L.length ≤ cap ∧ cap ≤ maxLen ∧ ∀ k, k < L.length * 2 → s.c k = spotsC L k
theorem SpO.sp {h : List (Nat × Seg)} {lo n : Nat} {V : SV} {L : List (Int × Int)} (hA : SpO h lo n V L) : Sp h lo n V L := by
  obtain ⟨i, cap, s, h1, h2, h3, h4, h5, h6, h7, h8, h9, h10⟩ := hA
  exact ⟨i, cap, s, h1, h2, h3, h4, h6, h7, h8, h10⟩
theorem both_sp (A B : List (Int × Int)) {c d : Nat → SV} {o : Nat} (hc : ∀ k, k < A.length * 2 → c k = spotsC A k) (hd : ∀ k, k < B.length * 2 → d (o + k) = spotsC B k) {k : Nat} (hk : k < (A ++ B).length * 2) : both (A.length * 2) c (news d o) k = spotsC (A ++ B) k := by
  rw [List.length_append] at hk
  unfold both news
  split
  · rename_i h; rw [hc k h, spotsC_take (b := B) h]
  · rename_i h
    rw [hd _ (by omega)]
    unfold spotsC
    have e : (A ++ B).getD (k / 2) (0, 0) = B.getD ((k - A.length * 2) / 2) (0, 0) := by
      rw [List.getD_eq_getElem?_getD, List.getD_eq_getElem?_getD, List.getElem?_append_right (by omega)]
      congr 2; omega
    rw [e, show (k - A.length * 2) % 2 = k % 2 by omega]
section
variable (cx : Cx) (h : List (Nat × Seg)) (n : Nat)
end
end Go.Proofs.Ytpcnhenenjblpaa.V

/- Sets of cells: the reference's lists and spreads. -/
namespace Go.Proofs.Ytpcnhenenjblpaa.V
/-- One spot appended. -/
theorem app1 {h hq : List (Nat × Seg)} {n nq jv cap : Nat} {A : List (Int × Int)} {a : Int × Int} {sc c1 : Nat → SV} {w : Option (Nat × Nat)} (I1 : n ≤ nq) (I2 : HOk nq hq) (I3 : HExt n h hq) (v1 : n ≤ jv) (c10 : c1 0 = .int .i8 a.1) (c11 : c1 1 = .int .i8 a.2)
    (v9 : ∀ k, k < A.length * 2 → sc k = spotsC A k) (m1 : A.length + 1 ≤ cap) (m2 : cap ≤ maxLen) :
    HOk (nq + 2) ((nq + 1, ⟨(A.length + 1) * 2, both (A.length * 2) sc (news c1 0), true, some (51, cap * 2)⟩) :: (nq, ⟨2, c1, true, w⟩) :: hdel hq jv) ∧
    HExt n h ((nq + 1, ⟨(A.length + 1) * 2, both (A.length * 2) sc (news c1 0), true, some (51, cap * 2)⟩) :: (nq, ⟨2, c1, true, w⟩) :: hdel hq jv) ∧
    SpO ((nq + 1, ⟨(A.length + 1) * 2, both (A.length * 2) sc (news c1 0), true, some (51, cap * 2)⟩) :: (nq, ⟨2, c1, true, w⟩) :: hdel hq jv) n (nq + 2) (.sl (nq + 1) 0 (A.length + 1) cap) (A ++ [a]) := by
  have hB : ∀ k, k < ([a] : List (Int × Int)).length * 2 → c1 (0 + k) = spotsC [a] k := fun k hk => by
    simp at hk
    rcases (by omega : k = 0 ∨ k = 1) with rfl | rfl
    · exact c10
    · exact c11
  have hbo : ∀ k, k < (A.length + 1) * 2 → both (A.length * 2) sc (news c1 0) k = spotsC (A ++ [a]) k := fun k hk =>
    both_sp A [a] v9 hB (by rw [List.length_append]; exact hk)
  refine ⟨(I2.hdel.consF fun k hk => ?_).consF fun k hk => ?_, fun z hz t ht => ?_, nq + 1, cap, _, by rw [List.length_append]; rfl, by omega, by omega, hget_hit _ _ _, rfl, rfl, by rw [List.length_append]; rfl, by rw [List.length_append]; exact m1, m2, fun k hk => hbo k (by rw [List.length_append] at hk; exact hk)⟩
  · have hk : k < 2 := hk
    have := hB k (by simpa using hk)
    rw [Nat.zero_add] at this
    show (c1 k).flat
    rw [this]; exact spotsC_flat _ _
  · show (both (A.length * 2) sc (news c1 0) k).flat
    rw [hbo k hk]; exact spotsC_flat _ _
  · simp only [hget]
    rw [if_neg (by omega), if_neg (by omega), hget_hdel, if_neg (by omega)]
    exact I3 z hz t ht
section
variable (cx : Cx) (h : List (Nat × Seg)) (n : Nat)
end
end Go.Proofs.Ytpcnhenenjblpaa.V

/- Sets of cells: the program's answers. -/
namespace Go.Proofs.Ytpcnhenenjblpaa.V
section
variable (cx : Cx) (h : List (Nat × Seg)) (n : Nat)
end
end Go.Proofs.Ytpcnhenenjblpaa.V

/- Spreads, inner cells: the reference's walk. -/
namespace Go.Proofs.Ytpcnhenenjblpaa.V
structure SI (h : List (Nat × Seg)) (n : Nat) (hq : List (Nat × Seg)) (nq : Nat) (V : SV) (Lst M : List (Int × Int)) : Prop where
  hn : n + 2 ≤ nq
  ok : HOk nq hq
  ex : HExt n h hq
  g0 : hget hq n = some (mkS [])
  g1 : hget hq (n + 1) = some (mkS M)
  ls : Sp hq (n + 2) nq V Lst
theorem SI.ext {h hq h' : List (Nat × Seg)} {n nq n' : Nat} {V : SV} {Lst M : List (Int × Int)} (I : SI h n hq nq V Lst M) (hx : HExt nq hq h') (hn : nq ≤ n') (ok : HOk n' h') : SI h n h' n' V Lst M :=
  ⟨Nat.le_trans I.hn hn, ok, I.ex.tr hx (by have := I.hn; omega), hx n (by have := I.hn; omega) _ I.g0, hx (n + 1) (by have := I.hn; omega) _ I.g1, I.ls.ext hn hx⟩
theorem Sp.hset {h : List (Nat × Seg)} {lo n g : Nat} {V : SV} {L : List (Int × Int)} {t : Seg} (hA : Sp h lo n V L) (hg : g < lo) : Sp (hset h g t) lo n V L := by
  obtain ⟨i, cap, s, h1, h2, h3, h4, h5⟩ := hA
  exact ⟨i, cap, s, h1, h2, h3, by rw [hget_hset, if_neg (by omega)]; exact h4, h5⟩
theorem SI.set {h hq : List (Nat × Seg)} {n nq : Nat} {V : SV} {Lst M : List (Int × Int)} (I : SI h n hq nq V Lst M) (M' : List (Int × Int)) : SI h n (hset hq (n + 1) (mkS M')) nq V Lst M' :=
  ⟨I.hn, I.ok.hset fun k hk => (mkC_flat M' k).below _, fun z hz t ht => by rw [hget_hset, if_neg (by omega)]; exact I.ex z hz t ht, by rw [hget_hset, if_neg (by omega)]; exact I.g0, hget_hset_self I.g1 _, I.ls.hset (by omega)⟩
section
variable (cx : Cx) (h : List (Nat × Seg)) (n : Nat)
end
end Go.Proofs.Ytpcnhenenjblpaa.V

/- Forerunners: the program's answers. -/
namespace Go.Proofs.Ytpcnhenenjblpaa.V
section
variable (cx : Cx) (h : List (Nat × Seg)) (n : Nat)
end
end Go.Proofs.Ytpcnhenenjblpaa.V

/- Sets of cells: the reference's answers. -/
namespace Go.Proofs.Ytpcnhenenjblpaa.V
@[go_sem] theorem fitC_mk (A B : List (Int × Int)) (j k : Nat) : fitC .bool (mkC A j) (mkC B k) = True := rfl
section
variable (cx : Cx) (h : List (Nat × Seg)) (n : Nat)
end
end Go.Proofs.Ytpcnhenenjblpaa.V

/- Sets of cells: what the reference answers. -/
namespace Go.Proofs.Ytpcnhenenjblpaa.V
section
variable (cx : Cx) (h : List (Nat × Seg)) (n : Nat)
end
end Go.Proofs.Ytpcnhenenjblpaa.V

/- Drops that make a blot. -/
namespace Go.Proofs.Ytpcnhenenjblpaa.V
section
variable (cx : Cx) (h : List (Nat × Seg)) (n : Nat)
end
end Go.Proofs.Ytpcnhenenjblpaa.V

/- Drops that make a blot: the reference's walk; the codes. -/
namespace Go.Proofs.Ytpcnhenenjblpaa.V
section
variable (cx : Cx) (h : List (Nat × Seg)) (n : Nat)
end
end Go.Proofs.Ytpcnhenenjblpaa.V

/- LeastWater, LeastDye: both codes. -/
namespace Go.Proofs.Ytpcnhenenjblpaa.V
section
variable (cx : Cx) (h : List (Nat × Seg)) (n : Nat)
end
end Go.Proofs.Ytpcnhenenjblpaa.V

/- LeastWater, LeastDye: the answers of both codes. -/
namespace Go.Proofs.Ytpcnhenenjblpaa.V
section
variable (cx : Cx) (h : List (Nat × Seg)) (n : Nat)
end
end Go.Proofs.Ytpcnhenenjblpaa.V

/- OriginsOf: both codes. -/
namespace Go.Proofs.Ytpcnhenenjblpaa.V
section
variable (cx : Cx) (h : List (Nat × Seg)) (n : Nat)
end
end Go.Proofs.Ytpcnhenenjblpaa.V

/- Plain laws for FnOrigins. -/
namespace Go.Proofs.Ytpcnhenenjblpaa.V
section
variable {S : Sh} {x y ink amount water : Int} (hV : Valid S) (hB : Blank S S.wide.toNat S.high.toNat) (hd : dropB S x y ink amount water = true) (hwx : waxB S x y = false) (hw : water ≤ 30)
include hV hB hd hwx hw
end
end Go.Proofs.Ytpcnhenenjblpaa.V

/- The helpers of FnOrigins: clean, bytes, cells. -/
namespace Go.Proofs.Ytpcnhenenjblpaa.V
section
variable (cx : Cx) (h : List (Nat × Seg)) (n : Nat)
theorem long_Q (A B : SV) (la lb : Nat) (hA : A = .nils ∧ la = 0 ∨ ∃ j o cap, A = .sl j o la cap) (hB : B = .nils ∧ lb = 0 ∨ ∃ j o cap, B = .sl j o lb cap) :
    CallQ Try.prog cx 5 [A, B] h n (.bool (decide ((3000 : Int) < (la : Int)) || decide ((3000 : Int) < (lb : Int)))) := by
  have z0 : decide ((3000 : Int) < ((0 : Nat) : Int)) = false := rfl
  rcases hA with ⟨rfl, rfl⟩ | ⟨j, o, cap, rfl⟩ <;> rcases hB with ⟨rfl, rfl⟩ | ⟨j', o', cap', rfl⟩
  · rw [z0]
    refine callQ_of_T (P := Try.prog) hti (nt := 13) (rs := [.tmp 4]) rfl rfl Try.call5 Try.func5 rfl _ (by simp only [go_sem, and_self]) (Nat.le_of_ble_eq_true rfl) _ (by first | exact trivial | (refine lt_flat rfl ?_; simp [SV.flat]; done) | simp only [go_sem]) fun hok => ?_
    simp only [go_sem, Nat.reduceLT, Int.reduceLT, Bool.or_false]
  · rw [z0]
    refine callQ_of_T (P := Try.prog) hti (nt := 13) (rs := [.tmp 4]) rfl rfl Try.call5 Try.func5 rfl _ (by simp only [go_sem, and_self]) (Nat.le_of_ble_eq_true rfl) _ (by first | exact trivial | (refine lt_flat rfl ?_; simp [SV.flat]; done) | simp only [go_sem]) fun hok => ?_
    simp only [go_sem, Nat.reduceLT, Int.reduceLT, Bool.false_or]
  · rw [z0]
    refine callQ_of_T (P := Try.prog) hti (nt := 13) (rs := [.tmp 4]) rfl rfl Try.call5 Try.func5 rfl _ (by simp only [go_sem, and_self]) (Nat.le_of_ble_eq_true rfl) _ (by first | exact trivial | (refine lt_flat rfl ?_; simp [SV.flat]; done) | simp only [go_sem]) fun hok => ?_
    cases h1 : decide ((3000 : Int) < (la : Int)) <;> simp only [go_sem, Nat.reduceLT, Int.reduceLT, h1, Bool.or_false]
    all_goals simp
  · refine callQ_of_T (P := Try.prog) hti (nt := 13) (rs := [.tmp 4]) rfl rfl Try.call5 Try.func5 rfl _ (by simp only [go_sem, and_self]) (Nat.le_of_ble_eq_true rfl) _ (by first | exact trivial | (refine lt_flat rfl ?_; simp [SV.flat]; done) | simp only [go_sem]) fun hok => ?_
    cases h1 : decide ((3000 : Int) < (la : Int)) <;> simp only [go_sem, Nat.reduceLT, h1, Bool.false_or, Bool.true_or]
    all_goals simp
theorem at_Q (A : SV) (a m : Int) (hA : BySl h n n A) (ha : 0 ≤ a) (hm : 1 ≤ m) :
    ∃ v : Int, 0 ≤ v ∧ v < m ∧ CallQ Try.prog cx 9 [A, .int .i64 a, .int .i64 m] h n (.int .i64 v) := by
  rcases hA with rfl | ⟨j, o, len, cap, s, rfl, hj, hji, hg, hl, hl2, hv⟩
  · refine ⟨0, Int.le_refl _, by omega, ?_⟩
    refine callQ_of_T (P := Try.prog) hti (nt := 22) (rs := [.tmp 6]) rfl rfl Try.call9 Try.func9 rfl _ (by simp only [go_sem, and_self]) (Nat.le_of_ble_eq_true rfl) _ (by first | exact trivial | (refine lt_flat rfl ?_; simp [SV.flat]; done) | simp only [go_sem]) fun hok => ?_
    simp only [go_sem, Nat.reduceLT, ha]
  · by_cases h0 : a < (len : Int)
    · obtain ⟨v, hv1, hv2, hv3⟩ := hv a.toNat (by omega)
      refine ⟨v.tmod m, Int.tmod_nonneg _ hv2, Int.tmod_lt_of_pos _ (by omega), ?_⟩
      refine callQ_of_T (P := Try.prog) hti (nt := 22) (rs := [.tmp 6]) rfl rfl Try.call9 Try.func9 rfl _ (by simp only [go_sem, and_self]) (Nat.le_of_ble_eq_true rfl) _ (by first | exact trivial | (refine lt_flat rfl ?_; simp [SV.flat]; done) | simp only [go_sem]) fun hok => ?_
      have h1 : ¬ (len : Int) ≤ a := by omega
      have h2 : ¬ m < 1 := by omega
      simp only [go_sem, Nat.reduceLT, h1, h2, hg, hj, hv1]
      rw [w64 (n := v) (by omega)]
      exact ⟨⟨ha, h0⟩, by omega, by omega, rfl⟩
    · refine ⟨0, Int.le_refl _, by omega, ?_⟩
      have h1 : (len : Int) ≤ a := by omega
      refine callQ_of_T (P := Try.prog) hti (nt := 22) (rs := [.tmp 6]) rfl rfl Try.call9 Try.func9 rfl _ (by simp only [go_sem, and_self]) (Nat.le_of_ble_eq_true rfl) _ (by first | exact trivial | (refine lt_flat rfl ?_; simp [SV.flat]; done) | simp only [go_sem]) fun hok => ?_
      simp only [go_sem, Nat.reduceLT, h1]
end
end Go.Proofs.Ytpcnhenenjblpaa.V

/- The helpers of FnOrigins: cells in a list, equal lists, clean sheets. -/
namespace Go.Proofs.Ytpcnhenenjblpaa.V
section
variable (cx : Cx) (h : List (Nat × Seg)) (n : Nat)
theorem a2waxed_Q (S : Sh) (x y : Int) (hR : ShR S) (hx : 0 ≤ x) (hx8 : x < 8) (hy : 0 ≤ y) (hy8 : y < 8) :
    CallQ Try.prog cx 17 [.agg 266 (shC S), spot x y] h n (.bool (waxB S x y)) := by
  refine callQ_of_T (P := Try.prog) hti (nt := 7) (rs := [.tmp 4]) rfl rfl Try.call17 Try.func17 rfl _ (by simp only [go_sem, and_self]) (Nat.le_of_ble_eq_true rfl) _ (by first | exact trivial | (refine lt_flat rfl ?_; simp [SV.flat]; done) | simp only [go_sem]) fun hok => ?_
  simp only [go_sem, Nat.reduceLT]
  refine (waxed2_Q _ _ _ n 0 _ S x y (by simp only [go_sem]) (by omega) (shAt_shC hR) hx (by omega) hy hy8).A ?_
  simp only [go_sem, Nat.reduceLT]
end
end Go.Proofs.Ytpcnhenenjblpaa.V

/- Equal lists of cells. -/
namespace Go.Proofs.Ytpcnhenenjblpaa.V
section
variable (cx : Cx) (h : List (Nat × Seg)) (n : Nat)
end
end Go.Proofs.Ytpcnhenenjblpaa.V

/- A cell of a sheet; all cells. -/
namespace Go.Proofs.Ytpcnhenenjblpaa.V
theorem BySl.up {h h' : List (Nat × Seg)} {n n' i i' : Nat} {A : SV} (hA : BySl h n i A) (hn : n ≤ n') (hx : HExt n h h') (hi : n ≤ i') : BySl h' n' i' A := by
  rcases hA with rfl | ⟨j, o, len, cap, s, rfl, hj, hji, hg, hl, hl2, hv⟩
  · exact .inl rfl
  · exact .inr ⟨j, o, len, cap, s, rfl, by omega, by omega, hx j hj _ hg, hl, hl2, hv⟩
theorem BySl.hset {h : List (Nat × Seg)} {n i : Nat} {A : SV} (hA : BySl h n i A) (t : Seg) : BySl (hset h i t) n i A := by
  rcases hA with rfl | ⟨j, o, len, cap, s, rfl, hj, hji, hg, hl, hl2, hv⟩
  · exact .inl rfl
  · exact .inr ⟨j, o, len, cap, s, rfl, hj, hji, by rw [hget_hset, if_neg (Ne.symm hji)]; exact hg, hl, hl2, hv⟩
theorem BySl.arg {h : List (Nat × Seg)} {n i : Nat} {A : SV} (hA : BySl h n i A) : ∃ j o len cap, A = .sl j o len cap ∧ j < n ∨ A = .nils := by
  rcases hA with rfl | ⟨j, o, len, cap, s, rfl, hj, hji, hg, hl, hl2, hv⟩
  · exact ⟨0, 0, 0, 0, .inr rfl⟩
  · exact ⟨j, o, len, cap, .inl ⟨rfl, hj⟩⟩
end Go.Proofs.Ytpcnhenenjblpaa.V

/- A cell of a sheet. -/
namespace Go.Proofs.Ytpcnhenenjblpaa.V
section
variable (cx : Cx) (h : List (Nat × Seg)) (n : Nat)
end
end Go.Proofs.Ytpcnhenenjblpaa.V

/- All cells of a sheet; a drawn sheet. -/
namespace Go.Proofs.Ytpcnhenenjblpaa.V
section
variable (cx : Cx) (h : List (Nat × Seg)) (n : Nat)
end
end Go.Proofs.Ytpcnhenenjblpaa.V

/- A sheet that is being drawn: plain laws. -/
namespace Go.Proofs.Ytpcnhenenjblpaa.V
/-- The first q cells of a sheet are drawn. -/
structure DrawnI (W H q : Nat) (S : Sh) : Prop where
  R : ShR S
  wide : S.wide = W
  high : S.high = H
  wax : ∀ y x : Int, 0 ≤ y → y < 8 → 0 ≤ x → x < 8 → waxB S x y = true → hasB S x y = true
  wet : ∀ y x, 0 ≤ S.wet y x ∧ S.wet y x < 30
  dye : ∀ y x i, 0 ≤ S.dye y x i ∧ S.dye y x i < 40
  zero : ∀ y x : Int, 0 ≤ y → y < 8 → 0 ≤ x → x < 8 → hasB S x y = false ∨ waxB S x y = true → S.wet y x = 0 ∧ ∀ i, S.dye y x i = 0
  new : ∀ k, q ≤ k → k < H * W → waxB S ((k % W : Nat) : Int) ((k / W : Nat) : Int) = false ∧ S.wet ((k / W : Nat) : Int) ((k % W : Nat) : Int) = 0 ∧ ∀ i, S.dye ((k / W : Nat) : Int) ((k % W : Nat) : Int) i = 0
theorem hasB_setWet (S : Sh) (y x v a b : Int) : hasB (S.setWet y x v) a b = hasB S a b := rfl
theorem hasB_setDye (S : Sh) (y x i v a b : Int) : hasB (S.setDye y x i v) a b = hasB S a b := rfl
theorem hasB_setWax (S : Sh) (y v a b : Int) : hasB (S.setWax y v) a b = hasB S a b := rfl
theorem waxB_setWet (S : Sh) (y x v a b : Int) : waxB (S.setWet y x v) a b = waxB S a b := rfl
theorem waxB_setDye (S : Sh) (y x i v a b : Int) : waxB (S.setDye y x i v) a b = waxB S a b := rfl
theorem cell_neW {W H k q : Nat} (hk : k < H * W) (hq : q < H * W) (h : k ≠ q) : ¬ (((k / W : Nat) : Int) = ((q / W : Nat) : Int) ∧ ((k % W : Nat) : Int) = ((q % W : Nat) : Int)) := by
  rintro ⟨h1, h2⟩
  have e1 := Nat.div_add_mod k W
  have e2 := Nat.div_add_mod q W
  rw [show k / W = q / W by omega, show k % W = q % W by omega] at e1
  omega
theorem cell_hasW {W H q : Nat} {S : Sh} (hW : S.wide = W) (hH : S.high = H) (hq : q < H * W) : hasB S ((q % W : Nat) : Int) ((q / W : Nat) : Int) = true := by
  have hW0 : 0 < W := by
    rcases Nat.eq_zero_or_pos W with h0 | h0
    · rw [h0] at hq; omega
    · exact h0
  have h3 := Nat.mod_lt q hW0
  have h4 : q / W < H := (Nat.div_lt_iff_lt_mul hW0).2 hq
  generalize q % W = a at *
  generalize q / W = b at *
  simp only [hasB, Bool.and_eq_true, decide_eq_true_eq, hW, hH]
  omega
section
variable {W H q : Nat} {S : Sh}
theorem DrawnI.next (h : DrawnI W H q S) : DrawnI W H (q + 1) S := ⟨h.R, h.wide, h.high, h.wax, h.wet, h.dye, h.zero, fun k hk => h.new k (by omega)⟩
theorem DrawnI.setWet (h : DrawnI W H (q + 1) S) (hq : q < H * W) (hx : waxB S ((q % W : Nat) : Int) ((q / W : Nat) : Int) = false) {v : Int} (hv : 0 ≤ v ∧ v < 30) :
    DrawnI W H (q + 1) (S.setWet ((q / W : Nat) : Int) ((q % W : Nat) : Int) v) := by
  refine ⟨h.R.setWet (by omega), h.wide, h.high, h.wax, fun y x => ?_, h.dye, fun y x a b c d e => ?_, fun k hk hk2 => ?_⟩
  · simp only [Sh.setWet]; split
    · exact hv
    · exact h.wet y x
  · rw [hasB_setWet, waxB_setWet] at e
    refine ⟨?_, (h.zero y x a b c d e).2⟩
    simp only [Sh.setWet]
    rw [if_neg]
    · exact (h.zero y x a b c d e).1
    · rintro ⟨rfl, rfl⟩
      rw [hx, cell_hasW h.wide h.high hq] at e
      rcases e with e | e <;> cases e
  · obtain ⟨n1, n2, n3⟩ := h.new k hk hk2
    refine ⟨n1, ?_, n3⟩
    simp only [Sh.setWet]
    rw [if_neg (cell_neW hk2 hq (by omega))]; exact n2
theorem DrawnI.setDye (h : DrawnI W H (q + 1) S) (hq : q < H * W) (hx : waxB S ((q % W : Nat) : Int) ((q / W : Nat) : Int) = false) {i v : Int} (hv : 0 ≤ v ∧ v < 40) :
    DrawnI W H (q + 1) (S.setDye ((q / W : Nat) : Int) ((q % W : Nat) : Int) i v) := by
  refine ⟨h.R.setDye (by omega), h.wide, h.high, h.wax, h.wet, fun y x j => ?_, fun y x a b c d e => ?_, fun k hk hk2 => ?_⟩
  · simp only [Sh.setDye]; split
    · exact hv
    · exact h.dye y x j
  · rw [hasB_setDye, waxB_setDye] at e
    refine ⟨(h.zero y x a b c d e).1, fun j => ?_⟩
    simp only [Sh.setDye]
    rw [if_neg]
    · exact (h.zero y x a b c d e).2 j
    · rintro ⟨rfl, rfl, _⟩
      rw [hx, cell_hasW h.wide h.high hq] at e
      rcases e with e | e <;> cases e
  · obtain ⟨n1, n2, n3⟩ := h.new k hk hk2
    refine ⟨n1, n2, fun j => ?_⟩
    simp only [Sh.setDye]
    rw [if_neg fun e => cell_neW hk2 hq (by omega) ⟨e.1, e.2.1⟩]; exact n3 j
theorem or8 {v x : Int} (hv : 0 ≤ v ∧ v < 256) (hx : 0 ≤ x ∧ x < 8) : 0 ≤ bitsI .or .u8 v (shlI .u8 1 x) ∧ bitsI .or .u8 v (shlI .u8 1 x) < 256 := by
  obtain ⟨a, rfl⟩ := Int.eq_ofNat_of_zero_le hv.1
  obtain ⟨k, rfl⟩ := Int.eq_ofNat_of_zero_le hx.1
  obtain ⟨e, hl⟩ := wax_or (a := a) (k := k) (by omega) (by omega)
  rw [e]; omega
theorem waxB_or {x y x' y' : Int} (hR : ShR S) (hx : 0 ≤ x ∧ x < 8) (hx' : 0 ≤ x' ∧ x' < 8) : waxB (S.setWax y (bitsI .or .u8 (S.wax y) (shlI .u8 1 x))) x' y' = (decide (y' = y ∧ x' = x) || waxB S x' y') := by
  have key : ∀ w w' : Int, w = w' → decide (bitsI .and .u8 (shrI .u8 w x') 1 = 1) = decide (bitsI .and .u8 (shrI .u8 w' x') 1 = 1) := fun w w' e => by rw [e]
  by_cases hy : y' = y
  · subst hy
    have e : (S.setWax y' (bitsI .or .u8 (S.wax y') (shlI .u8 1 x))).wax y' = bitsI .or .u8 (S.wax y') (shlI .u8 1 x) := if_pos rfl
    unfold waxB
    rw [key _ _ e, wax_set (hR.wax _) hx hx']
    congr 1
    rw [decide_eq_decide]; simp
  · have e : (S.setWax y (bitsI .or .u8 (S.wax y) (shlI .u8 1 x))).wax y' = S.wax y' := if_neg hy
    unfold waxB
    have hd : decide (y' = y ∧ x' = x) = false := decide_eq_false (fun e' => hy e'.1)
    rw [key _ _ e, hd, Bool.false_or]
theorem DrawnI.setWax (h : DrawnI W H q S) (hS : Small S) (hq : q < H * W) :
    DrawnI W H (q + 1) (S.setWax ((q / W : Nat) : Int) (bitsI .or .u8 (S.wax ((q / W : Nat) : Int)) (shlI .u8 1 ((q % W : Nat) : Int)))) := by
  obtain ⟨x0, x8, y0, y8⟩ := cell_in hS h.wide h.high hq
  have hh := cell_hasW h.wide h.high hq
  have hn := h.new q (Nat.le_refl _) hq
  refine ⟨h.R.setWax (or8 (h.R.wax _) ⟨x0, x8⟩), h.wide, h.high, fun y x a b c d e => ?_, h.wet, h.dye, fun y x a b c d e => ?_, fun k hk hk2 => ?_⟩
  · rw [waxB_or h.R ⟨x0, x8⟩ ⟨c, d⟩, Bool.or_eq_true, decide_eq_true_eq] at e
    rw [hasB_setWax]
    rcases e with ⟨rfl, rfl⟩ | e
    · exact hh
    · exact h.wax y x a b c d e
  · rw [waxB_or h.R ⟨x0, x8⟩ ⟨c, d⟩, Bool.or_eq_true, decide_eq_true_eq, hasB_setWax] at e
    rcases e with e | ⟨rfl, rfl⟩ | e
    · exact h.zero y x a b c d (.inl e)
    · exact hn.2
    · exact h.zero y x a b c d (.inr e)
  · obtain ⟨n1, n2, n3⟩ := h.new k (by omega) hk2
    obtain ⟨kx0, kx8, ky0, ky8⟩ := cell_in hS h.wide h.high hk2
    refine ⟨?_, n2, n3⟩
    rw [waxB_or h.R ⟨x0, x8⟩ ⟨kx0, kx8⟩, n1, decide_eq_false (cell_neW hk2 hq (by omega))]; rfl
/-- A drawn sheet is valid. -/
theorem DrawnI.valid (h : DrawnI W H (H * W) S) (hS : Small S) : Valid S := ⟨hS, fun y x a b c d => ⟨h.wax y x a b c d, by have := h.wet y x; exact ⟨this.1, by omega⟩, fun i _ _ => by have := h.dye y x i; exact ⟨this.1, by omega⟩, by
  by_cases e : hasB S x y = true ∧ waxB S x y = false
  · exact .inl e
  · have := h.zero y x a b c d (by cases h1 : hasB S x y <;> cases h2 : waxB S x y <;> simp_all)
    exact .inr ⟨this.1, this.2 0, this.2 1, this.2 2⟩⟩⟩
theorem DrawnI.start {W H : Nat} (hW : W ≤ 8) (hH : H ≤ 8) : DrawnI W H 0 ⟨W, H, fun _ _ => 0, fun _ _ _ => 0, fun _ => 0⟩ := by
  have e : ∀ y x : Int, 0 ≤ x → x < 8 → waxB ⟨W, H, fun _ _ => 0, fun _ _ _ => 0, fun _ => 0⟩ x y = false := fun y x a b => wax_none ⟨a, b⟩
  refine ⟨⟨?_, ?_, fun _ _ => (show (-32768 : Int) ≤ 0 ∧ (0 : Int) < 32768 by decide), fun _ _ _ => (show (-32768 : Int) ≤ 0 ∧ (0 : Int) < 32768 by decide), fun _ => (show (0 : Int) ≤ 0 ∧ (0 : Int) < 256 by decide)⟩, rfl, rfl,
   fun y x a b c d h => ?_, fun _ _ => (show (0 : Int) ≤ 0 ∧ (0 : Int) < 30 by decide), fun _ _ _ => (show (0 : Int) ≤ 0 ∧ (0 : Int) < 40 by decide), fun _ _ _ _ _ _ _ => ⟨rfl, fun _ => rfl⟩, fun k _ hk => ⟨?_, rfl, fun _ => rfl⟩⟩
  · show -128 ≤ (W : Int) ∧ (W : Int) < 128
    omega
  · show -128 ≤ (H : Int) ∧ (H : Int) < 128
    omega
  · rw [e y x c d] at h; cases h
  · have hW0 : 0 < W := by
      rcases Nat.eq_zero_or_pos W with h0 | h0
      · rw [h0] at hk; omega
      · exact h0
    have := Nat.mod_lt k hW0
    exact e _ _ (Int.natCast_nonneg _) (by omega)
end
end Go.Proofs.Ytpcnhenenjblpaa.V

/- A drawn sheet: the walk. -/
namespace Go.Proofs.Ytpcnhenenjblpaa.V
/-- Memory as it was, but for one segment. -/
def HExtB (n i : Nat) (h h' : List (Nat × Seg)) : Prop := ∀ j, j < n → j ≠ i → ∀ t, hget h j = some t → hget h' j = some t
theorem HExtB.set {n i : Nat} {h h' : List (Nat × Seg)} (hx : HExtB n i h h') (s : Seg) : HExtB n i h (hset h' i s) := fun j hj hji t ht => by rw [hget_hset, if_neg (Ne.symm hji)]; exact hx j hj hji t ht
theorem HExtB.setN {n i k : Nat} {h h' : List (Nat × Seg)} (hx : HExtB n i h h') (hk : n ≤ k) (s : Seg) : HExtB n i h (hset h' k s) := fun j hj hji t ht => by rw [hget_hset, if_neg (by omega)]; exact hx j hj hji t ht
theorem HExtB.cons {n i k : Nat} {h h' : List (Nat × Seg)} (hx : HExtB n i h h') (hk : n ≤ k) (s : Seg) : HExtB n i h ((k, s) :: h') := fun j hj hji t ht => by simp only [hget]; rw [if_neg (by omega)]; exact hx j hj hji t ht
theorem HExtB.rfl {n i : Nat} {h : List (Nat × Seg)} : HExtB n i h h := fun j _ _ t ht => ht
theorem BySl.upB {h h' : List (Nat × Seg)} {n n' i : Nat} {A : SV} (hA : BySl h n i A) (hn : n ≤ n') (hx : HExtB n i h h') : BySl h' n' i A := by
  rcases hA with rfl | ⟨j, o, len, cap, s, rfl, hj, hji, hg, hl, hl2, hv⟩
  · exact .inl rfl
  · exact .inr ⟨j, o, len, cap, s, rfl, by omega, hji, hx j hj hji _ hg, hl, hl2, hv⟩
theorem BySl.lt {h : List (Nat × Seg)} {n i : Nat} {A : SV} (hA : BySl h n i A) : A.lt n := by
  rcases hA with rfl | ⟨j, o, len, cap, s, rfl, hj, _⟩
  · trivial
  · exact hj
theorem BySl.ok {h : List (Nat × Seg)} {n i : Nat} {A : SV} (hA : BySl h n i A) : A.ok = True := by
  rcases hA with rfl | ⟨j, o, len, cap, s, rfl, hj, _⟩ <;> rfl
theorem srcS_lt {A : SV} {a d : Int} {m : Nat} (hA : A.lt m) : ∀ k, k < (srcS A a d).n → ((srcS A a d).c k).lt m := fun k hk => by
  match k with
  | 0 => exact hA
  | 1 => trivial
  | 2 => trivial
  | k + 3 => exact absurd hk (by show ¬ k + 3 < 3; omega)
/-- A memory that a source of choices was used in: as it was, but for the source's segment. -/
structure SrcM (h : List (Nat × Seg)) (n i : Nat) (A : SV) (h1 : List (Nat × Seg)) (n1 : Nat) (a d : Int) : Prop where
  x : HExtB n i h h1
  le : n ≤ n1
  src : hget h1 i = some (srcS A a d)
  ok : HOk n1 h1
section
variable {h h1 : List (Nat × Seg)} {n i n1 k : Nat} {A : SV} {a d : Int} {s : Seg}
theorem SrcM.cons (hm : SrcM h n i A h1 n1 a d) (hi : i < n) (hs : ∀ k, k < s.n → (s.c k).lt n1) : SrcM h n i A ((n1, s) :: h1) (n1 + 1) a d :=
  ⟨hm.x.cons hm.le s, by have := hm.le; omega, by have := hm.le; simp only [hget]; rw [if_neg (by omega)]; exact hm.src, fun j t ht => by
    simp only [hget] at ht
    split at ht
    · rename_i e; cases ht; exact ⟨by omega, fun k hk => SV.lt_mono (by omega) _ (hs k hk)⟩
    · exact ⟨by have := (hm.ok j t ht).1; omega, fun k hk => SV.lt_mono (by omega) _ ((hm.ok j t ht).2 k hk)⟩⟩
theorem SrcM.setN (hm : SrcM h n i A h1 n1 a d) (hi : i < n) (hk : n ≤ k) (hs : ∀ k, k < s.n → (s.c k).lt n1) : SrcM h n i A (hset h1 k s) n1 a d :=
  ⟨hm.x.setN hk s, hm.le, by rw [hget_hset, if_neg (by omega)]; exact hm.src, HOk.hset hm.ok hs⟩
end
section
variable (cx : Cx)
theorem pick_M {h h1 : List (Nat × Seg)} {n i n1 : Nat} {A : SV} {a d : Int} (hm : SrcM h n i A h1 n1 a d) (hi : i < n) (hA : BySl h n i A) (m : Int) (ha : 0 ≤ a ∧ a ≤ 1048576) (hmm : 0 ≤ m ∧ m ≤ 200) (K : HK)
    (hK : ∀ v a' d' h2, 0 ≤ v → (v < m ∨ v = 0) → a ≤ a' → a' ≤ a + 1 → SrcM h n i A h2 n1 a' d' → (∀ j, j ≠ i → hget h2 j = hget h1 j) → K (.int .i64 v) h2 n1) :
    CallE Try.prog cx 39 [.ptr i 0, .int .i64 m] h1 n1 K :=
  pick_E cx h1 n1 i A a d m hm.src (by have := hm.le; omega) (hA.upB hm.le hm.x) ha hmm K fun v a' d' h0 h1' h2' h3 => hK v a' d' _ h0 h1' h2' h3
    ⟨hm.x.set _, hm.le, by rw [hget_hset, if_pos rfl, hm.src]; rfl, HOk.hset hm.ok (srcS_lt (SV.lt_mono hm.le _ hA.lt))⟩ (fun j hj => by rw [hget_hset, if_neg (Ne.symm hj)])
theorem one_M {h h1 : List (Nat × Seg)} {n i n1 : Nat} {A : SV} {a d : Int} (hm : SrcM h n i A h1 n1 a d) (hi : i < n) (hA : BySl h n i A) (m : Int) (ha : 0 ≤ a ∧ a ≤ 1048576) (hmm : 0 ≤ m ∧ m ≤ 200) (K : HK)
    (hK : ∀ (b : Bool) a' d' h2, a ≤ a' → a' ≤ a + 1 → SrcM h n i A h2 n1 a' d' → (∀ j, j ≠ i → hget h2 j = hget h1 j) → K (.bool b) h2 n1) :
    CallE Try.prog cx 91 [.ptr i 0, .int .i64 m] h1 n1 K :=
  one_E cx h1 n1 i A a d m hm.src (by have := hm.le; omega) (hA.upB hm.le hm.x) ha hmm K fun b a' d' h2' h3 => hK b a' d' _ h2' h3
    ⟨hm.x.set _, hm.le, by rw [hget_hset, if_pos rfl, hm.src]; rfl, HOk.hset hm.ok (srcS_lt (SV.lt_mono hm.le _ hA.lt))⟩ (fun j hj => by rw [hget_hset, if_neg (Ne.symm hj)])
end
section
variable (cx : Cx) (h : List (Nat × Seg)) (n : Nat)
set_option maxHeartbeats 3200000 in
theorem drawn_E (i : Nat) (A : SV) (a d : Int) (hs : hget h i = some (srcS A a d)) (hi : i < n) (hA : BySl h n i A) (ha : 0 ≤ a ∧ a ≤ 1000) (K : HK)
    (hK : ∀ (S : Sh) (W H : Nat) a' d' h' n', 1 ≤ W → W ≤ 5 → 1 ≤ H → H ≤ 5 → DrawnI W H (H * W) S → a ≤ a' → a' ≤ a + 700 → SrcM h n i A h' n' a' d' → K (.agg 266 (shC S)) h' n') :
    CallE Try.prog cx 36 [.ptr i 0] h n K := by
  refine CallE.hokE ?_
  refine callE_of_SW (P := Try.prog) hti (nt := 95) (rs := [.cell 2 33]) rfl rfl Try.call36 Try.func36 rfl _ (by simp only [go_sem, and_self]) (Nat.le_of_ble_eq_true rfl) _ fun hok => ?_
  refine SW_seq (SW_run hti trivial ?_)
  simp only [go_sem, Nat.reduceLT]
  refine SW_seq (SW_run hti trivial ?_)
  simp only [go_sem, Nat.reduceLT]
  have m1 : SrcM h n i A ((n, ⟨266, shC sh0, true, none⟩) :: h) (n + 1) a d := (SrcM.mk HExtB.rfl (Nat.le_refl _) hs hok).cons hi fun k hk => (shC_flat _ _).below _
  have r1 : hget ((n, ⟨266, shC sh0, true, none⟩) :: h) n = some ⟨266, shC sh0, true, none⟩ := by simp only [go_sem]
  generalize ((n, (⟨266, shC sh0, true, none⟩ : Seg)) :: h) = h1 at *
  refine callA_false (pick_M _ m1 hi hA 5 (by omega) (by omega) _ fun wv a2 d2 h2 w0 w1 q1 q2 m2 e2 => ?_)
  have r2 := (e2 n (by omega)).trans r1
  obtain ⟨W, hWv⟩ : ∃ W : Nat, 1 + wv = W := ⟨(1 + wv).toNat, by omega⟩
  have hW64 : IntKind.i64.wrap (1 + wv) = (W : Int) := by rw [w64 (by omega)]; exact hWv
  simp only [go_sem, Nat.reduceLT, Nat.reduceLeDiff, reduceIte, w8 (n := (W : Int)) (by omega), hW64]
  refine SW_seq (SW_run hti trivial ?_)
  simp only [go_sem, Nat.reduceLT]
  have m3 : SrcM h n i A ((n + 1, shS ⟨W, 0, fun _ _ => 0, fun _ _ _ => 0, fun _ => 0⟩) :: h2) (n + 2) a2 d2 := m2.cons hi fun k hk => (shC_flat _ _).below _
  have r3 : hget ((n + 1, shS ⟨W, 0, fun _ _ => 0, fun _ _ _ => 0, fun _ => 0⟩) :: h2) n = some ⟨266, shC sh0, true, none⟩ := by simp only [go_sem, r2]
  have o3 : hget ((n + 1, shS ⟨W, 0, fun _ _ => 0, fun _ _ _ => 0, fun _ => 0⟩) :: h2) (n + 1) = some (shS ⟨W, 0, fun _ _ => 0, fun _ _ _ => 0, fun _ => 0⟩) := by simp only [go_sem]
  refine callA_false (pick_M _ m3 hi hA 5 (by omega) (by omega) _ fun hv a4 d4 h4 v0 v1 q3 q4 m4 e4 => ?_)
  have r4 := (e4 n (by omega)).trans r3
  have o4 := (e4 (n + 1) (by omega)).trans o3
  obtain ⟨H, hHv⟩ : ∃ H : Nat, 1 + hv = H := ⟨(1 + hv).toNat, by omega⟩
  have hH64 : IntKind.i64.wrap (1 + hv) = (H : Int) := by rw [w64 (by omega)]; exact hHv
  have l4 : n + 1 < n + 2 := by omega
  simp only [go_sem, Nat.reduceLT, Nat.reduceLeDiff, Nat.reduceEqDiff, reduceIte, reduceCtorEq, w8 (n := (H : Int)) (by omega), hH64, o4, l4]
  refine SW_seq (SW_run hti trivial ?_)
  simp only [go_sem, Nat.reduceLT]
  have m5 : SrcM h n i A (hset h4 (n + 1) (shS ⟨W, H, fun _ _ => 0, fun _ _ _ => 0, fun _ => 0⟩)) (n + 2) a4 d4 := m4.setN hi (by omega) fun k hk => (shC_flat _ _).below _
  have r5 : hget (hset h4 (n + 1) (shS ⟨W, H, fun _ _ => 0, fun _ _ _ => 0, fun _ => 0⟩)) n = some ⟨266, shC sh0, true, none⟩ := by rw [hget_hset, if_neg (by omega)]; exact r4
  have o5 : hget (hset h4 (n + 1) (shS ⟨W, H, fun _ _ => 0, fun _ _ _ => 0, fun _ => 0⟩)) (n + 1) = some (shS ⟨W, H, fun _ _ => 0, fun _ _ _ => 0, fun _ => 0⟩) := hget_hset_self o4 _
  refine callA_false (pick_M _ m5 hi hA 4 (by omega) (by omega) _ fun mv a6 d6 h6 z0 z1 q5 q6 m6 e6 => ?_)
  have r6 := (e6 n (by omega)).trans r5
  have o6 := (e6 (n + 1) (by omega)).trans o5
  have M64 : IntKind.i64.wrap (1 + mv) = 1 + mv := w64 (by omega)
  simp only [go_sem, Nat.reduceLT, M64]
  refine SW_seq (SW_run hti trivial ?_)
  simp only [go_sem, Nat.reduceLT]
  refine callA_false (pick_M _ m6 hi hA 20 (by omega) (by omega) _ fun xv a7 d7 h7 z2 z3 q7 q8 m7 e7 => ?_)
  have r7 := (e7 n (by omega)).trans r6
  have o7 := (e7 (n + 1) (by omega)).trans o6
  have X64 : IntKind.i64.wrap (3 + xv) = 3 + xv := w64 (by omega)
  simp only [go_sem, Nat.reduceLT, X64]
  refine SW_seq (SW_run hti trivial ?_)
  simp only [go_sem, Nat.reduceLT]
  have hD0 : DrawnI W H 0 ⟨W, H, fun _ _ => 0, fun _ _ _ => 0, fun _ => 0⟩ := .start (by omega) (by omega)
  have hSm : ∀ {q S}, DrawnI W H q S → Small S := fun hd => by have := hd.wide; have := hd.high; unfold Small; omega
  refine callA_false (spots_E _ _ _ (n + 1) 0 _ ⟨W, H, fun _ _ => 0, fun _ _ _ => 0, fun _ => 0⟩ W H o7 (by omega) (shAt_shC hD0.R) rfl rfl (by omega) (by omega) _ fun cap hc1 hc2 => ?_)
  have hWH : H * W ≤ 25 := Nat.mul_le_mul (show H ≤ 5 by omega) (show W ≤ 5 by omega)
  simp only [go_sem, Nat.reduceLT]
  refine SW_seq (SW_seq (SW_run hti trivial ?_))
  simp only [go_sem, Nat.reduceLT]
  have m8 : SrcM h n i A ((n + 2, ⟨H * W * 2, cellC W, true, some (51, cap * 2)⟩) :: h7) (n + 3) a7 d7 := m7.cons hi fun k hk => (cellC_flat _ _).below _
  refine SW_block (SW_lp (ι := { w : Nat × List (Nat × Seg) × Nat × Sh × Int × Int // w.1 ≤ H * W ∧ SrcM h n i A w.2.1 w.2.2.1 w.2.2.2.2.1 w.2.2.2.2.2 ∧ n + 3 ≤ w.2.2.1 ∧ hget w.2.1 n = some ⟨266, shC sh0, true, none⟩ ∧ hget w.2.1 (n + 1) = some (shS w.2.2.2.1) ∧
      hget w.2.1 (n + 2) = some ⟨H * W * 2, cellC W, true, some (51, cap * 2)⟩ ∧ DrawnI W H w.1 w.2.2.2.1 ∧ a ≤ w.2.2.2.2.1 ∧ w.2.2.2.2.1 ≤ a + 20 + 10 * w.1 })
    (fun w => ([(0, .ptr i 0), (2, .ptr n 0), (3, .ptr (n + 1) 0), (4, .int .i64 (1 + mv)), (5, .int .i64 (3 + xv)), (6, .sl (n + 2) 0 (H * W) cap), (7, .int .i64 w.1.1)], w.1.2.1, w.1.2.2.1)) (fun w => H * W - w.1.1)
    ⟨(0, _, _, ⟨W, H, fun _ _ => 0, fun _ _ _ => 0, fun _ => 0⟩, _, _), Nat.zero_le _, m8, Nat.le_refl _, by simp only [hget]; rw [if_neg (by omega)]; exact r7, by simp only [hget]; rw [if_neg (by omega)]; exact o7, by simp only [hget, if_true], hD0, by show a ≤ a7; omega, by show a7 ≤ _; omega⟩ ?_ ?_)
  · refine Imp.id (by simp) ?_ (impH.base0 m8.ok (by simp) HExt.rfl)
    simp only [go_sem, Nat.reduceLT]
    omega
  rintro ⟨⟨q, hq, nq, S, aq, dq⟩, hqn, mq, hnq, rq, oq, cq, hD, ha1, ha2⟩
  simp only at hqn mq hnq rq oq cq hD ha1 ha2
  have ln : n < nq := by omega
  have ln1 : n + 1 < nq := by omega
  have ln2 : n + 2 < nq := by omega
  have nn1 : ¬ n = n + 1 := by omega
  refine SW_seq (SW_run hti trivial ?_)
  simp only [go_sem, Nat.reduceLT, decide_eq_true_eq, decide_eq_false_iff_not]
  refine ⟨fun h1 => ?_, fun h1 => ?_⟩
  rotate_left
  · have hqe : q = H * W := by omega
    subst hqe
    simp only [go_sem, Nat.reduceLT, reduceIte, oq, rq, ln, ln1]
    refine fun hok' => hK S W H aq dq _ nq (by omega) (by omega) (by omega) (by omega) hD ha1 (by omega) (mq.setN hi (Nat.le_refl _) fun k hk => (shC_flat _ _).below _)
  have hqlt : q < H * W := by omega
  have b1 : (0 : Int) ≤ q ∧ (q : Int) < ((H * W : Nat) : Int) := ⟨by omega, h1⟩
  have b2 : q * 2 ≤ H * W * 2 - 2 := by omega
  have b3 : 2 ≤ H * W * 2 := by omega
  have hS := hSm hD
  obtain ⟨x0, x8, y0, y8⟩ := cell_in hS hD.wide hD.high hqlt
  have hh := cell_hasW hD.wide hD.high hqlt
  have hn := hD.new q (Nat.le_refl _) hqlt
  refine SW_seq (SW_block ?_)
  refine SW_seq (SW_run hti trivial ?_)
  simp only [go_sem, Nat.reduceLT, reduceIte, b1, b2, b3, cq, ln2, cellC_x, cellC_y]
  refine ⟨by omega, ?_⟩
  have mr : SrcM h n i A ((nq, ⟨2, cl [SV.int .i8 ((q % W : Nat) : Int), SV.int .i8 ((q / W : Nat) : Int)], true, none⟩) :: hq) (nq + 1) aq dq := mq.cons hi fun k hk => (pair_flat _ _ hk).below _
  have rr : hget ((nq, ⟨2, cl [SV.int .i8 ((q % W : Nat) : Int), SV.int .i8 ((q / W : Nat) : Int)], true, none⟩) :: hq) n = some ⟨266, shC sh0, true, none⟩ := by simp only [hget]; rw [if_neg (by omega)]; exact rq
  have orr : hget ((nq, ⟨2, cl [SV.int .i8 ((q % W : Nat) : Int), SV.int .i8 ((q / W : Nat) : Int)], true, none⟩) :: hq) (n + 1) = some (shS S) := by simp only [hget]; rw [if_neg (by omega)]; exact oq
  have cr : hget ((nq, ⟨2, cl [SV.int .i8 ((q % W : Nat) : Int), SV.int .i8 ((q / W : Nat) : Int)], true, none⟩) :: hq) (n + 2) = some ⟨H * W * 2, cellC W, true, some (51, cap * 2)⟩ := by simp only [hget]; rw [if_neg (by omega)]; exact cq
  have ar : hget ((nq, ⟨2, cl [SV.int .i8 ((q % W : Nat) : Int), SV.int .i8 ((q / W : Nat) : Int)], true, none⟩) :: hq) nq = some ⟨2, cl [SV.int .i8 ((q % W : Nat) : Int), SV.int .i8 ((q / W : Nat) : Int)], true, none⟩ := by simp only [hget, if_true]
  generalize ((nq, (⟨2, cl [SV.int .i8 ((q % W : Nat) : Int), SV.int .i8 ((q / W : Nat) : Int)], true, none⟩ : Seg)) :: hq) = hr at *
  generalize hqx : ((q % W : Nat) : Int) = px at *
  generalize hqy : ((q / W : Nat) : Int) = py at *
  have lr0 : nq < nq + 1 := by omega
  have lr1 : n + 1 < nq + 1 := by omega
  refine SW_seq (SW_run hti trivial ?_)
  simp only [go_sem, Nat.reduceLT]
  refine callA_false (one_M _ mr hi hA (3 + xv) (by omega) (by omega) _ fun b a9 d9 h9 q9 q10 m9 e9 => ?_)
  have r9 := (e9 n (by omega)).trans rr
  have o9 := (e9 (n + 1) (by omega)).trans orr
  have c9 := (e9 (n + 2) (by omega)).trans cr
  have t9 := (e9 nq (by omega)).trans ar
  have U64 : IntKind.u64.wrap px = px := by simp [IntKind.wrap, IntKind.bits, IntKind.signed]; omega
  cases b
  rotate_left
  · simp only [go_sem]
    refine T_drawT hti 12 _ _ (by kernel_rfl) (by kernel_rfl) ?_
    simp only [go_sem, Nat.reduceLT, Nat.reduceLeDiff, Nat.reduceEqDiff, reduceIte, reduceCtorEq, o9, t9, lr0, lr1, x0, x8, y0, y8, U64]
    have hDn : DrawnI W H (q + 1) (S.setWax py (bitsI .or .u8 (S.wax py) (shlI .u8 1 px))) := by rw [← hqx, ← hqy]; exact hD.setWax hS hqlt
    have mw : SrcM h n i A (hset h9 (n + 1) (shS (S.setWax py (bitsI .or .u8 (S.wax py) (shlI .u8 1 px))))) (nq + 1) a9 d9 := m9.setN hi (by omega) fun k hk => (shC_flat _ _).below _
    refine ⟨⟨(q + 1, _, nq + 1, S.setWax py (bitsI .or .u8 (S.wax py) (shlI .u8 1 px)), a9, d9), by show q + 1 ≤ H * W; omega, mw, by show n + 3 ≤ nq + 1; omega, by rw [hget_hset, if_neg (by omega)]; exact r9, hget_hset_self o9 _, by rw [hget_hset, if_neg (by omega)]; exact c9, hDn, by show a ≤ a9; omega, by show a9 ≤ a + 20 + 10 * ((q + 1 : Nat) : Int); omega⟩, by show H * W - (q + 1) < H * W - q; omega, ?_⟩
    refine Imp.id (by show n ≤ nq + 1; omega) ?_ (impH.base0 mw.ok (Nat.le_refl _) HExt.rfl)
    simp only [go_sem, Nat.reduceLT, w64 (n := (q : Int) + 1) (by omega), Int.natCast_add, Int.natCast_one]
    omega
  simp only [go_sem]
  have hD0 := hD.next
  have hw0 := hn.1
  have M0 := m9
  have R0 := r9
  have O0 := o9
  have C0 := c9
  have T0 := t9
  obtain ⟨N0, hN0⟩ : ∃ N0, N0 = nq + 1 := ⟨_, rfl⟩
  rw [← hN0] at M0
  rw [← hN0]
  generalize hS0 : S = S0 at hD0 hw0 O0
  refine SW_seq (SW_cut hti (ι := { w : List (Nat × Seg) × Nat × Sh × Int × Int // SrcM h n i A w.1 w.2.1 w.2.2.2.1 w.2.2.2.2 ∧ nq + 1 ≤ w.2.1 ∧ hget w.1 n = some ⟨266, shC sh0, true, none⟩ ∧ hget w.1 (n + 1) = some (shS w.2.2.1) ∧
      hget w.1 (n + 2) = some ⟨H * W * 2, cellC W, true, some (51, cap * 2)⟩ ∧ hget w.1 nq = some ⟨2, cl [.int .i8 px, .int .i8 py], true, none⟩ ∧ DrawnI W H (q + 1) w.2.2.1 ∧ waxB w.2.2.1 px py = false ∧ a ≤ w.2.2.2.1 ∧ w.2.2.2.1 ≤ a + 20 + 10 * q + 3 })
    (fun w => ([(0, .ptr i 0), (2, .ptr n 0), (3, .ptr (n + 1) 0), (4, .int .i64 (1 + mv)), (5, .int .i64 (3 + xv)), (6, .sl (n + 2) 0 (H * W) cap), (7, .int .i64 q), (8, .ptr nq 0)], w.1.1, w.1.2.1)) trivial ?_ ?_)
  · simp only [go_sem, Nat.reduceLT]
    refine callA_false (one_M _ M0 hi hA 2 (by omega) (by omega) _ fun b a1 d1 g1 b1 b2 mm1 ee1 => ?_)
    have ra := (ee1 n (by omega)).trans R0
    have oa := (ee1 (n + 1) (by omega)).trans O0
    have ca := (ee1 (n + 2) (by omega)).trans C0
    have ta := (ee1 nq (by omega)).trans T0
    cases b
    · simp only [go_sem]
      refine ⟨⟨(g1, N0, S0, a1, d1), mm1, by show nq + 1 ≤ N0; omega, ra, oa, ca, ta, hD0, hw0, by show a ≤ a1; omega, by show a1 ≤ _; omega⟩, ?_⟩
      refine Imp.id (by show n ≤ N0; omega) ?_ (impH.base0 mm1.ok (Nat.le_refl _) HExt.rfl)
      simp only [go_sem, Nat.reduceLT]
      (repeat' apply And.intro) <;> first | omega | rfl | trivial | assumption | skip
    have lm0 : nq < N0 := by omega
    have lm1 : n + 1 < N0 := by omega
    simp only [go_sem]
    refine T_drawG hti 11 [1, 3, 5, 10] (.b 0 0 (.b 0 2 (.b 0 4 (.b 0 7 (.b 4 1 (.b 0 8 (.b 4 3 (.b 4 5 (.b 0 6 (.b 0 9 (.b 4 10 (.f) .o) .o) .o) .o) (.b 4 5 (.b 0 6 (.b 4 3 (.b 0 9 (.b 4 10 (.f) .o) .o) .o) .o) .o)) .o) (.b 4 3 (.b 4 1 (.b 0 8 (.b 4 5 (.b 0 6 (.b 0 9 (.b 4 10 (.f) .o) .o) .o) .o) .o) (.b 4 5 (.b 0 6 (.b 4 1 (.b 0 8 (.b 0 9 (.b 4 10 (.f) .o) .o) .o) .o) .o) .o)) (.b 4 5 (.b 0 6 (.b 4 1 (.b 0 8 (.b 4 3 (.b 0 9 (.b 4 10 (.f) .o) .o) .o) .o) (.b 4 3 (.b 4 1 (.b 0 8 (.b 0 9 (.b 4 10 (.f) .o) .o) .o) .o) .o)) .o) .o))) .o) .o) .o) .o) _ _ (by kernel_rfl) (by kernel_rfl) ?_
    simp only [go_sem, Nat.reduceLT, Nat.reduceLeDiff, reduceCtorEq, oa, ta, lm0, lm1, x0, x8, y0, y8]
    (repeat' (with_reducible refine And.intro ?_ ?_))
    all_goals
      refine callA_false (pick_M _ mm1 hi hA 30 (by omega) (by omega) _ fun v a2 d2 g2 v0 v1 b3 b4 mm2 ee2 => ?_)
      have rb := (ee2 n (by omega)).trans ra
      have ob := (ee2 (n + 1) (by omega)).trans oa
      have cb := (ee2 (n + 2) (by omega)).trans ca
      have tb := (ee2 nq (by omega)).trans ta
      have v16 : IntKind.i16.wrap v = v := w16 (by omega)
      simp only [go_sem, Nat.reduceLT, Nat.reduceLeDiff, Nat.reduceEqDiff, reduceIte, ob, tb, lm0, lm1, x0, x8, y0, y8, v16]
      have hDn : DrawnI W H (q + 1) (S0.setWet py px v) := by rw [← hqx, ← hqy]; exact hD0.setWet hqlt (by rw [hqx, hqy]; exact hw0) (by omega)
      have mmn : SrcM h n i A (hset g2 (n + 1) (shS (S0.setWet py px v))) N0 a2 d2 := mm2.setN hi (by omega) (fun k hk => (shC_flat _ _).below _)
      (repeat' (with_reducible refine And.intro ?_ ?_))
    all_goals
      refine ⟨⟨(hset g2 (n + 1) (shS (S0.setWet py px v)), N0, S0.setWet py px v, a2, d2), mmn, by show nq + 1 ≤ N0; omega, by rw [hget_hset, if_neg (by omega)]; exact rb, hget_hset_self ob _, by rw [hget_hset, if_neg (by omega)]; exact cb, by rw [hget_hset, if_neg (by omega)]; exact tb, hDn, hw0, by show a ≤ a2; omega, by show a2 ≤ _; omega⟩, ?_⟩
      refine Imp.id (by show n ≤ N0; omega) ?_ (impH.base0 mmn.ok (Nat.le_refl _) HExt.rfl)
      simp only [go_sem, Nat.reduceLT]
      (repeat' apply And.intro) <;> first | omega | rfl | trivial | assumption | skip
  rintro ⟨⟨H1, N1, S1, A1, D1⟩, M1, hN1, R1, O1, C1, T1, hD1, hw1, hA1, hB1⟩
  simp only at M1 hN1 R1 O1 C1 T1 hD1 hw1 hA1 hB1
  refine SW_seq (SW_cut hti (ι := { w : List (Nat × Seg) × Nat × Sh × Int × Int // SrcM h n i A w.1 w.2.1 w.2.2.2.1 w.2.2.2.2 ∧ nq + 1 ≤ w.2.1 ∧ hget w.1 n = some ⟨266, shC sh0, true, none⟩ ∧ hget w.1 (n + 1) = some (shS w.2.2.1) ∧
      hget w.1 (n + 2) = some ⟨H * W * 2, cellC W, true, some (51, cap * 2)⟩ ∧ hget w.1 nq = some ⟨2, cl [.int .i8 px, .int .i8 py], true, none⟩ ∧ DrawnI W H (q + 1) w.2.2.1 ∧ waxB w.2.2.1 px py = false ∧ a ≤ w.2.2.2.1 ∧ w.2.2.2.1 ≤ a + 20 + 10 * q + 6 })
    (fun w => ([(0, .ptr i 0), (2, .ptr n 0), (3, .ptr (n + 1) 0), (4, .int .i64 (1 + mv)), (5, .int .i64 (3 + xv)), (6, .sl (n + 2) 0 (H * W) cap), (7, .int .i64 q), (8, .ptr nq 0)], w.1.1, w.1.2.1)) trivial ?_ ?_)
  · simp only [go_sem, Nat.reduceLT]
    refine callA_false (one_M _ M1 hi hA (1 + mv) (by omega) (by omega) _ fun b a1 d1 g1 b1 b2 mm1 ee1 => ?_)
    have ra := (ee1 n (by omega)).trans R1
    have oa := (ee1 (n + 1) (by omega)).trans O1
    have ca := (ee1 (n + 2) (by omega)).trans C1
    have ta := (ee1 nq (by omega)).trans T1
    cases b
    · simp only [go_sem]
      refine ⟨⟨(g1, N1, S1, a1, d1), mm1, by show nq + 1 ≤ N1; omega, ra, oa, ca, ta, hD1, hw1, by show a ≤ a1; omega, by show a1 ≤ _; omega⟩, ?_⟩
      refine Imp.id (by show n ≤ N1; omega) ?_ (impH.base0 mm1.ok (Nat.le_refl _) HExt.rfl)
      simp only [go_sem, Nat.reduceLT]
      (repeat' apply And.intro) <;> first | omega | rfl | trivial | assumption | skip
    have lm0 : nq < N1 := by omega
    have lm1 : n + 1 < N1 := by omega
    simp only [go_sem]
    refine T_drawG hti 14 [1, 3, 5, 7, 13] (.b 0 0 (.b 0 2 (.b 0 4 (.b 0 6 (.b 0 9 (.b 4 1 (.b 0 10 (.b 4 3 (.b 0 11 (.b 4 5 (.b 4 7 (.b 0 8 (.b 0 12 (.b 4 13 (.f) .o) .o) .o) .o) .o) .o) (.b 4 5 (.b 4 3 (.b 0 11 (.b 4 7 (.b 0 8 (.b 0 12 (.b 4 13 (.f) .o) .o) .o) .o) .o) (.b 4 7 (.b 0 8 (.b 4 3 (.b 0 11 (.b 0 12 (.b 4 13 (.f) .o) .o) .o) .o) .o) .o)) .o)) .o) (.b 4 3 (.b 4 1 (.b 0 10 (.b 0 11 (.b 4 5 (.b 4 7 (.b 0 8 (.b 0 12 (.b 4 13 (.f) .o) .o) .o) .o) .o) .o) .o) (.b 4 5 (.b 4 1 (.b 0 10 (.b 0 11 (.b 4 7 (.b 0 8 (.b 0 12 (.b 4 13 (.f) .o) .o) .o) .o) .o) .o) (.b 4 7 (.b 0 8 (.b 4 1 (.b 0 10 (.b 0 11 (.b 0 12 (.b 4 13 (.f) .o) .o) .o) .o) .o) .o) .o)) .o)) (.b 4 5 (.b 4 1 (.b 0 10 (.b 4 3 (.b 0 11 (.b 4 7 (.b 0 8 (.b 0 12 (.b 4 13 (.f) .o) .o) .o) .o) .o) (.b 4 7 (.b 0 8 (.b 4 3 (.b 0 11 (.b 0 12 (.b 4 13 (.f) .o) .o) .o) .o) .o) .o)) .o) (.b 4 3 (.b 4 1 (.b 0 10 (.b 0 11 (.b 4 7 (.b 0 8 (.b 0 12 (.b 4 13 (.f) .o) .o) .o) .o) .o) .o) (.b 4 7 (.b 0 8 (.b 4 1 (.b 0 10 (.b 0 11 (.b 0 12 (.b 4 13 (.f) .o) .o) .o) .o) .o) .o) .o)) (.b 4 7 (.b 0 8 (.b 4 1 (.b 0 10 (.b 4 3 (.b 0 11 (.b 0 12 (.b 4 13 (.f) .o) .o) .o) .o) .o) (.b 4 3 (.b 4 1 (.b 0 10 (.b 0 11 (.b 0 12 (.b 4 13 (.f) .o) .o) .o) .o) .o) .o)) .o) .o))) .o))) .o) .o) .o) .o) .o) _ _ (by kernel_rfl) (by kernel_rfl) ?_
    simp only [go_sem, Nat.reduceLT, Nat.reduceLeDiff, reduceCtorEq, oa, ta, lm0, lm1, x0, x8, y0, y8]
    (repeat' (with_reducible refine And.intro ?_ ?_))
    all_goals
      refine callA_false (pick_M _ mm1 hi hA 3 (by omega) (by omega) _ fun u a2 d2 g2 u0 u1 b3 b4 mm2 ee2 => ?_)
      have rb := (ee2 n (by omega)).trans ra
      have ob := (ee2 (n + 1) (by omega)).trans oa
      have cb := (ee2 (n + 2) (by omega)).trans ca
      have tb := (ee2 nq (by omega)).trans ta
      have u3 : u < 3 := by omega
      simp only [go_sem, Nat.reduceLT, Nat.reduceLeDiff, ob, tb, lm0, lm1, x0, x8, y0, y8, u0, u3]
      (repeat' (with_reducible refine And.intro ?_ ?_))
    all_goals
      refine callA_false (pick_M _ mm2 hi hA 40 (by omega) (by omega) _ fun v a3 d3 g3 v0 v1 b5 b6 mm3 ee3 => ?_)
      have rc := (ee3 n (by omega)).trans rb
      have oc := (ee3 (n + 1) (by omega)).trans ob
      have cc := (ee3 (n + 2) (by omega)).trans cb
      have tc := (ee3 nq (by omega)).trans tb
      have v16 : IntKind.i16.wrap v = v := w16 (by omega)
      simp only [go_sem, Nat.reduceLT, Nat.reduceLeDiff, Nat.reduceEqDiff, reduceIte, oc, tc, lm0, lm1, x0, x8, y0, y8, u0, u3, v16]
      have hDn : DrawnI W H (q + 1) (S1.setDye py px u v) := by rw [← hqx, ← hqy]; exact hD1.setDye hqlt (by rw [hqx, hqy]; exact hw1) (by omega)
      have mmn : SrcM h n i A (hset g3 (n + 1) (shS (S1.setDye py px u v))) N1 a3 d3 := mm3.setN hi (by omega) (fun k hk => (shC_flat _ _).below _)
      (repeat' (with_reducible refine And.intro ?_ ?_))
    all_goals
      refine ⟨⟨(hset g3 (n + 1) (shS (S1.setDye py px u v)), N1, S1.setDye py px u v, a3, d3), mmn, by show nq + 1 ≤ N1; omega, by rw [hget_hset, if_neg (by omega)]; exact rc, hget_hset_self oc _, by rw [hget_hset, if_neg (by omega)]; exact cc, by rw [hget_hset, if_neg (by omega)]; exact tc, hDn, hw1, by show a ≤ a3; omega, by show a3 ≤ _; omega⟩, ?_⟩
      refine Imp.id (by show n ≤ N1; omega) ?_ (impH.base0 mmn.ok (Nat.le_refl _) HExt.rfl)
      simp only [go_sem, Nat.reduceLT]
      (repeat' apply And.intro) <;> first | omega | rfl | trivial | assumption | skip
  rintro ⟨⟨H2, N2, S2, A2, D2⟩, M2, hN2, R2, O2, C2, T2, hD2, hw2, hA2, hB2⟩
  simp only at M2 hN2 R2 O2 C2 T2 hD2 hw2 hA2 hB2
  refine SW_cut hti (ι := { w : List (Nat × Seg) × Nat × Sh × Int × Int // SrcM h n i A w.1 w.2.1 w.2.2.2.1 w.2.2.2.2 ∧ nq + 1 ≤ w.2.1 ∧ hget w.1 n = some ⟨266, shC sh0, true, none⟩ ∧ hget w.1 (n + 1) = some (shS w.2.2.1) ∧
      hget w.1 (n + 2) = some ⟨H * W * 2, cellC W, true, some (51, cap * 2)⟩ ∧ hget w.1 nq = some ⟨2, cl [.int .i8 px, .int .i8 py], true, none⟩ ∧ DrawnI W H (q + 1) w.2.2.1 ∧ waxB w.2.2.1 px py = false ∧ a ≤ w.2.2.2.1 ∧ w.2.2.2.1 ≤ a + 20 + 10 * q + 9 })
    (fun w => ([(0, .ptr i 0), (2, .ptr n 0), (3, .ptr (n + 1) 0), (4, .int .i64 (1 + mv)), (5, .int .i64 (3 + xv)), (6, .sl (n + 2) 0 (H * W) cap), (7, .int .i64 q), (8, .ptr nq 0)], w.1.1, w.1.2.1)) trivial ?_ ?_
  · simp only [go_sem, Nat.reduceLT]
    refine callA_false (one_M _ M2 hi hA 4 (by omega) (by omega) _ fun b a1 d1 g1 b1 b2 mm1 ee1 => ?_)
    have ra := (ee1 n (by omega)).trans R2
    have oa := (ee1 (n + 1) (by omega)).trans O2
    have ca := (ee1 (n + 2) (by omega)).trans C2
    have ta := (ee1 nq (by omega)).trans T2
    cases b
    · simp only [go_sem]
      refine ⟨⟨(g1, N2, S2, a1, d1), mm1, by show nq + 1 ≤ N2; omega, ra, oa, ca, ta, hD2, hw2, by show a ≤ a1; omega, by show a1 ≤ _; omega⟩, ?_⟩
      refine Imp.id (by show n ≤ N2; omega) ?_ (impH.base0 mm1.ok (Nat.le_refl _) HExt.rfl)
      simp only [go_sem, Nat.reduceLT]
      (repeat' apply And.intro) <;> first | omega | rfl | trivial | assumption | skip
    have lm0 : nq < N2 := by omega
    have lm1 : n + 1 < N2 := by omega
    simp only [go_sem]
    refine T_drawG hti 14 [1, 3, 5, 7, 13] (.b 0 0 (.b 0 2 (.b 0 4 (.b 0 6 (.b 0 9 (.b 4 1 (.b 0 10 (.b 4 3 (.b 0 11 (.b 4 5 (.b 4 7 (.b 0 8 (.b 0 12 (.b 4 13 (.f) .o) .o) .o) .o) .o) .o) (.b 4 5 (.b 4 3 (.b 0 11 (.b 4 7 (.b 0 8 (.b 0 12 (.b 4 13 (.f) .o) .o) .o) .o) .o) (.b 4 7 (.b 0 8 (.b 4 3 (.b 0 11 (.b 0 12 (.b 4 13 (.f) .o) .o) .o) .o) .o) .o)) .o)) .o) (.b 4 3 (.b 4 1 (.b 0 10 (.b 0 11 (.b 4 5 (.b 4 7 (.b 0 8 (.b 0 12 (.b 4 13 (.f) .o) .o) .o) .o) .o) .o) .o) (.b 4 5 (.b 4 1 (.b 0 10 (.b 0 11 (.b 4 7 (.b 0 8 (.b 0 12 (.b 4 13 (.f) .o) .o) .o) .o) .o) .o) (.b 4 7 (.b 0 8 (.b 4 1 (.b 0 10 (.b 0 11 (.b 0 12 (.b 4 13 (.f) .o) .o) .o) .o) .o) .o) .o)) .o)) (.b 4 5 (.b 4 1 (.b 0 10 (.b 4 3 (.b 0 11 (.b 4 7 (.b 0 8 (.b 0 12 (.b 4 13 (.f) .o) .o) .o) .o) .o) (.b 4 7 (.b 0 8 (.b 4 3 (.b 0 11 (.b 0 12 (.b 4 13 (.f) .o) .o) .o) .o) .o) .o)) .o) (.b 4 3 (.b 4 1 (.b 0 10 (.b 0 11 (.b 4 7 (.b 0 8 (.b 0 12 (.b 4 13 (.f) .o) .o) .o) .o) .o) .o) (.b 4 7 (.b 0 8 (.b 4 1 (.b 0 10 (.b 0 11 (.b 0 12 (.b 4 13 (.f) .o) .o) .o) .o) .o) .o) .o)) (.b 4 7 (.b 0 8 (.b 4 1 (.b 0 10 (.b 4 3 (.b 0 11 (.b 0 12 (.b 4 13 (.f) .o) .o) .o) .o) .o) (.b 4 3 (.b 4 1 (.b 0 10 (.b 0 11 (.b 0 12 (.b 4 13 (.f) .o) .o) .o) .o) .o) .o)) .o) .o))) .o))) .o) .o) .o) .o) .o) _ _ (by kernel_rfl) (by kernel_rfl) ?_
    simp only [go_sem, Nat.reduceLT, Nat.reduceLeDiff, reduceCtorEq, oa, ta, lm0, lm1, x0, x8, y0, y8]
    (repeat' (with_reducible refine And.intro ?_ ?_))
    all_goals
      refine callA_false (pick_M _ mm1 hi hA 3 (by omega) (by omega) _ fun u a2 d2 g2 u0 u1 b3 b4 mm2 ee2 => ?_)
      have rb := (ee2 n (by omega)).trans ra
      have ob := (ee2 (n + 1) (by omega)).trans oa
      have cb := (ee2 (n + 2) (by omega)).trans ca
      have tb := (ee2 nq (by omega)).trans ta
      have u3 : u < 3 := by omega
      simp only [go_sem, Nat.reduceLT, Nat.reduceLeDiff, ob, tb, lm0, lm1, x0, x8, y0, y8, u0, u3]
      (repeat' (with_reducible refine And.intro ?_ ?_))
    all_goals
      refine callA_false (pick_M _ mm2 hi hA 12 (by omega) (by omega) _ fun v a3 d3 g3 v0 v1 b5 b6 mm3 ee3 => ?_)
      have rc := (ee3 n (by omega)).trans rb
      have oc := (ee3 (n + 1) (by omega)).trans ob
      have cc := (ee3 (n + 2) (by omega)).trans cb
      have tc := (ee3 nq (by omega)).trans tb
      have v16 : IntKind.i16.wrap v = v := w16 (by omega)
      simp only [go_sem, Nat.reduceLT, Nat.reduceLeDiff, Nat.reduceEqDiff, reduceIte, oc, tc, lm0, lm1, x0, x8, y0, y8, u0, u3, v16]
      have hDn : DrawnI W H (q + 1) (S2.setDye py px u v) := by rw [← hqx, ← hqy]; exact hD2.setDye hqlt (by rw [hqx, hqy]; exact hw2) (by omega)
      have mmn : SrcM h n i A (hset g3 (n + 1) (shS (S2.setDye py px u v))) N2 a3 d3 := mm3.setN hi (by omega) (fun k hk => (shC_flat _ _).below _)
      (repeat' (with_reducible refine And.intro ?_ ?_))
    all_goals
      refine ⟨⟨(hset g3 (n + 1) (shS (S2.setDye py px u v)), N2, S2.setDye py px u v, a3, d3), mmn, by show nq + 1 ≤ N2; omega, by rw [hget_hset, if_neg (by omega)]; exact rc, hget_hset_self oc _, by rw [hget_hset, if_neg (by omega)]; exact cc, by rw [hget_hset, if_neg (by omega)]; exact tc, hDn, hw2, by show a ≤ a3; omega, by show a3 ≤ _; omega⟩, ?_⟩
      refine Imp.id (by show n ≤ N2; omega) ?_ (impH.base0 mmn.ok (Nat.le_refl _) HExt.rfl)
      simp only [go_sem, Nat.reduceLT]
      (repeat' apply And.intro) <;> first | omega | rfl | trivial | assumption | skip
  rintro ⟨⟨H3, N3, S3, A3, D3⟩, M3, hN3, R3, O3, C3, T3, hD3, hw3, hA3, hB3⟩
  simp only at M3 hN3 R3 O3 C3 T3 hD3 hw3 hA3 hB3
  refine SW_inBlock (SW_run hti trivial ?_)
  simp only [go_sem, Nat.reduceLT]
  refine SW_inv ?_
  refine ⟨⟨(q + 1, H3, N3, S3, A3, D3), by show q + 1 ≤ H * W; omega, M3, by show n + 3 ≤ N3; omega, R3, O3, C3, hD3, by show a ≤ A3; omega, by show A3 ≤ a + 20 + 10 * ((q + 1 : Nat) : Int); omega⟩, by show H * W - (q + 1) < H * W - q; omega, ?_⟩
  refine Imp.id (by show n ≤ N3; omega) ?_ (impH.base0 M3.ok (Nat.le_refl _) HExt.rfl)
  simp only [go_sem, Nat.reduceLT, w64 (n := (q : Int) + 1) (by omega), Int.natCast_add, Int.natCast_one]
  omega
end
end Go.Proofs.Ytpcnhenenjblpaa.V

/- A sheet drawn from bytes, and a clean one. -/
namespace Go.Proofs.Ytpcnhenenjblpaa.V
theorem ByArg.long {h : List (Nat × Seg)} {n : Nat} {A : SV} {len : Nat} (hA : ByArg h n A len) : A = .nils ∧ len = 0 ∨ ∃ j o cap, A = .sl j o len cap := by
  rcases hA with h1 | ⟨j, cap, s, rfl, _⟩
  · exact .inl h1
  · exact .inr ⟨j, 0, cap, rfl⟩
theorem ByArg.sl {h : List (Nat × Seg)} {n i : Nat} {A : SV} {len : Nat} (hA : ByArg h n A len) (hi : n ≤ i) (hl : len ≤ 1048576) : BySl h n i A := by
  rcases hA with ⟨rfl, _⟩ | ⟨j, cap, s, rfl, hj, hg, hn, hv⟩
  · exact .inl rfl
  · exact .inr ⟨j, 0, len, cap, s, rfl, hj, by omega, hg, by omega, hl, fun k hk => by rw [Nat.zero_add]; exact hv k hk⟩
theorem ByArg.ok {h : List (Nat × Seg)} {n : Nat} {A : SV} {len : Nat} (hA : ByArg h n A len) : A.ok = True := by
  rcases hA with ⟨rfl, _⟩ | ⟨j, cap, s, rfl, _⟩ <;> rfl
theorem DrawnI.small {W H q : Nat} {S : Sh} (h : DrawnI W H q S) (h1 : 1 ≤ W) (h2 : W ≤ 5) (h3 : 1 ≤ H) (h4 : H ≤ 5) : Small S := by
  have := h.wide; have := h.high; unfold Small; omega
section
variable (cx : Cx) (h : List (Nat × Seg)) (n : Nat)
theorem a2sheet_E (A : SV) (hA : BySl h n n A) (K : HK)
    (hK : ∀ (S : Sh) (W H : Nat) h' n', 1 ≤ W → W ≤ 5 → 1 ≤ H → H ≤ 5 → DrawnI W H (H * W) S → n ≤ n' → HExt n h h' → HOk n' h' → K (.agg 266 (shC S)) h' n') :
    CallE Try.prog cx 6 [A] h n K := by
  have hAo := hA.ok
  refine callE_of_T (P := Try.prog) hti (nt := 6) (rs := [.cell 2 33]) rfl rfl Try.call6 Try.func6 rfl _ (by first | (simp only [go_sem, hAo]; done) | (simp only [go_sem, hAo, hBo]; done)) (Nat.le_of_ble_eq_true rfl) _ fun hok => ?_
  simp only [go_sem, Nat.reduceLT, hAo]
  have ok1 : HOk (n + 1) ((n, ⟨266, shC sh0, true, none⟩) :: h) := hok.consF fun k hk => shC_flat _ _
  have x1 : HExt n h ((n, ⟨266, shC sh0, true, none⟩) :: h) := by simp only [go_sem, HExt_cons]
  have hA1 := hA.up (n' := n + 1) (i' := n + 1) (by omega) x1 (by omega)
  refine callA_false (from_E _ _ _ A hA1.arg _ ok1 ?_)
  simp only [go_sem, Nat.reduceLT]
  refine callA_false (drawn_E _ _ _ (n + 1) A 0 0 (by simp only [go_sem]) (by omega) (hA.up (by omega) (by simp only [go_sem, HExt_cons]) (by omega)) (by omega) _ fun S W H a' d' h' n' w1 w2 w3 w4 hD a1 a2 hm => ?_)
  have hn' := hm.le
  have g0 : hget h' n = some ⟨266, shC sh0, true, none⟩ := hm.x n (by omega) (by omega) _ (by simp only [go_sem])
  have l0 : n < n' := by omega
  simp only [go_sem, Nat.reduceLT, reduceIte, g0, l0]
  refine hK S W H _ n' w1 w2 w3 w4 hD (by omega) ?_ (HOk.hset hm.ok fun k hk => (shC_flat _ _).below _)
  intro j hj t ht
  rw [hget_hset, if_neg (by omega)]
  exact hm.x j (by omega) (by omega) t (by simp only [hget]; rw [if_neg (by omega), if_neg (by omega)]; exact ht)
end
end Go.Proofs.Ytpcnhenenjblpaa.V

/- A brush drawn from bytes. -/
namespace Go.Proofs.Ytpcnhenenjblpaa.V
/-- A brush as it is drawn. -/
def BrD (B : Br) : Prop := (0 ≤ B.a ∧ B.a < 200) ∧ (0 ≤ B.b ∧ B.b < 200) ∧ (0 ≤ B.c ∧ B.c < 200) ∧ B.a + B.b + B.c < 260 ∧ (0 ≤ B.w ∧ B.w < 40) ∧ (1 ≤ B.s ∧ B.s ≤ 16)
theorem BrD.V {B : Br} (h : BrD B) : BrV B := by
  obtain ⟨h1, h2, h3, h4, h5, h6⟩ := h
  refine ⟨⟨?_, ?_, ?_⟩, ?_, ?_, ?_⟩ <;> omega
theorem updB {k : Int} (a b c v : Int) (w s : SV) (h0 : 0 ≤ k) (h3 : k < 3) : upd (cl [.int .i16 a, .int .i16 b, .int .i16 c, w, s]) k.toNat (.int .i16 v) = cl [.int .i16 (if k = 0 then v else a), .int .i16 (if k = 1 then v else b), .int .i16 (if k = 2 then v else c), w, s] := by
  rcases (by omega : k = 0 ∨ k = 1 ∨ k = 2) with rfl | rfl | rfl <;>
  · funext j
    match j with
    | 0 => rfl
    | 1 => rfl
    | 2 => rfl
    | j + 3 => rfl
section
variable (cx : Cx) (h : List (Nat × Seg)) (n : Nat)
set_option maxHeartbeats 1600000 in
theorem brush_E (i : Nat) (A : SV) (a d : Int) (hs : hget h i = some (srcS A a d)) (hi : i < n) (hA : BySl h n i A) (ha : 0 ≤ a ∧ a ≤ 1000) (K : HK)
    (hK : ∀ (B : Br) a' d' h' n', BrD B → SrcM h n i A h' n' a' d' → K (.agg 5 (brC B)) h' n') :
    CallE Try.prog cx 38 [.ptr i 0] h n K := by
  refine CallE.hokE ?_
  refine callE_of_T (P := Try.prog) hti (nt := 29) (rs := [.cell 2 36]) rfl rfl Try.call38 Try.func38 rfl _ (by simp only [go_sem, and_self]) (Nat.le_of_ble_eq_true rfl) _ fun hok => ?_
  simp only [go_sem, Nat.reduceLT]
  have m1 : SrcM h n i A ((n, brS ⟨0, 0, 0, 0, 0⟩) :: h) (n + 1) a d := (SrcM.mk HExtB.rfl (Nat.le_refl _) hs hok).cons hi fun k hk => (brC_flat _ hk).below _
  have r1 : hget ((n, brS ⟨0, 0, 0, 0, 0⟩) :: h) n = some (brS ⟨0, 0, 0, 0, 0⟩) := by simp only [hget, if_true]
  refine callA_false (pick_M _ m1 hi hA 40 (by omega) (by omega) _ fun wv a2 d2 h2 w0 w1 q1 q2 m2 e2 => ?_)
  have r2 := (e2 n (by omega)).trans r1
  have W16 : IntKind.i16.wrap wv = wv := w16 (by omega)
  simp only [go_sem, Nat.reduceLT, W16]
  refine callA_false (pick_M _ m2 hi hA 16 (by omega) (by omega) _ fun sv a3 d3 h3 s0 s1 q3 q4 m3 e3 => ?_)
  have r3 := (e3 n (by omega)).trans r2
  have S64 : IntKind.i64.wrap (1 + sv) = 1 + sv := w64 (by omega)
  have S8 : IntKind.i8.wrap (1 + sv) = 1 + sv := w8 (by omega)
  simp only [go_sem, Nat.reduceLT, Nat.reduceLeDiff, reduceIte, S64, S8]
  have m4 : SrcM h n i A ((n + 1, ⟨5, cl [.int .i16 0, .int .i16 0, .int .i16 0, .int .i16 wv, .int .i8 (1 + sv)], true, none⟩) :: h3) (n + 2) a3 d3 := m3.cons hi fun k hk => (brC_flat ⟨0, 0, 0, wv, 1 + sv⟩ hk).below _
  have r4 : hget ((n + 1, ⟨5, cl [.int .i16 0, .int .i16 0, .int .i16 0, .int .i16 wv, .int .i8 (1 + sv)], true, none⟩) :: h3) n = some (brS ⟨0, 0, 0, 0, 0⟩) := by simp only [hget]; rw [if_neg (by omega)]; exact r3
  have o4 : hget ((n + 1, ⟨5, cl [.int .i16 0, .int .i16 0, .int .i16 0, .int .i16 wv, .int .i8 (1 + sv)], true, none⟩) :: h3) (n + 1) = some ⟨5, cl [.int .i16 0, .int .i16 0, .int .i16 0, .int .i16 wv, .int .i8 (1 + sv)], true, none⟩ := by simp only [hget, if_true]
  refine callA_false (pick_M _ m4 hi hA 3 (by omega) (by omega) _ fun u a5 d5 h5 u0 u1 q5 q6 m5 e5 => ?_)
  have r5 := (e5 n (by omega)).trans r4
  have o5 := (e5 (n + 1) (by omega)).trans o4
  have u3 : u < 3 := by omega
  simp only [go_sem, Nat.reduceLT]
  refine callA_false (pick_M _ m5 hi hA 200 (by omega) (by omega) _ fun v a6 d6 h6 v0 v1 q7 q8 m6 e6 => ?_)
  have r6 := (e6 n (by omega)).trans r5
  have o6 := (e6 (n + 1) (by omega)).trans o5
  have V16 : IntKind.i16.wrap v = v := w16 (by omega)
  have l1 : n + 1 < n + 2 := by omega
  have l0 : n < n + 2 := by omega
  simp only [go_sem, Nat.reduceLT, Nat.reduceLeDiff, Nat.reduceEqDiff, reduceIte, reduceCtorEq, o6, l1, u0, u3, V16, updB]
  refine ⟨by omega, ?_⟩
  have m7 : SrcM h n i A (hset h6 (n + 1) ⟨5, cl [.int .i16 (if u = 0 then v else 0), .int .i16 (if u = 1 then v else 0), .int .i16 (if u = 2 then v else 0), .int .i16 wv, .int .i8 (1 + sv)], true, none⟩) (n + 2) a6 d6 := m6.setN hi (by omega) fun k hk => (brC_flat ⟨if u = 0 then v else 0, if u = 1 then v else 0, if u = 2 then v else 0, wv, 1 + sv⟩ hk).below _
  have r7 : hget (hset h6 (n + 1) ⟨5, cl [.int .i16 (if u = 0 then v else 0), .int .i16 (if u = 1 then v else 0), .int .i16 (if u = 2 then v else 0), .int .i16 wv, .int .i8 (1 + sv)], true, none⟩) n = some (brS ⟨0, 0, 0, 0, 0⟩) := by rw [hget_hset, if_neg (by omega)]; exact r6
  have o7 : hget (hset h6 (n + 1) ⟨5, cl [.int .i16 (if u = 0 then v else 0), .int .i16 (if u = 1 then v else 0), .int .i16 (if u = 2 then v else 0), .int .i16 wv, .int .i8 (1 + sv)], true, none⟩) (n + 1) = some ⟨5, cl [.int .i16 (if u = 0 then v else 0), .int .i16 (if u = 1 then v else 0), .int .i16 (if u = 2 then v else 0), .int .i16 wv, .int .i8 (1 + sv)], true, none⟩ := hget_hset_self o6 _
  refine callA_false (one_M _ m7 hi hA 2 (by omega) (by omega) _ fun b a8 d8 h8 q9 q10 m8 e8 => ?_)
  have r8 := (e8 n (by omega)).trans r7
  have o8 := (e8 (n + 1) (by omega)).trans o7
  have iu : ∀ k : Int, 0 ≤ (if u = k then v else 0) ∧ (if u = k then v else 0) < 200 := fun k => by split <;> omega
  have is : (if u = 0 then v else 0) + (if u = 1 then v else 0) + (if u = 2 then v else 0) < 200 := by split <;> split <;> split <;> omega
  have i0 := iu 0
  have i1 := iu 1
  have i2 := iu 2
  generalize (if u = 0 then v else 0) = va at *
  generalize (if u = 1 then v else 0) = vb at *
  generalize (if u = 2 then v else 0) = vc at *
  cases b
  · simp only [go_sem, Nat.reduceLT, reduceIte, o8, r8, l0, l1]
    exact fun hok' => hK ⟨va, vb, vc, wv, 1 + sv⟩ a8 d8 _ (n + 2) ⟨i0, i1, i2, by show va + vb + vc < 260; omega, by show 0 ≤ wv ∧ wv < 40; omega, by show 1 ≤ 1 + sv ∧ 1 + sv ≤ 16; omega⟩ (m8.setN hi (Nat.le_refl _) fun k hk => (brC_flat ⟨va, vb, vc, wv, 1 + sv⟩ hk).below _)
  simp only [go_sem, Nat.reduceLT]
  refine callA_false (pick_M _ m8 hi hA 3 (by omega) (by omega) _ fun u' a9 d9 h9 u0' u1' q11 q12 m9 e9 => ?_)
  have r9 := (e9 n (by omega)).trans r8
  have o9 := (e9 (n + 1) (by omega)).trans o8
  have u3' : u' < 3 := by omega
  simp only [go_sem, Nat.reduceLT]
  refine callA_false (pick_M _ m9 hi hA 60 (by omega) (by omega) _ fun v' a10 d10 h10 v0' v1' q13 q14 m10 e10 => ?_)
  have r10 := (e10 n (by omega)).trans r9
  have o10 := (e10 (n + 1) (by omega)).trans o9
  have V16' : IntKind.i16.wrap v' = v' := w16 (by omega)
  have hg : ∀ t, hget (hset h10 (n + 1) t) (n + 1) = some t := fun t => hget_hset_self o10 _
  have hg0 : ∀ t, hget (hset h10 (n + 1) t) n = some (brS ⟨0, 0, 0, 0, 0⟩) := fun t => by rw [hget_hset, if_neg (by omega)]; exact r10
  simp only [go_sem, Nat.reduceLT, Nat.reduceLeDiff, Nat.reduceEqDiff, reduceIte, reduceCtorEq, o10, l0, l1, u0', u3', V16', updB, hg, hg0]
  have j0 : 0 ≤ (if u' = 0 then v' else va) ∧ (if u' = 0 then v' else va) < 200 := by split <;> omega
  have j1 : 0 ≤ (if u' = 1 then v' else vb) ∧ (if u' = 1 then v' else vb) < 200 := by split <;> omega
  have j2 : 0 ≤ (if u' = 2 then v' else vc) ∧ (if u' = 2 then v' else vc) < 200 := by split <;> omega
  have js : (if u' = 0 then v' else va) + (if u' = 1 then v' else vb) + (if u' = 2 then v' else vc) < 260 := by split <;> split <;> split <;> omega
  refine ⟨by omega, fun hok' => hK ⟨_, _, _, wv, 1 + sv⟩ a10 d10 _ (n + 2) ⟨j0, j1, j2, js, by show 0 ≤ wv ∧ wv < 40; omega, by show 1 ≤ 1 + sv ∧ 1 + sv ≤ 16; omega⟩ ((m10.setN hi (by omega) fun k hk => (brC_flat ⟨_, _, _, wv, 1 + sv⟩ hk).below _).setN hi (Nat.le_refl _) fun k hk => (brC_flat ⟨_, _, _, wv, 1 + sv⟩ hk).below _)⟩
theorem a2brush_E (A : SV) (hA : BySl h n n A) (K : HK)
    (hK : ∀ (B : Br) h' n', BrD B → n ≤ n' → HExt n h h' → HOk n' h' → K (.agg 5 (brC B)) h' n') :
    CallE Try.prog cx 7 [A] h n K := by
  have hAo := hA.ok
  refine callE_of_T (P := Try.prog) hti (nt := 6) (rs := [.cell 2 36]) rfl rfl Try.call7 Try.func7 rfl _ (by first | (simp only [go_sem, hAo]; done) | (simp only [go_sem, hAo, hBo]; done)) (Nat.le_of_ble_eq_true rfl) _ fun hok => ?_
  simp only [go_sem, Nat.reduceLT, hAo]
  have ok1 : HOk (n + 1) ((n, brS ⟨0, 0, 0, 0, 0⟩) :: h) := hok.consF fun k hk => brC_flat _ hk
  have x1 : HExt n h ((n, brS ⟨0, 0, 0, 0, 0⟩) :: h) := by simp only [go_sem, HExt_cons]
  have hA1 := hA.up (n' := n + 1) (i' := n + 1) (by omega) x1 (by omega)
  refine callA_false (from_E _ _ _ A hA1.arg _ ok1 ?_)
  simp only [go_sem, Nat.reduceLT]
  refine callA_false (brush_E _ _ _ (n + 1) A 0 0 (by simp only [go_sem]) (by omega) (hA.up (by omega) (by simp only [go_sem, HExt_cons]) (by omega)) (by omega) _ fun B a' d' h' n' hB hm => ?_)
  have hn' := hm.le
  have g0 : hget h' n = some (brS ⟨0, 0, 0, 0, 0⟩) := hm.x n (by omega) (by omega) _ (by simp only [go_sem])
  have l0 : n < n' := by omega
  simp only [go_sem, Nat.reduceLT, reduceIte, g0, l0]
  refine hK B _ n' hB (by omega) ?_ (HOk.hset hm.ok fun k hk => (brC_flat _ hk).below _)
  intro j hj t ht
  rw [hget_hset, if_neg (by omega)]
  exact hm.x j (by omega) (by omega) t (by simp only [hget]; rw [if_neg (by omega), if_neg (by omega)]; exact ht)
end
end Go.Proofs.Ytpcnhenenjblpaa.V

/- A path drawn from bytes. -/
namespace Go.Proofs.Ytpcnhenenjblpaa.V
/-- A path as it is drawn. -/
structure PathD (S : Sh) (L : List (Int × Int)) : Prop where
  len : 1 ≤ L.length
  inn : InP S L
  st : StepsP L
theorem PathD.push {S : Sh} {L : List (Int × Int)} (h : PathD S L) {k : Nat} (hk : k < 4) {p : Int × Int} (hp : p = (besideL (L.getD (L.length - 1) (0, 0)).1 (L.getD (L.length - 1) (0, 0)).2).getD k (0, 0)) (hh : hasB S p.1 p.2 = true) : PathD S (L ++ [p]) := by
  have e1 : ∀ q, q < L.length → (L ++ [p]).getD q (0, 0) = L.getD q (0, 0) := fun q hq => by rw [List.getD_eq_getElem?_getD, List.getD_eq_getElem?_getD, List.getElem?_append_left hq]
  have e2 : (L ++ [p]).getD L.length (0, 0) = p := by rw [List.getD_eq_getElem?_getD]; simp
  refine ⟨by simp, fun q hq => ?_, fun q hq => ?_⟩
  · rw [List.length_append, List.length_singleton] at hq
    by_cases h1 : q < L.length
    · rw [e1 q h1]; exact h.inn q h1
    · rw [show q = L.length by omega, e2]; exact hh
  · rw [List.length_append, List.length_singleton] at hq
    by_cases h1 : q + 1 < L.length
    · rw [e1 q (by omega), e1 (q + 1) h1]; exact h.st q h1
    · have := h.len
      rw [show q + 1 = L.length by omega, e2, e1 q (by omega), show q = L.length - 1 by omega]
      exact ⟨k, hk, hp.symm⟩
section
variable (cx : Cx) (h : List (Nat × Seg)) (n : Nat)
set_option maxHeartbeats 1600000 in
theorem a2path_E (A : SV) (S : Sh) (hA : BySl h n n A) (hR : ShR S) (hS : Small S) (K : HK)
    (hK : ∀ V L h' n', PathD S L → L.length ≤ 10 → n ≤ n' → HExt n h h' → HOk n' h' → SpO h' n n' V L → K V h' n') :
    CallE Try.prog cx 8 [A, .agg 266 (shC S)] h n K := by
  have hAo := hA.ok
  refine CallE.hokE ?_
  refine callE_of_SW (P := Try.prog) hti (nt := 49) (rs := [.tmp 4]) rfl rfl Try.call8 Try.func8 rfl _ (by first | (simp only [go_sem, hAo]; done) | (simp only [go_sem, hAo, hBo]; done)) (Nat.le_of_ble_eq_true rfl) _ fun hok => ?_
  refine SW_seq (SW_run hti trivial ?_)
  simp only [go_sem, Nat.reduceLT, hAo]
  refine SW_seq (SW_run hti trivial ?_)
  simp only [go_sem, Nat.reduceLT, hAo]
  have ok1 : HOk (n + 1) ((n, shS S) :: h) := hok.consF fun k hk => shC_flat _ _
  have x1 : HExt n h ((n, shS S) :: h) := by simp only [go_sem, HExt_cons]
  have hA1 := hA.up (n' := n + 1) (i' := n + 1) (by omega) x1 (by omega)
  refine callA_false (from_E _ _ _ A hA1.arg _ ok1 ?_)
  have ok2 : HOk (n + 2) ((n + 1, srcS A 0 0) :: (n, ⟨266, shC S, true, none⟩) :: h) := fun j t ht => by
    simp only [hget] at ht
    split at ht
    · cases ht; exact ⟨by omega, srcS_lt (SV.lt_mono (by omega) _ hA.lt)⟩
    · rename_i e; have := ok1 j t (by simp only [hget]; exact ht); exact ⟨by omega, fun k hk => SV.lt_mono (by omega) _ (this.2 k hk)⟩
  have x2 : HExt n h ((n + 1, srcS A 0 0) :: (n, ⟨266, shC S, true, none⟩) :: h) := by simp only [go_sem, HExt_cons]
  have s2 : hget ((n + 1, srcS A 0 0) :: (n, ⟨266, shC S, true, none⟩) :: h) (n + 1) = some (srcS A 0 0) := by simp only [hget, if_true]
  have g2 : hget ((n + 1, srcS A 0 0) :: (n, ⟨266, shC S, true, none⟩) :: h) n = some ⟨266, shC S, true, none⟩ := by simp only [hget]; rw [if_neg (by omega)]; simp
  have hA2 : BySl ((n + 1, srcS A 0 0) :: (n, ⟨266, shC S, true, none⟩) :: h) (n + 2) (n + 1) A := hA.up (by omega) x2 (by omega)
  have m2 : SrcM ((n + 1, srcS A 0 0) :: (n, ⟨266, shC S, true, none⟩) :: h) (n + 2) (n + 1) A ((n + 1, srcS A 0 0) :: (n, ⟨266, shC S, true, none⟩) :: h) (n + 2) 0 0 := ⟨HExtB.rfl, Nat.le_refl _, s2, ok2⟩
  simp only [go_sem, Nat.reduceLT, hAo]
  refine SW_seq (SW_run hti trivial ?_)
  simp only [go_sem, Nat.reduceLT, Nat.reduceLeDiff, reduceCtorEq, hAo]
  generalize ((n + 1, srcS A 0 0) :: (n, ⟨266, shC S, true, none⟩) :: h) = hb at *
  have hi : n + 1 < n + 2 := by omega
  have hSs := hS
  unfold Small at hSs
  have W64 : IntKind.i64.wrap S.wide = S.wide := w64 (by omega)
  have H64 : IntKind.i64.wrap S.high = S.high := w64 (by omega)
  rw [W64]
  refine callA_false (pick_M _ m2 hi hA2 S.wide (by omega) (by omega) _ fun xv a3 d3 h3 x0 x1' q1 q2 m3 e3 => ?_)
  have g3 := (e3 n (by omega)).trans g2
  have l3 : n < n + 2 := by omega
  have X8 : IntKind.i8.wrap xv = xv := w8 (by omega)
  simp only [go_sem, Nat.reduceLT, g3, l3, X8, H64]
  refine SW_seq (SW_run hti trivial ?_)
  simp only [go_sem, Nat.reduceLT, Nat.reduceLeDiff, reduceCtorEq, g3, l3, X8, H64]
  refine callA_false (pick_M _ m3 hi hA2 S.high (by omega) (by omega) _ fun yv a4 d4 h4 y0 y1' q3 q4 m4 e4 => ?_)
  have g4 := (e4 n (by omega)).trans g3
  have Y8 : IntKind.i8.wrap yv = yv := w8 (by omega)
  simp only [go_sem, Nat.reduceLT, Nat.reduceLeDiff, Nat.reduceMul, Y8]
  refine SW_seq (SW_seq (SW_run hti trivial ?_))
  simp only [go_sem, Nat.reduceLT, Y8]
  have hc2 : ∀ k, k < 2 → (fun j => if j < 2 then cl [SV.int .i8 xv, SV.int .i8 yv] (j - 0) else cl [SV.int .i8 0, SV.int .i8 0] (j % 2)) k = spotsC [(xv, yv)] k := fun k hk => by
    rcases (by omega : k = 0 ∨ k = 1) with rfl | rfl <;> rfl
  have m5 : SrcM hb (n + 2) (n + 1) A ((n + 2, ⟨2, fun j => if j < 2 then cl [SV.int .i8 xv, SV.int .i8 yv] (j - 0) else cl [SV.int .i8 0, SV.int .i8 0] (j % 2), true, some (51, 2)⟩) :: h4) (n + 3) a4 d4 := m4.cons hi fun k hk => by
    have := hc2 k hk
    show (SV.lt _ ((fun j => if j < 2 then cl [SV.int .i8 xv, SV.int .i8 yv] (j - 0) else cl [SV.int .i8 0, SV.int .i8 0] (j % 2)) k))
    rw [this]; exact (spotsC_flat _ _).below _
  have o5 : SpO ((n + 2, ⟨2, fun j => if j < 2 then cl [SV.int .i8 xv, SV.int .i8 yv] (j - 0) else cl [SV.int .i8 0, SV.int .i8 0] (j % 2), true, some (51, 2)⟩) :: h4) (n + 2) (n + 3) (.sl (n + 2) 0 1 1) [(xv, yv)] :=
    ⟨n + 2, 1, ⟨2, fun j => if j < 2 then cl [SV.int .i8 xv, SV.int .i8 yv] (j - 0) else cl [SV.int .i8 0, SV.int .i8 0] (j % 2), true, some (51, 2)⟩, rfl, Nat.le_refl _, by omega, by simp only [hget, if_true], rfl, rfl, rfl, Nat.le_refl _, by decide, fun k hk => hc2 k (by simpa using hk)⟩
  have g5 : hget ((n + 2, ⟨2, fun j => if j < 2 then cl [SV.int .i8 xv, SV.int .i8 yv] (j - 0) else cl [SV.int .i8 0, SV.int .i8 0] (j % 2), true, some (51, 2)⟩) :: h4) n = some ⟨266, shC S, true, none⟩ := by simp only [hget]; rw [if_neg (by omega)]; exact g4
  generalize ((n + 2, (⟨2, fun j => if j < 2 then cl [SV.int .i8 xv, SV.int .i8 yv] (j - 0) else cl [SV.int .i8 0, SV.int .i8 0] (j % 2), true, some (51, 2)⟩ : Seg)) :: h4) = h5 at *
  refine callA_false (pick_M _ m5 hi hA2 10 (by omega) (by omega) _ fun kv a6 d6 h6 k0 k1 q5 q6 m6 e6 => ?_)
  have g6 := (e6 n (by omega)).trans g5
  have o6 : SpO h6 (n + 2) (n + 3) (.sl (n + 2) 0 1 1) [(xv, yv)] := by
    obtain ⟨j, cap, t, t1, t2, t3, t4, t5⟩ := o5
    exact ⟨j, cap, t, t1, t2, t3, (e6 j (by omega)).trans t4, t5⟩
  have hP0 : PathD S [(xv, yv)] := ⟨by simp, fun k hk => by
    have : k = 0 := by simpa using hk
    subst this
    show hasB S xv yv = true
    simp only [hasB, Bool.and_eq_true, decide_eq_true_eq]; omega, fun k hk => by simp at hk⟩
  simp only [go_sem, Nat.reduceLT]
  obtain ⟨kn, rfl⟩ := Int.eq_ofNat_of_zero_le k0
  refine SW_block (SW_lp (ι := { w : Nat × List (Nat × Seg) × Nat × SV × List (Int × Int) × Int × Int // SrcM hb (n + 2) (n + 1) A w.2.1 w.2.2.1 w.2.2.2.2.2.1 w.2.2.2.2.2.2 ∧ SpO w.2.1 (n + 2) w.2.2.1 w.2.2.2.1 w.2.2.2.2.1 ∧ PathD S w.2.2.2.2.1 ∧ w.2.2.2.2.1.length + w.1 ≤ 10 ∧ 0 ≤ w.2.2.2.2.2.1 ∧ w.2.2.2.2.2.1 + w.1 ≤ 20 })
    (fun w => ([(3, .ptr n 0), (5, .ptr (n + 1) 0), (7, w.1.2.2.2.1), (8, .int .i64 w.1.1)], w.1.2.1, w.1.2.2.1)) (fun w => w.1.1) ⟨(kn, h6, n + 3, .sl (n + 2) 0 1 1, [(xv, yv)], a6, d6), m6, o6, hP0, by show 1 + kn ≤ 10; omega, by show 0 ≤ a6; omega, by show a6 + kn ≤ 20; omega⟩ ?_ ?_)
  · refine Imp.id (by show n ≤ n + 3; omega) ?_ (impH.base0 m6.ok (Nat.le_refl _) HExt.rfl)
    simp only [go_sem, Nat.reduceLT]
    (repeat' apply And.intro) <;> first | omega | rfl | trivial | assumption | skip
  rintro ⟨⟨k, hq, nq, V, L, a, d⟩, mq, oq, hP, hLk, ha0, ha1⟩
  simp only at mq oq hP hLk ha0 ha1
  have hVo := oq.sp.ok
  have hnq := mq.le
  have gq : hget hq n = some ⟨266, shC S, true, none⟩ := mq.x n (by omega) (by omega) _ g2
  refine SW_seq (SW_run hti trivial ?_)
  simp only [go_sem, Nat.reduceLT, hVo, decide_eq_true_eq, decide_eq_false_iff_not]
  refine ⟨fun hk => ?_, fun hk => ?_⟩
  rotate_left
  · refine fun hok' => hK V L _ _ hP (by omega) (by omega) ?_ hok' ?_
    · intro j hj t ht
      exact mq.x j (by omega) (by omega) t (x2 j hj t ht)
    · obtain ⟨j, cap, t, t1, t2, t3, t4, t5⟩ := oq
      exact ⟨j, cap, t, t1, by omega, t3, t4, t5⟩
  obtain ⟨jv, capV, sV, rfl, v1, v2, v3, v4, v5, v6, v7, v8, v9⟩ := oq
  obtain ⟨sn, sc, sr, so⟩ := sV
  simp only at v4 v5 v6 v9
  subst v4 v5 v6
  have hl1 := hP.len
  have jn1 : jv ≠ n + 1 := by omega
  have jnq : jv ≠ nq := by omega
  have b0 : IntKind.i64.wrap ((L.length : Int) - 1) = ((L.length - 1 : Nat) : Int) := by rw [w64 (by omega)]; omega
  have b1 : (0 : Int) ≤ ((L.length - 1 : Nat) : Int) ∧ ((L.length - 1 : Nat) : Int) < (L.length : Int) := by omega
  have b2 : (L.length - 1) * 2 ≤ L.length * 2 - 2 := by omega
  have b3 : 2 ≤ L.length * 2 := by omega
  have ex : sc ((L.length - 1) * 2) = .int .i8 (L.getD (L.length - 1) (0, 0)).1 := by rw [v9 _ (by omega), spotsC_x]
  have ey : sc ((L.length - 1) * 2 + 1) = .int .i8 (L.getD (L.length - 1) (0, 0)).2 := by rw [v9 _ (by omega), spotsC_y]
  refine SW_seq (SW_block ?_)
  refine SW_seq (SW_cut hti (ι := { w : List (Nat × Seg) × Nat × Int × Int // w.2.1 < 4 ∧ SrcM hb (n + 2) (n + 1) A w.1 (nq + 1) w.2.2.1 w.2.2.2 ∧ hget w.1 jv = some ⟨L.length * 2, sc, true, some (51, capV * 2)⟩ ∧ hget w.1 n = some ⟨266, shC S, true, none⟩ ∧
      hget w.1 nq = some ⟨2, cl [.int .i8 ((besideL (L.getD (L.length - 1) (0, 0)).1 (L.getD (L.length - 1) (0, 0)).2).getD w.2.1 (0, 0)).1, .int .i8 ((besideL (L.getD (L.length - 1) (0, 0)).1 (L.getD (L.length - 1) (0, 0)).2).getD w.2.1 (0, 0)).2], true, none⟩ ∧ a ≤ w.2.2.1 ∧ w.2.2.1 ≤ a + 1 })
    (fun w => ([(3, .ptr n 0), (5, .ptr (n + 1) 0), (7, .sl jv 0 L.length capV), (8, .int .i64 k), (9, .ptr nq 0)], w.1.1, nq + 1)) trivial ?_ ?_)
  · refine T_drawG hti 11 [5, 7, 10] (.b 0 0 (.b 0 1 (.b 0 2 (.b 0 3 (.b 0 4 (.b 0 6 (.b 4 5 (.b 4 7 (.b 2 8 (.b 2 9 (.b 4 10 (.f) .o) .o) (.b 2 9 (.b 2 8 (.b 4 10 (.f) .o) .o) .o)) (.b 2 9 (.b 4 7 (.b 2 8 (.b 4 10 (.f) .o) .o) .o) .o)) (.b 4 7 (.b 4 5 (.b 2 8 (.b 2 9 (.b 4 10 (.f) .o) .o) (.b 2 9 (.b 2 8 (.b 4 10 (.f) .o) .o) .o)) (.b 2 9 (.b 4 5 (.b 2 8 (.b 4 10 (.f) .o) .o) .o) .o)) (.b 2 9 (.b 4 5 (.b 4 7 (.b 2 8 (.b 4 10 (.f) .o) .o) .o) (.b 4 7 (.b 4 5 (.b 2 8 (.b 4 10 (.f) .o) .o) .o) .o)) .o))) .o) .o) .o) .o) .o) .o) _ _ (by kernel_rfl) (by kernel_rfl) ?_
    simp only [go_sem, Nat.reduceLT, v3, v2, b0, b1, b2, b3, Int.toNat_natCast, ex, ey]
    (repeat' (with_reducible refine And.intro ?_ ?_))
    all_goals (try omega)
    all_goals
      first
        | refine callA_false (pick_M _ mq hi hA2 4 (by omega) (by omega) _ fun u a1 d1 g u0 u1 q7 q8 mg eg => ?_)
          have gv := (eg jv jn1).trans v3
          have gn := (eg n (by omega)).trans gq
          have mf : ∀ un : Nat, SrcM hb (n + 2) (n + 1) A ((nq, ⟨2, cl [.int .i8 ((besideL (L.getD (L.length - 1) (0, 0)).1 (L.getD (L.length - 1) (0, 0)).2).getD un (0, 0)).1, .int .i8 ((besideL (L.getD (L.length - 1) (0, 0)).1 (L.getD (L.length - 1) (0, 0)).2).getD un (0, 0)).2], true, none⟩) :: g) (nq + 1) a1 d1 := fun un => mg.cons hi fun k hk => (pair_flat _ _ hk).below _
          obtain ⟨un, rfl⟩ := Int.eq_ofNat_of_zero_le u0
          have un4 : un < 4 := by omega
          simp only [go_sem, Nat.reduceLT, gv, v2, b0, b1, b2, b3, Int.toNat_natCast, ex, ey]
          (repeat' (with_reducible refine And.intro ?_ ?_))
          all_goals (try omega)
          all_goals
            refine (next_Q _ _ _ _ _ un un4).A ?_
            simp only [go_sem, Nat.reduceLT, reduceIte, gv, v2, b0, b1, b2, b3, Int.toNat_natCast, ex, ey]
            (repeat' (with_reducible refine And.intro ?_ ?_))
          all_goals (try omega)
          all_goals
            refine ⟨⟨(_, un, a1, d1), un4, mf un, by simp only [hget]; rw [if_neg (by omega)]; exact gv, by simp only [hget]; rw [if_neg (by omega)]; exact gn, by simp only [hget, if_true], q7, q8⟩, ?_⟩
            refine Imp.id (by show n ≤ nq + 1; omega) ?_ (impH.base0 (mf un).ok (Nat.le_refl _) HExt.rfl)
            simp only [go_sem, Nat.reduceLT, v2]
            (repeat' apply And.intro) <;> first | omega | rfl | trivial | assumption | skip
        | refine callA_false (pick_M _ (mq.cons (s := ⟨2, cl [SV.int .i8 0, SV.int .i8 0], true, none⟩) hi fun k hk => (pair_flat _ _ hk).below _) hi hA2 4 (by omega) (by omega) _ fun u a1 d1 g u0 u1 q7 q8 mg eg => ?_)
          have gv : hget g jv = _ := (eg jv jn1).trans ((by simp only [hget]; rw [if_neg (by omega)]) : hget _ jv = hget hq jv)
          rw [v3] at gv
          have gn : hget g n = _ := (eg n (by omega)).trans ((by simp only [hget]; rw [if_neg (by omega)]) : hget _ n = hget hq n)
          rw [gq] at gn
          have gz : hget g nq = some ⟨2, cl [SV.int .i8 0, SV.int .i8 0], true, none⟩ := (eg nq (by omega)).trans (by simp only [hget, if_true])
          have jl : jv < nq + 1 := by omega
          have nl : nq < nq + 1 := by omega
          have mf : ∀ un : Nat, SrcM hb (n + 2) (n + 1) A (hset g nq ⟨2, cl [.int .i8 ((besideL (L.getD (L.length - 1) (0, 0)).1 (L.getD (L.length - 1) (0, 0)).2).getD un (0, 0)).1, .int .i8 ((besideL (L.getD (L.length - 1) (0, 0)).1 (L.getD (L.length - 1) (0, 0)).2).getD un (0, 0)).2], true, none⟩) (nq + 1) a1 d1 := fun un => mg.setN hi (by omega) fun k hk => (pair_flat _ _ hk).below _
          obtain ⟨un, rfl⟩ := Int.eq_ofNat_of_zero_le u0
          have un4 : un < 4 := by omega
          simp only [go_sem, Nat.reduceLT, gv, gz, v2, jl, nl, b0, b1, b2, b3, Int.toNat_natCast, ex, ey]
          (repeat' (with_reducible refine And.intro ?_ ?_))
          all_goals (try omega)
          all_goals
            refine (next_Q _ _ _ _ _ un un4).A ?_
            simp only [go_sem, Nat.reduceLT, reduceIte, gv, gz, v2, jl, nl, b0, b1, b2, b3, Int.toNat_natCast, ex, ey]
            (repeat' (with_reducible refine And.intro ?_ ?_))
          all_goals (try omega)
          all_goals
            refine ⟨⟨(_, un, a1, d1), un4, mf un, by rw [hget_hset, if_neg (by omega)]; exact gv, by rw [hget_hset, if_neg (by omega)]; exact gn, hget_hset_self gz _, q7, q8⟩, ?_⟩
            refine Imp.id (by show n ≤ nq + 1; omega) ?_ (impH.base0 (mf un).ok (Nat.le_refl _) HExt.rfl)
            simp only [go_sem, Nat.reduceLT, v2]
            (repeat' apply And.intro) <;> first | omega | rfl | trivial | assumption | skip
  rintro ⟨⟨hr, un, a1, d1⟩, un4, mr, gv, gn, gp, q7, q8⟩
  simp only at un4 mr gv gn gp q7 q8
  have hpb := beside_in (x := (L.getD (L.length - 1) (0, 0)).1) (y := (L.getD (L.length - 1) (0, 0)).2) (by
    have := hP.inn (L.length - 1) (by omega)
    have := hasB_in hS this; omega) (by
    have := hP.inn (L.length - 1) (by omega)
    have := hasB_in hS this; omega) un
  have hpush : hasB S _ _ = true → PathD S (L ++ [_]) := hP.push un4 rfl
  have ln : n < nq + 1 := by omega
  have lnq : nq < nq + 1 := by omega
  have ljv : jv < nq + 1 := by omega
  refine SW_run hti trivial ?_
  simp only [go_sem, Nat.reduceLT, gp, lnq]
  generalize (besideL (L.getD (L.length - 1) (0, 0)).1 (L.getD (L.length - 1) (0, 0)).2).getD un (0, 0) = P at *
  refine (is_Q _ _ _ n 0 _ S P.1 P.2 gn (by omega) (shAt_shC hR) hpb.1 hpb.2).A ?_
  have kw : IntKind.i64.wrap ((k : Int) - 1) = ((k - 1 : Nat) : Int) := by rw [w64 (by omega)]; omega
  cases hh : hasB S P.1 P.2
  · simp only [go_sem, kw]
    refine SW_inBlock (SW_run hti trivial ?_)
    simp only [go_sem, Nat.reduceLT, kw]
    refine SW_inv ⟨⟨(k - 1, hr, nq + 1, .sl jv 0 L.length capV, L, a1, d1), mr, ⟨jv, capV, _, rfl, v1, ljv, gv, rfl, rfl, rfl, v7, v8, v9⟩, hP, by show L.length + (k - 1) ≤ 10; omega, by show 0 ≤ a1; omega, by show a1 + ((k - 1 : Nat) : Int) ≤ 20; omega⟩, by show k - 1 < k; omega, ?_⟩
    refine Imp.id (by show n ≤ nq + 1; omega) ?_ (impH.base0 mr.ok (Nat.le_refl _) HExt.rfl)
    simp only [go_sem, Nat.reduceLT, ljv]
    (repeat' apply And.intro) <;> first | omega | rfl | trivial | assumption | skip
  · have jn2 : nq + 1 ≠ jv := by omega
    simp only [go_sem, Nat.reduceLT, Nat.reduceLeDiff, Nat.reduceMul, Nat.reduceSub, Nat.reduceMod, reduceIte, gp, lnq, gv, ljv, jn2, ↓mr.ok.del (Nat.le_refl _)]
    refine ⟨⟨v7, v8, by omega⟩, fun cap' m1 m2 => ?_⟩
    obtain ⟨okM, exM, spM⟩ := app1 (h := hr) (hq := hr) (n := n + 2) (nq := nq + 1) (jv := jv) (a := P) (w := some (51, 2)) (c1 := fun j => if j < 2 then cl [SV.int .i8 P.1, SV.int .i8 P.2] (j - 0) else cl [SV.int .i8 0, SV.int .i8 0] (j % 2)) (by omega) mr.ok HExt.rfl v1 rfl rfl v9 m1 m2
    refine SW_inBlock (SW_run hti trivial ?_)
    simp only [go_sem, Nat.reduceLT, kw]
    refine SW_inv ⟨⟨(k - 1, _, nq + 3, .sl (nq + 2) 0 (L.length + 1) cap', L ++ [P], a1, d1), ⟨?_, by show n + 2 ≤ nq + 3; omega, exM (n + 1) (by omega) _ mr.src, okM⟩, spM, hpush hh, by show (L ++ [P]).length + (k - 1) ≤ 10; rw [List.length_append, List.length_singleton]; omega, by show 0 ≤ a1; omega, by show a1 + ((k - 1 : Nat) : Int) ≤ 20; omega⟩, by show k - 1 < k; omega, ?_⟩
    · intro j hj hji t ht
      exact exM j hj t (mr.x j hj hji t ht)
    · refine Imp.id (by show n ≤ nq + 3; omega) ?_ (impH.base0 okM (Nat.le_refl _) HExt.rfl)
      simp only [go_sem, Nat.reduceLT]
      (repeat' apply And.intro) <;> first | omega | rfl | trivial | assumption | skip
end
end Go.Proofs.Ytpcnhenenjblpaa.V

/- Brushes mixed, rinsed, dipped; equal numbers: the walks, where all is valid. -/
namespace Go.Proofs.Ytpcnhenenjblpaa.V
/-- Two brushes that share what they have. -/
def mixU (A B : Br) : Br := ⟨(A.a + B.a + 1) / 2, (A.b + B.b + 1) / 2, (A.c + B.c + 1) / 2, (A.w + B.w + 1) / 2, A.s⟩
def mixL (A B : Br) : Br := ⟨(A.a + B.a) / 2, (A.b + B.b) / 2, (A.c + B.c) / 2, (A.w + B.w) / 2, B.s⟩
theorem td2 {x : Int} (h : 0 ≤ x) : x.tdiv 2 = x / 2 := Int.tdiv_eq_ediv_of_nonneg h
section
variable (cx : Cx) (h : List (Nat × Seg)) (n : Nat)
theorem mixS_E (i j oi oj : Nat) (ci cj : Nat → SV) (x y : Int) (hi : hget h i = some ⟨5, ci, true, none⟩) (hj : hget h j = some ⟨5, cj, true, none⟩) (hin : i < n) (hjn : j < n) (hij : (i == j) = false) (hoi : oi + 1 ≤ 5) (hoj : oj + 1 ≤ 5)
    (ex : ci oi = .int .i16 x) (ey : cj oj = .int .i16 y) (hx : 0 ≤ x ∧ x ≤ 1000) (hy : 0 ≤ y ∧ y ≤ 1000) (K : HK)
    (hK : K (.tup 0 (cl [])) (hset (hset h i ⟨5, upd ci oi (.int .i16 ((x + y + 1) / 2)), true, none⟩) j ⟨5, upd cj oj (.int .i16 ((x + y) / 2)), true, none⟩) n) :
    CallE Try.prog cx 65 [.ptr i oi, .ptr j oj] h n K := by
  have e1 : x + y - (x + y).tdiv 2 = (x + y + 1) / 2 := by rw [td2 (by omega)]; omega
  have e2 : (x + y).tdiv 2 = (x + y) / 2 := td2 (by omega)
  have hne : i ≠ j := by simpa using hij
  have hji : (j == i) = false := by simp; omega
  have l1 : oi ≤ 4 := by omega
  have l2 : oj ≤ 4 := by omega
  have w0 : IntKind.i16.wrap (x + y) = x + y := w16 (by omega)
  have w1 : IntKind.i16.wrap ((x + y) / 2) = (x + y) / 2 := w16 (by omega)
  have w2 : IntKind.i16.wrap (x + y - (x + y) / 2) = (x + y + 1) / 2 := by rw [w16 (by omega)]; omega
  refine callE_of_T (P := Try.prog) hti (nt := 22) (rs := []) rfl rfl Try.call65 Try.func65 rfl _ (by simp only [go_sem, and_self]) (Nat.le_of_ble_eq_true rfl) _ fun hok => ?_
  simp only [go_sem]
  refine T_draw hti _ _ (by kernel_rfl) (by kernel_rfl) ?_
  simp only [go_sem, Nat.reduceLT, Nat.reduceEqDiff, reduceIte, Int.reduceEq, hi, hj, hin, hjn, hij, hji, ex, ey, hoi, hoj, l1, l2, w0, e2, w1, w2]
  exact hK
variable (A B : Br) (hA : (0 ≤ A.a ∧ A.a ≤ 260) ∧ (0 ≤ A.b ∧ A.b ≤ 260) ∧ (0 ≤ A.c ∧ A.c ≤ 260) ∧ A.a + A.b + A.c ≤ 260 ∧ (0 ≤ A.w ∧ A.w ≤ 100) ∧ (1 ≤ A.s ∧ A.s ≤ 16))
  (hB : (0 ≤ B.a ∧ B.a ≤ 260) ∧ (0 ≤ B.b ∧ B.b ≤ 260) ∧ (0 ≤ B.c ∧ B.c ≤ 260) ∧ B.a + B.b + B.c ≤ 260 ∧ (0 ≤ B.w ∧ B.w ≤ 100) ∧ (1 ≤ B.s ∧ B.s ≤ 16))
include hA hB
theorem mixU_V : BrV A ∧ BrV B ∧ BrV (mixU A B) ∧ BrV (mixL A B) := by
  obtain ⟨a1, a2, a3, a4, a5, a6⟩ := hA
  obtain ⟨b1, b2, b3, b4, b5, b6⟩ := hB
  unfold BrV mixU mixL
  refine ⟨⟨⟨?_, ?_, ?_⟩, ?_, ?_, ?_⟩, ⟨⟨?_, ?_, ?_⟩, ?_, ?_, ?_⟩, ⟨⟨?_, ?_, ?_⟩, ?_, ?_, ?_⟩, ⟨⟨?_, ?_, ?_⟩, ?_, ?_, ?_⟩⟩ <;> first | omega | (simp only; omega)
theorem mix_Q : CallQ Try.prog cx 20 [.agg 5 (brC A), .agg 5 (brC B)] h n (.tup 3 (cl [.agg 5 (brC (mixU A B)), .agg 5 (brC (mixL A B)), .int .i64 0])) := by
  obtain ⟨vA, vB, vU, vL⟩ := mixU_V A B hA hB
  obtain ⟨a1, a2, a3, a4, a5, a6⟩ := hA
  obtain ⟨b1, b2, b3, b4, b5, b6⟩ := hB
  refine callQ_of_T (P := Try.prog) hti (nt := 47) (rs := [.cell 4 36, .cell 5 36, .tmp 6]) rfl rfl Try.call20 Try.func20 rfl _ (by simp only [go_sem, and_self]) (Nat.le_of_ble_eq_true rfl) _ (by rw [lt_tup3]; exact ⟨brC_lt _ _, brC_lt _ _, trivial⟩) fun hok => ?_
  simp only [go_sem, Nat.reduceLT]
  refine (validBrush_Q _ _ _ A vA.R).A ?_
  rw [decide_eq_true vA]
  simp only [go_sem, Nat.reduceLT]
  refine (validBrush_Q _ _ _ B vB.R).A ?_
  rw [decide_eq_true vB]
  simp only [go_sem, Nat.reduceLT]
  refine T_unroll 3 ?_
  simp only [go_sem, Nat.reduceLT, Int.reduceLT]
  refine T_drawG hti 8 [7] (.b 0 0 (.b 0 1 (.b 0 2 (.b 0 3 (.b 0 4 (.b 0 5 (.b 0 6 (.b 4 7 (.f) .o) .o) .o) .o) .o) .o) .o) .o) _ _ (by kernel_rfl) (by kernel_rfl) ?_
  simp only [go_sem, Nat.reduceLT, Int.reduceToNat, reduceCtorEq, Int.reduceLE, Int.reduceLT]
  refine callA_false (mixS_E _ _ _ n (n + 1) 0 0 _ _ A.a B.a (by first | (simp only [go_sem]; done) | (simp only [go_sem]; rfl)) (by first | (simp only [go_sem, Nat.reduceLT]; done) | (simp only [go_sem, Nat.reduceLT]; rfl)) (by omega) (by omega) (by simp only [go_sem]) (by omega) (by omega) rfl rfl (by omega) (by omega) _ ?_)
  simp only [go_sem, Nat.reduceLT, Int.reduceLE, Int.reduceLT, Int.reduceNeg, Int.reduceAdd]
  refine U_step ?_
  simp only [go_sem, Nat.reduceLT, Int.reduceLT]
  refine T_drawG hti 8 [7] (.b 0 0 (.b 0 1 (.b 0 2 (.b 0 3 (.b 0 4 (.b 0 5 (.b 0 6 (.b 4 7 (.f) .o) .o) .o) .o) .o) .o) .o) .o) _ _ (by kernel_rfl) (by kernel_rfl) ?_
  simp only [go_sem, Nat.reduceLT, Int.reduceToNat, reduceCtorEq, Int.reduceLE, Int.reduceLT]
  refine callA_false (mixS_E _ _ _ n (n + 1) 1 1 _ _ A.b B.b (by first | (simp only [go_sem]; done) | (simp only [go_sem]; rfl)) (by first | (simp only [go_sem, Nat.reduceLT]; done) | (simp only [go_sem, Nat.reduceLT]; rfl)) (by omega) (by omega) (by simp only [go_sem]) (by omega) (by omega) rfl rfl (by omega) (by omega) _ ?_)
  simp only [go_sem, Nat.reduceLT, Int.reduceLE, Int.reduceLT, Int.reduceNeg, Int.reduceAdd]
  refine U_step ?_
  simp only [go_sem, Nat.reduceLT, Int.reduceLT]
  refine T_drawG hti 8 [7] (.b 0 0 (.b 0 1 (.b 0 2 (.b 0 3 (.b 0 4 (.b 0 5 (.b 0 6 (.b 4 7 (.f) .o) .o) .o) .o) .o) .o) .o) .o) _ _ (by kernel_rfl) (by kernel_rfl) ?_
  simp only [go_sem, Nat.reduceLT, Int.reduceToNat, reduceCtorEq, Int.reduceLE, Int.reduceLT]
  refine callA_false (mixS_E _ _ _ n (n + 1) 2 2 _ _ A.c B.c (by first | (simp only [go_sem]; done) | (simp only [go_sem]; rfl)) (by first | (simp only [go_sem, Nat.reduceLT]; done) | (simp only [go_sem, Nat.reduceLT]; rfl)) (by omega) (by omega) (by simp only [go_sem]) (by omega) (by omega) rfl rfl (by omega) (by omega) _ ?_)
  simp only [go_sem, Nat.reduceLT, Int.reduceLE, Int.reduceLT, Int.reduceNeg, Int.reduceAdd]
  refine U_step ?_
  simp only [go_sem, Nat.reduceLT, reduceCtorEq, Int.reduceLT]
  refine callA_false (mixS_E _ _ _ n (n + 1) 3 3 _ _ A.w B.w (by first | (simp only [go_sem]; done) | (simp only [go_sem]; rfl)) (by first | (simp only [go_sem, Nat.reduceLT]; done) | (simp only [go_sem, Nat.reduceLT]; rfl)) (by omega) (by omega) (by simp only [go_sem]) (by omega) (by omega) rfl rfl (by omega) (by omega) _ ?_)
  simp only [go_sem, Nat.reduceLT]
  refine (validBrush_Q _ _ _ (mixU A B) vU.R).A ?_
  rw [decide_eq_true vU]
  simp only [go_sem, Nat.reduceLT]
  refine (validBrush_Q _ _ _ (mixL A B) vL.R).A ?_
  rw [decide_eq_true vL]
  simp only [go_sem, Nat.reduceLT]
  refine T_drawG hti 5 [2, 3] (.b 0 0 (.b 2 1 (.b 4 2 (.b 4 3 (.b 0 4 (.f) .o) .o) .o) (.b 4 2 (.b 2 1 (.b 4 3 (.b 0 4 (.f) .o) .o) .o) .o)) .o) _ _ (by kernel_rfl) (by kernel_rfl) ?_
  simp only [go_sem, Nat.reduceLT, reduceIte]
  rfl
theorem mix2_Q : CallQ Try.prog cx 21 [.agg 5 (brC A), .agg 5 (brC B)] h n (.tup 3 (cl [.agg 5 (brC (mixU A B)), .agg 5 (brC (mixL A B)), .int .i64 0])) := by
  obtain ⟨vA, vB, vU, vL⟩ := mixU_V A B hA hB
  obtain ⟨a1, a2, a3, a4, a5, a6⟩ := hA
  obtain ⟨b1, b2, b3, b4, b5, b6⟩ := hB
  have sa : IntKind.i16.wrap (A.a + B.a) = A.a + B.a := w16 (by omega)
  have ta : IntKind.i16.wrap (A.a + B.a + 1) = A.a + B.a + 1 := w16 (by omega)
  have da : (A.a + B.a + 1).tdiv 2 = (A.a + B.a + 1) / 2 := td2 (by omega)
  have ea : (A.a + B.a).tdiv 2 = (A.a + B.a) / 2 := td2 (by omega)
  have ua : IntKind.i16.wrap ((A.a + B.a + 1) / 2) = (A.a + B.a + 1) / 2 := w16 (by omega)
  have la : IntKind.i16.wrap ((A.a + B.a) / 2) = (A.a + B.a) / 2 := w16 (by omega)
  have sb : IntKind.i16.wrap (A.b + B.b) = A.b + B.b := w16 (by omega)
  have tb : IntKind.i16.wrap (A.b + B.b + 1) = A.b + B.b + 1 := w16 (by omega)
  have db : (A.b + B.b + 1).tdiv 2 = (A.b + B.b + 1) / 2 := td2 (by omega)
  have eb : (A.b + B.b).tdiv 2 = (A.b + B.b) / 2 := td2 (by omega)
  have ub : IntKind.i16.wrap ((A.b + B.b + 1) / 2) = (A.b + B.b + 1) / 2 := w16 (by omega)
  have lb : IntKind.i16.wrap ((A.b + B.b) / 2) = (A.b + B.b) / 2 := w16 (by omega)
  have sc : IntKind.i16.wrap (A.c + B.c) = A.c + B.c := w16 (by omega)
  have tc : IntKind.i16.wrap (A.c + B.c + 1) = A.c + B.c + 1 := w16 (by omega)
  have dc : (A.c + B.c + 1).tdiv 2 = (A.c + B.c + 1) / 2 := td2 (by omega)
  have ec : (A.c + B.c).tdiv 2 = (A.c + B.c) / 2 := td2 (by omega)
  have uc : IntKind.i16.wrap ((A.c + B.c + 1) / 2) = (A.c + B.c + 1) / 2 := w16 (by omega)
  have lc : IntKind.i16.wrap ((A.c + B.c) / 2) = (A.c + B.c) / 2 := w16 (by omega)
  have sw : IntKind.i16.wrap (A.w + B.w) = A.w + B.w := w16 (by omega)
  have tw : IntKind.i16.wrap (A.w + B.w + 1) = A.w + B.w + 1 := w16 (by omega)
  have dw : (A.w + B.w + 1).tdiv 2 = (A.w + B.w + 1) / 2 := td2 (by omega)
  have ew : (A.w + B.w).tdiv 2 = (A.w + B.w) / 2 := td2 (by omega)
  have uw : IntKind.i16.wrap ((A.w + B.w + 1) / 2) = (A.w + B.w + 1) / 2 := w16 (by omega)
  have lw : IntKind.i16.wrap ((A.w + B.w) / 2) = (A.w + B.w) / 2 := w16 (by omega)
  refine callQ_of_T (P := Try.prog) hti (nt := 64) (rs := [.cell 4 36, .cell 5 36, .tmp 6]) rfl rfl Try.call21 Try.func21 rfl _ (by simp only [go_sem, and_self]) (Nat.le_of_ble_eq_true rfl) _ (by rw [lt_tup3]; exact ⟨brC_lt _ _, brC_lt _ _, trivial⟩) fun hok => ?_
  simp only [go_sem, Nat.reduceLT]
  refine (ok4_Q _ _ _ n A (by simp only [go_sem]) (by omega) vA.R).A ?_
  rw [decide_eq_true vA]
  simp only [go_sem, Nat.reduceLT]
  refine (ok4_Q _ _ _ (n + 1) B (by simp only [go_sem, Nat.reduceLT]) (by omega) vB.R).A ?_
  rw [decide_eq_true vB]
  simp only [go_sem, Nat.reduceLT]
  refine T_unroll 3 ?_
  simp only [go_sem, Nat.reduceLT, Int.reduceLT]
  refine T_draw hti _ _ (by kernel_rfl) (by kernel_rfl) ?_
  simp only [go_sem, Nat.reduceLT, Nat.reduceLeDiff, Nat.reduceEqDiff, Int.reduceToNat, reduceIte, reduceCtorEq, Int.reduceLE, Int.reduceLT, Int.reduceEq, Int.reduceNeg, Int.reduceAdd, sa, ta, da, ea, ua, la]
  refine U_step ?_
  simp only [go_sem, Nat.reduceLT, Int.reduceLT]
  refine T_draw hti _ _ (by kernel_rfl) (by kernel_rfl) ?_
  simp only [go_sem, Nat.reduceLT, Nat.reduceLeDiff, Nat.reduceEqDiff, Int.reduceToNat, reduceIte, reduceCtorEq, Int.reduceLE, Int.reduceLT, Int.reduceEq, Int.reduceNeg, Int.reduceAdd, sb, tb, db, eb, ub, lb]
  refine U_step ?_
  simp only [go_sem, Nat.reduceLT, Int.reduceLT]
  refine T_draw hti _ _ (by kernel_rfl) (by kernel_rfl) ?_
  simp only [go_sem, Nat.reduceLT, Nat.reduceLeDiff, Nat.reduceEqDiff, Int.reduceToNat, reduceIte, reduceCtorEq, Int.reduceLE, Int.reduceLT, Int.reduceEq, Int.reduceNeg, Int.reduceAdd, sc, tc, dc, ec, uc, lc]
  refine U_step ?_
  simp only [go_sem, Nat.reduceLT, Nat.reduceLeDiff, Nat.reduceEqDiff, reduceIte, reduceCtorEq, Int.reduceLT, Int.reduceEq, sw, tw, dw, ew, uw, lw]
  refine (ok4_Q _ _ _ n (mixU A B) (by simp only [go_sem, mixU]) (by omega) vU.R).A ?_
  rw [decide_eq_true vU]
  simp only [go_sem, Nat.reduceLT]
  refine (ok4_Q _ _ _ (n + 1) (mixL A B) (by simp only [go_sem, Nat.reduceLT, mixL]) (by omega) vL.R).A ?_
  rw [decide_eq_true vL]
  simp only [go_sem, Nat.reduceLT]
  refine T_drawG hti 5 [2, 3] (.b 0 0 (.b 2 1 (.b 4 2 (.b 4 3 (.b 0 4 (.f) .o) .o) .o) (.b 4 2 (.b 2 1 (.b 4 3 (.b 0 4 (.f) .o) .o) .o) .o)) .o) _ _ (by kernel_rfl) (by kernel_rfl) ?_
  simp only [go_sem, Nat.reduceLT, reduceIte]
  rfl
end
section
variable (cx : Cx) (h : List (Nat × Seg)) (n : Nat)
theorem rinse_Q (B : Br) (hb : BrV B) : CallQ Try.prog cx 22 [.agg 5 (brC B)] h n (.tup 3 (cl [.agg 5 (brC ⟨0, 0, 0, 0, B.s⟩), .agg 3 (cl [.int .i64 B.a, .int .i64 B.b, .int .i64 B.c]), .int .i64 0])) := by
  have ha := hb.R.a; have hb' := hb.R.b; have hc := hb.R.c
  refine callQ_of_T (P := Try.prog) hti (nt := 28) (rs := [.cell 2 36, .cell 3 57, .tmp 4]) rfl rfl Try.call22 Try.func22 rfl _ (by simp only [go_sem, and_self]) (Nat.le_of_ble_eq_true rfl) _ (by rw [lt_tup3]; exact ⟨brC_lt _ _, lt_flat rfl (by simp [SV.flat]), trivial⟩) fun hok => ?_
  simp only [go_sem, Nat.reduceLT]
  refine (validBrush_Q _ _ _ B hb.R).A ?_
  rw [decide_eq_true hb]
  simp only [go_sem, Nat.reduceLT, Nat.reduceLeDiff, Int.reduceToNat, reduceIte, reduceCtorEq, Int.reduceLE, Int.reduceLT, w64 (n := B.a) (by omega), w64 (n := B.b) (by omega), w64 (n := B.c) (by omega)]
  refine T_drawG hti 7 [4, 5] (.b 0 0 (.b 0 1 (.b 0 2 (.b 2 3 (.b 4 4 (.b 4 5 (.b 0 6 (.f) .o) .o) .o) (.b 4 4 (.b 2 3 (.b 4 5 (.b 0 6 (.f) .o) .o) .o) .o)) .o) .o) .o) _ _ (by kernel_rfl) (by kernel_rfl) ?_
  simp only [go_sem, Nat.reduceLT, reduceIte, reduceCtorEq]
  done
theorem dip_Q (s ink amount water : Int) (hs : 1 ≤ s ∧ s ≤ 16) (h0 : 0 ≤ ink) (h3 : ink < 3) (ha : 0 ≤ amount ∧ amount ≤ 900) (hw : 0 ≤ water ∧ water ≤ 200) :
    CallQ Try.prog cx 24 [.agg 5 (brC ⟨0, 0, 0, 0, s⟩), .int .i64 ink, .int .i64 amount, .int .i64 water] h n
      (.tup 2 (cl [.agg 5 (brC ⟨if ink = 0 then amount else 0, if ink = 1 then amount else 0, if ink = 2 then amount else 0, water, s⟩), .int .i64 0])) := by
  have v0 : BrV ⟨0, 0, 0, 0, s⟩ := ⟨⟨by show (0 : Int) ≤ 0 ∧ (0 : Int) ≤ 900; decide, by show (0 : Int) ≤ 0 ∧ (0 : Int) ≤ 900; decide, by show (0 : Int) ≤ 0 ∧ (0 : Int) ≤ 900; decide⟩, by show (0 : Int) + 0 + 0 ≤ 900; decide, by show (0 : Int) ≤ 0 ∧ (0 : Int) ≤ 200; decide, hs⟩
  have v1 : BrV ⟨if ink = 0 then amount else 0, if ink = 1 then amount else 0, if ink = 2 then amount else 0, water, s⟩ := by
    rcases (by omega : ink = 0 ∨ ink = 1 ∨ ink = 2) with rfl | rfl | rfl <;> (unfold BrV; simp; omega)
  have i3 : (0 : Int) ≤ ink ∧ ink ≤ 2 := by omega
  have w1 : IntKind.i16.wrap amount = amount := w16 (by omega)
  have w2 : IntKind.i16.wrap water = water := w16 (by omega)
  have l1 : ink.toNat ≤ 4 := by omega
  refine callQ_of_T (P := Try.prog) hti (nt := 50) (rs := [.cell 8 36, .tmp 9]) rfl rfl Try.call24 Try.func24 rfl _ (by simp only [go_sem, and_self]) (Nat.le_of_ble_eq_true rfl) _ (by rw [lt_tup2]; exact ⟨brC_lt _ _, trivial⟩) fun hok => ?_
  simp only [go_sem, Nat.reduceLT]
  refine (validBrush_Q _ _ _ ⟨0, 0, 0, 0, s⟩ v0.R).A ?_
  rw [decide_eq_true v0]
  simp only [go_sem, Nat.reduceLT]
  refine (isInk_Q _ _ _ ink).A ?_
  simp only [go_sem, Nat.reduceLT, i3]
  refine (within_Q _ _ _ _ _ _).A ?_
  simp only [go_sem, Nat.reduceLT, ha]
  refine (within_Q _ _ _ _ _ _).A ?_
  have z3 : cl [SV.int .i16 0, SV.int .i16 0, SV.int .i16 0, SV.int .i16 0, SV.int .i8 s] ink.toNat = .int .i16 0 := by
    rcases (by omega : ink = 0 ∨ ink = 1 ∨ ink = 2) with rfl | rfl | rfl <;> rfl
  simp only [go_sem, Nat.reduceLT, Nat.reduceLeDiff, Nat.reduceEqDiff, reduceIte, reduceCtorEq, hw, h0, h3, l1, w1, w2, z3, Int.zero_add, updB]
  refine (validBrush_Q _ _ _ ⟨if ink = 0 then amount else 0, if ink = 1 then amount else 0, if ink = 2 then amount else 0, water, s⟩ v1.R).A ?_
  rw [decide_eq_true v1]
  simp only [go_sem, Nat.reduceLT, reduceIte]
theorem same00_Q (A B : SV) (L M : List Int) (lo lo' : Nat) (hA : IntsOut h lo n A L) (hB : IntsOut h lo' n B M) (hm9 : L.length ≤ 1048576) :
    CallQ Try.prog cx 60 [A, B] h n (.bool (decide (L = M))) := by
  rcases hA with ⟨rfl, rfl⟩ | ⟨jA, capA, tA, rfl, hlo, hj, hg, hrw, htn, hc⟩ <;> rcases hB with ⟨rfl, rfl⟩ | ⟨jB, capB, tB, rfl, hlo', hj', hg', hrw', htn', hc'⟩
  · rw [decide_eq_true rfl]
    refine callQ_of_T (P := Try.prog) hti (nt := 26) (rs := [.tmp 4]) rfl rfl Try.call60 Try.func60 rfl _ (by simp only [go_sem, and_self]) (Nat.le_of_ble_eq_true rfl) _ (by first | exact trivial | (refine lt_flat rfl ?_; simp [SV.flat]; done) | simp only [go_sem]) fun hok => ?_
    simp only [go_sem, Nat.reduceLT]
    refine T_lp (ι := Unit) (fun _ => ([(0, .nils), (1, .nils), (4, .bool false), (5, .int .i64 0)], h, n)) (fun _ => 0) () ?_ ?_
    · refine Imp.id (by simp) ?_ (impH.base0 hok (by simp) HExt.rfl)
      simp only [go_sem, Nat.reduceLT]
    · rintro ⟨⟩
      simp only [go_sem, Nat.reduceLT, Int.reduceLT]
  · by_cases hl : M.length = 0
    · have hM : M = [] := List.length_eq_zero_iff.1 hl
      subst hM
      rw [decide_eq_true rfl]
      refine callQ_of_T (P := Try.prog) hti (nt := 26) (rs := [.tmp 4]) rfl rfl Try.call60 Try.func60 rfl _ (by simp only [go_sem, and_self]) (Nat.le_of_ble_eq_true rfl) _ (by first | exact trivial | (refine lt_flat rfl ?_; simp [SV.flat]; done) | simp only [go_sem]) fun hok => ?_
      simp only [go_sem, Nat.reduceLT, List.length_nil]
      refine T_lp (ι := Unit) (fun _ => ([(0, .nils), (1, .sl jB 0 0 capB), (4, .bool false), (5, .int .i64 0)], h, n)) (fun _ => 0) () ?_ ?_
      · refine Imp.id (by simp) ?_ (impH.base0 hok (by simp) HExt.rfl)
        simp only [go_sem, Nat.reduceLT, hj', and_self]
      · rintro ⟨⟩
        simp only [go_sem, Nat.reduceLT, Int.reduceLT]
    · have hne : ¬ [] = M := fun e => hl (by rw [← e]; rfl)
      have hl' : ¬ (0 : Int) = M.length := by omega
      rw [decide_eq_false hne]
      refine callQ_of_T (P := Try.prog) hti (nt := 26) (rs := [.tmp 4]) rfl rfl Try.call60 Try.func60 rfl _ (by simp only [go_sem, and_self]) (Nat.le_of_ble_eq_true rfl) _ (by first | exact trivial | (refine lt_flat rfl ?_; simp [SV.flat]; done) | simp only [go_sem]) fun hok => ?_
      simp only [go_sem, Nat.reduceLT, hl']
  · by_cases hl : L.length = 0
    · have hM : L = [] := List.length_eq_zero_iff.1 hl
      subst hM
      rw [decide_eq_true rfl]
      refine callQ_of_T (P := Try.prog) hti (nt := 26) (rs := [.tmp 4]) rfl rfl Try.call60 Try.func60 rfl _ (by simp only [go_sem, and_self]) (Nat.le_of_ble_eq_true rfl) _ (by first | exact trivial | (refine lt_flat rfl ?_; simp [SV.flat]; done) | simp only [go_sem]) fun hok => ?_
      simp only [go_sem, Nat.reduceLT, List.length_nil]
      refine T_lp (ι := Unit) (fun _ => ([(0, .sl jA 0 0 capA), (1, .nils), (4, .bool false), (5, .int .i64 0)], h, n)) (fun _ => 0) () ?_ ?_
      · refine Imp.id (by simp) ?_ (impH.base0 hok (by simp) HExt.rfl)
        simp only [go_sem, Nat.reduceLT, hj, and_self]
      · rintro ⟨⟩
        simp only [go_sem, Nat.reduceLT, Int.reduceLT]
    · have hne : ¬ L = [] := fun e => hl (by rw [e]; rfl)
      have hl' : ¬ (L.length : Int) = 0 := by omega
      rw [decide_eq_false hne]
      refine callQ_of_T (P := Try.prog) hti (nt := 26) (rs := [.tmp 4]) rfl rfl Try.call60 Try.func60 rfl _ (by simp only [go_sem, and_self]) (Nat.le_of_ble_eq_true rfl) _ (by first | exact trivial | (refine lt_flat rfl ?_; simp [SV.flat]; done) | simp only [go_sem]) fun hok => ?_
      simp only [go_sem, Nat.reduceLT, hl']
  refine callQ_of_T (P := Try.prog) hti (nt := 26) (rs := [.tmp 4]) rfl rfl Try.call60 Try.func60 rfl _ (by simp only [go_sem, and_self]) (Nat.le_of_ble_eq_true rfl) _ (by first | exact trivial | (refine lt_flat rfl ?_; simp [SV.flat]; done) | simp only [go_sem]) fun hok => ?_
  by_cases hl : L.length = M.length
  rotate_left
  · have hl' : ¬ (L.length : Int) = M.length := by omega
    have hne : ¬ L = M := fun e => hl (by rw [e])
    rw [decide_eq_false hne]
    simp only [go_sem, Nat.reduceLT, hl']
  rw [← hl]
  simp only [go_sem, Nat.reduceLT]
  refine T_lp (ι := { q : Nat // q ≤ L.length ∧ ∀ k, k < q → L.getD k 0 = M.getD k 0 })
    (fun q => ([(0, .sl jA 0 L.length capA), (1, .sl jB 0 L.length capB), (4, .bool false), (5, .int .i64 q.1)], h, n)) (fun q => L.length - q.1) ⟨0, by omega, fun k hk => by omega⟩ ?_ ?_
  · refine Imp.id (by simp) ?_ ?_
    · simp only [go_sem, Nat.reduceLT, hj, hj']
      (try (repeat' apply And.intro) <;> first | omega | rfl | trivial | assumption | skip)
    · exact impH.base0 hok (by simp) HExt.rfl
  · rintro ⟨q, hq, hf⟩
    simp only [go_sem, Nat.reduceLT, decide_eq_true_eq, decide_eq_false_iff_not]
    refine ⟨fun h1 => ?_, fun h1 => ?_⟩
    · have hqL : q < L.length := by omega
      have r1 : (0 : Int) ≤ q ∧ (q : Int) < L.length := ⟨by omega, h1⟩
      have e0 : tA.c q = .int .i64 (L.getD q 0) := hc q hqL
      have e1 : tB.c q = .int .i64 (M.getD q 0) := hc' q (by omega)
      have b1 : q + 1 ≤ tA.n := by omega
      have b2 : q + 1 ≤ tB.n := by omega
      refine T_draw hti _ _ (by kernel_rfl) (by kernel_rfl) ?_
      simp only [go_sem, Nat.reduceLT, hg, hj, hg', hj', e0, e1, r1, b1, b2]
      refine ⟨fun he => ?_, fun he => ?_⟩
      · have hne : ¬ L = M := fun e => by rw [e] at he; simp at he
        rw [decide_eq_false hne]
      · have e : L.getD q 0 = M.getD q 0 := by simpa using he
        refine ⟨⟨q + 1, by omega, fun k hk => ?_⟩, (by show L.length - (q + 1) < L.length - q; omega), ?_⟩
        · by_cases hkq : k = q
          · rw [hkq]; exact e
          · exact hf k (by omega)
        · refine Imp.id (by simp) ?_ (impH.base0 hok (Nat.le_refl _) HExt.rfl)
          simp only [go_sem, Nat.reduceLT, hj, hj', w64 (n := (q : Int) + 1) (by omega), Int.natCast_add, Int.natCast_one]
          (try (repeat' apply And.intro) <;> first | omega | rfl | trivial | assumption | skip)
    · have he : L = M := by
        refine List.ext_getElem hl fun k hk hk' => ?_
        have := hf k (by omega)
        rw [List.getD_eq_getElem?_getD, List.getD_eq_getElem?_getD, List.getElem?_eq_getElem hk, List.getElem?_eq_getElem hk'] at this
        exact this
      rw [decide_eq_true he]
theorem a2same_Q (A B : SV) (L M : List Int) (lo lo' : Nat) (hA : IntsOut h lo n A L) (hB : IntsOut h lo' n B M) (hAo : A.ok = True) (hBo : B.ok = True) (hm9 : L.length ≤ 1048576) :
    CallQ Try.prog cx 14 [A, B] h n (.bool (decide (L = M))) := by
  refine callQ_of_T (P := Try.prog) hti (nt := 8) (rs := [.tmp 4]) rfl rfl Try.call14 Try.func14 rfl _ (by first | (simp only [go_sem, hAo]; done) | (simp only [go_sem, hAo, hBo]; done)) (Nat.le_of_ble_eq_true rfl) _ (by trivial) fun hok => ?_
  simp only [go_sem, Nat.reduceLT, hAo, hBo]
  refine (same00_Q _ _ _ A B L M lo lo' hA hB hm9).A ?_
  simp only [go_sem, Nat.reduceLT]
end
end Go.Proofs.Ytpcnhenenjblpaa.V

/- FnDips: the walk. -/
namespace Go.Proofs.Ytpcnhenenjblpaa.V
theorem CallE.Q {P : Program} {cx : Cx} {f : Nat} {args : List SV} {h : List (Nat × Seg)} {n : Nat} {r : SV} (hrl : r.lt n) (hc : CallE P cx f args h n fun v h' _ => v = r ∧ HExt n h h') : CallQ P cx f args h n r := by
  obtain ⟨hr, hok, hc⟩ := hc
  refine ⟨hr, hok, hrl, fun ρ w sh hargs => (hc ρ w sh hargs).mono fun e w' he => ?_⟩
  obtain ⟨ρ', v, h', n', h1, h2, rfl, h4, h5, rfl, h7⟩ := he
  refine ⟨by rw [den_congr h1 _ hrl], ?_⟩
  have : SatH cx ρ' h n w' := ⟨h5.keeps, fun i t hi => h5.seg i t (h7 i (sh.lt i t hi).1 t hi), fun i j x y hij hx hy => h5.dis i j x y hij (h7 i (sh.lt i x hx).1 x hx) (h7 j (sh.lt j y hy).1 y hy), sh.lt⟩
  exact this.rho fun i hi => (h1 i hi).symm
theorem PathD.P {S : Sh} {L : List (Int × Int)} (h : PathD S L) (h10 : L.length ≤ 80) : PathP S L := ⟨h.st, ⟨h.len, h10⟩, h.inn⟩
theorem PathD.R {S : Sh} {L : List (Int × Int)} (h : PathD S L) (hS : Small S) : SpotsR L := fun k hk => by
  have := hasB_in hS (h.inn k hk)
  exact ⟨⟨by omega, by omega⟩, by omega, by omega⟩
theorem dipN_valid {S : Sh} {B0 : Br} {least : Int} {L : List (Int × Int)} (hI : InP S L) (hV : Valid S) (hR : ShR S) (hb : BrV B0) : ∀ (q : Nat) (p : DSt), q ≤ L.length → dipN S B0 least L q = some p → Valid p.1
  | 0, p, _, e => by
    obtain rfl : (S, B0, ([] : List Int)) = p := by simpa [dipN] using e
    exact hV
  | q + 1, p, hq, e => by
    cases hm : dipN S B0 least L q with
    | none => have := dipN_none hm 1; rw [e] at this; cases this
    | some pm =>
      have ih := dipN_valid hI hV hR hb q pm (by omega) hm
      have ok := dipN_ok hI hV.1 (hV.ok hb hR) q pm (by omega) hm
      have hh : hasB pm.1 (L.getD q (0, 0)).1 (L.getD q (0, 0)).2 = true := by
        have := hI q (by omega)
        have e1 := ok.ok.wide
        have e2 := ok.ok.high
        unfold hasB at this ⊢
        rw [e1, e2]; exact this
      have hs : dipStep B0 least pm q (L.getD q (0, 0)) = some p := by
        have : dipN S B0 least L (q + 1) = (dipN S B0 least L q).bind fun p => dipStep B0 least p q (L.getD q (0, 0)) := rfl
        rw [hm, Option.bind_some, e] at this
        exact this.symm
      unfold dipStep at hs
      split at hs
      · cases hs; exact ih
      · split at hs
        · split at hs
          · cases hs
          · cases hs; exact touchS_valid ih hb hh
        · cases hs; exact touchS_valid ih ok.ok.B hh
theorem ByArg.ren {h : List (Nat × Seg)} {n len : Nat} {A : SV} {σ : Nat → Nat} (hA : ByArg h n A len) (hσ : ∀ i, i < n → σ i = i) : ren σ A = A := by
  rcases hA with ⟨rfl, _⟩ | ⟨j, cap, s, rfl, hj, _⟩
  · rfl
  · show SV.sl (σ j) 0 len cap = _
    rw [hσ j hj]
section
variable (cx : Cx) (h : List (Nat × Seg)) (n : Nat)
set_option maxRecDepth 100000 in
set_option maxHeartbeats 3200000 in
theorem lawFD_Q (A B : SV) (la lb : Nat) (hA : ByArg h n A la) (hB : ByArg h n B lb) :
    CallQ Try.prog cx 3 [A, B] h n (.bool true) := by
  have hAo := hA.ok
  have hBo := hB.ok
  refine CallE.Q (by trivial) ?_
  refine callE_of_SW (P := Try.prog) hti (nt := 429) (rs := [.tmp 4]) rfl rfl Try.call3 Try.func3 rfl _ (by first | (simp only [go_sem, hAo]; done) | (simp only [go_sem, hAo, hBo]; done)) (Nat.le_of_ble_eq_true rfl) _ fun hok => ?_
  refine SW_seq (SW_run hti trivial ?_)
  simp only [go_sem, Nat.reduceLT, hAo, hBo]
  refine SW_seq (SW_run hti trivial ?_)
  simp only [go_sem, Nat.reduceLT, hAo, hBo]
  refine (long_Q _ _ _ A B la lb hA.long hB.long).A ?_
  by_cases hbig : (3000 : Int) < (la : Int) ∨ (3000 : Int) < (lb : Int)
  · have e : (decide ((3000 : Int) < (la : Int)) || decide ((3000 : Int) < (lb : Int))) = true := by simpa using hbig
    rw [e]
    simp only [go_sem, Nat.reduceLT]
  have e : (decide ((3000 : Int) < (la : Int)) || decide ((3000 : Int) < (lb : Int))) = false := by simpa using hbig
  rw [e]
  have hAs : ∀ i, n ≤ i → BySl h n i A := fun i hi => hA.sl hi (by omega)
  have hBs : ∀ i, n ≤ i → BySl h n i B := fun i hi => hB.sl hi (by omega)
  simp only [go_sem, hAo, hBo]
  refine SW_seq (SW_run hti trivial ?_)
  simp only [go_sem, Nat.reduceLT, hAo, hBo]
  refine callA_false (a2sheet_E _ _ _ A (hAs n (Nat.le_refl _)) _ fun S W H h1 n1 w1 w2 w3 w4 hD hn1 hx1 ok1 => ?_)
  have hS0 := hD.small w1 w2 w3 w4
  have hV : Valid S := hD.valid hS0
  have hR : ShR S := hD.R
  have hW : S.wide = W := hD.wide
  have hH : S.high = H := hD.high
  clear hD
  simp only [go_sem, Nat.reduceLT, reduceIte, hAo, hBo]
  have ok2 : HOk (n1 + 1) ((n1, ⟨266, shC S, true, none⟩) :: h1) := ok1.consF fun k hk => shC_flat _ _
  have X2 : HExt n h ((n1, ⟨266, shC S, true, none⟩) :: h1) := hx1.cons (by omega)
  have gS2 : hget ((n1, ⟨266, shC S, true, none⟩) :: h1) n1 = some ⟨266, shC S, true, none⟩ := by simp only [hget, if_true]
  generalize ((n1, (⟨266, shC S, true, none⟩ : Seg)) :: h1) = h2 at *
  refine SW_seq (SW_run hti trivial ?_)
  simp only [go_sem, Nat.reduceLT, hAo, hBo]
  refine callA_false (a2brush_E _ _ _ B ((hBs n (Nat.le_refl _)).up (by omega) X2 (by omega)) _ fun b h3 n3 hbD hn3 hx3 ok3 => ?_)
  have hb := hbD.V
  have gS3 := hx3 n1 (by omega) _ gS2
  have X3 := X2.tr hx3 (by omega)
  simp only [go_sem, Nat.reduceLT, reduceIte, hAo, hBo]
  have ok4 : HOk (n3 + 1) ((n3, brS b) :: h3) := ok3.consF fun k hk => brC_flat _ hk
  have X4 : HExt n h ((n3, brS b) :: h3) := X3.cons (by omega)
  have gS4 : hget ((n3, brS b) :: h3) n1 = some ⟨266, shC S, true, none⟩ := by simp only [hget]; rw [if_neg (by omega)]; exact gS3
  have gB4 : hget ((n3, brS b) :: h3) n3 = some (brS b) := by simp only [hget, if_true]
  refine SW_seq (SW_run hti trivial ?_)
  have lS4 : n1 < n3 + 1 := by omega
  have nS4 : n1 < n3 := by omega
  simp only [go_sem, Nat.reduceLT, hAo, hBo, gS3, lS4, nS4]
  refine callA_false (a2path_E _ _ _ A S ((hAs n (Nat.le_refl _)).up (by omega) X4 (by omega)) hR hS0 _ fun V L h5 n5 hP hL10 hn5 hx5 ok5 oV => ?_)
  have gS5 : hget h5 n1 = some ⟨266, shC S, true, none⟩ := hx5 n1 (by omega) _ gS4
  have gB5 : hget h5 n3 = some (brS b) := hx5 n3 (by omega) _ gB4
  have X5 := X4.tr hx5 (by omega)
  have hPP := hP.P (by omega)
  have hLR := hP.R hS0
  have hI := hP.inn
  have hl1 := hP.len
  obtain ⟨jv, capV, sV, rfl, v1, v2, v3, v4, v5, v6, v7, v8, v9⟩ := oV
  have hLA : SpsAt sV L := ⟨by omega, v9⟩
  have lS5 : n1 < n5 := by omega
  have lB5 : n3 < n5 := by omega
  simp only [go_sem, Nat.reduceLT, hAo, hBo]
  refine SW_seq (SW_run hti trivial ?_)
  simp only [go_sem, Nat.reduceLT, hAo, hBo]
  obtain ⟨lm, l0, l1, hq1⟩ := at_Q ⟨cx.w0, cx.W, 429, n⟩ _ _ B 0 30 ((hBs n (Nat.le_refl _)).up (n' := n5) (i' := n5) (by omega) X5 (by omega)) (by omega) (by omega)
  refine hq1.A ?_
  obtain ⟨least, hle⟩ : ∃ least, 1 + lm = least := ⟨_, rfl⟩
  have hlw : IntKind.i64.wrap (1 + lm) = least := by rw [w64 (by omega)]; exact hle
  have hl : 1 ≤ least ∧ least ≤ 3000 := by omega
  have hl30 : least ≤ 30 := by omega
  simp only [go_sem, Nat.reduceLT, hAo, hBo, hlw]
  refine SW_seq (SW_run hti trivial ?_)
  simp only [go_sem, Nat.reduceLT, hAo, hBo, gS5, gB5, lS5, lB5]
  refine (leastShare_Q _ _ _ jv capV L sV v3 (by omega) hLA S b hV hR hb hPP least hl).A ?_
  simp only [go_sem, Nat.reduceLT, hAo, hBo]
  refine SW_seq (SW_run hti trivial ?_)
  simp only [go_sem, Nat.reduceLT, hAo, hBo, gS5, gB5, lS5, lB5]
  refine (leastShare2_Q _ _ _ jv capV L sV v3 (by omega) hLA S b hV hR hb hPP hLR least hl).A ?_
  simp only [go_sem, Nat.reduceLT, hAo, hBo]
  refine SW_seq (SW_run hti trivial ?_)
  simp only [go_sem, Nat.reduceLT, hAo, hBo, gS5, gB5, lS5, lB5]
  refine callA_false (dips_E _ _ _ jv capV L sV v3 (by omega) hLA (by omega) S b hR hb.R least _ ?_)
  intro V6 h6 n6 hn6 hx6 ok6 I6
  have V6o : V6.ok = True := by rcases I6 with ⟨rfl, _⟩ | ⟨_, _, _, rfl, _⟩ <;> rfl
  have gS6 := hx6 n1 (by omega) _ gS5
  have gB6 := hx6 n3 (by omega) _ gB5
  have gV6 := hx6 jv (by omega) _ v3
  have X6 := X5.tr hx6 (by omega)
  have lS6 : n1 < n6 := by omega
  have lB6 : n3 < n6 := by omega
  simp only [go_sem, Nat.reduceLT, hAo, hBo, V6o]
  refine SW_seq (SW_run hti trivial ?_)
  simp only [go_sem, Nat.reduceLT, hAo, hBo, gS6, gB6, lS6, lB6, V6o]
  refine callA_false (dips2N_E _ _ _ jv capV L sV gV6 (by omega) hLA (by omega) S b hR hb.R least hLR _ ?_)
  intro V7 h7 n7 hn7 hx7 ok7 I7 N7
  have gS7 := hx7 n1 (by omega) _ gS6
  have gB7 := hx7 n3 (by omega) _ gB6
  have gV7 := hx7 jv (by omega) _ gV6
  have X7 := X6.tr hx7 (by omega)
  have lS7 : n1 < n7 := by omega
  have lB7 : n3 < n7 := by omega
  have lV7 : jv < n7 := by omega
  have I67 : IntsOut h7 n5 n7 V6 (dipR S b L least).1 := by
    rcases I6 with e | ⟨j, cap, t, e, t1, t2, t3, t4⟩
    · exact .inl e
    · exact .inr ⟨j, cap, t, e, t1, by omega, hx7 j t2 _ t3, t4⟩
  obtain ⟨j7, o7, len7, cap7, rfl⟩ := N7
  obtain ⟨t7, e7, lj7, hg7, hc7⟩ : ∃ t7, (o7 = 0 ∧ len7 = (dipR S b L least).1.length) ∧ (n6 ≤ j7 ∧ j7 < n7) ∧ hget h7 j7 = some t7 ∧ (t7.n = (dipR S b L least).1.length ∧ ∀ k, k < (dipR S b L least).1.length → t7.c k = intsC (dipR S b L least).1 k) := by
    rcases I7 with ⟨e, _⟩ | ⟨j, cap, t, e, t1, t2, t3, t4, t5, t6⟩
    · cases e
    · cases e; exact ⟨t, ⟨rfl, rfl⟩, ⟨t1, t2⟩, t3, t5, t6⟩
  obtain ⟨rfl, rfl⟩ := e7
  simp only [go_sem, Nat.reduceLT, hAo, hBo, V6o]
  have hc1 : (lsR S b L least).2 = 0 ∨ (lsR S b L least).2 = 6 := by unfold lsR; split; exact .inl rfl; exact .inr rfl
  have hc2 : (dipR S b L least).2 = 0 ∨ (dipR S b L least).2 = 6 := by
    cases he : dipN S b least L L.length with
    | none => rw [dipR_none ⟨hV, hb⟩ ⟨hPP, hl⟩ he]; exact .inr rfl
    | some p => rw [dipR_some ⟨hV, hb⟩ ⟨hPP, hl⟩ he]; exact .inl rfl
  have hdl : (dipR S b L least).1.length ≤ 80 := by
    cases he : dipN S b least L L.length with
    | none => rw [dipR_none ⟨hV, hb⟩ ⟨hPP, hl⟩ he]; simp
    | some p =>
      rw [dipR_some ⟨hV, hb⟩ ⟨hPP, hl⟩ he]
      have := (dipN_ok hI hS0 (hV.ok hb hR) L.length p (Nat.le_refl _) he).len
      show p.2.2.length ≤ 80
      omega
  have I7o : (SV.sl j7 0 (dipR S b L least).1.length cap7).ok = True := rfl
  have eDD : decide ((dipR S b L least).1 = (dipR S b L least).1) = true := decide_eq_true rfl
  have A7 : A.lt n7 := SV.lt_mono (by omega) _ hA.lt
  have B7 : B.lt n7 := SV.lt_mono (by omega) _ hB.lt
  obtain ⟨lj7a, lj7b⟩ := lj7
  have hlsR : lsR S b L least = ((lsR S b L least).1, (lsR S b L least).2) := rfl
  have hdpR : dipR S b L least = ((dipR S b L least).1, (dipR S b L least).2) := rfl
  generalize hls : (lsR S b L least).1 = due at *
  generalize hlc : (lsR S b L least).2 = c1 at *
  generalize hdc : (dipR S b L least).2 = c2 at *
  generalize hdE : (dipR S b L least).1 = E at *
  refine SW_seq (SW_cut hti (ι := Unit) (fun _ => ([(0, A), (1, B), (5, .ptr n1 0), (6, .ptr n3 0), (7, .sl jv 0 L.length capV), (8, .int .i64 least), (10, .int .i64 c1), (11, .int .i64 due), (14, .int .i64 c2), (15, .sl j7 0 E.length cap7)], h7, n7)) trivial ?_ ?_)
  · simp only [go_sem, Nat.reduceLT, hAo, hBo, V6o]
    refine (a2same_Q _ _ _ V6 _ _ _ _ _ I67 I7 V6o I7o (by omega)).A ?_
    rw [eDD]
    rcases hc1 with rfl | rfl <;> rcases hc2 with rfl | rfl <;> simp only [go_sem, Nat.reduceLT, Int.reduceEq, hAo, hBo, V6o]
    all_goals
      refine ⟨(), ?_⟩
      refine Imp.id (by show n ≤ n7; omega) ?_ (impH.base0 ok7 (Nat.le_refl _) HExt.rfl)
      simp only [go_sem, Nat.reduceLT, hAo, hBo, A7, B7, lj7b, lV7, lS7, lB7]
      (try (repeat' apply And.intro) <;> first | omega | rfl | trivial | assumption | skip)
  intro _
  have hls0 : c1 = 0 → ∃ r : Nat, due = r ∧ 1 ≤ r ∧ r ≤ 16 ∧ enK S b L least r = true ∧ ∀ k, 1 ≤ k → k < r → enK S b L least k = false := by
    unfold lsR at hlsR
    intro h0
    cases hq : lsN (enK S b L least) 16 with
    | none => rw [hq] at hlsR; simp at hlsR; omega
    | some r =>
      rw [hq] at hlsR
      obtain ⟨a, b', c, d⟩ := lsN_some hq
      simp at hlsR
      exact ⟨r, hlsR.1.symm, a, b', c, d⟩
  have hls6 : ¬ c1 = 0 → ∀ k, 1 ≤ k → k ≤ 16 → enK S b L least k = false := by
    unfold lsR at hlsR
    intro h0
    cases hq : lsN (enK S b L least) 16 with
    | none => exact lsN_none hq
    | some r => rw [hq] at hlsR; simp at hlsR; omega
  refine SW_seq (SW_cut hti (ι := Unit) (fun _ => ([(0, A), (1, B), (5, .ptr n1 0), (6, .ptr n3 0), (7, .sl jv 0 L.length capV), (8, .int .i64 least), (10, .int .i64 c1), (11, .int .i64 due), (14, .int .i64 c2), (15, .sl j7 0 E.length cap7)], h7, n7)) trivial ?_ ?_)
  · simp only [go_sem, Nat.reduceLT]
    refine T_lp (ι := { j : Nat // j ≤ 16 }) (fun j => ([(0, A), (1, B), (5, .ptr n1 0), (6, .ptr n3 0), (7, .sl jv 0 L.length capV), (8, .int .i64 least), (10, .int .i64 c1), (11, .int .i64 due), (14, .int .i64 c2), (15, .sl j7 0 E.length cap7), (17, .int .i64 ((j.1 + 1 : Nat) : Int))], h7, n7)) (fun j => 16 - j.1) ⟨0, by omega⟩ ?_ ?_
    · refine Imp.id (by show n ≤ n7; omega) ?_ (impH.base0 ok7 (Nat.le_refl _) HExt.rfl)
      simp only [go_sem, Nat.reduceLT, hAo, hBo, A7, B7, lj7b, lV7, lS7, lB7]
      (try (repeat' apply And.intro) <;> first | omega | rfl | trivial | assumption | skip)
    rintro ⟨j, hj⟩
    have j1 : (((j + 1 : Nat) : Int) ≤ 16) = (j < 16) := by rw [eq_iff_iff]; omega
    simp only [go_sem, Nat.reduceLT, decide_eq_true_eq, decide_eq_false_iff_not, j1]
    refine ⟨fun h1 => ?_, fun h1 => ?_⟩
    rotate_left
    · refine ⟨(), ?_⟩
      refine Imp.id (by show n ≤ n7; omega) ?_ (impH.base0 ok7 (Nat.le_refl _) HExt.rfl)
      simp only [go_sem, Nat.reduceLT, hAo, hBo, A7, B7, lj7b, lV7, lS7, lB7]
      (try (repeat' apply And.intro) <;> first | omega | rfl | trivial | assumption | skip)
    have w8' : IntKind.i8.wrap ((j + 1 : Nat) : Int) = ((j + 1 : Nat) : Int) := w8 (by omega)
    have hb' : BrV (b.withS ((j + 1 : Nat) : Int)) := withS_V hb (by omega)
    have hO := hV.ok hb' hR
    have hT := strokeN_ok hI hS0 hO L.length (Nat.le_refl _)
    have hTV := strokeN_valid hV hR hb' hI L.length (Nat.le_refl _)
    have hsp := spR_ok ⟨hV, hb'⟩ hPP
    simp only [go_sem, Nat.reduceLT, Nat.reduceEqDiff, reduceIte, reduceCtorEq, gB7, lB7, gS7, lS7, w8']
    refine (strokePath_Q _ _ _ jv capV L sV (by simp only [go_sem, gV7, lV7]) (by omega) hLA (by omega) S (b.withS ((j + 1 : Nat) : Int)) hR hb'.R).A ?_
    rw [hsp]
    have hEn : enB S (strokeN S (b.withS ((j + 1 : Nat) : Int)) L L.length).1 L least = enK S b L least (j + 1) := rfl
    have hTw : (strokeN S (b.withS ((j + 1 : Nat) : Int)) L L.length).1.wax = S.wax := hT.wax
    have hTwd : (strokeN S (b.withS ((j + 1 : Nat) : Int)) L L.length).1.wide = S.wide := hT.wide
    have hThg : (strokeN S (b.withS ((j + 1 : Nat) : Int)) L L.length).1.high = S.high := hT.high
    have hTR := hT.R
    have hTL : (strokeN S (b.withS ((j + 1 : Nat) : Int)) L L.length).2 = (strokeN S (b.withS ((j + 1 : Nat) : Int)) L L.length).2 := rfl
    generalize strokeN S (b.withS ((j + 1 : Nat) : Int)) L L.length = T at *
    have hTh : ∀ q, q < L.length → hasB T.1 (L.getD q (0, 0)).1 (L.getD q (0, 0)).2 = true := fun q hq => by
      have := hI q hq
      unfold hasB at this ⊢
      rw [hTwd, hThg]; exact this
    simp only [go_sem, Nat.reduceLT, reduceIte]
    have okr : HOk (n7 + 3) ((n7 + 2, brS T.2) :: (n7 + 1, shS T.1) :: (n7, brS (b.withS ((j + 1 : Nat) : Int))) :: h7) := ((ok7.consF fun k hk => brC_flat _ hk).consF fun k hk => shC_flat _ _).consF fun k hk => brC_flat _ hk
    have A73 : A.lt (n7 + 3) := SV.lt_mono (by omega) _ A7
    have B73 : B.lt (n7 + 3) := SV.lt_mono (by omega) _ B7
    refine T_lp (ι := { w : Nat × Bool // w.1 ≤ L.length ∧ (w.2 = true ↔ ∀ k, k < w.1 → (waxB S (L.getD k (0, 0)).1 (L.getD k (0, 0)).2 || decide (least ≤ darkB T.1 (L.getD k (0, 0)).1 (L.getD k (0, 0)).2)) = true) })
      (fun w => ([(0, A), (1, B), (5, .ptr n1 0), (6, .ptr n3 0), (7, .sl jv 0 L.length capV), (8, .int .i64 least), (10, .int .i64 c1), (11, .int .i64 due), (14, .int .i64 c2), (15, .sl j7 0 E.length cap7), (17, .int .i64 ((j + 1 : Nat) : Int)), (19, .ptr (n7 + 1) 0), (22, .bool w.1.2), (23, .int .i64 w.1.1)],
        (n7 + 2, brS T.2) :: (n7 + 1, shS T.1) :: (n7, brS (b.withS ((j + 1 : Nat) : Int))) :: h7, n7 + 3)) (fun w => L.length - w.1.1) ⟨(0, true), Nat.zero_le _, by simp⟩ ?_ ?_
    · refine Imp.id (by show n ≤ n7 + 3; omega) ?_ (impH.base0 okr (Nat.le_refl _) HExt.rfl)
      simp only [go_sem, Nat.reduceLT, hAo, hBo, A73, B73, lj7b, lV7, lS7, lB7]
      (try (repeat' apply And.intro) <;> first | omega | rfl | trivial | assumption | skip)
    rintro ⟨⟨q, eb⟩, hq, heb⟩
    simp only at hq heb
    simp only [go_sem, Nat.reduceLT, decide_eq_true_eq, decide_eq_false_iff_not]
    refine ⟨fun hlt => ?_, fun hlt => ?_⟩
    · have hql : q < L.length := by omega
      have r1 : (0 : Int) ≤ q ∧ (q : Int) < (L.length : Int) := ⟨by omega, hlt⟩
      have b1 : q * 2 ≤ sV.n - 2 := by omega
      have b2 : 2 ≤ sV.n := by omega
      have b3 : q * 2 + 2 ≤ sV.n := by omega
      have ex := hLA.x hql
      have ey := hLA.y hql
      obtain ⟨x0, x8, y0, y8⟩ := hI.at hS0 hql
      have hhT := hTh q hql
      have step : ∀ eb' : Bool, (eb' = (eb && (waxB S (L.getD q (0, 0)).1 (L.getD q (0, 0)).2 || decide (least ≤ darkB T.1 (L.getD q (0, 0)).1 (L.getD q (0, 0)).2)))) → (eb' = true ↔ ∀ k, k < q + 1 → (waxB S (L.getD k (0, 0)).1 (L.getD k (0, 0)).2 || decide (least ≤ darkB T.1 (L.getD k (0, 0)).1 (L.getD k (0, 0)).2)) = true) := fun eb' e => by
        rw [e, Bool.and_eq_true, heb]
        exact ⟨fun ⟨g1, g2⟩ k hk => by
          by_cases hkq : k = q
          · rw [hkq]; exact g2
          · exact g1 k (by omega), fun g => ⟨fun k hk => g k (by omega), g q (by omega)⟩⟩
      generalize (L.getD q (0, 0)).1 = x at *
      generalize (L.getD q (0, 0)).2 = y at *
      refine T_drawG hti 11 [] (.b 0 0 (.b 0 1 (.b 0 2 (.b 0 3 (.b 0 4 (.b 1 5 (.b 0 6 (.b 0 7 (.b 0 8 (.b 0 9 (.b 0 10 (.f) .o) .o) .o) .o) .o) .o) .o) .o) .o) .o) .o) _ _ (by kernel_rfl) (by kernel_rfl) ?_
      simp only [go_sem, Nat.reduceLT, gV7, lV7, r1, b1, b2, b3, ex, ey]
      refine CallQ.F _ (fun h' n' hn' hx' => darkAt2_Q _ h' n' T.1 x y hTV hTR hhT) ?_
      simp only [go_sem, Nat.reduceLT]
      refine T_drawG hti 15 [] (.b 0 0 (.b 0 1 (.b 0 2 (.b 0 3 (.b 0 4 (.b 0 5 (.b 0 6 (.b 2 7 (.b 0 8 (.b 0 9 (.b 0 10 (.b 0 11 (.b 0 12 (.b 0 13 (.b 0 14 (.f) .o) .o) .o) .o) .o) .o) .o) .o) .o) .o) .o) .o) .o) .o) .o) _ _ (by kernel_rfl) (by kernel_rfl) ?_
      cases eb
      · simp only [go_sem, Nat.reduceLT, gV7, lV7, gS7, lS7, r1, b1, b2, b3, ex, ey]
        refine ⟨⟨(q + 1, false), by show q + 1 ≤ L.length; omega, step false (by simp)⟩, by show L.length - (q + 1) < L.length - q; omega, ?_⟩
        refine Imp.id (by show n ≤ n7 + 3; omega) ?_ (impH.base0 okr (Nat.le_refl _) HExt.rfl)
        simp only [go_sem, Nat.reduceLT, hAo, hBo, A73, B73, lj7b, lV7, lS7, lB7, w64 (n := (q : Int) + 1) (by omega), Int.natCast_add, Int.natCast_one]
        (try (repeat' apply And.intro) <;> first | omega | rfl | trivial | assumption | skip)
      simp only [go_sem, Nat.reduceLT, gV7, lV7, gS7, lS7, r1, b1, b2, b3, ex, ey]
      refine (a2waxed_Q _ _ _ S x y hR x0 x8 y0 y8).A ?_
      cases hwx : waxB S x y
      · by_cases hdk : least ≤ darkB T.1 x y
        · simp only [go_sem, Nat.reduceLT, hdk]
          refine ⟨⟨(q + 1, true), by show q + 1 ≤ L.length; omega, step true (by rw [hwx]; simp [hdk])⟩, by show L.length - (q + 1) < L.length - q; omega, ?_⟩
          refine Imp.id (by show n ≤ n7 + 3; omega) ?_ (impH.base0 okr (Nat.le_refl _) HExt.rfl)
          simp only [go_sem, Nat.reduceLT, hAo, hBo, A73, B73, lj7b, lV7, lS7, lB7, w64 (n := (q : Int) + 1) (by omega), Int.natCast_add, Int.natCast_one]
          (try (repeat' apply And.intro) <;> first | omega | rfl | trivial | assumption | skip)
        · simp only [go_sem, Nat.reduceLT, hdk]
          refine ⟨⟨(q + 1, false), by show q + 1 ≤ L.length; omega, step false (by rw [hwx]; simp; omega)⟩, by show L.length - (q + 1) < L.length - q; omega, ?_⟩
          refine Imp.id (by show n ≤ n7 + 3; omega) ?_ (impH.base0 okr (Nat.le_refl _) HExt.rfl)
          simp only [go_sem, Nat.reduceLT, hAo, hBo, A73, B73, lj7b, lV7, lS7, lB7, w64 (n := (q : Int) + 1) (by omega), Int.natCast_add, Int.natCast_one]
          (try (repeat' apply And.intro) <;> first | omega | rfl | trivial | assumption | skip)
      · simp only [go_sem, Nat.reduceLT]
        refine ⟨⟨(q + 1, true), by show q + 1 ≤ L.length; omega, step true (by rw [hwx]; simp)⟩, by show L.length - (q + 1) < L.length - q; omega, ?_⟩
        refine Imp.id (by show n ≤ n7 + 3; omega) ?_ (impH.base0 okr (Nat.le_refl _) HExt.rfl)
        simp only [go_sem, Nat.reduceLT, hAo, hBo, A73, B73, lj7b, lV7, lS7, lB7, w64 (n := (q : Int) + 1) (by omega), Int.natCast_add, Int.natCast_one]
        (try (repeat' apply And.intro) <;> first | omega | rfl | trivial | assumption | skip)
    have hql : q = L.length := by omega
    subst hql
    have hen : eb = enK S b L least (j + 1) := by
      rw [← hEn, Bool.eq_iff_iff, heb]
      unfold enB
      rw [List.all_eq_true]
      exact ⟨fun g a ha => by
        obtain ⟨k, hk, rfl⟩ := List.mem_iff_getElem.1 ha
        have := g k hk
        rw [List.getD_eq_getElem?_getD, List.getElem?_eq_getElem hk] at this
        exact this, fun g k hk => g _ (by rw [List.getD_eq_getElem?_getD, List.getElem?_eq_getElem hk]; exact List.getElem_mem _)⟩
    have e2 : IntKind.i64.wrap (((j + 1 : Nat) : Int) + 1) = ((j + 1 + 1 : Nat) : Int) := by rw [w64 (by omega)]; rfl
    have endr : ∃ j' : { j : Nat // j ≤ 16 }, 16 - j'.1 < 16 - j ∧ j'.1 = j + 1 := ⟨⟨j + 1, by omega⟩, by show 16 - (j + 1) < 16 - j; omega, rfl⟩
    by_cases h0 : c1 = 0
    · obtain ⟨r, hr, ra, rb, hf, hall⟩ := hls0 h0
      rcases (by omega : j + 1 < r ∨ j + 1 = r ∨ r < j + 1) with hjr | hjr | hjr
      · have q1 : ((j + 1 : Nat) : Int) < due := by omega
        have q2 : ¬ ((j + 1 : Nat) : Int) = due := by omega
        have q3 : eb = false := by rw [hen]; exact hall (j + 1) (by omega) hjr
        simp only [go_sem, reduceCtorEq, h0, q1, q2, q3, e2, not_true_eq_false, false_implies, true_and]
        refine ⟨⟨j + 1, by omega⟩, by show 16 - (j + 1) < 16 - j; omega, ?_⟩
        refine Imp.id (by show n ≤ n7; omega) ?_ (impH.base0 ok7 (by omega) (by simp only [go_sem, HExt_cons]))
        simp only [go_sem, Nat.reduceLT, hAo, hBo, A7, B7, lj7b, lV7, lS7, lB7]
        (try (repeat' apply And.intro) <;> first | omega | rfl | trivial | assumption | skip)
      · have q1 : ¬ ((j + 1 : Nat) : Int) < due := by omega
        have q2 : ((j + 1 : Nat) : Int) = due := by omega
        have q3 : eb = true := by rw [hen, hjr]; exact hf
        have e3 : IntKind.i64.wrap (due + 1) = ((j + 1 + 1 : Nat) : Int) := by rw [← q2]; exact e2
        have q4 : ¬ due < due := by omega
        simp only [go_sem, reduceCtorEq, h0, q1, q2, q3, q4, e2, e3, not_true_eq_false, false_implies, true_and]
        refine ⟨⟨j + 1, by omega⟩, by show 16 - (j + 1) < 16 - j; omega, ?_⟩
        refine Imp.id (by show n ≤ n7; omega) ?_ (impH.base0 ok7 (by omega) (by simp only [go_sem, HExt_cons]))
        simp only [go_sem, Nat.reduceLT, hAo, hBo, A7, B7, lj7b, lV7, lS7, lB7]
        (try (repeat' apply And.intro) <;> first | omega | rfl | trivial | assumption | skip)
      · have q1 : ¬ ((j + 1 : Nat) : Int) < due := by omega
        have q2 : ¬ ((j + 1 : Nat) : Int) = due := by omega
        simp only [go_sem, h0, q1, q2, e2, not_true_eq_false, false_implies, true_and]
        refine ⟨⟨j + 1, by omega⟩, by show 16 - (j + 1) < 16 - j; omega, ?_⟩
        refine Imp.id (by show n ≤ n7; omega) ?_ (impH.base0 ok7 (by omega) (by simp only [go_sem, HExt_cons]))
        simp only [go_sem, Nat.reduceLT, hAo, hBo, A7, B7, lj7b, lV7, lS7, lB7]
        (try (repeat' apply And.intro) <;> first | omega | rfl | trivial | assumption | skip)
    · have q3 : eb = false := by rw [hen]; exact hls6 h0 (j + 1) (by omega) (by omega)
      simp only [go_sem, reduceCtorEq, h0, q3, e2, not_true_eq_false, false_implies, true_and]
      refine ⟨⟨j + 1, by omega⟩, by show 16 - (j + 1) < 16 - j; omega, ?_⟩
      refine Imp.id (by show n ≤ n7; omega) ?_ (impH.base0 ok7 (by omega) (by simp only [go_sem, HExt_cons]))
      simp only [go_sem, Nat.reduceLT, hAo, hBo, A7, B7, lj7b, lV7, lS7, lB7]
      (try (repeat' apply And.intro) <;> first | omega | rfl | trivial | assumption | skip)
  intro _
  refine SW_seq (SW_cut hti (ι := { w : List (Nat × Seg) × Nat // HExt n7 h7 w.1 ∧ n7 ≤ w.2 ∧ HOk w.2 w.1 }) (fun w => ([(0, A), (1, B), (5, .ptr n1 0), (6, .ptr n3 0), (7, .sl jv 0 L.length capV), (8, .int .i64 least)], w.1.1, w.1.2)) trivial ?_ ?_)
  · by_cases h0 : c2 = 0
    rotate_left
    · simp only [go_sem, Nat.reduceLT, h0]
      refine ⟨⟨(h7, n7), HExt.rfl, Nat.le_refl _, ok7⟩, ?_⟩
      refine Imp.id (by show n ≤ n7; omega) ?_ (impH.base0 ok7 (Nat.le_refl _) HExt.rfl)
      simp only [go_sem, Nat.reduceLT, hAo, hBo, A7, B7, lj7b, lV7, lS7, lB7]
      (try (repeat' apply And.intro) <;> first | omega | rfl | trivial | assumption | skip)
    have hEE : ∃ pe, dipN S b least L L.length = some pe ∧ pe.2.2 = E := by
      cases he : dipN S b least L L.length with
      | none => rw [dipR_none ⟨hV, hb⟩ ⟨hPP, hl⟩ he] at hdpR; simp at hdpR; omega
      | some p =>
        rw [dipR_some ⟨hV, hb⟩ ⟨hPP, hl⟩ he] at hdpR
        exact ⟨p, rfl, (Prod.mk.inj hdpR).1⟩
    obtain ⟨pe, hE, hpe⟩ := hEE
    have Ac : A.lt (n7 + 2) := SV.lt_mono (by omega) _ A7
    have Bc : B.lt (n7 + 2) := SV.lt_mono (by omega) _ B7
    have A4 : A.lt (n7 + 4) := SV.lt_mono (by omega) _ A7
    have B4 : B.lt (n7 + 4) := SV.lt_mono (by omega) _ B7
    have okc : ∀ T D, HOk (n7 + 2) ((n7 + 1, brS D) :: (n7, shS T) :: h7) := fun T D => (ok7.consF fun k hk => shC_flat _ _).consF fun k hk => brC_flat _ hk
    have Ar : ∀ x y, ren (sig [(n7 + 2, x), (n7 + 3, y)]) A = A := fun x y => hA.ren fun i hi => sig2_id (m := n) hi (by omega) (by omega)
    have Br' : ∀ x y, ren (sig [(n7 + 2, x), (n7 + 3, y)]) B = B := fun x y => hB.ren fun i hi => sig2_id (m := n) hi (by omega) (by omega)
    simp only [go_sem, Nat.reduceLT, reduceIte, h0, gS7, gB7, lS7, lB7]
    refine T_lp (ι := { w : Nat × DSt // w.1 ≤ L.length ∧ dipN S b least L w.1 = some w.2 })
      (fun w => ([(0, A), (1, B), (5, .ptr n1 0), (6, .ptr n3 0), (7, .sl jv 0 L.length capV), (8, .int .i64 least), (15, .sl j7 0 E.length cap7), (26, .ptr n7 0), (27, .ptr (n7 + 1) 0), (28, .int .i64 w.1.2.2.2.length), (29, .int .i64 w.1.1)], (n7 + 1, brS w.1.2.2.1) :: (n7, shS w.1.2.1) :: h7, n7 + 2)) (fun w => L.length - w.1.1) ⟨(0, (S, b, [])), Nat.zero_le _, rfl⟩ ?_ ?_
    · refine Imp.id (by show n ≤ n7 + 2; omega) ?_ (impH.base0 (okc S b) (Nat.le_refl _) HExt.rfl)
      simp only [go_sem, Nat.reduceLT, hAo, hBo, Ac, Bc, lj7b, lV7, lS7, lB7]
      (try (repeat' apply And.intro) <;> first | omega | rfl | trivial | assumption | skip)
    rintro ⟨⟨q, p⟩, hq, hp⟩
    simp only at hq hp
    have hDO := dipN_ok hI hS0 (hV.ok hb hR) q p hq hp
    have hpl := hDO.len
    simp only [go_sem, Nat.reduceLT, decide_eq_true_eq, decide_eq_false_iff_not]
    refine ⟨fun hlt => ?_, fun hlt => ?_⟩
    rotate_left
    · have hql : q = L.length := by omega
      subst hql
      rw [hE] at hp
      cases hp
      simp only [go_sem, hpe]
      refine ⟨⟨((n7 + 1, brS pe.2.1) :: (n7, shS pe.1) :: h7, n7 + 2), by simp only [go_sem, HExt_cons], by show n7 ≤ n7 + 2; omega, okc _ _⟩, ?_⟩
      refine Imp.id (by show n ≤ n7 + 2; omega) ?_ (impH.base0 (okc _ _) (Nat.le_refl _) HExt.rfl)
      simp only [go_sem, Nat.reduceLT, hAo, hBo, Ac, Bc, lj7b, lV7, lS7, lB7]
      (try (repeat' apply And.intro) <;> first | omega | rfl | trivial | assumption | skip)
    have hql : q < L.length := by omega
    have r1 : (0 : Int) ≤ q ∧ (q : Int) < (L.length : Int) := ⟨by omega, hlt⟩
    have b1 : q * 2 ≤ sV.n - 2 := by omega
    have b2 : 2 ≤ sV.n := by omega
    have b3 : q * 2 + 2 ≤ sV.n := by omega
    have ex := hLA.x hql
    have ey := hLA.y hql
    obtain ⟨x0, x8, y0, y8⟩ := hI.at hS0 hql
    have hhq := hI q hql
    obtain ⟨p', hp', hle1, halt⟩ := dip_replay hE hql hp
    rw [hpe] at hle1 halt
    have hpR := hDO.ok.R
    have hpG := hDO.ok.G
    have hpB := hDO.ok.B
    dsimp only at hpR hpG hpB
    have hhp : hasB p.1 (L.getD q (0, 0)).1 (L.getD q (0, 0)).2 = true := by
      have e1 := hDO.ok.wide
      have e2 := hDO.ok.high
      unfold hasB at hhq ⊢
      rw [e1, e2]; exact hhq
    have hpV : Valid p.1 := dipN_valid hI hV hR hb q p hq hp
    have hpw : ∀ x y, waxB p.1 x y = waxB S x y := fun x y => by unfold waxB; rw [hDO.ok.wax]
    rw [hpw] at halt
    generalize (L.getD q (0, 0)).1 = x at *
    generalize (L.getD q (0, 0)).2 = y at *
    rcases halt with ⟨ha1, ha2, hpp, hlv'⟩ | ⟨ha, hpp, hlv'⟩
    · have hBq := hb
      have hBq' := touchB_V hpG hb x0 x8 y0 y8
      have hlv : waxB S x y = false → least ≤ lvSum p.1 b y x := fun _ => hlv'
      have hp'e : p'.2.1 = touchB p.1 b y x ∧ p'.1 = touchS p.1 b y x := by rw [hpp]; exact ⟨rfl, rfl⟩
      have hp'l : p'.2.2.length = p.2.2.length + 1 := by rw [hpp]; simp
      have i1 : ((p.2.2.length : Nat) : Int) < (E.length : Int) := by omega
      have i2 : (0 : Int) ≤ ((p.2.2.length : Nat) : Int) ∧ ((p.2.2.length : Nat) : Int) < (E.length : Int) := by omega
      have i3 : t7.c p.2.2.length = .int .i64 q := by rw [hc7.2 _ ha1]; show SV.int .i64 (E.getD p.2.2.length 0) = _; rw [ha2]
      have i4 : p.2.2.length + 1 ≤ t7.n := by rw [hc7.1]; omega
      have i5 : IntKind.i64.wrap ((p.2.2.length : Int) + 1) = ((p.2.2.length + 1 : Nat) : Int) := by rw [w64 (by omega)]; rfl
      simp only [go_sem, Nat.reduceLT, reduceIte, i1, i2, i3, i4, i5, hg7, lj7b, gB7, lB7]
      refine ⟨?_, fun hz => absurd trivial hz⟩
      refine T_drawH hti 16 [13, 14] (.b 0 0 (.b 0 1 (.b 0 2 (.b 0 3 (.b 0 4 (.b 0 5 (.b 1 6 (.b 0 7 (.b 0 8 (.b 0 9 (.b 0 10 (.b 2 11 (.b 2 12 (.b 4 13 (.b 4 14 (.b 0 15 (.f) .o) .o) .o) .o) (.b 2 12 (.b 2 11 (.b 4 13 (.b 4 14 (.b 0 15 (.f) .o) .o) .o) .o) .o)) .o) .o) .o) .o) .o) .o) .o) .o) .o) .o) .o)  [(0, A), (1, B), (5, .ptr n1 0), (6, .ptr n3 0), (7, .sl jv 0 L.length capV), (8, .int .i64 least), (15, .sl j7 0 E.length cap7), (26, .ptr n7 0), (27, .ptr (n7 + 1) 0), (28, .int .i64 ((p.2.2.length + 1 : Nat) : Int)), (29, .int .i64 q), (30, .ptr (n7 + 2) 0), (31, .ptr (n7 + 3) 0), (32, .int .i64 0)]
        ((n7 + 3, brS (touchB p.1 b y x)) :: (n7 + 2, shS (touchS p.1 b y x)) :: (n7 + 1, brS b) :: (n7, shS p.1) :: h7) (n7 + 4) _ _ (by kernel_rfl) (by kernel_rfl) ?_ ?_
      rotate_left
      · simp only [go_sem, Nat.reduceLT, gV7, lV7, r1, b1, b2, b3, ex, ey]
        (repeat' (with_reducible refine And.intro ?_ ?_))
        all_goals (try omega)
        all_goals (refine CallQ.F _ (fun h' n' hn' hx' => touchCell_Q _ h' n' p.1 b x y hpV hpR hBq hhp) ?_; simp only [go_sem, Nat.reduceLT, Nat.reduceLeDiff, reduceIte, HExt_cons])
        all_goals (repeat' (with_reducible refine And.intro ?_ ?_))
        · exact imp_two (n7 + 2) (n7 + 2) (n7 + 3) (by show n ≤ n7 + 2; omega) (okc p.1 b) (by simp only [go_sem, Nat.reduceLeDiff, HExt_cons]) (by omega) (by omega) (by omega) (by simp only [go_sem, Nat.reduceLT]) (by simp only [go_sem]) (fun k hk => shC_flat _ _) (fun k hk => brC_flat _ hk) (by simp only [go_sem, Nat.reduceLT, hAo, hBo, Ac, Bc, A4, B4, Ar, Br', lj7b, lV7, lS7, lB7]; (try (repeat' apply And.intro) <;> first | omega | rfl | trivial | assumption | skip))
        · exact imp_two (n7 + 2) (n7 + 3) (n7 + 2) (by show n ≤ n7 + 2; omega) (okc p.1 b) (by simp only [go_sem, Nat.reduceLeDiff, HExt_cons]) (by omega) (by omega) (by omega) (by simp only [go_sem]) (by simp only [go_sem, Nat.reduceLT]) (fun k hk => shC_flat _ _) (fun k hk => brC_flat _ hk) (by simp only [go_sem, Nat.reduceLT, hAo, hBo, Ac, Bc, A4, B4, Ar, Br', lj7b, lV7, lS7, lB7]; (try (repeat' apply And.intro) <;> first | omega | rfl | trivial | assumption | skip))
      simp only [go_sem]
      refine T_drawG hti 6 [] (.b 0 0 (.b 0 2 (.b 1 1 (.b 1 3 (.b 0 4 (.b 0 5 (.f) .o) .o) .o) .o) .o) .o) _ _ (by kernel_rfl) (by kernel_rfl) ?_
      simp only [go_sem, Nat.reduceLT]
      refine CallQ.F _ (fun h' n' hn' hx' => loadOf_Q _ h' n' b hBq.R) ?_
      simp only [go_sem, Nat.reduceLT]
      refine CallQ.F _ (fun h' n' hn' hx' => loadOf_Q _ h' n' (touchB p.1 b y x) hBq'.R) ?_
      have hdf : IntKind.i64.wrap (b.a + b.b + b.c - ((touchB p.1 b y x).a + (touchB p.1 b y x).b + (touchB p.1 b y x).c)) = lvSum p.1 b y x := by
        have hv1 := hBq; have hv2 := hBq'
        unfold BrV at hv1 hv2
        rw [w64 (by omega)]
        unfold touchB lvSum
        simp only
        omega
      simp only [go_sem, Nat.reduceLT, hdf]
      refine T_drawG hti 16 [] (.b 0 0 (.b 0 1 (.b 0 2 (.b 0 3 (.b 0 4 (.b 0 5 (.b 0 6 (.b 0 7 (.b 2 8 (.b 0 9 (.b 0 10 (.b 0 11 (.b 0 12 (.b 0 13 (.b 0 14 (.b 0 15 (.f) .o) .o) .o) .o) .o) .o) .o) .o) .o) .o) .o) .o) .o) .o) .o) .o) _ _ (by kernel_rfl) (by kernel_rfl) ?_
      simp only [go_sem, Nat.reduceLT, gS7, lS7, gV7, lV7, r1, b1, b2, b3, ex, ey]
      refine (a2waxed_Q _ _ _ S x y hR x0 x8 y0 y8).A ?_
      have e2 : IntKind.i64.wrap ((q : Int) + 1) = ((q + 1 : Nat) : Int) := by rw [w64 (by omega)]; rfl
      cases hwx : waxB S x y
      · have hle : ¬ lvSum p.1 b y x < least := by have := hlv hwx; omega
        simp only [go_sem, Nat.reduceLT, reduceIte, hle, e2]
        refine ⟨⟨(q + 1, p'), by show q + 1 ≤ L.length; omega, hp'⟩, by show L.length - (q + 1) < L.length - q; omega, ?_⟩
        refine Imp.id (by show n ≤ n7 + 2; omega) ?_ ?_
        · simp only [go_sem, Nat.reduceLT, hAo, hBo, Ac, Bc, lj7b, lV7, lS7, lB7, hp'l]
          (try (repeat' apply And.intro) <;> first | omega | rfl | trivial | assumption | skip)
        · simp only [hp'e]
          exact impH.base0 (okc _ _) (by omega) (by simp only [go_sem, Nat.reduceLeDiff, HExt_cons])
      · simp only [go_sem, Nat.reduceLT, reduceIte, e2]
        refine ⟨⟨(q + 1, p'), by show q + 1 ≤ L.length; omega, hp'⟩, by show L.length - (q + 1) < L.length - q; omega, ?_⟩
        refine Imp.id (by show n ≤ n7 + 2; omega) ?_ ?_
        · simp only [go_sem, Nat.reduceLT, hAo, hBo, Ac, Bc, lj7b, lV7, lS7, lB7, hp'l]
          (try (repeat' apply And.intro) <;> first | omega | rfl | trivial | assumption | skip)
        · simp only [hp'e]
          exact impH.base0 (okc _ _) (by omega) (by simp only [go_sem, Nat.reduceLeDiff, HExt_cons])
    · have hBq := hpB
      have hBq' := touchB_V hpG hpB x0 x8 y0 y8
      have hlv : waxB S x y = false → least ≤ lvSum p.1 p.2.1 y x := fun e => by
        rcases hlv' with h1 | h1
        · rw [e] at h1; cases h1
        · exact h1
      have hp'e : p'.2.1 = touchB p.1 p.2.1 y x ∧ p'.1 = touchS p.1 p.2.1 y x := by rw [hpp]; exact ⟨rfl, rfl⟩
      have hp'l : p'.2.2.length = p.2.2.length := by rw [hpp]
      by_cases i1 : ((p.2.2.length : Nat) : Int) < (E.length : Int)
      · have i0 : p.2.2.length < E.length := by omega
        have i2 : (0 : Int) ≤ ((p.2.2.length : Nat) : Int) ∧ ((p.2.2.length : Nat) : Int) < (E.length : Int) := by omega
        have i3 : t7.c p.2.2.length = .int .i64 (E.getD p.2.2.length 0) := by rw [hc7.2 _ i0]; rfl
        have i4 : p.2.2.length + 1 ≤ t7.n := by rw [hc7.1]; omega
        have i6 : ¬ E.getD p.2.2.length 0 = (q : Int) := fun e => ha ⟨i0, e⟩
        simp only [go_sem, Nat.reduceLT, i1, i2, i3, i4, i6, hg7, lj7b, gB7, lB7]
        refine ⟨?_, fun hz => absurd hz (by first | exact i6 | simp)⟩
        refine T_drawH hti 16 [13, 14] (.b 0 0 (.b 0 1 (.b 0 2 (.b 0 3 (.b 0 4 (.b 0 5 (.b 1 6 (.b 0 7 (.b 0 8 (.b 0 9 (.b 0 10 (.b 2 11 (.b 2 12 (.b 4 13 (.b 4 14 (.b 0 15 (.f) .o) .o) .o) .o) (.b 2 12 (.b 2 11 (.b 4 13 (.b 4 14 (.b 0 15 (.f) .o) .o) .o) .o) .o)) .o) .o) .o) .o) .o) .o) .o) .o) .o) .o) .o)  [(0, A), (1, B), (5, .ptr n1 0), (6, .ptr n3 0), (7, .sl jv 0 L.length capV), (8, .int .i64 least), (15, .sl j7 0 E.length cap7), (26, .ptr n7 0), (27, .ptr (n7 + 1) 0), (28, .int .i64 ((p.2.2.length : Nat) : Int)), (29, .int .i64 q), (30, .ptr (n7 + 2) 0), (31, .ptr (n7 + 3) 0), (32, .int .i64 0)]
          ((n7 + 3, brS (touchB p.1 p.2.1 y x)) :: (n7 + 2, shS (touchS p.1 p.2.1 y x)) :: (n7 + 1, brS p.2.1) :: (n7, shS p.1) :: h7) (n7 + 4) _ _ (by kernel_rfl) (by kernel_rfl) ?_ ?_
        rotate_left
        · simp only [go_sem, Nat.reduceLT, gV7, lV7, r1, b1, b2, b3, ex, ey]
          (repeat' (with_reducible refine And.intro ?_ ?_))
          all_goals (try omega)
          all_goals (refine CallQ.F _ (fun h' n' hn' hx' => touchCell_Q _ h' n' p.1 p.2.1 x y hpV hpR hBq hhp) ?_; simp only [go_sem, Nat.reduceLT, Nat.reduceLeDiff, reduceIte, HExt_cons])
          all_goals (repeat' (with_reducible refine And.intro ?_ ?_))
          · exact imp_two (n7 + 2) (n7 + 2) (n7 + 3) (by show n ≤ n7 + 2; omega) (okc p.1 p.2.1) (by simp only [go_sem, Nat.reduceLeDiff, HExt_cons]) (by omega) (by omega) (by omega) (by simp only [go_sem, Nat.reduceLT]) (by simp only [go_sem]) (fun k hk => shC_flat _ _) (fun k hk => brC_flat _ hk) (by simp only [go_sem, Nat.reduceLT, hAo, hBo, Ac, Bc, A4, B4, Ar, Br', lj7b, lV7, lS7, lB7]; (try (repeat' apply And.intro) <;> first | omega | rfl | trivial | assumption | skip))
          · exact imp_two (n7 + 2) (n7 + 3) (n7 + 2) (by show n ≤ n7 + 2; omega) (okc p.1 p.2.1) (by simp only [go_sem, Nat.reduceLeDiff, HExt_cons]) (by omega) (by omega) (by omega) (by simp only [go_sem]) (by simp only [go_sem, Nat.reduceLT]) (fun k hk => shC_flat _ _) (fun k hk => brC_flat _ hk) (by simp only [go_sem, Nat.reduceLT, hAo, hBo, Ac, Bc, A4, B4, Ar, Br', lj7b, lV7, lS7, lB7]; (try (repeat' apply And.intro) <;> first | omega | rfl | trivial | assumption | skip))
        simp only [go_sem]
        refine T_drawG hti 6 [] (.b 0 0 (.b 0 2 (.b 1 1 (.b 1 3 (.b 0 4 (.b 0 5 (.f) .o) .o) .o) .o) .o) .o) _ _ (by kernel_rfl) (by kernel_rfl) ?_
        simp only [go_sem, Nat.reduceLT]
        refine CallQ.F _ (fun h' n' hn' hx' => loadOf_Q _ h' n' p.2.1 hBq.R) ?_
        simp only [go_sem, Nat.reduceLT]
        refine CallQ.F _ (fun h' n' hn' hx' => loadOf_Q _ h' n' (touchB p.1 p.2.1 y x) hBq'.R) ?_
        have hdf : IntKind.i64.wrap (p.2.1.a + p.2.1.b + p.2.1.c - ((touchB p.1 p.2.1 y x).a + (touchB p.1 p.2.1 y x).b + (touchB p.1 p.2.1 y x).c)) = lvSum p.1 p.2.1 y x := by
          have hv1 := hBq; have hv2 := hBq'
          unfold BrV at hv1 hv2
          rw [w64 (by omega)]
          unfold touchB lvSum
          simp only
          omega
        simp only [go_sem, Nat.reduceLT, hdf]
        refine T_drawG hti 16 [] (.b 0 0 (.b 0 1 (.b 0 2 (.b 0 3 (.b 0 4 (.b 0 5 (.b 0 6 (.b 0 7 (.b 2 8 (.b 0 9 (.b 0 10 (.b 0 11 (.b 0 12 (.b 0 13 (.b 0 14 (.b 0 15 (.f) .o) .o) .o) .o) .o) .o) .o) .o) .o) .o) .o) .o) .o) .o) .o) .o) _ _ (by kernel_rfl) (by kernel_rfl) ?_
        simp only [go_sem, Nat.reduceLT, gS7, lS7, gV7, lV7, r1, b1, b2, b3, ex, ey]
        refine (a2waxed_Q _ _ _ S x y hR x0 x8 y0 y8).A ?_
        have e2 : IntKind.i64.wrap ((q : Int) + 1) = ((q + 1 : Nat) : Int) := by rw [w64 (by omega)]; rfl
        cases hwx : waxB S x y
        · have hle : ¬ lvSum p.1 p.2.1 y x < least := by have := hlv hwx; omega
          simp only [go_sem, Nat.reduceLT, reduceIte, hle, e2]
          refine ⟨⟨(q + 1, p'), by show q + 1 ≤ L.length; omega, hp'⟩, by show L.length - (q + 1) < L.length - q; omega, ?_⟩
          refine Imp.id (by show n ≤ n7 + 2; omega) ?_ ?_
          · simp only [go_sem, Nat.reduceLT, hAo, hBo, Ac, Bc, lj7b, lV7, lS7, lB7, hp'l]
            (try (repeat' apply And.intro) <;> first | omega | rfl | trivial | assumption | skip)
          · simp only [hp'e]
            exact impH.base0 (okc _ _) (by omega) (by simp only [go_sem, Nat.reduceLeDiff, HExt_cons])
        · simp only [go_sem, Nat.reduceLT, reduceIte, e2]
          refine ⟨⟨(q + 1, p'), by show q + 1 ≤ L.length; omega, hp'⟩, by show L.length - (q + 1) < L.length - q; omega, ?_⟩
          refine Imp.id (by show n ≤ n7 + 2; omega) ?_ ?_
          · simp only [go_sem, Nat.reduceLT, hAo, hBo, Ac, Bc, lj7b, lV7, lS7, lB7, hp'l]
            (try (repeat' apply And.intro) <;> first | omega | rfl | trivial | assumption | skip)
          · simp only [hp'e]
            exact impH.base0 (okc _ _) (by omega) (by simp only [go_sem, Nat.reduceLeDiff, HExt_cons])
      · simp only [go_sem, i1]
        refine T_drawH hti 16 [13, 14] (.b 0 0 (.b 0 1 (.b 0 2 (.b 0 3 (.b 0 4 (.b 0 5 (.b 1 6 (.b 0 7 (.b 0 8 (.b 0 9 (.b 0 10 (.b 2 11 (.b 2 12 (.b 4 13 (.b 4 14 (.b 0 15 (.f) .o) .o) .o) .o) (.b 2 12 (.b 2 11 (.b 4 13 (.b 4 14 (.b 0 15 (.f) .o) .o) .o) .o) .o)) .o) .o) .o) .o) .o) .o) .o) .o) .o) .o) .o)  [(0, A), (1, B), (5, .ptr n1 0), (6, .ptr n3 0), (7, .sl jv 0 L.length capV), (8, .int .i64 least), (15, .sl j7 0 E.length cap7), (26, .ptr n7 0), (27, .ptr (n7 + 1) 0), (28, .int .i64 ((p.2.2.length : Nat) : Int)), (29, .int .i64 q), (30, .ptr (n7 + 2) 0), (31, .ptr (n7 + 3) 0), (32, .int .i64 0)]
          ((n7 + 3, brS (touchB p.1 p.2.1 y x)) :: (n7 + 2, shS (touchS p.1 p.2.1 y x)) :: (n7 + 1, brS p.2.1) :: (n7, shS p.1) :: h7) (n7 + 4) _ _ (by kernel_rfl) (by kernel_rfl) ?_ ?_
        rotate_left
        · simp only [go_sem, Nat.reduceLT, gV7, lV7, r1, b1, b2, b3, ex, ey]
          (repeat' (with_reducible refine And.intro ?_ ?_))
          all_goals (try omega)
          all_goals (refine CallQ.F _ (fun h' n' hn' hx' => touchCell_Q _ h' n' p.1 p.2.1 x y hpV hpR hBq hhp) ?_; simp only [go_sem, Nat.reduceLT, Nat.reduceLeDiff, reduceIte, HExt_cons])
          all_goals (repeat' (with_reducible refine And.intro ?_ ?_))
          · exact imp_two (n7 + 2) (n7 + 2) (n7 + 3) (by show n ≤ n7 + 2; omega) (okc p.1 p.2.1) (by simp only [go_sem, Nat.reduceLeDiff, HExt_cons]) (by omega) (by omega) (by omega) (by simp only [go_sem, Nat.reduceLT]) (by simp only [go_sem]) (fun k hk => shC_flat _ _) (fun k hk => brC_flat _ hk) (by simp only [go_sem, Nat.reduceLT, hAo, hBo, Ac, Bc, A4, B4, Ar, Br', lj7b, lV7, lS7, lB7]; (try (repeat' apply And.intro) <;> first | omega | rfl | trivial | assumption | skip))
          · exact imp_two (n7 + 2) (n7 + 3) (n7 + 2) (by show n ≤ n7 + 2; omega) (okc p.1 p.2.1) (by simp only [go_sem, Nat.reduceLeDiff, HExt_cons]) (by omega) (by omega) (by omega) (by simp only [go_sem]) (by simp only [go_sem, Nat.reduceLT]) (fun k hk => shC_flat _ _) (fun k hk => brC_flat _ hk) (by simp only [go_sem, Nat.reduceLT, hAo, hBo, Ac, Bc, A4, B4, Ar, Br', lj7b, lV7, lS7, lB7]; (try (repeat' apply And.intro) <;> first | omega | rfl | trivial | assumption | skip))
        simp only [go_sem]
        refine T_drawG hti 6 [] (.b 0 0 (.b 0 2 (.b 1 1 (.b 1 3 (.b 0 4 (.b 0 5 (.f) .o) .o) .o) .o) .o) .o) _ _ (by kernel_rfl) (by kernel_rfl) ?_
        simp only [go_sem, Nat.reduceLT]
        refine CallQ.F _ (fun h' n' hn' hx' => loadOf_Q _ h' n' p.2.1 hBq.R) ?_
        simp only [go_sem, Nat.reduceLT]
        refine CallQ.F _ (fun h' n' hn' hx' => loadOf_Q _ h' n' (touchB p.1 p.2.1 y x) hBq'.R) ?_
        have hdf : IntKind.i64.wrap (p.2.1.a + p.2.1.b + p.2.1.c - ((touchB p.1 p.2.1 y x).a + (touchB p.1 p.2.1 y x).b + (touchB p.1 p.2.1 y x).c)) = lvSum p.1 p.2.1 y x := by
          have hv1 := hBq; have hv2 := hBq'
          unfold BrV at hv1 hv2
          rw [w64 (by omega)]
          unfold touchB lvSum
          simp only
          omega
        simp only [go_sem, Nat.reduceLT, hdf]
        refine T_drawG hti 16 [] (.b 0 0 (.b 0 1 (.b 0 2 (.b 0 3 (.b 0 4 (.b 0 5 (.b 0 6 (.b 0 7 (.b 2 8 (.b 0 9 (.b 0 10 (.b 0 11 (.b 0 12 (.b 0 13 (.b 0 14 (.b 0 15 (.f) .o) .o) .o) .o) .o) .o) .o) .o) .o) .o) .o) .o) .o) .o) .o) .o) _ _ (by kernel_rfl) (by kernel_rfl) ?_
        simp only [go_sem, Nat.reduceLT, gS7, lS7, gV7, lV7, r1, b1, b2, b3, ex, ey]
        refine (a2waxed_Q _ _ _ S x y hR x0 x8 y0 y8).A ?_
        have e2 : IntKind.i64.wrap ((q : Int) + 1) = ((q + 1 : Nat) : Int) := by rw [w64 (by omega)]; rfl
        cases hwx : waxB S x y
        · have hle : ¬ lvSum p.1 p.2.1 y x < least := by have := hlv hwx; omega
          simp only [go_sem, Nat.reduceLT, reduceIte, hle, e2]
          refine ⟨⟨(q + 1, p'), by show q + 1 ≤ L.length; omega, hp'⟩, by show L.length - (q + 1) < L.length - q; omega, ?_⟩
          refine Imp.id (by show n ≤ n7 + 2; omega) ?_ ?_
          · simp only [go_sem, Nat.reduceLT, hAo, hBo, Ac, Bc, lj7b, lV7, lS7, lB7, hp'l]
            (try (repeat' apply And.intro) <;> first | omega | rfl | trivial | assumption | skip)
          · simp only [hp'e]
            exact impH.base0 (okc _ _) (by omega) (by simp only [go_sem, Nat.reduceLeDiff, HExt_cons])
        · simp only [go_sem, Nat.reduceLT, reduceIte, e2]
          refine ⟨⟨(q + 1, p'), by show q + 1 ≤ L.length; omega, hp'⟩, by show L.length - (q + 1) < L.length - q; omega, ?_⟩
          refine Imp.id (by show n ≤ n7 + 2; omega) ?_ ?_
          · simp only [go_sem, Nat.reduceLT, hAo, hBo, Ac, Bc, lj7b, lV7, lS7, lB7, hp'l]
            (try (repeat' apply And.intro) <;> first | omega | rfl | trivial | assumption | skip)
          · simp only [hp'e]
            exact impH.base0 (okc _ _) (by omega) (by simp only [go_sem, Nat.reduceLeDiff, HExt_cons])
  rintro ⟨⟨hq, nq⟩, hxq, hnq, okq⟩
  dsimp only at hxq hnq okq
  have Xq := X7.tr hxq (by omega)
  have gBq : hget hq n3 = some (brS b) := hxq n3 (by omega) _ gB7
  have lBq : n3 < nq := by omega
  refine SW_seq (SW_run hti trivial ?_)
  simp only [go_sem, Nat.reduceLT, hAo, hBo]
  refine callA_false (a2brush_E _ _ _ A ((hAs n (Nat.le_refl _)).up (by omega) Xq (by omega)) _ fun c h8 n8 hcD hn8 hx8 ok8 => ?_)
  have X8 := Xq.tr hx8 (by omega)
  have gB8 : hget h8 n3 = some (brS b) := hx8 n3 (by omega) _ gBq
  have lB8 : n3 < n8 := by omega
  have hc := hcD.V
  have hb6 : (0 ≤ b.a ∧ b.a ≤ 260) ∧ (0 ≤ b.b ∧ b.b ≤ 260) ∧ (0 ≤ b.c ∧ b.c ≤ 260) ∧ b.a + b.b + b.c ≤ 260 ∧ (0 ≤ b.w ∧ b.w ≤ 100) ∧ (1 ≤ b.s ∧ b.s ≤ 16) := by
    unfold BrD at hbD; omega
  have hc6 : (0 ≤ c.a ∧ c.a ≤ 260) ∧ (0 ≤ c.b ∧ c.b ≤ 260) ∧ (0 ≤ c.c ∧ c.c ≤ 260) ∧ c.a + c.b + c.c ≤ 260 ∧ (0 ≤ c.w ∧ c.w ≤ 100) ∧ (1 ≤ c.s ∧ c.s ≤ 16) := by
    unfold BrD at hcD; omega
  have q1 := fun cx h n => mix_Q cx h n b c hb6 hc6
  have q2 := fun cx h n => mix2_Q cx h n b c hb6 hc6
  obtain ⟨_, _, hu, hv⟩ := mixU_V b c hb6 hc6
  have du : ((mixU b c).a + (mixL b c).a = b.a + c.a ∧ (mixL b c).a ≤ (mixU b c).a ∧ (mixU b c).a ≤ (mixL b c).a + 1) ∧ ((mixU b c).b + (mixL b c).b = b.b + c.b ∧ (mixL b c).b ≤ (mixU b c).b ∧ (mixU b c).b ≤ (mixL b c).b + 1) ∧ ((mixU b c).c + (mixL b c).c = b.c + c.c ∧ (mixL b c).c ≤ (mixU b c).c ∧ (mixU b c).c ≤ (mixL b c).c + 1) := by
    unfold mixU mixL
    simp only
    omega
  generalize mixU b c = u at *
  generalize mixL b c = v at *
  obtain ⟨⟨ua1, ua2, ua3⟩, ⟨ub1, ub2, ub3⟩, ⟨uc1, uc2, uc3⟩⟩ := du
  simp only [go_sem, Nat.reduceLT, reduceIte, hAo, hBo]
  refine SW_seq (SW_run hti trivial ?_)
  simp only [go_sem, Nat.reduceLT, hAo, hBo, gB8, lB8]
  refine (q1 _ _ _).A ?_
  simp only [go_sem, Nat.reduceLT, reduceIte, hAo, hBo]
  refine SW_seq (SW_run hti trivial ?_)
  simp only [go_sem, Nat.reduceLT, hAo, hBo, gB8, lB8]
  refine (q2 _ _ _).A ?_
  simp only [go_sem, Nat.reduceLT, reduceIte, hAo, hBo]
  refine SW_seq (SW_run hti trivial ?_)
  simp only [go_sem, Nat.reduceLT, Nat.reduceLeDiff, Nat.reduceMod, hAo, hBo, gB8, lB8]
  refine SW_seq (SW_run hti trivial ?_)
  simp only [go_sem, Nat.reduceLT, hAo, hBo, gB8, lB8]
  refine (rinse_Q _ _ _ b hb).A ?_
  simp only [go_sem, Nat.reduceLT, reduceIte, hAo, hBo]
  have v0 : BrV ⟨0, 0, 0, 0, b.s⟩ := by
    refine ⟨⟨?_, ?_, ?_⟩, ?_, ?_, ?_⟩ <;> simp only <;> omega
  have x1 : IntKind.i64.wrap (b.a + b.b) = b.a + b.b := w64 (by omega)
  have x2 : IntKind.i64.wrap (b.a + b.b + b.c) = b.a + b.b + b.c := w64 (by omega)
  refine SW_seq (SW_run hti trivial ?_)
  simp only [go_sem]
  refine T_drawG hti 39 [] (.b 0 0 (.b 0 1 (.b 0 2 (.b 0 3 (.b 2 4 (.b 0 5 (.b 0 6 (.b 0 7 (.b 0 8 (.b 0 9 (.b 0 10 (.b 0 11 (.b 0 12 (.b 0 13 (.b 0 14 (.b 0 15 (.b 0 16 (.b 0 17 (.b 0 18 (.b 0 19 (.b 0 20 (.b 0 21 (.b 0 22 (.b 0 23 (.b 0 24 (.b 0 25 (.b 0 26 (.b 0 27 (.b 0 28 (.b 2 29 (.b 0 30 (.b 0 31 (.b 0 32 (.b 0 33 (.b 0 35 (.b 2 34 (.b 2 36 (.b 0 37 (.b 0 38 (.f) .o) .o) .o) .o) .o) .o) .o) .o) .o) .o) .o) .o) .o) .o) .o) .o) .o) .o) .o) .o) .o) .o) .o) .o) .o) .o) .o) .o) .o) .o) .o) .o) .o) .o) .o) .o) .o) .o) .o) _ _ (by kernel_rfl) (by kernel_rfl) ?_
  simp only [go_sem, Nat.reduceLT, hAo, hBo, gB8, lB8]
  refine (loadOf_Q _ _ _ ⟨0, 0, 0, 0, b.s⟩ v0.R).A ?_
  simp only [go_sem, Nat.reduceLT, Nat.reduceLeDiff, Int.reduceToNat, reduceCtorEq, Int.reduceLE, Int.reduceLT, Int.reduceAdd, hAo, hBo, gB8, lB8, x1, x2]
  refine (loadOf_Q _ _ _ b hb.R).A ?_
  simp only [go_sem, Nat.reduceLT, hAo, hBo, gB8, lB8, x1, x2]
  refine (loadOf_Q _ _ _ b hb.R).A ?_
  simp only [go_sem, Nat.reduceLT, hAo, hBo, gB8, lB8, x1, x2]
  refine (loadOf2_Q _ _ _ b hb).A ?_
  simp only [go_sem, Nat.reduceLT, hAo, hBo, gB8, lB8, x1, x2]
  have y1 : IntKind.i16.wrap (b.a + c.a) = b.a + c.a := w16 (by omega)
  have y2 : IntKind.i16.wrap (b.b + c.b) = b.b + c.b := w16 (by omega)
  have y3 : IntKind.i16.wrap (b.c + c.c) = b.c + c.c := w16 (by omega)
  have y4 : IntKind.i16.wrap (v.a + 1) = v.a + 1 := w16 (by omega)
  have y5 : IntKind.i16.wrap (v.b + 1) = v.b + 1 := w16 (by omega)
  have y6 : IntKind.i16.wrap (v.c + 1) = v.c + 1 := w16 (by omega)
  have z1 : ¬ u.a < v.a := by omega
  have z2 : ¬ u.b < v.b := by omega
  have z3 : ¬ u.c < v.c := by omega
  have z4 : ¬ v.a + 1 < u.a := by omega
  have z5 : ¬ v.b + 1 < u.b := by omega
  have z6 : ¬ v.c + 1 < u.c := by omega
  have z7 : IntKind.i64.wrap b.a = b.a := w64 (by omega)
  have z8 : IntKind.i64.wrap b.b = b.b := w64 (by omega)
  have z9 : IntKind.i64.wrap b.c = b.c := w64 (by omega)
  have A8 : A.lt n8 := SV.lt_mono (by omega) _ A7
  have B8 : B.lt n8 := SV.lt_mono (by omega) _ B7
  have Az : A.lt (n8 + 7) := SV.lt_mono (by omega) _ A8
  have Bz : B.lt (n8 + 7) := SV.lt_mono (by omega) _ B8
  have s5 : ∀ (q : Br) k, k < 5 → (brC q k).flat := fun q k hk => brC_flat q hk
  refine SW_seq (SW_cut hti (ι := { w : List (Nat × Seg) × Nat // HExt n8 h8 w.1 ∧ n8 + 7 ≤ w.2 ∧ HOk w.2 w.1 ∧ hget w.1 (n8 + 5) = some (brS ⟨0, 0, 0, 0, b.s⟩) }) (fun w => ([(0, A), (1, B), (8, .int .i64 least), (41, .ptr (n8 + 5) 0)], w.1.1, w.1.2)) trivial ?_ ?_)
  · simp only [go_sem, Nat.reduceLT]
    refine T_unroll 3 ?_
    simp only [go_sem, Nat.reduceLT, Int.reduceLT]
    refine T_drawG hti 57 [] (.b 0 0 (.b 0 1 (.b 0 2 (.b 0 3 (.b 0 4 (.b 0 5 (.b 0 6 (.b 0 7 (.b 0 8 (.b 0 9 (.b 0 10 (.b 0 11 (.b 0 12 (.b 0 13 (.b 0 14 (.b 0 15 (.b 0 16 (.b 0 17 (.b 0 18 (.b 0 19 (.b 0 20 (.b 0 21 (.b 0 22 (.b 0 23 (.b 0 24 (.b 0 25 (.b 0 26 (.b 0 27 (.b 0 28 (.b 0 29 (.b 0 30 (.b 0 31 (.b 0 32 (.b 0 33 (.b 0 34 (.b 0 35 (.b 0 36 (.b 0 37 (.b 0 38 (.b 0 39 (.b 0 40 (.b 0 41 (.b 0 42 (.b 0 43 (.b 0 44 (.b 0 45 (.b 0 46 (.b 0 47 (.b 0 48 (.b 0 49 (.b 0 50 (.b 0 51 (.b 0 52 (.b 0 53 (.b 0 54 (.b 0 55 (.b 0 56 (.f) .o) .o) .o) .o) .o) .o) .o) .o) .o) .o) .o) .o) .o) .o) .o) .o) .o) .o) .o) .o) .o) .o) .o) .o) .o) .o) .o) .o) .o) .o) .o) .o) .o) .o) .o) .o) .o) .o) .o) .o) .o) .o) .o) .o) .o) .o) .o) .o) .o) .o) .o) .o) .o) .o) .o) .o) .o) _ _ (by kernel_rfl) (by kernel_rfl) ?_
    simp only [go_sem, Nat.reduceLT, Nat.reduceLeDiff, Int.reduceToNat, reduceCtorEq, Int.reduceLE, Int.reduceLT, Int.reduceNeg, Int.reduceAdd, gB8, lB8, ua1, y1, y4, z1, z4, z7]
    refine U_step ?_
    simp only [go_sem, Nat.reduceLT, Int.reduceLT]
    refine T_drawG hti 57 [] (.b 0 0 (.b 0 1 (.b 0 2 (.b 0 3 (.b 0 4 (.b 0 5 (.b 0 6 (.b 0 7 (.b 0 8 (.b 0 9 (.b 0 10 (.b 0 11 (.b 0 12 (.b 0 13 (.b 0 14 (.b 0 15 (.b 0 16 (.b 0 17 (.b 0 18 (.b 0 19 (.b 0 20 (.b 0 21 (.b 0 22 (.b 0 23 (.b 0 24 (.b 0 25 (.b 0 26 (.b 0 27 (.b 0 28 (.b 0 29 (.b 0 30 (.b 0 31 (.b 0 32 (.b 0 33 (.b 0 34 (.b 0 35 (.b 0 36 (.b 0 37 (.b 0 38 (.b 0 39 (.b 0 40 (.b 0 41 (.b 0 42 (.b 0 43 (.b 0 44 (.b 0 45 (.b 0 46 (.b 0 47 (.b 0 48 (.b 0 49 (.b 0 50 (.b 0 51 (.b 0 52 (.b 0 53 (.b 0 54 (.b 0 55 (.b 0 56 (.f) .o) .o) .o) .o) .o) .o) .o) .o) .o) .o) .o) .o) .o) .o) .o) .o) .o) .o) .o) .o) .o) .o) .o) .o) .o) .o) .o) .o) .o) .o) .o) .o) .o) .o) .o) .o) .o) .o) .o) .o) .o) .o) .o) .o) .o) .o) .o) .o) .o) .o) .o) .o) .o) .o) .o) .o) .o) _ _ (by kernel_rfl) (by kernel_rfl) ?_
    simp only [go_sem, Nat.reduceLT, Nat.reduceLeDiff, Int.reduceToNat, reduceCtorEq, Int.reduceLE, Int.reduceLT, Int.reduceNeg, Int.reduceAdd, gB8, lB8, ub1, y2, y5, z2, z5, z8]
    refine U_step ?_
    simp only [go_sem, Nat.reduceLT, Int.reduceLT]
    refine T_drawG hti 57 [] (.b 0 0 (.b 0 1 (.b 0 2 (.b 0 3 (.b 0 4 (.b 0 5 (.b 0 6 (.b 0 7 (.b 0 8 (.b 0 9 (.b 0 10 (.b 0 11 (.b 0 12 (.b 0 13 (.b 0 14 (.b 0 15 (.b 0 16 (.b 0 17 (.b 0 18 (.b 0 19 (.b 0 20 (.b 0 21 (.b 0 22 (.b 0 23 (.b 0 24 (.b 0 25 (.b 0 26 (.b 0 27 (.b 0 28 (.b 0 29 (.b 0 30 (.b 0 31 (.b 0 32 (.b 0 33 (.b 0 34 (.b 0 35 (.b 0 36 (.b 0 37 (.b 0 38 (.b 0 39 (.b 0 40 (.b 0 41 (.b 0 42 (.b 0 43 (.b 0 44 (.b 0 45 (.b 0 46 (.b 0 47 (.b 0 48 (.b 0 49 (.b 0 50 (.b 0 51 (.b 0 52 (.b 0 53 (.b 0 54 (.b 0 55 (.b 0 56 (.f) .o) .o) .o) .o) .o) .o) .o) .o) .o) .o) .o) .o) .o) .o) .o) .o) .o) .o) .o) .o) .o) .o) .o) .o) .o) .o) .o) .o) .o) .o) .o) .o) .o) .o) .o) .o) .o) .o) .o) .o) .o) .o) .o) .o) .o) .o) .o) .o) .o) .o) .o) .o) .o) .o) .o) .o) .o) _ _ (by kernel_rfl) (by kernel_rfl) ?_
    simp only [go_sem, Nat.reduceLT, Nat.reduceLeDiff, Int.reduceToNat, reduceCtorEq, Int.reduceLE, Int.reduceLT, Int.reduceNeg, Int.reduceAdd, gB8, lB8, uc1, y3, y6, z3, z6, z9]
    refine U_step ?_
    simp only [go_sem, Nat.reduceLT, Int.reduceLT]
    have okL : HOk (n8 + 7) ((n8 + 6, (⟨3, cl [.int .i64 b.a, .int .i64 b.b, .int .i64 b.c], true, none⟩ : Seg)) :: (n8 + 5, brS ⟨0, 0, 0, 0, b.s⟩) :: (n8 + 4, brS v) :: (n8 + 3, brS u) :: (n8 + 2, brS v) :: (n8 + 1, brS u) :: (n8, brS c) :: h8) :=
      ((((((ok8.consF fun k hk => brC_flat _ hk).consF fun k hk => brC_flat _ hk).consF fun k hk => brC_flat _ hk).consF fun k hk => brC_flat _ hk).consF fun k hk => brC_flat _ hk).consF fun k hk => brC_flat _ hk).consF fun k hk => cl_flat (l := [_, _, _]) (by simp [SV.flat]) hk
    refine ⟨⟨((n8 + 6, (⟨3, cl [.int .i64 b.a, .int .i64 b.b, .int .i64 b.c], true, none⟩ : Seg)) :: (n8 + 5, brS ⟨0, 0, 0, 0, b.s⟩) :: (n8 + 4, brS v) :: (n8 + 3, brS u) :: (n8 + 2, brS v) :: (n8 + 1, brS u) :: (n8, brS c) :: h8, n8 + 7), by simp only [go_sem, HExt_cons], Nat.le_refl _, okL, by simp only [go_sem, Nat.reduceLT]⟩, ?_⟩
    refine Imp.id (by show n ≤ n8 + 7; omega) ?_ (impH.base0 okL (Nat.le_refl _) HExt.rfl)
    simp only [go_sem, Nat.reduceLT, hAo, hBo, Az, Bz]
    (try (repeat' apply And.intro) <;> first | omega | rfl | trivial | assumption | skip)
  rintro ⟨⟨hz, nz⟩, hxz, hnz, okz, gRz⟩
  dsimp only at hxz hnz okz gRz
  have Xz := X8.tr hxz (by omega)
  refine SW_run hti trivial ?_
  simp only [go_sem]
  refine T_drawG hti 11 [9] (.b 0 0 (.b 0 1 (.b 0 3 (.b 2 2 (.b 1 4 (.b 0 5 (.b 0 6 (.b 0 7 (.b 2 8 (.b 4 9 (.b 0 10 (.f) .o) .o) .o) .o) .o) .o) .o) (.b 2 8 (.b 2 2 (.b 1 4 (.b 0 5 (.b 0 6 (.b 0 7 (.b 4 9 (.b 0 10 (.f) .o) .o) .o) .o) .o) .o) .o) .o)) .o) .o) .o) _ _ (by kernel_rfl) (by kernel_rfl) ?_
  have lz : n8 + 5 < nz := by omega
  have dq : ∀ ink : Int, 0 ≤ ink → ink < 3 → ∃ d1 d2 d3 : Int, d1 + d2 + d3 = least ∧ BrV ⟨d1, d2, d3, 5, b.s⟩ ∧ ∀ cx h n, CallQ Try.prog cx 24 [.agg 5 (brC ⟨0, 0, 0, 0, b.s⟩), .int .i64 ink, .int .i64 least, .int .i64 5] h n (.tup 2 (cl [.agg 5 (brC ⟨d1, d2, d3, 5, b.s⟩), .int .i64 0])) := fun ink i0 i3 => by
    refine ⟨_, _, _, ?_, ?_, fun cx h n => dip_Q cx h n b.s ink least 5 (by omega) i0 i3 (by omega) (by omega)⟩
    · rcases (by omega : ink = 0 ∨ ink = 1 ∨ ink = 2) with rfl | rfl | rfl <;> simp
    · rcases (by omega : ink = 0 ∨ ink = 1 ∨ ink = 2) with rfl | rfl | rfl <;> (unfold BrV; simp; omega)
  have Xz1 : HExt n h ((nz, brS ⟨0, 0, 0, 0, 0⟩) :: hz) := Xz.cons (by omega)
  simp only [go_sem, Nat.reduceLT, gRz, lz, hBo]
  refine ⟨?_, ?_⟩
  · obtain ⟨ink, i0, i1, hq2⟩ := at_Q ⟨cx.w0, cx.W, 429, nz⟩ hz nz B 1 3 ((hBs n (Nat.le_refl _)).up (n' := nz) (i' := nz) (by omega) Xz (by omega)) (by omega) (by omega)
    obtain ⟨d1, d2, d3, dd1, dd2, dd3⟩ := dq ink i0 i1
    have ddl := loadOf_Q (B := ⟨d1, d2, d3, 5, b.s⟩) (hR := dd2.R)
    dsimp only at ddl
    rw [dd1] at ddl
    refine hq2.A ?_
    simp only [go_sem, Nat.reduceLT, gRz, lz, hBo, i0, i1]
    refine CallQ.F _ (fun h' n' hn' hx' => dd3 _ h' n') ?_
    simp only [go_sem, Nat.reduceLT, reduceIte, gRz, lz, hBo]
    (repeat' (with_reducible refine And.intro ?_ ?_))
    all_goals (try omega)
    all_goals (refine (ddl _ _ _).A ?_; simp only [go_sem, Nat.reduceLT, Nat.reduceLeDiff, reduceCtorEq])
    exact Xz.cons (by omega)
  · obtain ⟨ink, i0, i1, hq2⟩ := at_Q ⟨cx.w0, cx.W, 429, nz + 1⟩ ((nz, brS ⟨0, 0, 0, 0, 0⟩) :: hz) (nz + 1) B 1 3 ((hBs n (Nat.le_refl _)).up (n' := nz + 1) (i' := nz + 1) (by omega) Xz1 (by omega)) (by omega) (by omega)
    obtain ⟨d1, d2, d3, dd1, dd2, dd3⟩ := dq ink i0 i1
    have ddl := loadOf_Q (B := ⟨d1, d2, d3, 5, b.s⟩) (hR := dd2.R)
    dsimp only at ddl
    rw [dd1] at ddl
    refine hq2.A ?_
    simp only [go_sem, Nat.reduceLT, gRz, lz, hBo, i0, i1]
    refine CallQ.F _ (fun h' n' hn' hx' => dd3 _ h' n') ?_
    simp only [go_sem, Nat.reduceLT, reduceIte, gRz, lz, hBo]
    (repeat' (with_reducible refine And.intro ?_ ?_))
    all_goals (try omega)
    all_goals (refine (ddl _ _ _).A ?_; simp only [go_sem, Nat.reduceLT, Nat.reduceLeDiff, reduceCtorEq])
    exact Xz.cons (by omega)
end
end Go.Proofs.Ytpcnhenenjblpaa.V
