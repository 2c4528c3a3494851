/- Part 3 of the texts that this proof stands on: a symbolic walk over the program, what its functions and the reference's do, plain laws. -/
import Derived.Test.YtlkcpmbpfcfeaaaDoorZrpa
import Derived.Test.YtlkcpmbpfcfeaaaDoorV17
import Derived.Test.YtlkcpmbpfcfeaaaDoorZrpb
import Derived.Sort.Walk13a
set_option linter.all false

/- Comparing spots; the library's small functions. -/
namespace Go.Proofs.YtlkcpmbpfcfeaaaDoor.V
section
variable (cx : Cx) (h : List (Nat × Seg)) (n : Nat)
end
end Go.Proofs.YtlkcpmbpfcfeaaaDoor.V

/- The library's insertion sort over spots. -/
namespace Go.Proofs.YtlkcpmbpfcfeaaaDoor.V
open Go.Sort (swp insInner insOuter insertionSort)

section
variable (cx : Cx) (h : List (Nat × Seg)) (n : Nat)
end
end Go.Proofs.YtlkcpmbpfcfeaaaDoor.V

/- Sets of few cells: the program's own walk. -/
namespace Go.Proofs.YtlkcpmbpfcfeaaaDoor.V
section
variable (cx : Cx) (h : List (Nat × Seg)) (n : Nat)
end
end Go.Proofs.YtlkcpmbpfcfeaaaDoor.V

/- Pictures: validity, covered cells: the program's own walk. -/
namespace Go.Proofs.YtlkcpmbpfcfeaaaDoor.V
section
variable (cx : Cx) (h : List (Nat × Seg)) (n : Nat)
theorem sheet_E (i : Nat) (P : Pc) (hs : hget h i = some (pcS P)) (hi : i < n) (K : HK) (hK : K (.ptr n 0) ((n, shS (psh P)) :: h) (n + 1)) :
    CallE Tryd.prog cx 21 [.ptr i 0] h n K := by
  refine callE_of_T (P := Tryd.prog) hti (nt := 13) (rs := [.tmp 2]) rfl rfl Tryd.call21 Tryd.func21 rfl _ (by simp only [go_sem, and_self]) (Nat.le_of_ble_eq_true rfl) _ fun hok => ?_
  simp only [go_sem, Nat.reduceLT]
  refine T_drawG hti 11 [] (.b 0 0 (.b 0 1 (.b 0 2 (.b 0 3 (.b 0 4 (.b 0 5 (.b 0 6 (.b 0 7 (.b 0 8 (.b 2 9 (.b 0 10 (.f) .o) .o) .o) .o) .o) .o) .o) .o) .o) .o) .o) _ _ (by kernel_rfl) (by kernel_rfl) ?_
  simp only [go_sem, Nat.reduceLT, Nat.reduceLeDiff, reduceCtorEq, hs, hi]
  exact hK
end
end Go.Proofs.YtlkcpmbpfcfeaaaDoor.V

/- Pictures: validity, covered cells: the reference's walk. -/
namespace Go.Proofs.YtlkcpmbpfcfeaaaDoor.V
section
variable (cx : Cx) (h : List (Nat × Seg)) (n : Nat)
end
end Go.Proofs.YtlkcpmbpfcfeaaaDoor.V

/- The law's spots, and lists of spots that are alike. -/
namespace Go.Proofs.YtlkcpmbpfcfeaaaDoor.V
section
variable (cx : Cx) (h : List (Nat × Seg)) (n : Nat)
end
end Go.Proofs.YtlkcpmbpfcfeaaaDoor.V

/- The law's pictures and drops: copied, compared. -/
namespace Go.Proofs.YtlkcpmbpfcfeaaaDoor.V
section
variable (cx : Cx) (h : List (Nat × Seg)) (n : Nat)
theorem eqByteA8A8_Q (F G : Nat → SV) (hF : ∀ j, j < 64 → ∃ v, F j = .int .u8 v) (hG : ∀ j, j < 64 → G j = F j) : CallQ Tryd.prog cx 17 [.agg 64 F, .agg 64 G] h n (.bool true) := by
  have hfl : Flat 64 F := fun j hj => by obtain ⟨v, hv⟩ := hF j hj; rw [hv]; trivial
  have hfG : Flat 64 G := fun j hj => by rw [hG j hj]; exact hfl j hj
  refine callQ_of_T (P := Tryd.prog) hti (nt := 18) (rs := [.tmp 4]) rfl rfl Tryd.call17 Tryd.func17 rfl _ (by simp only [go_sem, and_self]) (Nat.le_of_ble_eq_true rfl) _ (by first | exact trivial | (refine lt_flat rfl ?_; simp [SV.flat]; done) | simp only [go_sem]) fun hok => ?_
  simp only [go_sem, Nat.reduceLT]
  refine T_lp (ι := { q : Nat // q ≤ 8 })
    (fun q => ([(2, .ptr n 0), (3, .ptr (n + 1) 0), (4, .bool false), (5, .int .i64 q.1)], (n + 1, ⟨64, G, true, none⟩) :: (n, ⟨64, F, true, none⟩) :: h, n + 2)) (fun q => 8 - q.1) ⟨0, by omega⟩ ?_ ?_
  · refine Imp.id (by simp) ?_ ?_
    · simp only [go_sem, Nat.reduceLT]
      omega
    · exact impH.cons0 (hget_hit _ _ _) (by simp) (SegLe.flat (Nat.le_refl _) id (.inr rfl) fun z hz => ⟨rfl, hfG z hz⟩) (impH.cons0 ((hget_miss _ _ _ _ (by simp)).trans (hget_hit _ _ _)) (by simp) (SegLe.flat (Nat.le_refl _) id (.inr rfl) fun z hz => ⟨rfl, hfl z hz⟩)
          (impH.base0 hok (by simp) ((HExt.rfl.cons (Nat.le_refl n)).cons (by simp))))
  · rintro ⟨k, hk⟩
    simp only [go_sem, Nat.reduceLT, decide_eq_true_eq, decide_eq_false_iff_not]
    refine ⟨fun h1 => ?_, fun h1 => ?_⟩
    · have hkr : (0 : Int) ≤ k ∧ (k : Int) < 8 := ⟨by omega, h1⟩
      refine T_drawT hti 6 _ _ (by kernel_rfl) (by kernel_rfl) ?_
      simp only [go_sem, Nat.reduceLT, Nat.reduceLeDiff, hkr]
      refine ⟨by omega, by omega, (eqByteA8_Q _ _ _ (fun j => F (k * 8 + j)) (fun j => G (k * 8 + j)) (fun j hj => hF (k * 8 + j) (by omega)) (fun j hj => hG (k * 8 + j) (by omega))).A ?_⟩
      simp only [go_sem, Nat.reduceLT, Bool.not_true]
      refine ⟨⟨k + 1, by omega⟩, by show 8 - (k + 1) < 8 - k; omega, ?_⟩
      refine Imp.id (by simp) ?_ ?_
      · simp only [go_sem, Nat.reduceLT, w64 (n := (k : Int) + 1) (by omega), Int.natCast_add, Int.natCast_one]
        omega
      · exact impH.cons0 (hget_hit _ _ _) (by simp) (SegLe.flat (Nat.le_refl _) id (.inr rfl) fun z hz => ⟨rfl, hfG z hz⟩) (impH.cons0 ((hget_miss _ _ _ _ (by simp)).trans (hget_hit _ _ _)) (by simp) (SegLe.flat (Nat.le_refl _) id (.inr rfl) fun z hz => ⟨rfl, hfl z hz⟩)
          (impH.base0 hok (by simp) ((HExt.rfl.cons (Nat.le_refl n)).cons (by simp))))
    · have hk8 : k = 8 := by omega
      subst hk8
      simp only [go_sem]

theorem pcC_u8 (P : Pc) (j : Nat) : ∃ v, pcC P (2 + j) = .int .u8 v := by
  unfold pcC; rw [if_neg (by omega)]; exact ⟨_, rfl⟩
theorem eqPicture_Q (P : Pc) : CallQ Tryd.prog cx 6 [.agg 66 (pcC P), .agg 66 (pcC P)] h n (.bool true) := by
  refine callQ_of_T (P := Tryd.prog) hti (nt := 21) (rs := [.tmp 4]) rfl rfl Tryd.call6 Tryd.func6 rfl _ (by simp only [go_sem, and_self]) (Nat.le_of_ble_eq_true rfl) _ (by first | exact trivial | (refine lt_flat rfl ?_; simp [SV.flat]; done) | simp only [go_sem]) fun hok => ?_
  simp only [go_sem, Nat.reduceLT, Nat.reduceLeDiff, Nat.reduceAdd, reduceCtorEq]
  refine (eqByteA8A8_Q _ _ _ (fun j => pcC P (2 + j)) (fun j => pcC P (2 + j)) (fun j hj => pcC_u8 P j) (fun j hj => rfl)).A ?_
  simp only [go_sem, Nat.reduceLT]
end
end Go.Proofs.YtlkcpmbpfcfeaaaDoor.V

/- A drop made upon a picture: both walks. -/
namespace Go.Proofs.YtlkcpmbpfcfeaaaDoor.V
theorem PcR.setInk {P : Pc} (h : PcR P) {y x v : Int} (hv : 0 ≤ v ∧ v < 256) : PcR (P.setInk y x v) :=
  ⟨h.wide, h.high, fun y' x' => by
    show 0 ≤ (if y' = y ∧ x' = x then v else P.ink y' x') ∧ (if y' = y ∧ x' = x then v else P.ink y' x') < 256
    split
    · exact hv
    · exact h.ink y' x'⟩
theorem PcOk.setInk {P : Pc} (h : PcOk P) {y x v : Int} (hv : v ≤ 3) (hx : x < P.wide) (hy : y < P.high) : PcOk (P.setInk y x v) :=
  ⟨h.1, fun y' x' a b c d => by
    show (if y' = y ∧ x' = x then v else P.ink y' x') ≤ 3 ∧ (0 < (if y' = y ∧ x' = x then v else P.ink y' x') → x' < P.wide ∧ y' < P.high)
    split
    · rename_i e
      rw [e.1, e.2]
      exact ⟨hv, fun _ => ⟨hx, hy⟩⟩
    · exact h.2 y' x' a b c d⟩
theorem wu8 {n : Int} (h : 0 ≤ n ∧ n < 256) : IntKind.u8.wrap n = n := by simp [IntKind.wrap, IntKind.bits, IntKind.signed]; omega
section
variable (cx : Cx) (h : List (Nat × Seg)) (n : Nat)
end
end Go.Proofs.YtlkcpmbpfcfeaaaDoor.V

/- The library's heap sort over spots. -/
namespace Go.Proofs.YtlkcpmbpfcfeaaaDoor.V
open Go.Sort (swp siftDown heapBuild heapPop heapSort)
section
variable (cx : Cx) (h : List (Nat × Seg)) (n : Nat)
end
end Go.Proofs.YtlkcpmbpfcfeaaaDoor.V
