/- A sheet that came in. -/
import Derived.Test.YtebpkdolmlloaaaV14
import Derived.Test.YtebpkdolmlloaaaL7
set_option linter.all false
namespace Go.Proofs.Ytebpkdolmlloaaa.V

theorem wf_i8 {n : Int} (h : (Lit.int .i8 n).wf = true) : -128 ≤ n ∧ n < 128 := by
  simp [Lit.wf, IntKind.min, IntKind.max, IntKind.signed, IntKind.bits] at h; omega
theorem wf_i16 {n : Int} (h : (Lit.int .i16 n).wf = true) : -32768 ≤ n ∧ n < 32768 := by
  simp [Lit.wf, IntKind.min, IntKind.max, IntKind.signed, IntKind.bits] at h; omega
theorem wf_u8 {n : Int} (h : (Lit.int .u8 n).wf = true) : 0 ≤ n ∧ n < 256 := by
  simp [Lit.wf, IntKind.min, IntKind.max, IntKind.signed, IntKind.bits] at h; omega

/-- The sheet that cells tell. -/
def shOf (c : Nat → Value) : Sh :=
  ⟨ivOf (c 0), ivOf (c 1), fun y x => if 0 ≤ y ∧ y < 8 ∧ 0 ≤ x ∧ x < 8 then ivOf (c (2 + y.toNat * 8 + x.toNat)) else 0,
    fun y x i => if 0 ≤ y ∧ y < 8 ∧ 0 ≤ x ∧ x < 8 ∧ 0 ≤ i ∧ i < 3 then ivOf (c (66 + y.toNat * 24 + x.toNat * 3 + i.toNat)) else 0,
    fun y => if 0 ≤ y ∧ y < 8 then ivOf (c (258 + y.toNat)) else 0⟩
theorem iv_i8 {v : Value} (h : ∃ n, v = .int .i8 n ∧ (Lit.int .i8 n).wf = true) : svOf v = .int .i8 (ivOf v) ∧ -128 ≤ ivOf v ∧ ivOf v < 128 := by
  obtain ⟨n, rfl, h⟩ := h; exact ⟨rfl, wf_i8 h⟩
theorem iv_i16 {v : Value} (h : ∃ n, v = .int .i16 n ∧ (Lit.int .i16 n).wf = true) : svOf v = .int .i16 (ivOf v) ∧ -32768 ≤ ivOf v ∧ ivOf v < 32768 := by
  obtain ⟨n, rfl, h⟩ := h; exact ⟨rfl, wf_i16 h⟩
theorem iv_u8 {v : Value} (h : ∃ n, v = .int .u8 n ∧ (Lit.int .u8 n).wf = true) : svOf v = .int .u8 (ivOf v) ∧ 0 ≤ ivOf v ∧ ivOf v < 256 := by
  obtain ⟨n, rfl, h⟩ := h; exact ⟨rfl, wf_u8 h⟩

theorem shF_of {c : Nat → Value} (h : flatC ti 9 31 c 0) : ShF (fun j => svOf (c j)) (shOf c) := by
  simp only [flatC_succ, go_sem, flatK_st, flatL_cons, flatL_nil, flatK_int, flatK_arr, Nat.zero_add, and_true, Nat.mul_one] at h
  obtain ⟨h0, h1, hw, hd, hx⟩ := h
  have ew : ∀ y x : Int, 0 ≤ y ∧ y < 8 ∧ 0 ≤ x ∧ x < 8 → _ := fun y x ⟨a, b, e, f⟩ => iv_i16 (hw y.toNat (by omega) x.toNat (by omega))
  have ed : ∀ y x i : Int, 0 ≤ y ∧ y < 8 ∧ 0 ≤ x ∧ x < 8 ∧ 0 ≤ i ∧ i < 3 → _ := fun y x i ⟨a, b, e, f, p, q⟩ => iv_i16 (hd y.toNat (by omega) x.toNat (by omega) i.toNat (by omega))
  have ex : ∀ y : Int, 0 ≤ y ∧ y < 8 → _ := fun y ⟨a, b⟩ => iv_u8 (hx y.toNat (by omega))
  refine ⟨⟨(iv_i8 h0).2, (iv_i8 h1).2, fun y x => ?_, fun y x i => ?_, fun y => ?_⟩, (iv_i8 h0).1, (iv_i8 h1).1, fun y x a b e f => ?_, fun y x i a b e f p q => ?_, fun y a b => ?_⟩
  · simp only [shOf]
    split
    · rename_i hc; exact (ew y x hc).2
    · omega
  · simp only [shOf]
    split
    · rename_i hc; exact (ed y x i hc).2
    · omega
  · simp only [shOf]
    split
    · rename_i hc; exact (ex y hc).2
    · omega
  · simp only [shOf, if_pos (show 0 ≤ y ∧ y < 8 ∧ 0 ≤ x ∧ x < 8 from ⟨a, b, e, f⟩)]; exact (ew y x ⟨a, b, e, f⟩).1
  · simp only [shOf, if_pos (show 0 ≤ y ∧ y < 8 ∧ 0 ≤ x ∧ x < 8 ∧ 0 ≤ i ∧ i < 3 from ⟨a, b, e, f, p, q⟩)]; exact (ed y x i ⟨a, b, e, f, p, q⟩).1
  · simp only [shOf, if_pos (show 0 ≤ y ∧ y < 8 from ⟨a, b⟩)]; exact (ex y ⟨a, b⟩).1

theorem ShF.ltF {F : Nat → SV} {S : Sh} (h : ShF F S) (m : Nat) : (SV.agg 266 F).lt m := fun j hj => SV.flat.below (h.flat hj) m
end Go.Proofs.Ytebpkdolmlloaaa.V
