
/-
  For every picture and drop that come in, the law laws.FnExactCanBeLast returns true, and its arguments read afterwards as they read before: the program's CanBeLast and the reference's return the same truth and the same code. No condition.
-/
import Derived.Test.YtodgbpkdanefaaaRows
import Derived.Test.YtodgbpkdanefaaaZcle
import Derived.Test.YtodgbpkdanefaaaZcld
set_option linter.all false
namespace Go.Proofs.Ytodgbpkdanefaaa.V
open Go.ChangeShapes Go.RowKit

theorem own : ownKnob Try.prog.godebug = none := by kernel_rfl
theorem laidOut : laidOutB Try.prog = true := by kernel_rfl

theorem rcl_calls (W : World) (c0 : Array Value) (z0 : c0.size = 66) (f0 : flatC ti 9 26 (cells c0) 0) (c1 : Array Value) (z1 : c1.size = 3) (f1 : flatC ti 9 40 (cells c1) 0) :
    Calls Try.prog 4 #[.agg c0, .agg c1] W fun e W' => e = .returned (.bool true) ∧ Keeps Noth W W' := by
  obtain ⟨_, _, _, hc⟩ := lawCanBeLast_Q (cx0 W) [] 0 _ (pic_cells f0).1 _ _ _ (drop_cells f1).2.1 (drop_cells f1).2.2.1 (drop_cells f1).2.2.2
  have hc' := hc (fun _ => (0, 0)) W (sat0 W _) (fun v hv => by
    simp only [List.mem_cons, List.not_mem_nil, or_false] at hv
    rcases hv with rfl | rfl
    · exact pcC_lt _ _
    · simp only [go_sem])
  simp only [List.map_cons, List.map_nil, den_pic z0 f0, den_drop z1 f1] at hc'
  exact hc'.mono fun e W' ⟨he, hs⟩ => ⟨he, hs.keeps⟩

set_option maxRecDepth 100000 in
theorem rcl_lifted (os : Os) (started : os.Started) (H : Type) (enc : TypeId × Value → H) :
    ReturnsInHanded {} Try.checked os 4 .any (Rows.fnExactCanBeLastSpec.pre6 enc Try.prog Try.f4 Rows.fnExactCanBeLastRow.domain false) (Rows.fnExactCanBeLastSpec.post enc Try.prog Try.f4 false true false false) := by
  refine returnsInHanded_of_change (C := Try.checked) own started (by kernel_rfl) Try.func4
    (ChangeSpec.witness6 (enc := enc) (C := Try.checked) false ⟨#[], #[.agg (arr 66 fun j => if j < 2 then .int .i8 0 else .int .u8 0), .agg #[.int .i8 0, .int .i8 0, .int .u8 0]], []⟩ 8 (by kernel_rfl) (by kernel_rfl) (by kernel_rfl) (by kernel_rfl)) ?_
  intro W base args ds gs before hval hW _ _
  have hW' := hW
  obtain ⟨p, q, hA, hV, rfl, _, _⟩ := hW'
  replace hA : DataW.TrodAll enc Try.prog W 0 (fun _ => true) true Try.f4.params.toList args.toList ds p := hA
  replace hval : ∀ (j : Nat) t v, Try.f4.params[j]? = some t → args[j]? = some v → Value.okWide Try.prog W .any base t v := hval
  rw [Try.params4] at hA hval
  obtain ⟨v0, v1, d0, d1, p0, p1, rfl, rfl, rfl, h0, h1⟩ := trodA2 hA
  obtain ⟨c0, rfl, z0, f0, _⟩ := flat_arg hti (by kernel_rfl) rfl (hval 0 _ _ rfl rfl) h0
  obtain ⟨c1, rfl, z1, f1, _⟩ := flat_arg hti (by kernel_rfl) rfl (hval 1 _ _ rfl rfl) h1
  obtain ⟨rfl, _⟩ := trodVars_none hV
  refine (rcl_calls W c0 z0 f0 c1 z1 f1).mono fun e W' ⟨he, hk⟩ => ⟨_, he, ?_⟩
  exact law_post (tb := 4) laidOut (by kernel_rfl) rfl Try.underlying4 rfl rfl hW hk

theorem rcl_holds : Rows.FnExactCanBeLastSaid :=
  OpenClaim.holds_of_wide 4 Try.f4 rfl rfl rfl rfl rfl rfl rfl ⟨rfl, rfl, rfl, rfl, rfl⟩ rfl rfl rfl rfl rfl (by kernel_rfl) Try.func4 (by kernel_rfl)
    (of_decide_eq_true (by kernel_rfl)) (by unfold Func.isWrapper; first | (rw [if_pos (by decide +kernel)]; kernel_rfl) | (rw [if_neg (by decide +kernel)]; exact ⟨rfl, rfl⟩))
    (fun os started H enc _ => rcl_lifted os started H enc)
end Go.Proofs.Ytodgbpkdanefaaa.V
