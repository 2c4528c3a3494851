
/-
  For every picture and every budget that come in, the law laws.FnExactFewestDrops returns true, and its arguments read afterwards as they read before: the program's FewestDrops and the reference's return the same list of drops, the same number of tries and the same code, and the list that is returned is shared with nothing. No condition.
-/
import Derived.Test.YtodgbpkdanefaaaRows
import Derived.Test.YtodgbpkdanefaaaZfdf
import Derived.Test.YtodgbpkdanefaaaZfde
set_option linter.all false
namespace Go.Proofs.Ytodgbpkdanefaaa.V
open Go.ChangeShapes Go.RowKit

theorem own : ownKnob Try.prog.godebug = none := by kernel_rfl
theorem laidOut : laidOutB Try.prog = true := by kernel_rfl

theorem rfd_calls (W : World) (c0 : Array Value) (z0 : c0.size = 66) (f0 : flatC ti 9 26 (cells c0) 0) (x1 : Int) :
    Calls Try.prog 11 #[.agg c0, .int .i64 x1] W fun e W' => e = .returned (.bool true) ∧ Keeps Noth W W' := by
  obtain ⟨_, _, _, hc⟩ := lawFew_Q (cx0 W) [] 0 _ (pic_cells f0).1 x1
  have hc' := hc (fun _ => (0, 0)) W (sat0 W _) (fun v hv => by
    simp only [List.mem_cons, List.not_mem_nil, or_false] at hv
    rcases hv with rfl | rfl
    · exact pcC_lt _ _
    · trivial)
  simp only [List.map_cons, List.map_nil, den_pic z0 f0] at hc'
  exact hc'.mono fun e W' ⟨he, hs⟩ => ⟨he, hs.keeps⟩

set_option maxRecDepth 100000 in
theorem rfd_lifted (os : Os) (started : os.Started) (H : Type) (enc : TypeId × Value → H) :
    ReturnsInHanded {} Try.checked os 11 .any (Rows.fnExactFewestDropsSpec.pre6 enc Try.prog Try.f11 Rows.fnExactFewestDropsRow.domain false) (Rows.fnExactFewestDropsSpec.post enc Try.prog Try.f11 false true false false) := by
  refine returnsInHanded_of_change (C := Try.checked) own started (by kernel_rfl) Try.func11
    (ChangeSpec.witness6 (enc := enc) (C := Try.checked) false ⟨#[], #[.agg (arr 66 fun j => if j < 2 then .int .i8 0 else .int .u8 0), .int .i64 0], []⟩ 8 (by kernel_rfl) (by kernel_rfl) (by kernel_rfl) (by kernel_rfl)) ?_
  intro W base args ds gs before hval hW _ _
  have hW' := hW
  obtain ⟨p, q, hA, hV, rfl, _, _⟩ := hW'
  replace hA : DataW.TrodAll enc Try.prog W 0 (fun _ => true) true Try.f11.params.toList args.toList ds p := hA
  replace hval : ∀ (j : Nat) t v, Try.f11.params[j]? = some t → args[j]? = some v → Value.okWide Try.prog W .any base t v := hval
  rw [Try.params11] at hA hval
  obtain ⟨v0, v1, d0, d1, p0, p1, rfl, rfl, rfl, h0, h1⟩ := trodA2 hA
  obtain ⟨c0, rfl, z0, f0, _⟩ := flat_arg hti (by kernel_rfl) rfl (hval 0 _ _ rfl rfl) h0
  obtain ⟨x1, rfl, _, _, _⟩ := open_int (P := Try.prog) (t := 2) (k := .i64) rfl (hval 1 _ _ rfl rfl) h1
  obtain ⟨rfl, _⟩ := trodVars_none hV
  refine (rfd_calls W c0 z0 f0 x1).mono fun e W' ⟨he, hk⟩ => ⟨_, he, ?_⟩
  exact law_post (tb := 4) laidOut (by kernel_rfl) rfl Try.underlying4 rfl rfl hW hk

theorem rfd_holds : Rows.FnExactFewestDropsSaid :=
  OpenClaim.holds_of_wide 11 Try.f11 rfl rfl rfl rfl rfl rfl rfl ⟨rfl, rfl, rfl, rfl, rfl⟩ rfl rfl rfl rfl rfl (by kernel_rfl) Try.func11 (by kernel_rfl)
    (of_decide_eq_true (by kernel_rfl)) (by unfold Func.isWrapper; first | (rw [if_pos (by decide +kernel)]; kernel_rfl) | (rw [if_neg (by decide +kernel)]; exact ⟨rfl, rfl⟩))
    (fun os started H enc _ => rfd_lifted os started H enc)
end Go.Proofs.Ytodgbpkdanefaaa.V
