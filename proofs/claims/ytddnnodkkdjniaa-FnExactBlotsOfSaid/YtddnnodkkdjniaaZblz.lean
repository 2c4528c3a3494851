
/-
  The law of BlotsOf.
-/
import Derived.Test.YtddnnodkkdjniaaRows
import Derived.Test.YtddnnodkkdjniaaZbld
import Derived.Test.YtddnnodkkdjniaaZblf
import Derived.Test.YtddnnodkkdjniaaZblb
set_option linter.all false
namespace Go.Proofs.Ytddnnodkkdjniaa.V
open Go.ChangeShapes Go.RowKit

theorem own : ownKnob Try.prog.godebug = none := by kernel_rfl
theorem laidOut : laidOutB Try.prog = true := by kernel_rfl

theorem rbl_calls (W : World) (c0 : Array Value) (z0 : c0.size = 266) (f0 : flatC ti 9 31 (cells c0) 0) (x1 : Int) :
    Calls Try.prog 4 #[.agg c0, .int .i64 x1] W fun e W' => e = .returned (.bool true) ∧ Keeps Noth W W' := by
  obtain ⟨_, _, _, hc⟩ := lawBlotsOf_Q (cx0 W) [] 0 _ _ (shF_of f0) x1
  have hc' := hc (fun _ => (0, 0)) W (sat0 W _) (fun v hv => by
    simp only [List.mem_cons, List.not_mem_nil, or_false] at hv
    rcases hv with rfl | rfl
    · exact (shF_of f0).ltF _
    · trivial)
  simp only [List.map_cons, List.map_nil, den_agg z0] at hc'
  exact hc'.mono fun e W' ⟨he, hs⟩ => ⟨he, hs.keeps⟩

set_option maxRecDepth 100000 in
theorem rbl_lifted (os : Os) (started : os.Started) (H : Type) (enc : TypeId × Value → H) :
    ReturnsInHanded {} Try.checked os 4 .any (Rows.fnExactBlotsOfSpec.pre6 enc Try.prog Try.f4 Rows.fnExactBlotsOfRow.domain false) (Rows.fnExactBlotsOfSpec.post enc Try.prog Try.f4 false true false false) := by
  refine returnsInHanded_of_change (C := Try.checked) own started (by kernel_rfl) Try.func4
    (ChangeSpec.witness6 (enc := enc) (C := Try.checked) false ⟨#[], #[.agg (arr 266 fun j => if j < 2 then .int .i8 0 else if j < 258 then .int .i16 0 else .int .u8 0), .int .i64 0], []⟩ 8 (by kernel_rfl) (by kernel_rfl) (by kernel_rfl) (by kernel_rfl)) ?_
  intro W base args ds gs before hval hW _ _
  have hW' := hW
  obtain ⟨p, q, hA, hV, rfl, _, _⟩ := hW'
  replace hA : DataW.TrodAll enc Try.prog W 0 (fun _ => true) true Try.f4.params.toList args.toList ds p := hA
  replace hval : ∀ (j : Nat) t v, Try.f4.params[j]? = some t → args[j]? = some v → Value.okWide Try.prog W .any base t v := hval
  rw [Try.params4] at hA hval
  obtain ⟨v0, v1, d0, d1, p0, p1, rfl, rfl, rfl, h0, h1⟩ := trodA2 hA
  obtain ⟨c0, rfl, z0, f0, _⟩ := flat_arg hti (by kernel_rfl) rfl (hval 0 _ _ rfl rfl) h0
  obtain ⟨x1, rfl, _, _, _⟩ := open_int (P := Try.prog) (t := 2) (k := .i64) rfl (hval 1 _ _ rfl rfl) h1
  obtain ⟨rfl, _⟩ := trodVars_none hV
  refine (rbl_calls W c0 z0 f0 x1).mono fun e W' ⟨he, hk⟩ => ⟨_, he, ?_⟩
  exact law_post (tb := 4) laidOut (by kernel_rfl) rfl Try.underlying4 rfl rfl hW hk

theorem rbl_holds : Rows.FnExactBlotsOfSaid :=
  OpenClaim.holds_of_wide 4 Try.f4 rfl rfl rfl rfl rfl rfl rfl ⟨rfl, rfl, rfl, rfl, rfl⟩ rfl rfl rfl rfl rfl (by kernel_rfl) Try.func4 (by kernel_rfl)
    (of_decide_eq_true (by kernel_rfl)) (by unfold Func.isWrapper; first | (rw [if_pos (by decide +kernel)]; kernel_rfl) | (rw [if_neg (by decide +kernel)]; exact ⟨rfl, rfl⟩))
    (fun os started H enc _ => rbl_lifted os started H enc)
end Go.Proofs.Ytddnnodkkdjniaa.V
