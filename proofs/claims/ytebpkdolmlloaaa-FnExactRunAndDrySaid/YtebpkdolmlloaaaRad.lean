/-
  For every sheet that comes in, whatever its numbers are, the law laws.FnExactRunAndDry returns true, and its argument reads afterwards as it read before: the program's RunAndDry and the reference's return the same sheet, the same number of rounds and the same code. No condition.
-/
import Derived.Test.YtebpkdolmlloaaaRows
import Derived.Test.YtebpkdolmlloaaaR0
set_option linter.all false
namespace Go.Proofs.Ytebpkdolmlloaaa.V
open Go.ChangeShapes Go.RowKit

theorem own : ownKnob Try.prog.godebug = none := by kernel_rfl
theorem laidOut : laidOutB Try.prog = true := by kernel_rfl

theorem rad_calls (W : World) (cs : Array Value) (hsz : cs.size = 266) (h : flatC ti 9 31 (cells cs) 0) :
    Calls Try.prog 3 #[.agg cs] W fun e W' => e = .returned (.bool true) ∧ Keeps Noth W W' := by
  have hF := shF_of h
  obtain ⟨_, _, _, hc⟩ := lawRad_Q (cx0 W) [] 0 _ _ hF
  have hc' := hc (fun _ => (0, 0)) W (sat0 W _) (fun v hv => by rw [List.mem_singleton.1 hv]; exact hF.ltF 0)
  simp only [List.map_cons, List.map_nil, den_agg hsz] at hc'
  exact hc'.mono fun e W' ⟨he, hs⟩ => ⟨he, hs.keeps⟩

set_option maxRecDepth 100000 in
theorem rad_lifted (os : Os) (started : os.Started) (H : Type) (enc : TypeId × Value → H) :
    ReturnsInHanded {} Try.checked os 3 .any (Rows.fnExactRunAndDrySpec.pre6 enc Try.prog Try.f3 Rows.fnExactRunAndDryRow.domain false) (Rows.fnExactRunAndDrySpec.post enc Try.prog Try.f3 false true false false) := by
  refine returnsInHanded_of_change (C := Try.checked) own started (by kernel_rfl) Try.func3
    (ChangeSpec.witness6 (enc := enc) (C := Try.checked) false ⟨#[], #[.agg (arr 266 fun j => if j < 2 then .int .i8 0 else if j < 258 then .int .i16 0 else .int .u8 0)], []⟩ 8 (by kernel_rfl) (by kernel_rfl) (by kernel_rfl) (by kernel_rfl)) ?_
  intro W base args ds gs before hval hW _ _
  have hW' := hW
  obtain ⟨p, q, hA, hV, rfl, _, _⟩ := hW'
  replace hA : DataW.TrodAll enc Try.prog W 0 (fun _ => true) true Try.f3.params.toList args.toList ds p := hA
  replace hval : ∀ (j : Nat) t v, Try.f3.params[j]? = some t → args[j]? = some v → Value.okWide Try.prog W .any base t v := hval
  rw [Try.params3] at hA hval
  obtain ⟨v0, d0, rfl, rfl, h0⟩ := trodAll_one hA
  obtain ⟨cs, rfl, hsz, hc, _⟩ := flat_arg hti (by kernel_rfl) rfl (hval 0 _ _ rfl rfl) h0
  obtain ⟨rfl, _⟩ := trodVars_none hV
  refine (rad_calls W cs hsz hc).mono fun e W' ⟨he, hk⟩ => ⟨_, he, ?_⟩
  exact law_post (tb := 4) laidOut (by kernel_rfl) rfl Try.underlying4 rfl rfl hW hk

theorem rad_holds : Rows.FnExactRunAndDrySaid :=
  OpenClaim.holds_of_wide 3 Try.f3 rfl rfl rfl rfl rfl rfl rfl ⟨rfl, rfl, rfl, rfl, rfl⟩ rfl rfl rfl rfl rfl (by kernel_rfl) Try.func3 (by kernel_rfl)
    (of_decide_eq_true (by kernel_rfl)) (by unfold Func.isWrapper; first | (rw [if_pos (by decide +kernel)]; kernel_rfl) | (rw [if_neg (by decide +kernel)]; exact ⟨rfl, rfl⟩))
    (fun os started H enc _ => rad_lifted os started H enc)
end Go.Proofs.Ytebpkdolmlloaaa.V
