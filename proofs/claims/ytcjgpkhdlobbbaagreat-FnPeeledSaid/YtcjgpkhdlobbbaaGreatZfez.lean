
/-
  The law FnPeeled holds for all arguments: it returns true. No conditions.
-/
import Derived.Test.YtcjgpkhdlobbbaaGreatRows
import Derived.Test.YtcjgpkhdlobbbaaGreatZfef
import Derived.Test.YtcjgpkhdlobbbaaGreatZfeg
set_option linter.all false
namespace Go.Proofs.YtcjgpkhdlobbbaaGreat.V
open Go.ChangeShapes Go.RowKit

theorem own : ownKnob Tryz.prog.godebug = none := by kernel_rfl
theorem laidOut : laidOutB Tryz.prog = true := by kernel_rfl

theorem rfe_calls (W : World) (ρ : Rho) (hm : List (Nat × Seg)) (A B : SV) (la lb : Nat) (sh : SatH (cx0 W) ρ hm 2 W) (hA : ByArg hm 2 A la) (hB : ByArg hm 2 B lb) :
    Calls Tryz.prog 3 #[den ρ A, den ρ B] W fun e W' => e = .returned (.bool true) ∧ Keeps Noth W W' := by
  obtain ⟨_, _, _, hc⟩ := lawFP_Q (cx0 W) hm 2 A B la lb hA hB
  have hc' := hc ρ W sh (fun v hv => by
    simp only [List.mem_cons, List.not_mem_nil, or_false] at hv
    rcases hv with rfl | rfl
    · exact hA.lt
    · exact hB.lt)
  simp only [List.map_cons, List.map_nil] at hc'
  exact hc'.mono fun e W' ⟨he, hs⟩ => ⟨he, hs.keeps⟩

set_option maxRecDepth 100000 in
theorem rfe_lifted (os : Os) (started : os.Started) (H : Type) (enc : TypeId × Value → H) :
    ReturnsInHanded {} Tryz.checked os 3 .any (Rows.fnPeeledSpec.pre6 enc Tryz.prog Tryz.f3 Rows.fnPeeledRow.domain false) (Rows.fnPeeledSpec.post enc Tryz.prog Tryz.f3 false true false false) := by
  refine returnsInHanded_of_change (C := Tryz.checked) own started (by kernel_rfl) Tryz.func3
    (ChangeSpec.witness6 (enc := enc) (C := Tryz.checked) false ⟨#[], #[.slice none 0 0, .slice none 0 0], []⟩ 8 (by kernel_rfl) (by kernel_rfl) (by kernel_rfl) (by kernel_rfl)) ?_
  intro W base args ds gs before hval hW _ _
  have hW' := hW
  obtain ⟨p, q, hA, hV, rfl, _, _⟩ := hW'
  replace hA : DataW.TrodAll enc Tryz.prog W 0 (fun _ => true) true Tryz.f3.params.toList args.toList ds p := hA
  replace hval : ∀ (j : Nat) t v, Tryz.f3.params[j]? = some t → args[j]? = some v → Value.okWide Tryz.prog W .any base t v := hval
  rw [Tryz.params3] at hA hval
  obtain ⟨v0, v1, d0, d1, p0, p1, rfl, rfl, rfl, h0, h1⟩ := trodA2 hA
  obtain ⟨ρ, hm, A, B, la, lb, sh, hA', hB', rfl, rfl⟩ := bytes2_arg (hval 0 _ _ rfl rfl) h0 (hval 1 _ _ rfl rfl) h1
  obtain ⟨rfl, _⟩ := trodVars_none hV
  refine (rfe_calls W ρ hm A B la lb sh hA' hB').mono fun e W' ⟨he, hk⟩ => ⟨_, he, ?_⟩
  exact law_post (tb := 4) laidOut (by kernel_rfl) rfl Tryz.underlying4 rfl rfl hW hk

theorem rfe_holds : Rows.FnPeeledSaid :=
  OpenClaim.holds_of_wide 3 Tryz.f3 rfl rfl rfl rfl rfl rfl rfl ⟨rfl, rfl, rfl, rfl, rfl⟩ rfl rfl rfl rfl rfl (by kernel_rfl) Tryz.func3 (by kernel_rfl)
    (of_decide_eq_true (by kernel_rfl)) (by unfold Func.isWrapper; first | (rw [if_pos (by decide +kernel)]; kernel_rfl) | (rw [if_neg (by decide +kernel)]; exact ⟨rfl, rfl⟩))
    (fun os started H enc _ => rfe_lifted os started H enc)
end Go.Proofs.YtcjgpkhdlobbbaaGreat.V
