
/-
  The law of LeastForerunner.
-/
import Derived.Test.YtfelopllfhcdpaaGreatRows
import Derived.Test.YtfelopllfhcdpaaGreatZlod
import Derived.Test.YtfelopllfhcdpaaGreatZlog
import Derived.Test.YtfelopllfhcdpaaGreatZlob
set_option linter.all false
namespace Go.Proofs.YtfelopllfhcdpaaGreat.V
open Go.ChangeShapes Go.RowKit

theorem own : ownKnob Tryz.prog.godebug = none := by kernel_rfl
theorem laidOut : laidOutB Tryz.prog = true := by kernel_rfl

theorem rlo_calls (W : World) (c0 : Array Value) (z0 : c0.size = 266) (f0 : flatC ti 9 31 (cells c0) 0) (ρ : Rho) (hm : List (Nat × Seg)) (A : SV) (L : List (Int × Int)) (sh : SatH (cx0 W) ρ hm 1 W) (hA : SpsArg hm 1 A L) (hLR : SpotsR L) (hl : L.length ≤ 9223372036854775807) :
    Calls Tryz.prog 3 #[.agg c0, den ρ A] W fun e W' => e = .returned (.bool true) ∧ Keeps Noth W W' := by
  obtain ⟨_, _, _, hc⟩ := lawLeastF_Q (cx0 W) hm 1 _ _ (shF_of f0) A L hA hLR hl
  have hc' := hc ρ W sh (fun v hv => by
    simp only [List.mem_cons, List.not_mem_nil, or_false] at hv
    rcases hv with rfl | rfl
    · exact (shF_of f0).ltF _
    · exact hA.lt)
  simp only [List.map_cons, List.map_nil, den_agg z0] at hc'
  exact hc'.mono fun e W' ⟨he, hs⟩ => ⟨he, hs.keeps⟩

set_option maxRecDepth 100000 in
theorem rlo_lifted (os : Os) (started : os.Started) (H : Type) (enc : TypeId × Value → H) :
    ReturnsInHanded {} Tryz.checked os 3 .any (Rows.fnExactLeastForerunnerSpec.pre6 enc Tryz.prog Tryz.f3 Rows.fnExactLeastForerunnerRow.domain false) (Rows.fnExactLeastForerunnerSpec.post enc Tryz.prog Tryz.f3 false true false false) := by
  refine returnsInHanded_of_change (C := Tryz.checked) own started (by kernel_rfl) Tryz.func3
    (ChangeSpec.witness6 (enc := enc) (C := Tryz.checked) false ⟨#[], #[.agg (arr 266 fun j => if j < 2 then .int .i8 0 else if j < 258 then .int .i16 0 else .int .u8 0), .slice none 0 0], []⟩ 8 (by kernel_rfl) (by kernel_rfl) (by kernel_rfl) (by kernel_rfl)) ?_
  intro W base args ds gs before hval hW _ _
  have hW' := hW
  obtain ⟨p, q, hA, hV, rfl, _, _⟩ := hW'
  replace hA : DataW.TrodAll enc Tryz.prog W 0 (fun _ => true) true Tryz.f3.params.toList args.toList ds p := hA
  replace hval : ∀ (j : Nat) t v, Tryz.f3.params[j]? = some t → args[j]? = some v → Value.okWide Tryz.prog W .any base t v := hval
  rw [Tryz.params3] at hA hval
  obtain ⟨v0, v1, d0, d1, p0, p1, rfl, rfl, rfl, h0, h1⟩ := trodA2 hA
  obtain ⟨c0, rfl, z0, f0, _⟩ := flat_arg hti (by kernel_rfl) rfl (hval 0 _ _ rfl rfl) h0
  obtain ⟨ρ, hm, A, L, sh, hAr, hLR, hl, rfl⟩ := spots_arg (hval 1 _ _ rfl rfl) h1
  obtain ⟨rfl, _⟩ := trodVars_none hV
  refine (rlo_calls W c0 z0 f0 ρ hm A L sh hAr hLR hl).mono fun e W' ⟨he, hk⟩ => ⟨_, he, ?_⟩
  exact law_post (tb := 4) laidOut (by kernel_rfl) rfl Tryz.underlying4 rfl rfl hW hk

theorem rlo_holds : Rows.FnExactLeastForerunnerSaid :=
  OpenClaim.holds_of_wide 3 Tryz.f3 rfl rfl rfl rfl rfl rfl rfl ⟨rfl, rfl, rfl, rfl, rfl⟩ rfl rfl rfl rfl rfl (by kernel_rfl) Tryz.func3 (by kernel_rfl)
    (of_decide_eq_true (by kernel_rfl)) (by unfold Func.isWrapper; first | (rw [if_pos (by decide +kernel)]; kernel_rfl) | (rw [if_neg (by decide +kernel)]; exact ⟨rfl, rfl⟩))
    (fun os started H enc _ => rlo_lifted os started H enc)
end Go.Proofs.YtfelopllfhcdpaaGreat.V
