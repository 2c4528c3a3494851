
/-
  The law of UselessDrops.
-/
import Derived.Test.YtodgbpkdanefaaaRows
import Derived.Test.YtodgbpkdanefaaaZusd
import Derived.Test.YtodgbpkdanefaaaZuse
set_option linter.all false
namespace Go.Proofs.Ytodgbpkdanefaaa.V
open Go.ChangeShapes Go.RowKit

theorem own : ownKnob Try.prog.godebug = none := by kernel_rfl
theorem laidOut : laidOutB Try.prog = true := by kernel_rfl

theorem rus_calls (W : World) (c0 : Array Value) (z0 : c0.size = 66) (f0 : flatC ti 9 26 (cells c0) 0) (ρ : Rho) (hm : List (Nat × Seg)) (A : SV) (L : List Dr) (sh : SatH (cx0 W) ρ hm 1 W) (hA : DrArg hm 1 A L) (hLR : DrR L) (hl : L.length ≤ 9223372036854775807) :
    Calls Try.prog 9 #[.agg c0, den ρ A] W fun e W' => e = .returned (.bool true) ∧ Keeps Noth W W' := by
  obtain ⟨_, _, _, hc⟩ := lawUseless_Q (cx0 W) hm 1 _ (pic_cells f0).1 A L hA hLR hl
  have hc' := hc ρ W sh (fun v hv => by
    simp only [List.mem_cons, List.not_mem_nil, or_false] at hv
    rcases hv with rfl | rfl
    · exact pcC_lt _ _
    · exact hA.lt)
  simp only [List.map_cons, List.map_nil, den_pic z0 f0] at hc'
  exact hc'.mono fun e W' ⟨he, hs⟩ => ⟨he, hs.keeps⟩

set_option maxRecDepth 100000 in
theorem rus_lifted (os : Os) (started : os.Started) (H : Type) (enc : TypeId × Value → H) :
    ReturnsInHanded {} Try.checked os 9 .any (Rows.fnExactUselessDropsSpec.pre6 enc Try.prog Try.f9 Rows.fnExactUselessDropsRow.domain false) (Rows.fnExactUselessDropsSpec.post enc Try.prog Try.f9 false true false false) := by
  refine returnsInHanded_of_change (C := Try.checked) own started (by kernel_rfl) Try.func9
    (ChangeSpec.witness6 (enc := enc) (C := Try.checked) false ⟨#[], #[.agg (arr 66 fun j => if j < 2 then .int .i8 0 else .int .u8 0), .slice none 0 0], []⟩ 8 (by kernel_rfl) (by kernel_rfl) (by kernel_rfl) (by kernel_rfl)) ?_
  intro W base args ds gs before hval hW _ _
  have hW' := hW
  obtain ⟨p, q, hA, hV, rfl, _, _⟩ := hW'
  replace hA : DataW.TrodAll enc Try.prog W 0 (fun _ => true) true Try.f9.params.toList args.toList ds p := hA
  replace hval : ∀ (j : Nat) t v, Try.f9.params[j]? = some t → args[j]? = some v → Value.okWide Try.prog W .any base t v := hval
  rw [Try.params9] at hA hval
  obtain ⟨v0, v1, d0, d1, p0, p1, rfl, rfl, rfl, h0, h1⟩ := trodA2 hA
  obtain ⟨c0, rfl, z0, f0, _⟩ := flat_arg hti (by kernel_rfl) rfl (hval 0 _ _ rfl rfl) h0
  obtain ⟨ρ, hm, A, L, sh, hAr, hLR, hl, rfl⟩ := drops_arg (hval 1 _ _ rfl rfl) h1
  obtain ⟨rfl, _⟩ := trodVars_none hV
  refine (rus_calls W c0 z0 f0 ρ hm A L sh hAr hLR hl).mono fun e W' ⟨he, hk⟩ => ⟨_, he, ?_⟩
  exact law_post (tb := 4) laidOut (by kernel_rfl) rfl Try.underlying4 rfl rfl hW hk

theorem rus_holds : Rows.FnExactUselessDropsSaid :=
  OpenClaim.holds_of_wide 9 Try.f9 rfl rfl rfl rfl rfl rfl rfl ⟨rfl, rfl, rfl, rfl, rfl⟩ rfl rfl rfl rfl rfl (by kernel_rfl) Try.func9 (by kernel_rfl)
    (of_decide_eq_true (by kernel_rfl)) (by unfold Func.isWrapper; first | (rw [if_pos (by decide +kernel)]; kernel_rfl) | (rw [if_neg (by decide +kernel)]; exact ⟨rfl, rfl⟩))
    (fun os started H enc _ => rus_lifted os started H enc)
end Go.Proofs.Ytodgbpkdanefaaa.V
