/-
  For every sheet, brush and list of spots that come in, the law laws.FnExactStrokePath returns true, and its arguments read afterwards as they read before: the program's StrokePath and the reference's return the same sheet, the same brush and the same code, and leave the path as it was. No condition.
-/
import Derived.Test.YtebpkdolmlloaaaRows
import Derived.Test.YtebpkdolmlloaaaZspe
import Derived.Test.YtebpkdolmlloaaaZspd
set_option linter.all false
namespace Go.Proofs.Ytebpkdolmlloaaa.V
open Go.ChangeShapes Go.RowKit

theorem own : ownKnob Try.prog.godebug = none := by kernel_rfl
theorem laidOut : laidOutB Try.prog = true := by kernel_rfl

theorem sp_calls (W : World) (cs cb : Array Value) (hsz : cs.size = 266) (h : flatC ti 9 31 (cells cs) 0) (hbz : cb.size = 5) (hb : flatC ti 9 39 (cells cb) 0)
    (ρ : Rho) (hm : List (Nat × Seg)) (A : SV) (L : List (Int × Int)) (sh : SatH (cx0 W) ρ hm 1 W) (hA : SpsArg hm 1 A L) (hLR : SpotsR L) (hl : L.length ≤ 9223372036854775807) :
    Calls Try.prog 6 #[.agg cs, .agg cb, den ρ A] W fun e W' => e = .returned (.bool true) ∧ Keeps Noth W W' := by
  have hF := shF_of h
  obtain ⟨_, _, _, hc⟩ := lawSp_Q (cx0 W) hm 1 _ _ hF _ (brOf_cells hb).2 A L hA hLR hl
  have hc' := hc ρ W sh (fun v hv => by
    simp only [List.mem_cons, List.not_mem_nil, or_false] at hv
    rcases hv with rfl | rfl | rfl
    · exact hF.ltF 1
    · exact brC_lt _ _
    · exact hA.lt)
  simp only [List.map_cons, List.map_nil, den_agg hsz, den_brush hbz hb] at hc'
  exact hc'.mono fun e W' ⟨he, hs⟩ => ⟨he, hs.keeps⟩

set_option maxRecDepth 100000 in
theorem sp_lifted (os : Os) (started : os.Started) (H : Type) (enc : TypeId × Value → H) :
    ReturnsInHanded {} Try.checked os 6 .any (Rows.fnExactStrokePathSpec.pre6 enc Try.prog Try.f6 Rows.fnExactStrokePathRow.domain false) (Rows.fnExactStrokePathSpec.post enc Try.prog Try.f6 false true false false) := by
  refine returnsInHanded_of_change (C := Try.checked) own started (by kernel_rfl) Try.func6
    (ChangeSpec.witness6 (enc := enc) (C := Try.checked) false ⟨#[], #[.agg (arr 266 fun j => if j < 2 then .int .i8 0 else if j < 258 then .int .i16 0 else .int .u8 0), .agg #[.int .i16 0, .int .i16 0, .int .i16 0, .int .i16 0, .int .i8 0], .slice none 0 0], []⟩ 8 (by kernel_rfl) (by kernel_rfl) (by kernel_rfl) (by kernel_rfl)) ?_
  intro W base args ds gs before hval hW _ _
  have hW' := hW
  obtain ⟨p, q, hA, hV, rfl, _, _⟩ := hW'
  replace hA : DataW.TrodAll enc Try.prog W 0 (fun _ => true) true Try.f6.params.toList args.toList ds p := hA
  replace hval : ∀ (j : Nat) t v, Try.f6.params[j]? = some t → args[j]? = some v → Value.okWide Try.prog W .any base t v := hval
  rw [Try.params6] at hA hval
  obtain ⟨v0, v1, v2, d0, d1, d2, p0, p1, p2, rfl, rfl, rfl, h0, h1, h2⟩ := trodAll_three hA
  obtain ⟨cs, rfl, hsz, hc, _⟩ := flat_arg hti (by kernel_rfl) rfl (hval 0 _ _ rfl rfl) h0
  obtain ⟨cb, rfl, hbz, hb, _⟩ := flat_arg hti (by kernel_rfl) rfl (hval 1 _ _ rfl rfl) h1
  obtain ⟨ρ, hm, A, L, sh, hAr, hLR, hl, rfl⟩ := spots_arg (hval 2 _ _ rfl rfl) h2
  obtain ⟨rfl, _⟩ := trodVars_none hV
  refine (sp_calls W cs cb hsz hc hbz hb ρ hm A L sh hAr hLR hl).mono fun e W' ⟨he, hk⟩ => ⟨_, he, ?_⟩
  exact law_post (tb := 4) laidOut (by kernel_rfl) rfl Try.underlying4 rfl rfl hW hk

theorem sp_holds : Rows.FnExactStrokePathSaid :=
  OpenClaim.holds_of_wide 6 Try.f6 rfl rfl rfl rfl rfl rfl rfl ⟨rfl, rfl, rfl, rfl, rfl⟩ rfl rfl rfl rfl rfl (by kernel_rfl) Try.func6 (by kernel_rfl)
    (of_decide_eq_true (by kernel_rfl)) (by unfold Func.isWrapper; first | (rw [if_pos (by decide +kernel)]; kernel_rfl) | (rw [if_neg (by decide +kernel)]; exact ⟨rfl, rfl⟩))
    (fun os started H enc _ => sp_lifted os started H enc)
end Go.Proofs.Ytebpkdolmlloaaa.V
