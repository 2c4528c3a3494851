
/-
  The law of OriginsOf.
-/
import Derived.Test.YtnbpgkidphdcdaaGreatRows
import Derived.Test.YtnbpgkidphdcdaaGreatZoge
import Derived.Test.YtnbpgkidphdcdaaGreatZogg
import Derived.Test.YtnbpgkidphdcdaaGreatZogc
set_option linter.all false
namespace Go.Proofs.YtnbpgkidphdcdaaGreat.V
open Go.ChangeShapes Go.RowKit

theorem own : ownKnob Tryz.prog.godebug = none := by kernel_rfl
theorem laidOut : laidOutB Tryz.prog = true := by kernel_rfl

theorem rog_calls (W : World) (c0 : Array Value) (z0 : c0.size = 266) (f0 : flatC ti 9 31 (cells c0) 0) (ρ : Rho) (hm : List (Nat × Seg)) (A : SV) (L : List (Int × Int)) (sh : SatH (cx0 W) ρ hm 1 W) (hA : SpsArg hm 1 A L) (hLR : SpotsR L) (hl : L.length ≤ 9223372036854775807) (x2 : Int) (x3 : Int) (x4 : Int) :
    Calls Tryz.prog 5 #[.agg c0, den ρ A, .int .i64 x2, .int .i64 x3, .int .i64 x4] W fun e W' => e = .returned (.bool true) ∧ Keeps Noth W W' := by
  obtain ⟨_, _, _, hc⟩ := lawOrg_Q (cx0 W) hm 1 _ _ (shF_of f0) A L hA hLR hl x2 x3 x4
  have hc' := hc ρ W sh (fun v hv => by
    simp only [List.mem_cons, List.not_mem_nil, or_false] at hv
    rcases hv with rfl | rfl | rfl | rfl | rfl
    · exact (shF_of f0).ltF _
    · exact hA.lt
    · trivial
    · trivial
    · trivial)
  simp only [List.map_cons, List.map_nil, den_agg z0] at hc'
  exact hc'.mono fun e W' ⟨he, hs⟩ => ⟨he, hs.keeps⟩

set_option maxRecDepth 100000 in
theorem rog_lifted (os : Os) (started : os.Started) (H : Type) (enc : TypeId × Value → H) :
    ReturnsInHanded {} Tryz.checked os 5 .any (Rows.fnExactOriginsOfSpec.pre6 enc Tryz.prog Tryz.f5 Rows.fnExactOriginsOfRow.domain false) (Rows.fnExactOriginsOfSpec.post enc Tryz.prog Tryz.f5 false true false false) := by
  refine returnsInHanded_of_change (C := Tryz.checked) own started (by kernel_rfl) Tryz.func5
    (ChangeSpec.witness6 (enc := enc) (C := Tryz.checked) false ⟨#[], #[.agg (arr 266 fun j => if j < 2 then .int .i8 0 else if j < 258 then .int .i16 0 else .int .u8 0), .slice none 0 0, .int .i64 0, .int .i64 0, .int .i64 0], []⟩ 8 (by kernel_rfl) (by kernel_rfl) (by kernel_rfl) (by kernel_rfl)) ?_
  intro W base args ds gs before hval hW _ _
  have hW' := hW
  obtain ⟨p, q, hA, hV, rfl, _, _⟩ := hW'
  replace hA : DataW.TrodAll enc Tryz.prog W 0 (fun _ => true) true Tryz.f5.params.toList args.toList ds p := hA
  replace hval : ∀ (j : Nat) t v, Tryz.f5.params[j]? = some t → args[j]? = some v → Value.okWide Tryz.prog W .any base t v := hval
  rw [Tryz.params5] at hA hval
  obtain ⟨v0, v1, v2, v3, v4, d0, d1, d2, d3, d4, p0, p1, p2, p3, p4, rfl, rfl, rfl, h0, h1, h2, h3, h4⟩ := trodA5 hA
  obtain ⟨c0, rfl, z0, f0, _⟩ := flat_arg hti (by kernel_rfl) rfl (hval 0 _ _ rfl rfl) h0
  obtain ⟨ρ, hm, A, L, sh, hAr, hLR, hl, rfl⟩ := spots_arg (hval 1 _ _ rfl rfl) h1
  obtain ⟨x2, rfl, _, _, _⟩ := open_int (P := Tryz.prog) (t := 2) (k := .i64) rfl (hval 2 _ _ rfl rfl) h2
  obtain ⟨x3, rfl, _, _, _⟩ := open_int (P := Tryz.prog) (t := 2) (k := .i64) rfl (hval 3 _ _ rfl rfl) h3
  obtain ⟨x4, rfl, _, _, _⟩ := open_int (P := Tryz.prog) (t := 2) (k := .i64) rfl (hval 4 _ _ rfl rfl) h4
  obtain ⟨rfl, _⟩ := trodVars_none hV
  refine (rog_calls W c0 z0 f0 ρ hm A L sh hAr hLR hl x2 x3 x4).mono fun e W' ⟨he, hk⟩ => ⟨_, he, ?_⟩
  exact law_post (tb := 4) laidOut (by kernel_rfl) rfl Tryz.underlying4 rfl rfl hW hk

theorem rog_holds : Rows.FnExactOriginsOfSaid :=
  OpenClaim.holds_of_wide 5 Tryz.f5 rfl rfl rfl rfl rfl rfl rfl ⟨rfl, rfl, rfl, rfl, rfl⟩ rfl rfl rfl rfl rfl (by kernel_rfl) Tryz.func5 (by kernel_rfl)
    (of_decide_eq_true (by kernel_rfl)) (by unfold Func.isWrapper; first | (rw [if_pos (by decide +kernel)]; kernel_rfl) | (rw [if_neg (by decide +kernel)]; exact ⟨rfl, rfl⟩))
    (fun os started H enc _ => rog_lifted os started H enc)
end Go.Proofs.YtnbpgkidphdcdaaGreat.V
