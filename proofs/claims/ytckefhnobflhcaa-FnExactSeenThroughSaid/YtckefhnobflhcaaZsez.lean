
/-
  For every stack and every number that come in, the law laws.FnExactSeenThrough returns true, and its arguments read afterwards as they read before: the program and the reference return the same text and the same code. No condition.
-/
import Derived.Test.YtckefhnobflhcaaRows
import Derived.Test.YtckefhnobflhcaaZsed
import Derived.Test.YtckefhnobflhcaaZsee
set_option linter.all false
namespace Go.Proofs.Ytckefhnobflhcaa.V
open Go.ChangeShapes Go.RowKit

theorem own : ownKnob Try.prog.godebug = none := by kernel_rfl
theorem laidOut : laidOutB Try.prog = true := by kernel_rfl

theorem rse_calls (W : World) (ρ : Rho) (hm : List (Nat × Seg)) (A : SV) (L : List Sh) (sh : SatH (cx0 W) ρ hm 1 W) (hA : StArg hm 1 A L) (hLR : StR L) (hl : L.length ≤ 9223372036854775807) (x1 : Int) :
    Calls Try.prog 3 #[den ρ A, .int .i64 x1] W fun e W' => e = .returned (.bool true) ∧ Keeps Noth W W' := by
  obtain ⟨_, _, _, hc⟩ := lawSeen_Q (cx0 W) hm 1 A L hA hLR hl x1
  have hc' := hc ρ W sh (fun v hv => by
    simp only [List.mem_cons, List.not_mem_nil, or_false] at hv
    rcases hv with rfl | rfl
    · exact hA.lt
    · trivial)
  simp only [List.map_cons, List.map_nil] at hc'
  exact hc'.mono fun e W' ⟨he, hs⟩ => ⟨he, hs.keeps⟩

set_option maxRecDepth 100000 in
theorem rse_lifted (os : Os) (started : os.Started) (H : Type) (enc : TypeId × Value → H) :
    ReturnsInHanded {} Try.checked os 3 .any (Rows.fnExactSeenThroughSpec.pre6 enc Try.prog Try.f3 Rows.fnExactSeenThroughRow.domain false) (Rows.fnExactSeenThroughSpec.post enc Try.prog Try.f3 false true false false) := by
  refine returnsInHanded_of_change (C := Try.checked) own started (by kernel_rfl) Try.func3
    (ChangeSpec.witness6 (enc := enc) (C := Try.checked) false ⟨#[], #[.slice none 0 0, .int .i64 0], []⟩ 8 (by kernel_rfl) (by kernel_rfl) (by kernel_rfl) (by kernel_rfl)) ?_
  intro W base args ds gs before hval hW _ _
  have hW' := hW
  obtain ⟨p, q, hA, hV, rfl, _, _⟩ := hW'
  replace hA : DataW.TrodAll enc Try.prog W 0 (fun _ => true) true Try.f3.params.toList args.toList ds p := hA
  replace hval : ∀ (j : Nat) t v, Try.f3.params[j]? = some t → args[j]? = some v → Value.okWide Try.prog W .any base t v := hval
  rw [Try.params3] at hA hval
  obtain ⟨v0, v1, d0, d1, p0, p1, rfl, rfl, rfl, h0, h1⟩ := trodA2 hA
  obtain ⟨ρ, hm, A, L, sh, hAr, hLR, hl, rfl⟩ := stack_arg (hval 0 _ _ rfl rfl) h0
  obtain ⟨x1, rfl, _, _, _⟩ := open_int (P := Try.prog) (t := 2) (k := .i64) rfl (hval 1 _ _ rfl rfl) h1
  obtain ⟨rfl, _⟩ := trodVars_none hV
  refine (rse_calls W ρ hm A L sh hAr hLR hl x1).mono fun e W' ⟨he, hk⟩ => ⟨_, he, ?_⟩
  exact law_post (tb := 4) laidOut (by kernel_rfl) rfl Try.underlying4 rfl rfl hW hk

theorem rse_holds : Rows.FnExactSeenThroughSaid :=
  OpenClaim.holds_of_wide 3 Try.f3 rfl rfl rfl rfl rfl rfl rfl ⟨rfl, rfl, rfl, rfl, rfl⟩ rfl rfl rfl rfl rfl (by kernel_rfl) Try.func3 (by kernel_rfl)
    (of_decide_eq_true (by kernel_rfl)) (by unfold Func.isWrapper; first | (rw [if_pos (by decide +kernel)]; kernel_rfl) | (rw [if_neg (by decide +kernel)]; exact ⟨rfl, rfl⟩))
    (fun os started H enc _ => rse_lifted os started H enc)
end Go.Proofs.Ytckefhnobflhcaa.V
