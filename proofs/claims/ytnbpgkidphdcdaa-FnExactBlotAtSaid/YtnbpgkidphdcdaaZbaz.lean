
/-
  The law of BlotAt.
-/
import Derived.Test.YtnbpgkidphdcdaaRows
import Derived.Test.YtnbpgkidphdcdaaZbad
import Derived.Test.YtnbpgkidphdcdaaZbaf
import Derived.Test.YtnbpgkidphdcdaaZbab
set_option linter.all false
namespace Go.Proofs.Ytnbpgkidphdcdaa.V
open Go.ChangeShapes Go.RowKit

theorem own : ownKnob Try.prog.godebug = none := by kernel_rfl
theorem laidOut : laidOutB Try.prog = true := by kernel_rfl

theorem rba_calls (W : World) (c0 : Array Value) (z0 : c0.size = 266) (f0 : flatC ti 9 31 (cells c0) 0) (c1 : Array Value) (z1 : c1.size = 2) (f1 : flatC ti 9 33 (cells c1) 0) (x2 : Int) :
    Calls Try.prog 3 #[.agg c0, .agg c1, .int .i64 x2] W fun e W' => e = .returned (.bool true) ∧ Keeps Noth W W' := by
  obtain ⟨_, _, _, hc⟩ := lawBlot_Q (cx0 W) [] 0 _ _ (shF_of f0) _ _ (spot_cells f1).2.1 (spot_cells f1).2.2 x2
  have hc' := hc (fun _ => (0, 0)) W (sat0 W _) (fun v hv => by
    simp only [List.mem_cons, List.not_mem_nil, or_false] at hv
    rcases hv with rfl | rfl | rfl
    · exact (shF_of f0).ltF _
    · simp only [go_sem]
    · trivial)
  simp only [List.map_cons, List.map_nil, den_agg z0, den_spot z1 f1] at hc'
  exact hc'.mono fun e W' ⟨he, hs⟩ => ⟨he, hs.keeps⟩

set_option maxRecDepth 100000 in
theorem rba_lifted (os : Os) (started : os.Started) (H : Type) (enc : TypeId × Value → H) :
    ReturnsInHanded {} Try.checked os 3 .any (Rows.fnExactBlotAtSpec.pre6 enc Try.prog Try.f3 Rows.fnExactBlotAtRow.domain false) (Rows.fnExactBlotAtSpec.post enc Try.prog Try.f3 false true false false) := by
  refine returnsInHanded_of_change (C := Try.checked) own started (by kernel_rfl) Try.func3
    (ChangeSpec.witness6 (enc := enc) (C := Try.checked) false ⟨#[], #[.agg (arr 266 fun j => if j < 2 then .int .i8 0 else if j < 258 then .int .i16 0 else .int .u8 0), .agg #[.int .i8 0, .int .i8 0], .int .i64 0], []⟩ 8 (by kernel_rfl) (by kernel_rfl) (by kernel_rfl) (by kernel_rfl)) ?_
  intro W base args ds gs before hval hW _ _
  have hW' := hW
  obtain ⟨p, q, hA, hV, rfl, _, _⟩ := hW'
  replace hA : DataW.TrodAll enc Try.prog W 0 (fun _ => true) true Try.f3.params.toList args.toList ds p := hA
  replace hval : ∀ (j : Nat) t v, Try.f3.params[j]? = some t → args[j]? = some v → Value.okWide Try.prog W .any base t v := hval
  rw [Try.params3] at hA hval
  obtain ⟨v0, v1, v2, d0, d1, d2, p0, p1, p2, rfl, rfl, rfl, h0, h1, h2⟩ := trodA3 hA
  obtain ⟨c0, rfl, z0, f0, _⟩ := flat_arg hti (by kernel_rfl) rfl (hval 0 _ _ rfl rfl) h0
  obtain ⟨c1, rfl, z1, f1, _⟩ := flat_arg hti (by kernel_rfl) rfl (hval 1 _ _ rfl rfl) h1
  obtain ⟨x2, rfl, _, _, _⟩ := open_int (P := Try.prog) (t := 2) (k := .i64) rfl (hval 2 _ _ rfl rfl) h2
  obtain ⟨rfl, _⟩ := trodVars_none hV
  refine (rba_calls W c0 z0 f0 c1 z1 f1 x2).mono fun e W' ⟨he, hk⟩ => ⟨_, he, ?_⟩
  exact law_post (tb := 4) laidOut (by kernel_rfl) rfl Try.underlying4 rfl rfl hW hk

theorem rba_holds : Rows.FnExactBlotAtSaid :=
  OpenClaim.holds_of_wide 3 Try.f3 rfl rfl rfl rfl rfl rfl rfl ⟨rfl, rfl, rfl, rfl, rfl⟩ rfl rfl rfl rfl rfl (by kernel_rfl) Try.func3 (by kernel_rfl)
    (of_decide_eq_true (by kernel_rfl)) (by unfold Func.isWrapper; first | (rw [if_pos (by decide +kernel)]; kernel_rfl) | (rw [if_neg (by decide +kernel)]; exact ⟨rfl, rfl⟩))
    (fun os started H enc _ => rba_lifted os started H enc)
end Go.Proofs.Ytnbpgkidphdcdaa.V
