/-
  For every sheet, spot, ink, amount and water that come in, the law laws.FnExactStainOf returns true, and its arguments read afterwards as they read before: the program's StainOf and the reference's return the same list of spots and the same code, and the list that is returned is shared with nothing. No condition.
-/
import Derived.Test.YtdbhfipkopfooaaRows
import Derived.Test.YtdbhfipkopfooaaZste
import Derived.Test.YtdbhfipkopfooaaZstd
set_option linter.all false
namespace Go.Proofs.Ytdbhfipkopfooaa.V
open Go.ChangeShapes Go.RowKit

theorem own : ownKnob Try.prog.godebug = none := by kernel_rfl
theorem laidOut : laidOutB Try.prog = true := by kernel_rfl

theorem stn_calls (W : World) (cs cb : Array Value) (hsz : cs.size = 266) (h : flatC ti 9 31 (cells cs) 0) (hbz : cb.size = 2) (hb : flatC ti 9 33 (cells cb) 0) (ink amount water : Int) :
    Calls Try.prog 3 #[.agg cs, .agg cb, .int .i64 ink, .int .i64 amount, .int .i64 water] W fun e W' => e = .returned (.bool true) ∧ Keeps Noth W W' := by
  have hF := shF_of h
  obtain ⟨_, _, _, hc⟩ := lawStain_Q (cx0 W) [] 0 _ _ hF _ _ (spot_cells hb).2.1 (spot_cells hb).2.2 ink amount water
  have hc' := hc (fun _ => (0, 0)) W (sat0 W _) (fun v hv => by
    simp only [List.mem_cons, List.not_mem_nil, or_false] at hv
    rcases hv with rfl | rfl | rfl | rfl | rfl
    · exact hF.ltF 0
    · simp only [go_sem]
    · trivial
    · trivial
    · trivial)
  simp only [List.map_cons, List.map_nil, den_agg hsz, den_spot hbz hb] at hc'
  exact hc'.mono fun e W' ⟨he, hs⟩ => ⟨he, hs.keeps⟩

set_option maxRecDepth 100000 in
theorem stn_lifted (os : Os) (started : os.Started) (H : Type) (enc : TypeId × Value → H) :
    ReturnsInHanded {} Try.checked os 3 .any (Rows.fnExactStainOfSpec.pre6 enc Try.prog Try.f3 Rows.fnExactStainOfRow.domain false) (Rows.fnExactStainOfSpec.post enc Try.prog Try.f3 false true false false) := by
  refine returnsInHanded_of_change (C := Try.checked) own started (by kernel_rfl) Try.func3
    (ChangeSpec.witness6 (enc := enc) (C := Try.checked) false ⟨#[], #[.agg (arr 266 fun j => if j < 2 then .int .i8 0 else if j < 258 then .int .i16 0 else .int .u8 0), .agg #[.int .i8 0, .int .i8 0], .int .i64 0, .int .i64 0, .int .i64 0], []⟩ 8 (by kernel_rfl) (by kernel_rfl) (by kernel_rfl) (by kernel_rfl)) ?_
  intro W base args ds gs before hval hW _ _
  have hW' := hW
  obtain ⟨p, q, hA, hV, rfl, _, _⟩ := hW'
  replace hA : DataW.TrodAll enc Try.prog W 0 (fun _ => true) true Try.f3.params.toList args.toList ds p := hA
  replace hval : ∀ (j : Nat) t v, Try.f3.params[j]? = some t → args[j]? = some v → Value.okWide Try.prog W .any base t v := hval
  rw [Try.params3] at hA hval
  obtain ⟨v0, v1, v2, v3, v4, d0, d1, d2, d3, d4, p0, p1, p2, p3, p4, rfl, rfl, rfl, h0, h1, h2, h3, h4⟩ := V.trodAll_five hA
  obtain ⟨cs, rfl, hsz, hc, _⟩ := flat_arg hti (by kernel_rfl) rfl (hval 0 _ _ rfl rfl) h0
  obtain ⟨cb, rfl, hbz, hb, _⟩ := flat_arg hti (by kernel_rfl) rfl (hval 1 _ _ rfl rfl) h1
  obtain ⟨ink, rfl, _, _, _⟩ := open_int (P := Try.prog) (t := 2) (k := .i64) rfl (hval 2 _ _ rfl rfl) h2
  obtain ⟨amount, rfl, _, _, _⟩ := open_int (P := Try.prog) (t := 2) (k := .i64) rfl (hval 3 _ _ rfl rfl) h3
  obtain ⟨water, rfl, _, _, _⟩ := open_int (P := Try.prog) (t := 2) (k := .i64) rfl (hval 4 _ _ rfl rfl) h4
  obtain ⟨rfl, _⟩ := trodVars_none hV
  refine (stn_calls W cs cb hsz hc hbz hb ink amount water).mono fun e W' ⟨he, hk⟩ => ⟨_, he, ?_⟩
  exact law_post (tb := 4) laidOut (by kernel_rfl) rfl Try.underlying4 rfl rfl hW hk

theorem stn_holds : Rows.FnExactStainOfSaid :=
  OpenClaim.holds_of_wide 3 Try.f3 rfl rfl rfl rfl rfl rfl rfl ⟨rfl, rfl, rfl, rfl, rfl⟩ rfl rfl rfl rfl rfl (by kernel_rfl) Try.func3 (by kernel_rfl)
    (of_decide_eq_true (by kernel_rfl)) (by unfold Func.isWrapper; first | (rw [if_pos (by decide +kernel)]; kernel_rfl) | (rw [if_neg (by decide +kernel)]; exact ⟨rfl, rfl⟩))
    (fun os started H enc _ => stn_lifted os started H enc)
end Go.Proofs.Ytdbhfipkopfooaa.V
