/-
  For every sheet, brush, list of spots and least darkness that come in, the law laws.FnExactDipsFor returns true, and its arguments read afterwards as they read before: the program's DipsFor and the reference's return the same list and the same code, leave the path as it was, and the list that is returned is shared with nothing. No condition.
-/
import Derived.Test.YtebpkdolmlloaaaRows
import Derived.Test.YtebpkdolmlloaaaZdfe
import Derived.Test.YtebpkdolmlloaaaZdfd
set_option linter.all false
namespace Go.Proofs.Ytebpkdolmlloaaa.V
open Go.ChangeShapes Go.RowKit

theorem trodAll_four {H : Type} {enc : TypeId × Value → H} {P : Program} {w : World} {base : Nat} {spare : Nat → Bool} {held : Bool} {t t' t'' t3 : TypeId} {args : Array Value} {ds : List (DataW H)} {ps : List MemPlace} (h : DataW.TrodAll enc P w base spare held [t, t', t'', t3] args.toList ds ps) :
    ∃ v v' v'' v3 d d' d'' d3 p p' p'' p3, args = #[v, v', v'', v3] ∧ ds = [d, d', d'', d3] ∧ ps = p ++ p' ++ p'' ++ p3 ∧ DataW.Trod enc P w base spare held t v d p ∧ DataW.Trod enc P w base spare held t' v' d' p' ∧ DataW.Trod enc P w base spare held t'' v'' d'' p'' ∧ DataW.Trod enc P w base spare held t3 v3 d3 p3 := by
  obtain ⟨v, vs, d, ds', p, q, hargs, rfl, rfl, hd, hrest⟩ := trodAll_cons h
  obtain ⟨v', vs', d', ds'', p', q', rfl, rfl, rfl, hd', hrest'⟩ := trodAll_cons hrest
  obtain ⟨v'', vs'', d'', ds3, p'', q'', rfl, rfl, rfl, hd'', hrest''⟩ := trodAll_cons hrest'
  obtain ⟨v3, vs3, d3, ds4, p3, q3, rfl, rfl, rfl, hd3, hrest3⟩ := trodAll_cons hrest''
  obtain ⟨rfl, rfl, rfl⟩ := trodAll_nil hrest3
  exact ⟨v, v', v'', v3, d, d', d'', d3, p, p', p'', p3, by cases args; simp_all, rfl, by simp, hd, hd', hd'', hd3⟩
theorem own : ownKnob Try.prog.godebug = none := by kernel_rfl
theorem laidOut : laidOutB Try.prog = true := by kernel_rfl

theorem dip_calls (W : World) (cs cb : Array Value) (hsz : cs.size = 266) (h : flatC ti 9 31 (cells cs) 0) (hbz : cb.size = 5) (hb : flatC ti 9 39 (cells cb) 0)
    (ρ : Rho) (hm : List (Nat × Seg)) (A : SV) (L : List (Int × Int)) (sh : SatH (cx0 W) ρ hm 1 W) (hA : SpsArg hm 1 A L) (hLR : SpotsR L) (hl : L.length ≤ 9223372036854775807) (least : Int) :
    Calls Try.prog 4 #[.agg cs, .agg cb, den ρ A, .int .i64 least] W fun e W' => e = .returned (.bool true) ∧ Keeps Noth W W' := by
  have hF := shF_of h
  obtain ⟨_, _, _, hc⟩ := lawDips_Q (cx0 W) hm 1 _ _ hF _ (brOf_cells hb).2 A L hA hLR hl least
  have hc' := hc ρ W sh (fun v hv => by
    simp only [List.mem_cons, List.not_mem_nil, or_false] at hv
    rcases hv with rfl | rfl | rfl | rfl
    · exact hF.ltF 1
    · exact brC_lt _ _
    · exact hA.lt
    · trivial)
  simp only [List.map_cons, List.map_nil, den_agg hsz, den_brush hbz hb] at hc'
  exact hc'.mono fun e W' ⟨he, hs⟩ => ⟨he, hs.keeps⟩

set_option maxRecDepth 100000 in
theorem dip_lifted (os : Os) (started : os.Started) (H : Type) (enc : TypeId × Value → H) :
    ReturnsInHanded {} Try.checked os 4 .any (Rows.fnExactDipsForSpec.pre6 enc Try.prog Try.f4 Rows.fnExactDipsForRow.domain false) (Rows.fnExactDipsForSpec.post enc Try.prog Try.f4 false true false false) := by
  refine returnsInHanded_of_change (C := Try.checked) own started (by kernel_rfl) Try.func4
    (ChangeSpec.witness6 (enc := enc) (C := Try.checked) false ⟨#[], #[.agg (arr 266 fun j => if j < 2 then .int .i8 0 else if j < 258 then .int .i16 0 else .int .u8 0), .agg #[.int .i16 0, .int .i16 0, .int .i16 0, .int .i16 0, .int .i8 0], .slice none 0 0, .int .i64 0], []⟩ 8 (by kernel_rfl) (by kernel_rfl) (by kernel_rfl) (by kernel_rfl)) ?_
  intro W base args ds gs before hval hW _ _
  have hW' := hW
  obtain ⟨p, q, hA, hV, rfl, _, _⟩ := hW'
  replace hA : DataW.TrodAll enc Try.prog W 0 (fun _ => true) true Try.f4.params.toList args.toList ds p := hA
  replace hval : ∀ (j : Nat) t v, Try.f4.params[j]? = some t → args[j]? = some v → Value.okWide Try.prog W .any base t v := hval
  rw [Try.params4] at hA hval
  obtain ⟨v0, v1, v2, v3, d0, d1, d2, d3, p0, p1, p2, p3, rfl, rfl, rfl, h0, h1, h2, h3⟩ := V.trodAll_four hA
  obtain ⟨cs, rfl, hsz, hc, _⟩ := flat_arg hti (by kernel_rfl) rfl (hval 0 _ _ rfl rfl) h0
  obtain ⟨cb, rfl, hbz, hb, _⟩ := flat_arg hti (by kernel_rfl) rfl (hval 1 _ _ rfl rfl) h1
  obtain ⟨ρ, hm, A, L, sh, hAr, hLR, hl, rfl⟩ := spots_arg (hval 2 _ _ rfl rfl) h2
  obtain ⟨least, rfl, _, _, _⟩ := open_int (P := Try.prog) (t := 2) (k := .i64) rfl (hval 3 _ _ rfl rfl) h3
  obtain ⟨rfl, _⟩ := trodVars_none hV
  refine (dip_calls W cs cb hsz hc hbz hb ρ hm A L sh hAr hLR hl least).mono fun e W' ⟨he, hk⟩ => ⟨_, he, ?_⟩
  exact law_post (tb := 4) laidOut (by kernel_rfl) rfl Try.underlying4 rfl rfl hW hk

theorem dip_holds : Rows.FnExactDipsForSaid :=
  OpenClaim.holds_of_wide 4 Try.f4 rfl rfl rfl rfl rfl rfl rfl ⟨rfl, rfl, rfl, rfl, rfl⟩ rfl rfl rfl rfl rfl (by kernel_rfl) Try.func4 (by kernel_rfl)
    (of_decide_eq_true (by kernel_rfl)) (by unfold Func.isWrapper; first | (rw [if_pos (by decide +kernel)]; kernel_rfl) | (rw [if_neg (by decide +kernel)]; exact ⟨rfl, rfl⟩))
    (fun os started H enc _ => dip_lifted os started H enc)
end Go.Proofs.Ytebpkdolmlloaaa.V
