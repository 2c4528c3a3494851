
/-
  For every stack that comes in, the law laws.FnExactStackText returns true, and its argument reads afterwards as it read before: the program and the reference return the same text. The three tables of the library that the row lists are tied to the text by the given tie (over the pruned copy of the project). No other condition.
-/
import Derived.Test.YtckefhnobflhcaaDoorRows
import Derived.Test.YtckefhnobflhcaaDoorCards
import Derived.Test.YtckefhnobflhcaaDoorTie
import Derived.SevenTiedAt
import Derived.Test.YtckefhnobflhcaaDoorZsxd
import Derived.Test.YtckefhnobflhcaaDoorZsxe
set_option linter.all false
namespace Go.Proofs.YtckefhnobflhcaaDoor.V
open Go.ChangeShapes Go.WideShapes Go.ChangeAt Go.WideElems Go.RowKit

theorem own : ownKnob Tryd.prog.godebug = none := by kernel_rfl
theorem laidOut : laidOutB Tryd.prog = true := by kernel_rfl

theorem rsx_calls (W : World) (hT : TabOk (cx0 W)) (ρ : Rho) (hm : List (Nat × Seg)) (A : SV) (L : List Sh) (sh : SatH (cx0 W) ρ hm 1 W) (hA : StArg hm 1 A L) (hLR : StR L) (hl : L.length ≤ 9223372036854775807) :
    Calls Tryd.prog 5 #[den ρ A] W fun e W' => e = .returned (.bool true) ∧ Keeps Noth W W' := by
  obtain ⟨_, _, _, hc⟩ := lawStackText_Q (cx0 W) hm 1 hT A L hA hLR hl
  have hc' := hc ρ W sh (fun v hv => by
    simp only [List.mem_cons, List.not_mem_nil, or_false] at hv
    subst hv
    · exact hA.lt)
  simp only [List.map_cons, List.map_nil] at hc'
  exact hc'.mono fun e W' ⟨he, hs⟩ => ⟨he, hs.keeps⟩

/-- The door's own heap meets the condition. -/
theorem door_met (os : Os) (args : Array Value) : laidMetH Tryd.prog Rows.fnExactStackTextRow.laid ((World.doorLaid Tryd.prog 34 os).forCall (fun _ _ => 0) ⟨#[], args, []⟩).memory :=
  laidMetH_of_parts3 (fuel := 8) (laidMet_of_run' 8 (by kernel_rfl) (by kernel_rfl)) (by kernel_rfl) (by kernel_rfl)

set_option maxRecDepth 100000 in
theorem rsx_lifted (os : Os) (started : os.Started) (H : Type) (enc : TypeId × Value → H) :
    ReturnsInHanded {} Tryd.checked os 5 .any (fun w args => (Rows.fnExactStackTextSpec.pre enc Tryd.prog Tryd.f5 [] false w args ∧ laidMetH Tryd.prog Rows.fnExactStackTextRow.laid w) ∧ sizedMet enc Tryd.prog Tryd.f5 (OpenSpec.ofChange Rows.fnExactStackTextSpec) false w args)
      (Rows.fnExactStackTextSpec.post enc Tryd.prog Tryd.f5 false true false false) := by
  refine returnsInHanded_of_change_and (C := Tryd.checked) (X := fun w _ => laidMetH Tryd.prog Rows.fnExactStackTextRow.laid w) (fun _ _ _ hh h => h.of_heap hh) own started (by kernel_rfl) Tryd.func5
    (ChangeSpec.witness_shaped (enc := enc) (C := Tryd.checked) (os := os) (X := fun w _ => laidMetH Tryd.prog Rows.fnExactStackTextRow.laid w) false (World.doorLaid Tryd.prog 34 os) #[.slice none 0 0] 8 rfl (World.shaped_of_RefB (by kernel_rfl) (by kernel_rfl)) (by kernel_rfl) (by kernel_rfl) (by kernel_rfl) (door_met os _)) ?_
  intro W base args ds gs before hval hW _ _ hL _
  have hW' := hW
  obtain ⟨p, q, hA, hV, rfl, _, _⟩ := hW'
  replace hA : DataW.TrodAll enc Tryd.prog W 0 (fun _ => true) true Tryd.f5.params.toList args.toList ds p := hA
  replace hval : ∀ (j : Nat) t v, Tryd.f5.params[j]? = some t → args[j]? = some v → Value.okWide Tryd.prog W .any base t v := hval
  rw [Tryd.params5] at hA hval
  obtain ⟨v0, d0, p0, rfl, rfl, rfl, h0⟩ := trodA1 hA
  obtain ⟨ρ, hm, A, L, sh, hAr, hLR, hl, rfl⟩ := stack_arg (hval 0 _ _ rfl rfl) h0
  obtain ⟨rfl, _⟩ := trodVars_none hV
  have hL2 : laidMetH Tryd.prog Rows.fnExactStackTextRow.laid W := hL
  rw [MakeChecks.laidMetH_plain _ _ _ (by kernel_rfl)] at hL2
  refine (rsx_calls W (tabOk_of (tabIs_of hL2)) ρ hm A L sh hAr hLR hl).mono fun e W' ⟨he, hk⟩ => ⟨_, he, ?_⟩
  exact law_post (tb := 4) laidOut (by kernel_rfl) rfl Tryd.underlying4 rfl rfl hW hk

theorem rsx_holds : Rows.FnExactStackTextSaid :=
  OpenClaim.holds_of_wide 5 Tryd.f5 rfl rfl rfl rfl rfl rfl rfl ⟨rfl, rfl, rfl, rfl, rfl⟩ rfl rfl rfl rfl rfl (by kernel_rfl) Tryd.func5 (by kernel_rfl)
    (of_decide_eq_true (by kernel_rfl)) (by unfold Func.isWrapper; first | (rw [if_pos (by decide +kernel)]; kernel_rfl) | (rw [if_neg (by decide +kernel)]; exact ⟨rfl, rfl⟩))
    (fun os started H enc _ => rsx_lifted os started H enc)
theorem rsx_card : Rows.FnExactStackTextCardSaid :=
  Claim7.holds_tied_plain_at .later [] [.data, .data, .data] true (true, "613a4f8439074ec989f2d854cfd8215be1492a9298b3c3afbd3b43221940a90a") false
    rsx_holds (fun _ h => by cases h) (by kernel_rfl) (fun _ h => by cases h) fnExactStackText_row_tie rfl ⟨rfl, rfl⟩ (by kernel_rfl) rfl
    (fun f fn hf hfn => by
      obtain rfl : f = 5 := Option.some.inj ((show Tryd.prog.funcNamed "loop.example/g01360/laws.FnExactStackText" = some 5 by kernel_rfl).symm.trans hf) |>.symm
      obtain rfl : fn = Tryd.f5 := (Option.some.inj (Tryd.func5.symm.trans hfn)).symm
      exact ⟨by kernel_rfl, fun j t ht => by
        rw [Tryd.params5] at ht
        have hm : t ∈ (Tryd.f5.params.toList) := by
          have := Array.mem_of_getElem? ht
          exact Array.mem_toList_iff.2 this
        have hall : (Tryd.f5.params.toList.all fun u => !Tryd.prog.wantsStandIn u) = true := by kernel_rfl
        exact (show Tryd.prog.wantsStandIn t = false by simpa using List.all_eq_true.1 hall t hm)⟩)
    (by kernel_rfl)
end Go.Proofs.YtckefhnobflhcaaDoor.V
