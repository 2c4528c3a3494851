
/-
  For every picture that comes in, the law laws.FnExactPackPicture returns true, and its argument reads afterwards as it read before: the program and the reference return the same text and the same code. The five tables of the library that the row lists are tied to the text by the given tie (over the pruned copy of the project). No other condition.
-/
import Derived.Test.YtckefhnobflhcaaDoorRows
import Derived.Test.YtckefhnobflhcaaDoorCards
import Derived.Test.YtckefhnobflhcaaDoorTie
import Derived.SevenTiedAt
import Derived.Test.YtckefhnobflhcaaDoorZppd
import Derived.Test.YtckefhnobflhcaaDoorZppe
set_option linter.all false
namespace Go.Proofs.YtckefhnobflhcaaDoor.V
open Go.ChangeShapes Go.WideShapes Go.ChangeAt Go.WideElems Go.RowKit

theorem own : ownKnob Tryd.prog.godebug = none := by kernel_rfl
theorem laidOut : laidOutB Tryd.prog = true := by kernel_rfl

theorem rpp_calls (W : World) (hT : TabOk (cx0 W) ∧ MaxOk (cx0 W)) (c0 : Array Value) (z0 : c0.size = 66) (f0 : flatC ti 9 38 (cells c0) 0) :
    Calls Tryd.prog 4 #[.agg c0] W fun e W' => e = .returned (.bool true) ∧ Keeps Noth W W' := by
  obtain ⟨_, _, _, hc⟩ := lawPack_Q (cx0 W) [] 0 hT _ (pic_cells f0).1
  have hc' := hc (fun _ => (0, 0)) W (sat0 W _) (fun v hv => by
    simp only [List.mem_cons, List.not_mem_nil, or_false] at hv
    subst hv
    · exact pcC_lt _ _)
  simp only [List.map_cons, List.map_nil, den_pic z0 f0] at hc'
  exact hc'.mono fun e W' ⟨he, hs⟩ => ⟨he, hs.keeps⟩

set_option maxRecDepth 100000 in
theorem rpp_lifted (os : Os) (started : os.Started) (H : Type) (enc : TypeId × Value → H) :
    ReturnsInHanded {} Tryd.checked os 4 .any (fun w args => (Rows.fnExactPackPictureSpec.pre enc Tryd.prog Tryd.f4 [] false w args ∧ laidMetH Tryd.prog Rows.fnExactPackPictureRow.laid w) ∧ sizedMet enc Tryd.prog Tryd.f4 (OpenSpec.ofChange Rows.fnExactPackPictureSpec) false w args)
      (Rows.fnExactPackPictureSpec.post enc Tryd.prog Tryd.f4 false true false false) := by
  refine handed_shaped_and (C := Tryd.checked) (X := fun w _ => laidMetH Tryd.prog Rows.fnExactPackPictureRow.laid w) (fun _ _ _ hh h => h.of_heap hh) own started (by kernel_rfl) Tryd.func4
    (ChangeSpec.witness_shaped (enc := enc) (C := Tryd.checked) (os := os) (X := fun w _ => laidMetH Tryd.prog Rows.fnExactPackPictureRow.laid w) false (World.laidAll Tryd.prog os Rows.fnExactPackPictureRow.laid) #[.agg (arr 66 fun j => if j < 2 then .int .i8 0 else .int .u8 0)] 8 (World.laidAll_os _ _ _) (World.shaped_of_ZipB (by kernel_rfl) (by kernel_rfl)) (by kernel_rfl) (by kernel_rfl) (by kernel_rfl) (by rw [MakeChecks.laidMetH_plain _ _ _ (by kernel_rfl)]; exact laidMet_laidAll _ (by kernel_rfl) (by kernel_rfl))) ?_
  intro W base args ds gs before hval hW hL hsh
  have hW' := hW
  obtain ⟨p, q, hA, hV, rfl, _, _⟩ := hW'
  replace hA : DataW.TrodAll enc Tryd.prog W 0 (fun _ => true) true Tryd.f4.params.toList args.toList ds p := hA
  replace hval : ∀ (j : Nat) t v, Tryd.f4.params[j]? = some t → args[j]? = some v → Value.okWide Tryd.prog W .any base t v := hval
  rw [Tryd.params4] at hA hval
  obtain ⟨v0, d0, p0, rfl, rfl, rfl, h0⟩ := trodA1 hA
  obtain ⟨c0, rfl, z0, f0, _⟩ := flat_arg hti (by kernel_rfl) rfl (hval 0 _ _ rfl rfl) h0
  obtain ⟨rfl, _⟩ := trodVars_none hV
  have hL2 : laidMetH Tryd.prog Rows.fnExactPackPictureRow.laid W := hL
  rw [MakeChecks.laidMetH_plain _ _ _ (by kernel_rfl)] at hL2
  refine (rpp_calls W ⟨tabOk_of (tabIs_of hL2), maxOk_of hsh⟩ c0 z0 f0).mono fun e W' ⟨he, hk⟩ => ⟨_, he, ?_⟩
  exact law_post (tb := 4) laidOut (by kernel_rfl) rfl Tryd.underlying4 rfl rfl hW hk

theorem rpp_holds : Rows.FnExactPackPictureSaid :=
  OpenClaim.holds_of_wide 4 Tryd.f4 rfl rfl rfl rfl rfl rfl rfl ⟨rfl, rfl, rfl, rfl, rfl⟩ rfl rfl rfl rfl rfl (by kernel_rfl) Tryd.func4 (by kernel_rfl)
    (of_decide_eq_true (by kernel_rfl)) (by unfold Func.isWrapper; first | (rw [if_pos (by decide +kernel)]; kernel_rfl) | (rw [if_neg (by decide +kernel)]; exact ⟨rfl, rfl⟩))
    (fun os started H enc _ => rpp_lifted os started H enc)
theorem rpp_card : Rows.FnExactPackPictureCardSaid :=
  Claim7.holds_tied_plain_at .later [] [.data, .data, .data, .data, .pinned] true (true, "613a4f8439074ec989f2d854cfd8215be1492a9298b3c3afbd3b43221940a90a") false
    rpp_holds (fun _ h => by cases h) (by kernel_rfl) (fun _ h => by cases h) fnExactPackPicture_row_tie rfl ⟨rfl, rfl⟩ (by kernel_rfl) rfl
    (fun f fn hf hfn => by
      obtain rfl : f = 4 := Option.some.inj ((show Tryd.prog.funcNamed "loop.example/g01360/laws.FnExactPackPicture" = some 4 by kernel_rfl).symm.trans hf) |>.symm
      obtain rfl : fn = Tryd.f4 := (Option.some.inj (Tryd.func4.symm.trans hfn)).symm
      exact ⟨by kernel_rfl, fun j t ht => by
        rw [Tryd.params4] at ht
        have hm : t ∈ (Tryd.f4.params.toList) := by
          have := Array.mem_of_getElem? ht
          exact Array.mem_toList_iff.2 this
        have hall : (Tryd.f4.params.toList.all fun u => !Tryd.prog.wantsStandIn u) = true := by kernel_rfl
        exact (show Tryd.prog.wantsStandIn t = false by simpa using List.all_eq_true.1 hall t hm)⟩)
    (by kernel_rfl)
end Go.Proofs.YtckefhnobflhcaaDoor.V
