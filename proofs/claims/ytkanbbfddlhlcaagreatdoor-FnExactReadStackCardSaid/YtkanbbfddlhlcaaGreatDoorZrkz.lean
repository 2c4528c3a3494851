
/-
  For every text that comes in, the law laws.FnExactReadStack returns true, and its argument reads afterwards as it read before: the program and the reference return the same stack and the same code, and the returned stack is shared neither with the argument nor with another call. The tables and the two error values of the library that the row lists are tied to the text by the given tie (over the pruned copy of the project). No other condition.
-/
import Derived.Test.YtkanbbfddlhlcaaGreatDoorRows
import Derived.Test.YtkanbbfddlhlcaaGreatDoorCards
import Derived.Test.YtkanbbfddlhlcaaGreatDoorTie
import Derived.SevenTiedAt
import Derived.Test.YtkanbbfddlhlcaaGreatDoorZrkd
import Derived.Test.YtkanbbfddlhlcaaGreatDoorZrkg
set_option linter.all false
namespace Go.Proofs.YtkanbbfddlhlcaaGreatDoor.V
open Go.ChangeShapes Go.WideShapes Go.ChangeAt Go.WideElems Go.RowKit

theorem own : ownKnob Tryz.prog.godebug = none := by kernel_rfl
theorem laidOut : laidOutB Tryz.prog = true := by kernel_rfl

theorem rrk_calls (W : World) (hT : TabOk (cx0 W) ∧ MaxOk (cx0 W) ∧ ErrOk (cx0 W)) (s0 : ByteArray) (hs0 : s0.size ≤ 9223372036854775807) :
    Calls Tryz.prog 3 #[.string s0] W fun e W' => e = .returned (.bool true) ∧ Keeps Noth W W' := by
  obtain ⟨_, _, _, hc⟩ := lawReadStack_Q (cx0 W) [] 0 hT s0 hs0
  have hc' := hc (fun _ => (0, 0)) W (sat0 W _) (fun v hv => by
    simp only [List.mem_cons, List.not_mem_nil, or_false] at hv
    subst hv
    · trivial)
  simp only [List.map_cons, List.map_nil] at hc'
  exact hc'.mono fun e W' ⟨he, hs⟩ => ⟨he, hs.keeps⟩

set_option maxRecDepth 100000 in
theorem rrk_lifted (os : Os) (started : os.Started) (H : Type) (enc : TypeId × Value → H) :
    ReturnsInHanded {} Tryz.checked os 3 .any (fun w args => (Rows.fnExactReadStackSpec.pre enc Tryz.prog Tryz.f3 [] false w args ∧ laidMetH Tryz.prog Rows.fnExactReadStackRow.laid w) ∧ sizedMet enc Tryz.prog Tryz.f3 (OpenSpec.ofChange Rows.fnExactReadStackSpec) false w args)
      (Rows.fnExactReadStackSpec.post enc Tryz.prog Tryz.f3 false true false false) := by
  refine handed_shaped_and (C := Tryz.checked) (X := fun w _ => laidMetH Tryz.prog Rows.fnExactReadStackRow.laid w) (fun _ _ _ hh h => h.of_heap hh) own started (by kernel_rfl) Tryz.func3
    (ChangeSpec.witness_shaped (enc := enc) (C := Tryz.checked) (os := os) (X := fun w _ => laidMetH Tryz.prog Rows.fnExactReadStackRow.laid w) false (World.laidAll Tryz.prog os Rows.fnExactReadStackRow.laid) #[.string ⟨#[]⟩] 8 (World.laidAll_os _ _ _) (World.shaped_of_ZipB (by kernel_rfl) (by kernel_rfl)) (by kernel_rfl) (by kernel_rfl) (by kernel_rfl) (by rw [MakeChecks.laidMetH_plain _ _ _ (by kernel_rfl)]; exact laidMet_laidAll _ (by kernel_rfl) (by kernel_rfl))) ?_
  intro W base args ds gs before hval hW hL hsh
  have hW' := hW
  obtain ⟨p, q, hA, hV, rfl, _, _⟩ := hW'
  replace hA : DataW.TrodAll enc Tryz.prog W 0 (fun _ => true) true Tryz.f3.params.toList args.toList ds p := hA
  replace hval : ∀ (j : Nat) t v, Tryz.f3.params[j]? = some t → args[j]? = some v → Value.okWide Tryz.prog W .any base t v := hval
  rw [Tryz.params3] at hA hval
  obtain ⟨v0, d0, p0, rfl, rfl, rfl, h0⟩ := trodA1 hA
  obtain ⟨s0, rfl, hs0⟩ := str_arg (hval 0 _ _ rfl rfl) h0
  obtain ⟨rfl, _⟩ := trodVars_none hV
  have hL2 : laidMetH Tryz.prog Rows.fnExactReadStackRow.laid W := hL
  rw [MakeChecks.laidMetH_plain _ _ _ (by kernel_rfl)] at hL2
  refine (rrk_calls W ⟨tabOk_of (tabIs_of hL2), maxOk_of hsh, errOk_of hL2⟩ s0 hs0).mono fun e W' ⟨he, hk⟩ => ⟨_, he, ?_⟩
  exact law_post (tb := 4) laidOut (by kernel_rfl) rfl Tryz.underlying4 rfl rfl hW hk

theorem rrk_holds : Rows.FnExactReadStackSaid :=
  OpenClaim.holds_of_wide 3 Tryz.f3 rfl rfl rfl rfl rfl rfl rfl ⟨rfl, rfl, rfl, rfl, rfl⟩ rfl rfl rfl rfl rfl (by kernel_rfl) Tryz.func3 (by kernel_rfl)
    (of_decide_eq_true (by kernel_rfl)) (by unfold Func.isWrapper; first | (rw [if_pos (by decide +kernel)]; kernel_rfl) | (rw [if_neg (by decide +kernel)]; exact ⟨rfl, rfl⟩))
    (fun os started H enc _ => rrk_lifted os started H enc)
theorem rrk_card : Rows.FnExactReadStackCardSaid :=
  Claim7.holds_tied_plain_at .later [] [.data, .data, .data, .data, .sentinel, .sentinel, .pinned] true (true, "77daae5b3308ad26d49db1691c93a0d51e2d47625fee5e5997bc62efbd7c5468") true
    rrk_holds (fun _ h => by cases h) (by kernel_rfl) (fun _ h => by cases h) fnExactReadStack_row_tie rfl ⟨rfl, rfl⟩ (by kernel_rfl) rfl
    (fun f fn hf hfn => by
      obtain rfl : f = 3 := Option.some.inj ((show Tryz.prog.funcNamed "loop.example/g01360/laws.FnExactReadStack" = some 3 by kernel_rfl).symm.trans hf) |>.symm
      obtain rfl : fn = Tryz.f3 := (Option.some.inj (Tryz.func3.symm.trans hfn)).symm
      exact ⟨by kernel_rfl, fun j t ht => by
        rw [Tryz.params3] at ht
        have hm : t ∈ (Tryz.f3.params.toList) := by
          have := Array.mem_of_getElem? ht
          exact Array.mem_toList_iff.2 this
        have hall : (Tryz.f3.params.toList.all fun u => !Tryz.prog.wantsStandIn u) = true := by kernel_rfl
        exact (show Tryz.prog.wantsStandIn t = false by simpa using List.all_eq_true.1 hall t hm)⟩)
    (by kernel_rfl)
end Go.Proofs.YtkanbbfddlhlcaaGreatDoor.V
