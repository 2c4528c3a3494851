
/-
  For every text that comes in, the law laws.FnExactReadPicture returns true, and its argument reads afterwards as it read before: the program and the reference return the same picture and the same code. The two tables of the library that the row lists are tied to the text by the given tie (over the pruned copy of the project). No other condition.
-/
import Derived.Test.YtlkcpmbpfcfeaaaDoorRows
import Derived.Test.YtlkcpmbpfcfeaaaDoorCards
import Derived.Test.YtlkcpmbpfcfeaaaDoorTie
import Derived.SevenTiedAt
import Derived.Test.YtlkcpmbpfcfeaaaDoorZrpd
import Derived.Test.YtlkcpmbpfcfeaaaDoorZrpe
set_option linter.all false
namespace Go.Proofs.YtlkcpmbpfcfeaaaDoor.V
open Go.ChangeShapes Go.WideShapes Go.ChangeAt Go.WideElems Go.RowKit

theorem own : ownKnob Tryd.prog.godebug = none := by kernel_rfl
theorem laidOut : laidOutB Tryd.prog = true := by kernel_rfl

theorem rrp_calls (W : World) (hT : True ∧ MaxOk (cx0 W)) (s0 : ByteArray) (hs0 : s0.size ≤ 9223372036854775807) :
    Calls Tryd.prog 3 #[.string s0] W fun e W' => e = .returned (.bool true) ∧ Keeps Noth W W' := by
  obtain ⟨_, _, _, hc⟩ := lawReadPic_Q (cx0 W) [] 0 hT s0 hs0
  have hc' := hc (fun _ => (0, 0)) W (sat0 W _) (fun v hv => by
    simp only [List.mem_cons, List.not_mem_nil, or_false] at hv
    subst hv
    · trivial)
  simp only [List.map_cons, List.map_nil] at hc'
  exact hc'.mono fun e W' ⟨he, hs⟩ => ⟨he, hs.keeps⟩

set_option maxRecDepth 100000 in
theorem rrp_lifted (os : Os) (started : os.Started) (H : Type) (enc : TypeId × Value → H) :
    ReturnsInHanded {} Tryd.checked os 3 .any (fun w args => (Rows.fnExactReadPictureSpec.pre enc Tryd.prog Tryd.f3 [] false w args ∧ laidMetH Tryd.prog Rows.fnExactReadPictureRow.laid w) ∧ sizedMet enc Tryd.prog Tryd.f3 (OpenSpec.ofChange Rows.fnExactReadPictureSpec) false w args)
      (Rows.fnExactReadPictureSpec.post enc Tryd.prog Tryd.f3 false true false false) := by
  refine handed_shaped_and (C := Tryd.checked) (X := fun w _ => laidMetH Tryd.prog Rows.fnExactReadPictureRow.laid w) (fun _ _ _ hh h => h.of_heap hh) own started (by kernel_rfl) Tryd.func3
    (ChangeSpec.witness_shaped (enc := enc) (C := Tryd.checked) (os := os) (X := fun w _ => laidMetH Tryd.prog Rows.fnExactReadPictureRow.laid w) false (World.laidAll Tryd.prog os Rows.fnExactReadPictureRow.laid) #[.string ⟨#[]⟩] 8 (World.laidAll_os _ _ _) (World.shaped_of_ZipB (by kernel_rfl) (by kernel_rfl)) (by kernel_rfl) (by kernel_rfl) (by kernel_rfl) (by rw [MakeChecks.laidMetH_plain _ _ _ (by kernel_rfl)]; exact laidMet_laidAll _ (by kernel_rfl) (by kernel_rfl))) ?_
  intro W base args ds gs before hval hW hL hsh
  have hW' := hW
  obtain ⟨p, q, hA, hV, rfl, _, _⟩ := hW'
  replace hA : DataW.TrodAll enc Tryd.prog W 0 (fun _ => true) true Tryd.f3.params.toList args.toList ds p := hA
  replace hval : ∀ (j : Nat) t v, Tryd.f3.params[j]? = some t → args[j]? = some v → Value.okWide Tryd.prog W .any base t v := hval
  rw [Tryd.params3] at hA hval
  obtain ⟨v0, d0, p0, rfl, rfl, rfl, h0⟩ := trodA1 hA
  obtain ⟨s0, rfl, hs0⟩ := str_arg (hval 0 _ _ rfl rfl) h0
  obtain ⟨rfl, _⟩ := trodVars_none hV
  have hL2 : laidMetH Tryd.prog Rows.fnExactReadPictureRow.laid W := hL
  rw [MakeChecks.laidMetH_plain _ _ _ (by kernel_rfl)] at hL2
  refine (rrp_calls W ⟨trivial, maxOk_of hsh⟩ s0 hs0).mono fun e W' ⟨he, hk⟩ => ⟨_, he, ?_⟩
  exact law_post (tb := 4) laidOut (by kernel_rfl) rfl Tryd.underlying4 rfl rfl hW hk

theorem rrp_holds : Rows.FnExactReadPictureSaid :=
  OpenClaim.holds_of_wide 3 Tryd.f3 rfl rfl rfl rfl rfl rfl rfl ⟨rfl, rfl, rfl, rfl, rfl⟩ rfl rfl rfl rfl rfl (by kernel_rfl) Tryd.func3 (by kernel_rfl)
    (of_decide_eq_true (by kernel_rfl)) (by unfold Func.isWrapper; first | (rw [if_pos (by decide +kernel)]; kernel_rfl) | (rw [if_neg (by decide +kernel)]; exact ⟨rfl, rfl⟩))
    (fun os started H enc _ => rrp_lifted os started H enc)
theorem rrp_card : Rows.FnExactReadPictureCardSaid :=
  Claim7.holds_tied_plain_at .later [] [.data, .pinned] true (true, "1c9c16451cbf8f318b9cc6171df20701b262979d34a41b50eeb96eac7fc93096") false
    rrp_holds (fun _ h => by cases h) (by kernel_rfl) (fun _ h => by cases h) fnExactReadPicture_row_tie rfl ⟨rfl, rfl⟩ (by kernel_rfl) rfl
    (fun f fn hf hfn => by
      obtain rfl : f = 3 := Option.some.inj ((show Tryd.prog.funcNamed "loop.example/g01360/laws.FnExactReadPicture" = some 3 by kernel_rfl).symm.trans hf) |>.symm
      obtain rfl : fn = Tryd.f3 := (Option.some.inj (Tryd.func3.symm.trans hfn)).symm
      exact ⟨by kernel_rfl, fun j t ht => by
        rw [Tryd.params3] at ht
        have hm : t ∈ (Tryd.f3.params.toList) := by
          have := Array.mem_of_getElem? ht
          exact Array.mem_toList_iff.2 this
        have hall : (Tryd.f3.params.toList.all fun u => !Tryd.prog.wantsStandIn u) = true := by kernel_rfl
        exact (show Tryd.prog.wantsStandIn t = false by simpa using List.all_eq_true.1 hall t hm)⟩)
    (by kernel_rfl)
end Go.Proofs.YtlkcpmbpfcfeaaaDoor.V
