
/-
  The law FnOrigins holds for all arguments: it returns true. No conditions.
-/
import Derived.Test.YtggpnfgohpifoaaGreatRows
import Derived.Test.YtggpnfgohpifoaaGreatZfod
import Derived.Test.YtggpnfgohpifoaaGreatZfof
set_option linter.all false
namespace Go.Proofs.YtggpnfgohpifoaaGreat.V
open Go.ChangeShapes Go.RowKit

theorem own : ownKnob Tryz.prog.godebug = none := by kernel_rfl
theorem laidOut : laidOutB Tryz.prog = true := by kernel_rfl

theorem rfo_calls (W : World) (ρ : Rho) (hm : List (Nat × Seg)) (A B : SV) (la lb : Nat) (sh : SatH (cx0 W) ρ hm 2 W) (hA : ByArg hm 2 A la) (hB : ByArg hm 2 B lb) :
    Calls Tryz.prog 3 #[den ρ A, den ρ B] W fun e W' => e = .returned (.bool true) ∧ Keeps Noth W W' := by
  obtain ⟨_, _, _, hc⟩ := lawFO_Q (cx0 W) hm 2 A B la lb hA hB
  have hc' := hc ρ W sh (fun v hv => by
    simp only [List.mem_cons, List.not_mem_nil, or_false] at hv
    rcases hv with rfl | rfl
    · exact hA.lt
    · exact hB.lt)
  simp only [List.map_cons, List.map_nil] at hc'
  exact hc'.mono fun e W' ⟨he, hs⟩ => ⟨he, hs.keeps⟩

end Go.Proofs.YtggpnfgohpifoaaGreat.V
