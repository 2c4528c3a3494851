/- Part 3 of the texts that this proof stands on: a symbolic walk over the program, what its functions and the reference's do, plain laws. -/
import Derived.Test.YtckefhnobflhcaaDoorZshb
import Derived.Test.YtckefhnobflhcaaDoorZsha
import Derived.Test.YtckefhnobflhcaaDoorV17
set_option linter.all false

/- Stacks, by the reference: small functions, validity. -/
namespace Go.Proofs.YtckefhnobflhcaaDoor.V
section
variable (cx : Cx) (h : List (Nat × Seg)) (n : Nat)
end
end Go.Proofs.YtckefhnobflhcaaDoor.V

/- Validity of a stack: the program's own walk. -/
namespace Go.Proofs.YtckefhnobflhcaaDoor.V
section
variable (cx : Cx) (h : List (Nat × Seg)) (n : Nat)
end
end Go.Proofs.YtckefhnobflhcaaDoor.V

/- A function asked of the sheets of a stack. -/
namespace Go.Proofs.YtckefhnobflhcaaDoor.V
section
variable (cx : Cx) (h : List (Nat × Seg)) (n : Nat)
end
end Go.Proofs.YtckefhnobflhcaaDoor.V

/- A valid stack: the program's own walk. -/
namespace Go.Proofs.YtckefhnobflhcaaDoor.V
section
variable (cx : Cx) (h : List (Nat × Seg)) (n : Nat)
end
end Go.Proofs.YtckefhnobflhcaaDoor.V

/- The law's stacks: copied. -/
namespace Go.Proofs.YtckefhnobflhcaaDoor.V
section
variable (cx : Cx) (h : List (Nat × Seg)) (n : Nat)
end
end Go.Proofs.YtckefhnobflhcaaDoor.V

/- The law's stacks: compared. -/
namespace Go.Proofs.YtckefhnobflhcaaDoor.V
section
variable (cx : Cx) (h : List (Nat × Seg)) (n : Nat)
end
end Go.Proofs.YtckefhnobflhcaaDoor.V
