-- Written by this session's program xprint.py: it drives the kit's print with contracts of this session's own.
import Derived.Test.YtheclfjbedajfaaPdx0
import Derived.Test.YtheclfjbedajfaaEy
namespace Go.Proofs.Ytheclfjbedajfaa.Pd
open Go.RowKit Go.Proofs.YtheclfjbedajfaaW.PrintWords Go.Proofs.YtheclfjbedajfaaW.PrintLast Go.Proofs.YtheclfjbedajfaaW.PrintMore
attribute [local go_sem] max2_int min2_int max_two min_two max_three min_three max_four min_four   -- for this text's walks alone
set_option linter.unusedVariables false
set_option linter.unusedSimpArgs false

/-! ### plexuslaw42_examples: function 8 -/
def plexuslaw42_examples.f : Option (Bool) := some true
theorem plexuslaw42_examples.calls (r : Bool) (w : World) (h : plexuslaw42_examples.f = some r) : Calls Try.prog 8 #[] w fun e w' => e = .returned (.bool r) ∧ Below w.heap.size w w' := by
  obtain rfl := Option.some.inj h
  exact examples_any w





end Go.Proofs.Ytheclfjbedajfaa.Pd
