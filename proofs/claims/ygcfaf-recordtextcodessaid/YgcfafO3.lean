/- The kernel runs the machine: the schema is checked. -/
import Derived.Test.YgcfafO1
import Derived.WalkKit
namespace Go.Proofs.Ygcfaf.Mach
open Go
theorem r19 : ok19 (callRun E0 3000 401 19 [sPtr] hs 401) = true := by kernel_rfl
end Go.Proofs.Ygcfaf.Mach
