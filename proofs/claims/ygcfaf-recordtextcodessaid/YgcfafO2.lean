/- The kernel runs the machine: the schema's text is parsed. -/
import Derived.Test.YgcfafO1
import Derived.WalkKit
namespace Go.Proofs.Ygcfaf.Mach
open Go
theorem r21 : ok21 (callRun E0 3000 0 21 [.string ⟨⟨txt⟩⟩] .nil 0) = true := by kernel_rfl
end Go.Proofs.Ygcfaf.Mach
