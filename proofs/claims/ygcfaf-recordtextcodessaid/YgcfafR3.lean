/- The kernel runs the machine: the texts of the records 18 .. 26. -/
import Derived.Test.YgcfafO1
import Derived.WalkKit
namespace Go.Proofs.Ygcfaf.Mach
open Go
theorem r14_18 : ok14 row18.2.1 row18.2.2 (run14 row18.1) = true := by kernel_rfl
theorem r14_19 : ok14 row19.2.1 row19.2.2 (run14 row19.1) = true := by kernel_rfl
theorem r14_20 : ok14 row20.2.1 row20.2.2 (run14 row20.1) = true := by kernel_rfl
theorem r14_21 : ok14 row21.2.1 row21.2.2 (run14 row21.1) = true := by kernel_rfl
theorem r14_22 : ok14 row22.2.1 row22.2.2 (run14 row22.1) = true := by kernel_rfl
theorem r14_23 : ok14 row23.2.1 row23.2.2 (run14 row23.1) = true := by kernel_rfl
theorem r14_24 : ok14 row24.2.1 row24.2.2 (run14 row24.1) = true := by kernel_rfl
theorem r14_25 : ok14 row25.2.1 row25.2.2 (run14 row25.1) = true := by kernel_rfl
theorem r14_26 : ok14 row26.2.1 row26.2.2 (run14 row26.1) = true := by kernel_rfl
end Go.Proofs.Ygcfaf.Mach
