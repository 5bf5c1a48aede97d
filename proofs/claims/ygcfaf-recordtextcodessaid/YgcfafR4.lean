/- The kernel runs the machine: the texts of the records 27 .. 35. -/
import Derived.Test.YgcfafO1
import Derived.WalkKit
namespace Go.Proofs.Ygcfaf.Mach
open Go
theorem r14_27 : ok14 row27.2.1 row27.2.2 (run14 row27.1) = true := by kernel_rfl
theorem r14_28 : ok14 row28.2.1 row28.2.2 (run14 row28.1) = true := by kernel_rfl
theorem r14_29 : ok14 row29.2.1 row29.2.2 (run14 row29.1) = true := by kernel_rfl
theorem r14_30 : ok14 row30.2.1 row30.2.2 (run14 row30.1) = true := by kernel_rfl
theorem r14_31 : ok14 row31.2.1 row31.2.2 (run14 row31.1) = true := by kernel_rfl
theorem r14_32 : ok14 row32.2.1 row32.2.2 (run14 row32.1) = true := by kernel_rfl
theorem r14_33 : ok14 row33.2.1 row33.2.2 (run14 row33.1) = true := by kernel_rfl
theorem r14_34 : ok14 row34.2.1 row34.2.2 (run14 row34.1) = true := by kernel_rfl
theorem r14_35 : ok14 row35.2.1 row35.2.2 (run14 row35.1) = true := by kernel_rfl
end Go.Proofs.Ygcfaf.Mach
