/- The kernel runs the machine: the texts of the records 9 .. 17. -/
import Derived.Test.YgcfafO1
import Derived.WalkKit
namespace Go.Proofs.Ygcfaf.Mach
open Go
theorem r14_9 : ok14 row9.2.1 row9.2.2 (run14 row9.1) = true := by kernel_rfl
theorem r14_10 : ok14 row10.2.1 row10.2.2 (run14 row10.1) = true := by kernel_rfl
theorem r14_11 : ok14 row11.2.1 row11.2.2 (run14 row11.1) = true := by kernel_rfl
theorem r14_12 : ok14 row12.2.1 row12.2.2 (run14 row12.1) = true := by kernel_rfl
theorem r14_13 : ok14 row13.2.1 row13.2.2 (run14 row13.1) = true := by kernel_rfl
theorem r14_14 : ok14 row14.2.1 row14.2.2 (run14 row14.1) = true := by kernel_rfl
theorem r14_15 : ok14 row15.2.1 row15.2.2 (run14 row15.1) = true := by kernel_rfl
theorem r14_16 : ok14 row16.2.1 row16.2.2 (run14 row16.1) = true := by kernel_rfl
theorem r14_17 : ok14 row17.2.1 row17.2.2 (run14 row17.1) = true := by kernel_rfl
end Go.Proofs.Ygcfaf.Mach
