/- The kernel runs the machine: the texts of the records 36 .. 44. -/
import Derived.Test.YgcfafO1
import Derived.WalkKit
namespace Go.Proofs.Ygcfaf.Mach
open Go
theorem r14_36 : ok14 row36.2.1 row36.2.2 (run14 row36.1) = true := by kernel_rfl
theorem r14_37 : ok14 row37.2.1 row37.2.2 (run14 row37.1) = true := by kernel_rfl
theorem r14_38 : ok14 row38.2.1 row38.2.2 (run14 row38.1) = true := by kernel_rfl
theorem r14_39 : ok14 row39.2.1 row39.2.2 (run14 row39.1) = true := by kernel_rfl
theorem r14_40 : ok14 row40.2.1 row40.2.2 (run14 row40.1) = true := by kernel_rfl
theorem r14_41 : ok14 row41.2.1 row41.2.2 (run14 row41.1) = true := by kernel_rfl
theorem r14_42 : ok14 row42.2.1 row42.2.2 (run14 row42.1) = true := by kernel_rfl
theorem r14_43 : ok14 row43.2.1 row43.2.2 (run14 row43.1) = true := by kernel_rfl
theorem r14_44 : ok14 row44.2.1 row44.2.2 (run14 row44.1) = true := by kernel_rfl
end Go.Proofs.Ygcfaf.Mach
