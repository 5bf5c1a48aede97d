/- The kernel runs the machine: the texts of the records 0 .. 8. -/
import Derived.Test.YgcfafO1
import Derived.WalkKit
namespace Go.Proofs.Ygcfaf.Mach
open Go
theorem r14_0 : ok14 row0.2.1 row0.2.2 (run14 row0.1) = true := by kernel_rfl
theorem r14_1 : ok14 row1.2.1 row1.2.2 (run14 row1.1) = true := by kernel_rfl
theorem r14_2 : ok14 row2.2.1 row2.2.2 (run14 row2.1) = true := by kernel_rfl
theorem r14_3 : ok14 row3.2.1 row3.2.2 (run14 row3.1) = true := by kernel_rfl
theorem r14_4 : ok14 row4.2.1 row4.2.2 (run14 row4.1) = true := by kernel_rfl
theorem r14_5 : ok14 row5.2.1 row5.2.2 (run14 row5.1) = true := by kernel_rfl
theorem r14_6 : ok14 row6.2.1 row6.2.2 (run14 row6.1) = true := by kernel_rfl
theorem r14_7 : ok14 row7.2.1 row7.2.2 (run14 row7.1) = true := by kernel_rfl
theorem r14_8 : ok14 row8.2.1 row8.2.2 (run14 row8.1) = true := by kernel_rfl
end Go.Proofs.Ygcfaf.Mach
