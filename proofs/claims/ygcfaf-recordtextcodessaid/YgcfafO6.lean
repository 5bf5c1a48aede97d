/- The kernel runs the machine: the law, at each of its 256 arguments. -/
import Derived.Test.YgcfafO5
import Derived.WalkKit
namespace Go.Proofs.Ygcfaf.Mach
open Go Go.RowKit
theorem all0 : allIn 0 128 = true := by kernel_rfl
theorem all1 : allIn 128 128 = true := by kernel_rfl

theorem law_any (i : Nat) (hi : i ≤ 255) (w : World) : Calls Fafg.prog 5 #[.int .u8 (.ofNat i)] w fun e w' => e = .returned (.bool true) ∧ Below w.heap.size w w' := by
  rcases Nat.lt_or_ge i 128 with h | h
  · exact law_of (allIn_ok 0 128 all0 i (Nat.zero_le _) (by omega)) w
  · exact law_of (allIn_ok 128 128 all1 i h (by omega)) w
end Go.Proofs.Ygcfaf.Mach
