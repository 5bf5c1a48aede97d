import Derived.Test.YgcfafProg
import Derived.Test.YgcfafPlain
import Derived.WalkKit
import Derived.WalkLawsBesides
import Derived.Below
namespace Go.Proofs.Ygcfaf
open Go.RowKit
set_option linter.unusedVariables false

theorem ret_int {k : IntKind} {a b : Int} (h : a = b) : Ending.returned (.int k a) = .returned (.int k b) := by rw [h]

set_option maxHeartbeats 400000 in
theorem ownWidth_any (k : Int) (w : World) :
    Calls Fafg.prog 28 #[.int .u8 k] w fun e w' => e = .returned (.int .i64 (widB k)) ∧ w' = w := by
  go_enter Fafg.func28, Fafg.ntmps28
  go_wp2
  all_goals
    go_ret
    refine ⟨ret_int ?_, rfl⟩
    simp only [beq_iff_eq, beq_eq_false_iff_ne] at *
    unfold widB
    simp [*]



def widTab : Value := .agg #[.int .u8 1, .int .u8 8, .int .u8 16, .int .u8 32, .int .u8 64, .int .u8 8, .int .u8 16, .int .u8 32, .int .u8 64, .int .u8 32, .int .u8 64]
theorem widIx0 (w : World) : (Instr.index 219 widTab (.int .u8 0)).run Fafg.prog w = .ok (.int .u8 1) w := by kernel_rfl
theorem widIx1 (w : World) : (Instr.index 219 widTab (.int .u8 1)).run Fafg.prog w = .ok (.int .u8 8) w := by kernel_rfl
theorem widIx2 (w : World) : (Instr.index 219 widTab (.int .u8 2)).run Fafg.prog w = .ok (.int .u8 16) w := by kernel_rfl
theorem widIx3 (w : World) : (Instr.index 219 widTab (.int .u8 3)).run Fafg.prog w = .ok (.int .u8 32) w := by kernel_rfl
theorem widIx4 (w : World) : (Instr.index 219 widTab (.int .u8 4)).run Fafg.prog w = .ok (.int .u8 64) w := by kernel_rfl
theorem widIx5 (w : World) : (Instr.index 219 widTab (.int .u8 5)).run Fafg.prog w = .ok (.int .u8 8) w := by kernel_rfl
theorem widIx6 (w : World) : (Instr.index 219 widTab (.int .u8 6)).run Fafg.prog w = .ok (.int .u8 16) w := by kernel_rfl
theorem widIx7 (w : World) : (Instr.index 219 widTab (.int .u8 7)).run Fafg.prog w = .ok (.int .u8 32) w := by kernel_rfl
theorem widIx8 (w : World) : (Instr.index 219 widTab (.int .u8 8)).run Fafg.prog w = .ok (.int .u8 64) w := by kernel_rfl
theorem widIx9 (w : World) : (Instr.index 219 widTab (.int .u8 9)).run Fafg.prog w = .ok (.int .u8 32) w := by kernel_rfl
theorem widIx10 (w : World) : (Instr.index 219 widTab (.int .u8 10)).run Fafg.prog w = .ok (.int .u8 64) w := by kernel_rfl
theorem widIx (n : Nat) (h : n < 11) (w : World) : (Instr.index 219 widTab (.int .u8 n)).run Fafg.prog w = .ok (.int .u8 (widB n)) w := by
  have hc : n = 0 ∨ n = 1 ∨ n = 2 ∨ n = 3 ∨ n = 4 ∨ n = 5 ∨ n = 6 ∨ n = 7 ∨ n = 8 ∨ n = 9 ∨ n = 10 := by omega
  rcases hc with rfl | rfl | rfl | rfl | rfl | rfl | rfl | rfl | rfl | rfl | rfl
  · exact widIx0 w
  · exact widIx1 w
  · exact widIx2 w
  · exact widIx3 w
  · exact widIx4 w
  · exact widIx5 w
  · exact widIx6 w
  · exact widIx7 w
  · exact widIx8 w
  · exact widIx9 w
  · exact widIx10 w

set_option maxHeartbeats 400000 in
set_option maxRecDepth 100000 in
theorem widthOf_any (k : Int) (w : World) (h0 : 0 ≤ k) (h1 : k ≤ 255) :
    Calls Fafg.prog 55 #[.int .u8 k] w fun e w' => e = .returned (.int .u8 (widB k)) ∧ w' = w := by
  by_cases hk : 10 < k
  · go_enter Fafg.func55, Fafg.ntmps55
    go_wp2
    go_ret
    refine ⟨ret_int ?_, rfl⟩
    unfold widB
    simp [show ¬ k = 0 by omega, show ¬ k = 1 by omega, show ¬ k = 2 by omega, show ¬ k = 3 by omega, show ¬ k = 4 by omega, show ¬ k = 5 by omega, show ¬ k = 6 by omega, show ¬ k = 7 by omega, show ¬ k = 8 by omega, show ¬ k = 9 by omega, show ¬ k = 10 by omega]
  · obtain ⟨n, rfl⟩ := Int.eq_ofNat_of_zero_le h0
    have hix := widIx n (by omega)
    simp only [widTab] at hix
    go_enter Fafg.func55, Fafg.ntmps55
    go_wp2
    go_ret
    exact ⟨rfl, rfl⟩
end Go.Proofs.Ygcfaf
