import Derived.Test.YgcfafS2
namespace Go.Proofs.Ygcfaf
open Go.RowKit
set_option linter.unusedVariables false

structure Typ where
  kind : Nat
  elem : Nat
  ref : Nat
  nest : Nat

def Typ.cells (t : Typ) : List Value := [.int .u8 t.kind, .int .u8 t.elem, .int .u8 t.ref, .int .u8 t.nest]

/-- Is t a type in a schema of n structs? -/
def typeB (t : Typ) (n : Nat) : Bool := decide (
  ((t.kind = 12 ∧ 1 ≤ t.nest ∧ t.nest ≤ 2 ∧ t.elem ≠ 0 ∧ t.elem ≠ 12 ∧ t.elem ≤ 13) ∨ (t.kind ≠ 12 ∧ t.kind ≤ 13 ∧ t.nest = 0 ∧ t.elem = 0)) ∧
  (((t.kind = 13 ∨ (t.kind = 12 ∧ t.elem = 13)) ∧ t.ref < n) ∨ (¬ (t.kind = 13 ∨ (t.kind = 12 ∧ t.elem = 13)) ∧ t.ref = 0)))

set_option maxHeartbeats 2000000 in
theorem isType_any (t : Typ) (n : Nat) (w : World) (hn : n ≤ 1000) (h0 : t.kind ≤ 255) (h1 : t.elem ≤ 255) (h2 : t.ref ≤ 255) (h3 : t.nest ≤ 255) :
    Calls Fafg.prog 162 #[.agg #[.int .u8 t.kind, .int .u8 t.elem, .int .u8 t.ref, .int .u8 t.nest], .int .i64 n] w fun e w' => e = .returned (.bool (typeB t n)) ∧ ∃ O, w' = w.alloc O := by
  obtain ⟨k, e, r, m⟩ := t
  simp only at *
  go_enter Fafg.func162, Fafg.ntmps162
  go_wp2
  all_goals
    go_ret
    refine ⟨ret_bool ?_, _, rfl⟩
    simp only [beq_iff_eq, bne_iff_ne, beq_eq_false_iff_ne, bne_eq_false_iff_eq, ne_eq] at *
    unfold typeB
    rw [Bool.eq_iff_iff]
    simp only [decide_eq_true_eq, beq_iff_eq, Bool.false_eq_true, ne_eq]
    first | omega | (rw [false_iff]; omega)
end Go.Proofs.Ygcfaf
