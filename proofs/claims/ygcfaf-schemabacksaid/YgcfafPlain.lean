/- Plain mathematics of the layout: no Go in sight. -/
namespace Go.Proofs.Ygcfaf

/-- The width in bits of a kind (0: no scalar). -/
def widB (k : Int) : Int := if k = 0 then 1 else if k = 1 ∨ k = 5 then 8 else if k = 2 ∨ k = 6 then 16 else if k = 3 ∨ k = 7 ∨ k = 9 then 32 else if k = 4 ∨ k = 8 ∨ k = 10 then 64 else 0

/-- Are the s places from j * s on all free? -/
def freeAt (f : Nat → Bool) (s j : Nat) : Bool := (List.range s).all fun r => !f (j * s + r)

/-- The least j below n at which s places are free. -/
def ffTo (f : Nat → Bool) (s : Nat) (n : Nat) : Option Nat := (List.range n).find? (freeAt f s)

def ff (f : Nat → Bool) (words s : Nat) : Option Nat := ffTo f s (words * (64 / s))

theorem ffTo_succ (f : Nat → Bool) (s n : Nat) (h : ffTo f s n = none) : ffTo f s (n + 1) = if freeAt f s n then some n else none := by
  unfold ffTo at *
  rw [List.range_succ, List.find?_append, h]
  simp [List.find?_cons]
  cases freeAt f s n <;> rfl

theorem ffTo_hit (f : Nat → Bool) (s n m : Nat) (h : ffTo f s n = none) (hf : freeAt f s n = true) (hm : n < m) : ffTo f s m = some n := by
  have e : m = (n + 1) + (m - (n + 1)) := by omega
  have h1 := ffTo_succ f s n h
  rw [hf, if_pos rfl] at h1
  unfold ffTo at *
  rw [e, List.range_add, List.find?_append, h1]
  rfl

theorem freeAt_snoc (f : Nat → Bool) (p r : Nat) : ((List.range (r + 1)).all fun i => !f (p + i)) = (((List.range r).all fun i => !f (p + i)) && !f (p + r)) := by
  rw [List.range_succ, List.all_append]
  simp

theorem widB_cases (k : Int) : widB k = 0 ∨ widB k = 1 ∨ widB k = 8 ∨ widB k = 16 ∨ widB k = 32 ∨ widB k = 64 := by
  unfold widB
  split
  · simp
  · split
    · simp
    · split
      · simp
      · split
        · simp
        · split <;> simp
end Go.Proofs.Ygcfaf
