/- Plain mathematics of schema.Layout: no Go in sight. -/
import Derived.Test.YgcfafPlain
namespace Go.Proofs.Ygcfaf

structure Plc where
  bits : Nat
  off : Nat
  slot : Nat
  isPtr : Bool

structure LSt where
  ps : List Plc
  data : Nat
  ptrs : Nat
  f : Nat → Bool

def mark (f : Nat → Bool) (at_ s : Nat) : Nat → Bool := fun b => f b || (decide (at_ ≤ b) && decide (b < at_ + s))

def scal (st : LSt) (s : Nat) : Option LSt :=
  match ffTo st.f s (st.data * (64 / s)) with
  | some j => some { st with ps := st.ps ++ [⟨s, j, 0, false⟩], f := mark st.f (j * s) s }
  | none => if st.data = 8 then none else some { st with ps := st.ps ++ [⟨s, st.data * 64 / s, 0, false⟩], data := st.data + 1, f := mark st.f (st.data * 64) s }

def ptrStep (st : LSt) : Option LSt :=
  if st.ptrs = 8 then none else some { st with ps := st.ps ++ [⟨0, 0, st.ptrs, true⟩], ptrs := st.ptrs + 1 }

def layStep (st : LSt) (k : Int) : Option LSt :=
  if 13 < k then none else if widB k = 0 then ptrStep st else scal st (widB k).toNat

def lay0 : LSt := ⟨[], 0, 0, fun _ => false⟩

def layTo (K : Nat → Int) : Nat → Option LSt
  | 0 => some lay0
  | n + 1 => (layTo K n).bind fun st => layStep st (K n)

def lay (K : Nat → Int) (n : Nat) : Option LSt := if 16 < n then none else layTo K n

theorem layTo_none (K : Nat → Int) (k n : Nat) (h : layTo K k = none) (hn : k ≤ n) : layTo K n = none := by
  induction n with
  | zero => have : k = 0 := by omega
            subst this; exact h
  | succ n ih =>
    by_cases hk : k = n + 1
    · subst hk; exact h
    · simp [layTo, ih (by omega)]

/-- What holds of every state on the way. -/
structure LOk (k : Nat) (st : LSt) : Prop where
  len : st.ps.length = k
  data : st.data ≤ 8
  ptrs : st.ptrs ≤ 8

theorem LOk.scal {k s : Nat} {st st' : LSt} (h : LOk k st) (e : scal st s = some st') : LOk (k + 1) st' := by
  unfold Ygcfaf.scal at e
  split at e
  · cases e; exact ⟨by simp [h.len], h.data, h.ptrs⟩
  · split at e
    · cases e
    · cases e; exact ⟨by simp [h.len], by have := h.data; simp; omega, h.ptrs⟩

theorem LOk.step {k : Nat} {st st' : LSt} {x : Int} (h : LOk k st) (e : layStep st x = some st') : LOk (k + 1) st' := by
  unfold layStep at e
  split at e
  · cases e
  · split at e
    · unfold ptrStep at e
      split at e
      · cases e
      · cases e; exact ⟨by simp [h.len], h.data, by have := h.ptrs; simp; omega⟩
    · exact h.scal e

theorem layTo_ok (K : Nat → Int) : ∀ (n : Nat) (st : LSt), layTo K n = some st → LOk n st
  | 0, st, h => by cases h; exact ⟨rfl, by simp [lay0], by simp [lay0]⟩
  | n + 1, st, h => by
    simp only [layTo] at h
    obtain ⟨st0, h0, h1⟩ := Option.bind_eq_some_iff.1 h
    exact (layTo_ok K n st0 h0).step h1
end Go.Proofs.Ygcfaf
