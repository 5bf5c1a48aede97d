import Derived.Test.YgcfafT5
import Derived.WalkLawsBesides
namespace Go.Proofs.Ygcfaf
open Go.RowKit
set_option linter.unusedVariables false

/-- What Layout leaves, whatever the number of types. -/
def LayEnd (w : World) (K : Nat → Int) (n : Nat) (e : Ending) (w' : World) : Prop := Below w.heap.size w w' ∧
      ((lay K n = none ∧ e = .returned (.tuple #[.slice none 0 0, .int .u8 0, .int .u8 0, .bool false])) ∨
       ∃ st v, lay K n = some st ∧ e = .returned (.tuple #[v, .int .u8 st.data, .int .u8 st.ptrs, .bool true]) ∧ w'.ownsRow w.heap.size 82 4 v n (psCells st.ps))

set_option maxHeartbeats 1000000 in
set_option maxRecDepth 100000 in
theorem layout_big (a : Option Addr) (n cap : Nat) (K : Nat → Int) (w : World) (hn : 16 < n) (hm : n ≤ maxLen) :
    Calls Fafg.prog 27 #[.slice a n cap] w (LayEnd w K n) := by
  unfold maxLen at hm
  go_enter Fafg.func27, Fafg.ntmps27
  go_wp2
  refine bodyPost_ret (results_tmp4 rfl _ _ _) rfl ⟨Below.refl _ _, .inl ⟨by unfold lay; rw [if_pos hn], rfl⟩⟩

set_option maxHeartbeats 1000000 in
set_option maxRecDepth 100000 in
theorem layout_zero (a : Option Addr) (cap : Nat) (K : Nat → Int) (w : World) :
    Calls Fafg.prog 27 #[.slice a 0 cap] w (LayEnd w K 0) := by
  go_enter Fafg.func27, Fafg.ntmps27
  go_wp2
  refine wp_loop_once ?_
  go_wp2
  refine bodyPost_ret (results_tmp4 rfl _ _ _) rfl ⟨(Below.refl _ _).alloc (Nat.le_refl _) _, .inr ⟨lay0, _, rfl, rfl, World.ownsRow_nil _ _ _ _⟩⟩

theorem layout_all (b off n cap : Nat) (K E F G : Nat → Int) (w : World) (hm : n ≤ maxLen) (hb : b < w.heap.size) (hK : ∀ i, 0 ≤ K i ∧ K i ≤ 255)
    (hc : ∀ i, i < n → w.cell? ⟨b, off + i * 4, none⟩ = some (.int .u8 (K i)) ∧ w.cell? ⟨b, off + i * 4 + 1, none⟩ = some (.int .u8 (E i)) ∧ w.cell? ⟨b, off + i * 4 + 2, none⟩ = some (.int .u8 (F i)) ∧ w.cell? ⟨b, off + i * 4 + 3, none⟩ = some (.int .u8 (G i))) :
    Calls Fafg.prog 27 #[.slice (some ⟨b, off, none⟩) n cap] w (LayEnd w K n) := by
  by_cases h16 : 16 < n
  · exact layout_big _ n cap K w h16 hm
  · by_cases h0 : n = 0
    · subst h0; exact layout_zero _ cap K w
    · refine (layout_any b off n cap K E F G w (by omega) (by omega) hb hK hc).mono fun e w' h => ?_
      obtain ⟨hb', h⟩ := h
      refine ⟨hb', ?_⟩
      have e1 : lay K n = layTo K n := by unfold lay; rw [if_neg h16]
      rw [e1]
      exact h
end Go.Proofs.Ygcfaf
