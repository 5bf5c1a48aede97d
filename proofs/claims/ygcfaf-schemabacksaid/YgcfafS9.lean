import Derived.Test.YgcfafS8
namespace Go.Proofs.Ygcfaf
open Go.RowKit
set_option linter.unusedVariables false

set_option maxHeartbeats 2000000 in
theorem check_any (w : World) (B sb cap : Nat) (ss : List Str) (a : Option Addr) (hI : In w B sb ss a cap) :
    Calls Fafg.prog 30 #[.pointer (some ⟨sb, 0, none⟩)] w fun e w' => ∃ r : Bool, e = .returned (.bool r) ∧ (r = true ↔ (ShapedP ss ∧ (printText ss).length ≤ 1024)) ∧ Below w.heap.size w w' := by
  have HS : Hid (Calls Fafg.prog 57 #[.pointer (some ⟨sb, 0, none⟩)] w fun e w' => ∃ r : Bool, e = .returned (.bool r) ∧ (r = true ↔ ShapedP ss) ∧ Below w.heap.size w w') := shaped_any w B sb cap ss a hI
  go_enter Fafg.func30, Fafg.ntmps30
  go_wp2_with fail
  refine HS.out.mono ?_
  rintro e w1 ⟨r, rfl, hr, hb1⟩
  cases r with
  | false =>
    have HW : Hid (¬ ShapedP ss) := fun h => by have := hr.2 h; cases this
    clear hr
    go_wp2
    go_ret
    exact ⟨false, rfl, ⟨fun h => Bool.noConfusion h, fun h => absurd h.1 HW.out⟩, hb1⟩
  | true =>
    have HW : Hid (ShapedP ss) := hr.1 rfl
    clear hr HS
    have HP := print_any w1 B sb cap ss a (hI.below hb1)
    go_wp2_with fail
    refine HP.mono ?_
    rintro e w2 ⟨s, rfl, hb2, hs⟩
    have hs' : s = ⟨(printText ss).toArray⟩ := by
      rcases hs with ⟨h, _⟩ | ⟨_, h⟩
      · exact absurd HW.out h
      · exact h
    have hsz : s.size = (printText ss).length := by rw [hs', Lib.size_eq]
    have Hsz : Hid (s.size = (printText ss).length) := hsz
    have hbd : s.size ≤ 4000 := by
      rw [hsz]
      have h1 := printTo_le HW.out.small ss.length (Nat.le_refl _)
      have h2 := HW.out.small.len
      unfold printText
      omega
    clear hs hs' hsz HP
    by_cases hlen : s.size ≤ 1024
    · have hlb : decide ((s.size : Int) ≤ 1024) = true := by simp; omega
      go_wp2
      go_ret
      exact ⟨true, rfl, ⟨fun _ => ⟨HW.out, by rw [← Hsz.out]; exact hlen⟩, fun _ => rfl⟩, hb1.trans (hb2.mono hb1.size)⟩
    · have hlb : decide ((s.size : Int) ≤ 1024) = false := by simp; omega
      go_wp2
      go_ret
      exact ⟨false, rfl, ⟨fun h => Bool.noConfusion h, fun h => absurd h.2 (by rw [← Hsz.out]; exact hlen)⟩, hb1.trans (hb2.mono hb1.size)⟩
end Go.Proofs.Ygcfaf
