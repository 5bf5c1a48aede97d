import Derived.Test.YgcfafS4
namespace Go.Proofs.Ygcfaf
open Go.RowKit
set_option linter.unusedVariables false

structure ShapedP (ss : List Str) : Prop where
  len : ss.length ≤ 4
  whole : ∀ (k : Nat) (t : Str), ss[k]? = some t → WholeP ss k t

/-- All that is known of the schema that came in. -/
structure In (w : World) (B sb : Nat) (ss : List Str) (a : Option Addr) (cap : Nat) : Prop where
  le : B ≤ w.heap.size
  sch : SchAt w B sb ss a cap
  wf : ∀ s ∈ ss, StrWf s
  len : ss.length ≤ maxLen

theorem In.below {w w' : World} {B sb : Nat} {ss : List Str} {a : Option Addr} {cap : Nat} (h : In w B sb ss a cap) (hb : Below w.heap.size w w') : In w' B sb ss a cap :=
  ⟨Nat.le_trans h.le hb.size, h.sch.below hb h.le, h.wf, h.len⟩

set_option maxHeartbeats 2000000 in
theorem shaped_any (w : World) (B sb cap : Nat) (ss : List Str) (a : Option Addr) (hI : In w B sb ss a cap) :
    Calls Fafg.prog 57 #[.pointer (some ⟨sb, 0, none⟩)] w fun e w' => ∃ r : Bool, e = .returned (.bool r) ∧ (r = true ↔ ShapedP ss) ∧ Below w.heap.size w w' := by
  have hlm := hI.len
  unfold maxLen at hlm
  have hS := hI.sch.cell
  by_cases h4 : ss.length ≤ 4
  · have h4b : decide ((4 : Int) < (ss.length : Int)) = false := by simp; omega
    go_enter Fafg.func57, Fafg.ntmps57
    go_wp2
    go_loopw [19] (fun x wq => ∃ y : Nat, y ≤ ss.length ∧ x = .int .i64 y ∧ Below w.heap.size w wq ∧ Hid (∀ (k : Nat) (t : Str), k < y → ss[k]? = some t → WholeP ss k t)) (fun x _ => ss.length - (intOf x).toNat)
    case atStart => exact ⟨0, by omega, rfl, Below.refl _ _, fun k t hk => by omega⟩
    case round =>
      obtain ⟨y, hy, rfl, hbq, hwh⟩ := hrel
      have Hbq : Hid (Below w.heap.size w wr) := hbq
      clear hbq hS
      have hIr := hI.below Hbq.out
      have hS := hIr.sch.cell
      by_cases hlt : y < ss.length
      · obtain ⟨t, ht⟩ : ∃ t, ss[y]? = some t := ⟨ss[y], List.getElem?_eq_getElem hlt⟩
        obtain ⟨b, off, ha, hbl, hst⟩ : ∃ b off, a = some ⟨b, off, none⟩ ∧ b < B ∧ ∀ k s, ss[k]? = some s → ∃ fa c, StrAt wr B b (off + k * 4) s fa c := by
          rcases hIr.sch.strs with h0 | h0
          · rw [h0] at hlt; simp at hlt
          · exact h0
        subst ha
        obtain ⟨fa, c, hT⟩ := hst y t ht
        have HC : Hid (Calls Fafg.prog 100 #[.pointer (some ⟨sb, 0, none⟩), .int .i64 y] wr fun e w' => ∃ r : Bool, e = .returned (.bool r) ∧ (r = true ↔ WholeP ss y t) ∧ Below wr.heap.size wr w') :=
          whole_any wr B sb cap y b off c ss t fa hIr.le hIr.sch.cell hIr.sch.lt hbl hst ht h4 hT hI.wf
        have Ht : Hid (ss[y]? = some t) := ht
        clear ht hst hT
        go_wp2_with fail
        refine HC.out.mono ?_
        rintro e w2 ⟨r, rfl, hr, hb2⟩
        cases r with
        | false =>
          have HW : Hid (¬ ShapedP ss) := fun h => by have := hr.2 (h.whole y t Ht.out); cases this
          clear hr
          go_wp2
          go_ret
          exact ⟨false, rfl, ⟨fun h => Bool.noConfusion h, fun h => absurd h HW.out⟩, Hbq.out.trans (hb2.mono Hbq.out.size)⟩
        | true =>
          have HW : Hid (WholeP ss y t) := hr.1 rfl
          clear hr
          go_wp2
          go_roundw
          case rel =>
            refine ⟨y + 1, by omega, by go_num, Hbq.out.trans (hb2.mono Hbq.out.size), fun k u hk hu => ?_⟩
            by_cases hky : k < y
            · exact hwh.out k u hky hu
            · obtain rfl : k = y := by omega
              rw [Ht.out] at hu
              cases hu
              exact HW.out
          case measure => simp [intOf]; omega
      · have hyl : y = ss.length := by omega
        have HW : Hid (ShapedP ss) := ⟨h4, fun k t ht => hwh.out k t (by have := (List.getElem?_eq_some_iff.1 ht).1; omega) ht⟩
        go_wp2
        go_ret
        exact ⟨true, rfl, ⟨fun _ => HW.out, fun _ => rfl⟩, Hbq.out⟩
  · have h4b : decide ((4 : Int) < (ss.length : Int)) = true := by simp; omega
    have HW : Hid (¬ ShapedP ss) := fun h => h4 h.len
    go_enter Fafg.func57, Fafg.ntmps57
    go_wp2
    go_ret
    exact ⟨false, rfl, ⟨fun h => Bool.noConfusion h, fun h => absurd h HW.out⟩, Below.refl _ _⟩
end Go.Proofs.Ygcfaf
