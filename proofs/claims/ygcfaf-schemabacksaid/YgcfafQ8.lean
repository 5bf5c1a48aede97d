import Derived.Test.YgcfafQ7
namespace Go.Proofs.Ygcfaf
open Go.RowKit
set_option linter.unusedVariables false

set_option maxHeartbeats 2000000 in
theorem parse_any (w : World) (T : ByteArray) (ss : List Str) (hT : T.size ≤ 1024) (hs : ShapedP ss) (hx : TextP T ss) (hwf : ∀ s ∈ ss, StrWf s) :
    Calls Fafg.prog 31 #[.string T] w (fun e w' => e = .returned (.tuple #[.pointer (some ⟨w.heap.size, 6, none⟩), .int .u8 0]) ∧ ∃ Sv S γ, Parsed w w' w.heap.size T ss Sv S γ) := by
  have HP := parseAt_any w T ss hT hs hx hwf
  go_enter Fafg.func31, Fafg.ntmps31
  go_wp2_with fail
  refine HP.mono ?_
  rintro e w1 ⟨Sv, S, γ, rfl, hpar⟩
  clear HP
  go_wp2
  go_ret2
  exact ⟨rfl, Sv, S, γ, hpar⟩

set_option maxHeartbeats 2000000 in
/-- SchemaBack answers true at every schema. -/
theorem schemaBack_any (w : World) (ss : List Str) (a : Option Addr) (cap : Nat) (hI : In (w.alloc (.cells #[.slice a ss.length cap] 93)) (w.heap.size + 1) w.heap.size ss a cap) :
    Calls Fafg.prog 13 #[.agg #[.slice a ss.length cap]] w (fun e w' => e = .returned (.bool true) ∧ Below w.heap.size w w') := by
  have hb0 : Below w.heap.size w (w.alloc (.cells #[.slice a ss.length cap] 93)) := (Below.refl _ _).alloc (Nat.le_refl _) _
  have HC := check_any _ _ _ _ _ _ hI
  go_enter Fafg.func13, Fafg.ntmps13
  go_wp2_with fail
  refine HC.mono ?_
  rintro e w1 ⟨r, rfl, hr, hb1⟩
  clear HC
  have hI1 := hI.below hb1
  have hz0 : w.heap.size ≤ (w.alloc (.cells #[.slice a ss.length cap] 93)).heap.size := hb0.size
  have hB1 : Below w.heap.size w w1 := hb0.trans (hb1.mono hz0)
  have Hr : Hid (r = true ↔ (ShapedP ss ∧ (printText ss).length ≤ 1024)) := hr
  clear hr hb1 hI hb0 hz0
  cases r with
  | false =>
    go_wp2
    go_ret
    exact ⟨rfl, hB1⟩
  | true =>
    obtain ⟨hs, hl⟩ := Hr.out.1 rfl
    have HPr := print_any w1 _ _ _ _ _ hI1
    have Hs : Hid (ShapedP ss) := hs
    clear hs Hr
    go_wp2_with fail
    refine HPr.mono ?_
    rintro e w2 ⟨T, rfl, hb2, hT⟩
    clear HPr
    have hI2 := hI1.below hb2
    have hB2 : Below w.heap.size w w2 := hB1.trans (hb2.mono hB1.size)
    obtain rfl : T = ⟨(printText ss).toArray⟩ := by
      rcases hT with ⟨h, _⟩ | ⟨_, h⟩
      · exact absurd Hs.out h
      · exact h
    clear hT hb2 hI1 hB1
    have HPa := parse_any w2 ⟨(printText ss).toArray⟩ ss (by simpa [ByteArray.size] using hl) Hs.out (text_p Hs.out (by simp)) hI2.wf
    generalize (⟨(printText ss).toArray⟩ : ByteArray) = T at *
    go_wp2_with fail
    refine HPa.mono ?_
    rintro e w3 ⟨rfl, Sv, S, γ, hpar⟩
    clear HPa
    have hI3 := hI2.below hpar.below
    have hB3 : Below w.heap.size w w3 := hB2.trans (hpar.below.mono hB2.size)
    have HSm := same_any w2 w3 _ _ _ _ T ss a Sv S γ hI3 hpar Hs.out.len (fun t ht => by obtain ⟨k, hk⟩ := List.getElem?_of_mem ht; exact (Hs.out.whole k t hk).len)
    clear hpar hI2 hB2 hI3
    go_wp2_with fail
    refine HSm.mono ?_
    rintro e w4 ⟨rfl, d, rfl⟩
    clear HSm
    go_wp2
    go_ret
    exact ⟨rfl, below_drewN hB3 d⟩
end Go.Proofs.Ygcfaf
