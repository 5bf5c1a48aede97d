import Derived.Test.YgcfafT1
namespace Go.Proofs.Ygcfaf
open Go.RowKit
set_option linter.unusedVariables false

def ffInt (f : Nat → Bool) (s n : Nat) : Int := match ffTo f s n with | some j => ((j * s : Nat) : Int) | none => -1

def allFree (f : Nat → Bool) (p n : Nat) : Bool := (List.range n).all fun r => !f (p + r)
theorem allFree_snoc (f : Nat → Bool) (p r : Nat) : allFree f p (r + 1) = (allFree f p r && !f (p + r)) := freeAt_snoc f p r
theorem allFree_zero (f : Nat → Bool) (p : Nat) : allFree f p 0 = true := rfl
theorem freeAt_eq (f : Nat → Bool) (s j : Nat) : freeAt f s j = allFree f (j * s) s := rfl

theorem step_le (s j n : Nat) (hs : 1 ≤ s) (h : j * s + s ≤ s * n) : j + 1 ≤ n := by
  have h1 : s * (j + 1) ≤ s * n := by rw [Nat.mul_add, Nat.mul_comm s j]; omega
  exact Nat.le_of_mul_le_mul_left h1 (by omega)
theorem step_ge (s j n : Nat) (h : ¬ j * s + s ≤ s * n) : n ≤ j := by
  by_cases hj : n ≤ j
  · exact hj
  · exfalso
    have h1 : s * (j + 1) ≤ s * n := Nat.mul_le_mul_left s (by omega)
    rw [Nat.mul_add, Nat.mul_comm s j] at h1
    omega

set_option maxHeartbeats 1000000 in
theorem firstFit_any (p : Nat) (f : Nat → Bool) (words s n : Nat) (hs : 1 ≤ s) (hs2 : s ≤ 64) (hn : s * n = 64 * words) (hw : words ≤ 8) (w : World)
    (hc : ∀ b, b < 576 → w.cell? ⟨p, b, none⟩ = some (.bool (f b))) :
    Calls Fafg.prog 29 #[.pointer (some ⟨p, 0, none⟩), .int .i64 words, .int .i64 s] w fun e w' => e = .returned (.int .i64 (ffInt f s n)) ∧ w' = w := by
  have HN : Hid (s * n = 64 * words) := hn
  have hn' : s * n ≤ 64 * words := by omega
  clear hn
  have hR : ∀ j : Nat, j ≤ n → j * s ≤ 64 * words := by
    intro j hj
    have := Nat.mul_le_mul_left s hj
    rw [Nat.mul_comm j s]; omega
  go_enter Fafg.func29, Fafg.ntmps29
  go_wp2
  go_loop [7] (fun t => ∃ j : Nat, j ≤ n ∧ t = .int .i64 ((j * s : Nat) : Int) ∧ ffTo f s j = none) (fun t => 64 * words - (intOf t).toNat)
  case atStart => exact ⟨0, by omega, by simp, rfl⟩
  case round =>
    obtain ⟨j, hj, rfl, hnone⟩ := hrel
    have hjb := hR j hj
    clear hR
    generalize hat : j * s = at_ at *
    by_cases hlt : at_ + s ≤ 64 * words
    · go_wp2
      go_loop [8, 9] (fun t b => ∃ r : Nat, r ≤ s ∧ b = .int .i64 ((at_ + r : Nat) : Int) ∧ t = .bool (allFree f at_ r)) (fun _ b => at_ + s - (intOf b).toNat)
      case atStart => exact ⟨0, by omega, by simp, rfl⟩
      case round =>
        obtain ⟨r, hr, rfl, rfl⟩ := hrel
        by_cases hr2 : r < s
        · have hcell : w.cell? ⟨p, at_ + r, none⟩ = some (.bool (f (at_ + r))) := hc _ (by omega)
          have hsn := allFree_snoc f at_ r
          have HS : Hid (allFree f at_ (r + 1) = (allFree f at_ r && !f (at_ + r))) := hsn
          clear hsn
          generalize allFree f at_ r = A at *
          generalize f (at_ + r) = B at *
          cases A
          all_goals
            go_wp2
            go_round
            case rel => exact ⟨r + 1, by omega, by go_num, by rw [HS.out]; rfl⟩
            case measure => simp [intOf]; omega
        · have hrs : r = s := by omega
          subst hrs
          have hfe : Hid (freeAt f r j = allFree f at_ r) := by show freeAt f r j = _; rw [← hat]; rfl
          have hat' : Hid (j * r = at_) := hat
          have hno : Hid (ffTo f r j = none) := hnone
          clear hat hnone
          generalize hA : allFree f at_ r = A at *
          clear hA
          cases A
          · go_wp2
            go_round
            case rel =>
              refine ⟨j + 1, ?_, ?_, ?_⟩
              · have h1 := HN.out
                have h2 := hat'.out
                exact step_le r j n hs (by omega)
              · rw [Nat.succ_mul, hat'.out]; go_num
              · rw [ffTo_succ _ _ _ hno.out, hfe.out]; rfl
            case measure => simp [intOf]; omega
          · go_wp2
            go_ret
            refine ⟨ret_int ?_, rfl⟩
            unfold ffInt
            rw [ffTo_hit f r j n hno.out hfe.out ?_]
            · simp [hat'.out]
            · have h1 := HN.out
              have h2 := hat'.out
              exact step_le r j n hs (by omega)
    · go_wp2
      go_ret
      refine ⟨ret_int ?_, rfl⟩
      have h1 := HN.out
      have hjn : j = n := by
        have := step_ge s j n (by omega)
        omega
      subst hjn
      unfold ffInt
      rw [hnone]
end Go.Proofs.Ygcfaf
