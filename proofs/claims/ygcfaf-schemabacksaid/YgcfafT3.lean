import Derived.Test.YgcfafT2
import Derived.Laws.BitsAllLaws
namespace Go.Proofs.Ygcfaf
open Go.RowKit
set_option linter.unusedVariables false

theorem mask_nat (s : Nat) (h : s ≤ 64) : (18446744073709551615 / 2 ^ (64 - s) : Nat) = 2 ^ s - 1 := by
  have e : (2 : Nat) ^ (64 - s) * 2 ^ s = 18446744073709551616 := by
    rw [← Nat.pow_add, Nat.sub_add_cancel h]
  have hp : 0 < (2 : Nat) ^ (64 - s) := Nat.pow_pos (by omega)
  have hq : 0 < (2 : Nat) ^ s := Nat.pow_pos (by omega)
  generalize (2 : Nat) ^ (64 - s) = p at *
  generalize (2 : Nat) ^ s = q at *
  rw [Nat.div_eq_iff hp]
  have e2 : (q - 1) * p = 18446744073709551616 - p := by rw [Nat.sub_mul, Nat.mul_comm q p, e]; omega
  rw [e2]
  have : p ≤ 18446744073709551616 := by rw [← e]; exact Nat.le_mul_of_pos_right p hq
  omega

theorem mask_int (s : Nat) (h : s ≤ 64) : (18446744073709551615 / 2 ^ (64 - s) : Int) = ((2 ^ s - 1 : Nat) : Int) := by
  rw [← mask_nat s h]; simp

theorem low_zero (u r s : Nat) : (u / 2 ^ r % 2 ^ s == 0) = ((List.range s).all fun i => !u.testBit (r + i)) := by
  rw [Bool.eq_iff_iff]
  simp only [beq_iff_eq, List.all_eq_true, List.mem_range, Bool.not_eq_true']
  constructor
  · intro h i hi
    have := congrArg (fun x => Nat.testBit x i) h
    simp only [Nat.testBit_mod_two_pow, Nat.zero_testBit, hi, decide_true, Bool.true_and] at this
    rw [Nat.testBit_div_two_pow] at this
    exact (Nat.add_comm i r) ▸ this
  · intro h
    refine Nat.eq_of_testBit_eq fun i => ?_
    simp only [Nat.testBit_mod_two_pow, Nat.zero_testBit]
    by_cases hi : i < s
    · have := h i hi
      rw [Nat.testBit_div_two_pow, Nat.add_comm i r, this]; simp
    · simp [hi]

theorem fit_test (u r s : Nat) (hu : u < 18446744073709551616) (h : s ≤ 64) :
    (bits .and .u64 (↑u / 2 ^ r) (18446744073709551615 / 2 ^ (64 - s)) == 0) = ((List.range s).all fun i => !u.testBit (r + i)) := by
  rw [mask_int s h, ← low_zero]
  have e1 : ((u : Int) / 2 ^ r) = ((u / 2 ^ r : Nat) : Int) := by simp
  have hq : 0 < (2 : Nat) ^ s := Nat.pow_pos (by omega)
  have hs64 : (2 : Nat) ^ s ≤ 2 ^ 64 := Nat.pow_le_pow_right (by omega) h
  rw [e1, u64_and_nat _ _ (Nat.lt_of_le_of_lt (Nat.div_le_self _ _) hu) (by omega), Nat.and_two_pow_sub_one_eq_mod]
  rw [Bool.eq_iff_iff]
  simp only [beq_iff_eq]
  omega

/-- Bit b of a row of words. -/
def bitOf (U : Nat → Nat) (b : Nat) : Bool := (U (b / 64)).testBit (b % 64)

def fitAt (f : Nat → Bool) (s n : Nat) : Int := match ffTo f s n with | some j => ((j * s : Nat) : Int) | none => 0
def fitOk (f : Nat → Bool) (s n : Nat) : Bool := match ffTo f s n with | some _ => true | none => false

theorem freeAt_word (U : Nat → Nat) (s c j q : Nat) (hs : 1 ≤ s) (hsc : s * c = 64) (hq : q * s + s ≤ 64) :
    freeAt (bitOf U) s (j * c + q) = ((List.range s).all fun i => !(U j).testBit (q * s + i)) := by
  unfold freeAt
  have e : (j * c + q) * s = 64 * j + q * s := by
    rw [Nat.add_mul, Nat.mul_assoc, Nat.mul_comm c s, hsc, Nat.mul_comm j 64]
  rw [e, Bool.eq_iff_iff]
  simp only [List.all_eq_true, List.mem_range]
  have key : ∀ i, i < s → bitOf U (64 * j + q * s + i) = (U j).testBit (q * s + i) := by
    intro i hi
    unfold bitOf
    rw [show (64 * j + q * s + i) / 64 = j by omega, show (64 * j + q * s + i) % 64 = q * s + i by omega]
  constructor
  · intro h i hi; rw [← key i hi]; exact h i hi
  · intro h i hi; rw [key i hi]; exact h i hi

theorem mul_c (s c q : Nat) (hsc : s * c = 64) (hq : q ≤ c) : q * s ≤ 64 := by
  rw [← hsc, Nat.mul_comm q s]; exact Nat.mul_le_mul_left s hq
theorem lt_c (s c q : Nat) (hsc : s * c = 64) (hs : 1 ≤ s) (hq : q * s < 64) : q < c := by
  refine Nat.lt_of_mul_lt_mul_left (a := s) ?_
  rw [hsc, Nat.mul_comm]; exact hq
theorem add_c (s c q : Nat) (hsc : s * c = 64) (hq : q < c) : q * s + s ≤ 64 := by
  have := mul_c s c (q + 1) hsc hq
  rw [Nat.succ_mul] at this; exact this

theorem ret2 {k : IntKind} {a b : Int} {p q : Bool} (h : a = b) (h2 : p = q) : Ending.returned (.tuple #[.int k a, .bool p]) = .returned (.tuple #[.int k b, .bool q]) := by rw [h, h2]

set_option maxHeartbeats 1000000 in
theorem fit_any (b : Nat) (U : Nat → Nat) (s data c : Nat) (hs : 1 ≤ s) (hs2 : s ≤ 64) (hsc : s * c = 64) (hw : data ≤ 8) (w : World) (hU : ∀ i, U i < 18446744073709551616)
    (hc : ∀ i, i < data → w.cell? ⟨b, i, none⟩ = some (.int .u64 (U i))) :
    Calls Fafg.prog 56 #[.slice (some ⟨b, 0, none⟩) data data, .int .u8 s] w fun e w' => e = .returned (.tuple #[.int .u16 (fitAt (bitOf U) s (data * c)), .bool (fitOk (bitOf U) s (data * c))]) ∧ w' = w := by
  have HS : Hid (s * c = 64) := hsc
  have HU : Hid (∀ i, U i < 18446744073709551616) := hU
  clear hsc hU
  go_enter Fafg.func56, Fafg.ntmps56
  go_wp2
  go_loop [14] (fun t => ∃ j : Nat, j ≤ data ∧ t = .int .i64 j ∧ Hid (ffTo (bitOf U) s (j * c) = none)) (fun t => data - (intOf t).toNat)
  case atStart => exact ⟨0, by omega, by simp, by simp [ffTo, Hid]⟩
  case round =>
    obtain ⟨j, hj, rfl, hno⟩ := hrel
    by_cases hlt : j < data
    · have hcc := hc j hlt
      clear hc
      go_wp2
      go_loop [8] (fun t => ∃ q r : Nat, Hid (r = q * s) ∧ q ≤ c ∧ r ≤ 64 ∧ t = .int .u16 r ∧ Hid (ffTo (bitOf U) s (j * c + q) = none)) (fun t => 64 - (intOf t).toNat)
      case atStart => exact ⟨0, 0, by simp [Hid], by omega, by omega, by simp, hno⟩
      case round =>
        obtain ⟨q, r, hr, hq, hr2, rfl, hnq⟩ := hrel
        by_cases hr64 : r < 64
        · have hqc : q < c := lt_c s c q HS.out hs (by rw [← hr.out]; exact hr64)
          have hrs : r + s ≤ 64 := by rw [hr.out]; exact add_c s c q HS.out hqc
          have ht := fit_test (U j) r s (HU.out j) hs2
          have hfr : Hid (freeAt (bitOf U) s (j * c + q) = ((List.range s).all fun i => !(U j).testBit (r + i))) := by
            show _ = _
            rw [hr.out]
            exact freeAt_word U s c j q hs HS.out (by rw [← hr.out]; exact hrs)
          generalize ((List.range s).all fun i => !(U j).testBit (r + i)) = A at *
          cases A
          · go_wp2
            go_round
            case rel => exact ⟨q + 1, r + s, by show _ = _; rw [Nat.succ_mul, hr.out], hqc, hrs, by go_num, by show ffTo _ _ (j * c + q + 1) = none; rw [ffTo_succ _ _ _ hnq.out, hfr.out]; rfl⟩
            case measure => simp [intOf]; omega
          · go_wp2
            go_ret2
            have hfin : ffTo (bitOf U) s (data * c) = some (j * c + q) := by
              refine ffTo_hit _ _ _ _ hnq.out hfr.out ?_
              have := Nat.mul_le_mul_right c (show j + 1 ≤ data from hlt)
              rw [Nat.succ_mul] at this
              omega
            refine ⟨ret2 ?_ ?_, rfl⟩
            · unfold fitAt
              rw [hfin]
              have e : (j * c + q) * s = 64 * j + q * s := by
                rw [Nat.add_mul, Nat.mul_assoc, Nat.mul_comm c s, HS.out, Nat.mul_comm j 64]
              dsimp only
              rw [e, ← hr.out]
              omega
            · unfold fitOk; rw [hfin]
        · have hr64' : r = 64 := by omega
          have hqc : q = c := by
            have h1 := HS.out
            have h2 := hr.out
            refine Nat.le_antisymm hq ?_
            refine Nat.le_of_mul_le_mul_left (c := s) ?_ (by omega)
            rw [h1, Nat.mul_comm s q]; omega
          go_wp2
          go_round
          case rel => exact ⟨j + 1, by omega, by go_num, by show ffTo _ _ ((j + 1) * c) = none; rw [Nat.succ_mul, ← hqc]; exact hqc ▸ hnq⟩
          case measure => simp [intOf]; omega
    · have hjd : j = data := by omega
      subst hjd
      go_wp2
      go_ret2
      refine ⟨ret2 ?_ ?_, rfl⟩
      · unfold fitAt; rw [hno.out]
      · unfold fitOk; rw [hno.out]
end Go.Proofs.Ygcfaf
