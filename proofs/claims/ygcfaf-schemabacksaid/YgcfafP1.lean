import Derived.Test.YgcfafS9
namespace Go.Proofs.Ygcfaf
open Go.RowKit
set_option linter.unusedVariables false

/-- Only block p has turned. -/
structure Only (p : Nat) (w w' : World) : Prop where
  os : w'.os = w.os
  tape : w'.tape = w.tape
  output : w'.output = w.output
  size : w'.heap.size = w.heap.size
  block : ∀ g, g ≠ p → w'.heap[g]? = w.heap[g]?

theorem Only.refl (p : Nat) (w : World) : Only p w w := ⟨rfl, rfl, rfl, rfl, fun _ _ => rfl⟩
theorem Only.trans {p : Nat} {a b c : World} (h : Only p a b) (k : Only p b c) : Only p a c :=
  ⟨k.os.trans h.os, k.tape.trans h.tape, k.output.trans h.output, k.size.trans h.size, fun g hg => (k.block g hg).trans (h.block g hg)⟩
theorem Only.setCell {p : Nat} {a w : World} (h : Only p a w) (o : Nat) (v : Value) : Only p a (w.setCell ⟨p, o, none⟩ v) :=
  h.trans ⟨rfl, rfl, rfl, by simp [World.setCell], fun g hg => Below.heap_setCell _ _ _ _ hg⟩
theorem Only.drewN {p : Nat} {a w : World} (h : Only p a w) (n : Nat) : Only p a (w.drewN n) := h.trans ⟨rfl, rfl, rfl, rfl, fun _ _ => rfl⟩

/-- The cells of the parser; X: from 'code' on. -/
def pCells (T : ByteArray) (at_ en tok : Nat) (X : List Value) : List Value := .string T :: .int .i64 at_ :: .int .i64 en :: .int .u8 tok :: X

/-- Where the token ends, off the memory. -/
def endOf (p : Nat) (w : World) : Nat := match w.cell? ⟨p, 2, none⟩ with | some v => (intOf v).toNat | none => 0

theorem endOf_blk {p : Nat} {w : World} {T : ByteArray} {a e k : Nat} {X : List Value} (h : Blk w p 223 (pCells T a e k X)) : endOf p w = e := by
  unfold endOf
  rw [h.cell]
  simp [pCells, intOf]

def signB (c : UInt8) : Bool := c == 123 || c == 125 || c == 40 || c == 41 || c == 64 || c == 58 || c == 59

/-- The token from 'at_' to 'en' of kind k. -/
def KindOf (T : ByteArray) (at_ en k : Nat) : Prop :=
  (at_ = T.size ∧ en = at_ ∧ k = 0) ∨
  (∃ h : at_ < T.size, (letB T[at_] = true ∧ k = 97 ∧ at_ < en ∧ en ≤ T.size ∧ (∀ i, at_ < i → i < en → ∀ hi : i < T.size, alnB T[i] = true) ∧ ∀ hi : en < T.size, alnB T[en] = false) ∨
    (digB T[at_] = true ∧ k = 48 ∧ at_ < en ∧ en ≤ T.size ∧ (∀ i, at_ < i → i < en → ∀ hi : i < T.size, digB T[i] = true) ∧ ∀ hi : en < T.size, digB T[en] = false) ∨
    (signB T[at_] = true ∧ k = T[at_].toNat ∧ en = at_ + 1))

theorem sign_cases {c : UInt8} (h : signB c = true) : c.toNat = 123 ∨ c.toNat = 125 ∨ c.toNat = 40 ∨ c.toNat = 41 ∨ c.toNat = 64 ∨ c.toNat = 58 ∨ c.toNat = 59 := by
  simp only [signB, Bool.or_eq_true, beq_iff_eq] at h
  rcases h with (((((rfl | rfl) | rfl) | rfl) | rfl) | rfl) | rfl <;> decide

theorem let_nat {c : UInt8} (h : letB c = true) : (65 ≤ c.toNat ∧ c.toNat ≤ 90) ∨ (97 ≤ c.toNat ∧ c.toNat ≤ 122) := by
  simpa [letB] using h
theorem dig_nat {c : UInt8} (h : digB c = true) : 48 ≤ c.toNat ∧ c.toNat ≤ 57 := by simpa [digB] using h

theorem not_blank {c : UInt8} (h : letB c = true ∨ digB c = true ∨ signB c = true) :
    ((c.toNat : Int) == 35) = false ∧ ((c.toNat : Int) != 32) = true ∧ ((c.toNat : Int) != 9) = true ∧ ((c.toNat : Int) != 10) = true ∧ ((c.toNat : Int) != 13) = true := by
  have h2 : c.toNat ≠ 35 ∧ c.toNat ≠ 32 ∧ c.toNat ≠ 9 ∧ c.toNat ≠ 10 ∧ c.toNat ≠ 13 := by
    rcases h with h | h | h
    · have := let_nat h; omega
    · have := dig_nat h; omega
    · have := sign_cases h; omega
  simp only [beq_eq_false_iff_ne, bne_iff_ne, ne_eq]
  omega

set_option maxHeartbeats 4000000 in
set_option maxRecDepth 100000 in
theorem next_any (p : Nat) (T : ByteArray) (at0 e tok0 at_ en k : Nat) (X : List Value) (w : World) (hT : T.size ≤ 100000) (hB : Blk w p 223 (pCells T at0 e tok0 X)) (he : e ≤ at_) (hat : at_ ≤ T.size)
    (hsp : ∀ i, e ≤ i → i < at_ → ∀ hi : i < T.size, T[i] = 32) (hk : KindOf T at_ en k) :
    Calls Fafg.prog 101 #[.pointer (some ⟨p, 0, none⟩)] w fun e w' => e = .returned (.tuple #[]) ∧ Blk w' p 223 (pCells T at_ en k X) ∧ Only p w w' := by
  have c0 : w.cell? ⟨p, 0, none⟩ = some (.string T) := hB.cell 0
  have c1 : w.cell? ⟨p, 1, none⟩ = some (.int .i64 at0) := hB.cell 1
  have c2 : w.cell? ⟨p, 2, none⟩ = some (.int .i64 e) := hB.cell 2
  have c3 : w.cell? ⟨p, 3, none⟩ = some (.int .u8 tok0) := hB.cell 3
  have f1 := hB.frozen 1
  have f2 := hB.frozen 2
  have f3 := hB.frozen 3
  have Hk : Hid (KindOf T at_ en k) := hk
  have Hsp : Hid (∀ i, e ≤ i → i < at_ → ∀ hi : i < T.size, T[i] = 32) := hsp
  clear hk hsp
  go_enter Fafg.func101, Fafg.ntmps101
  go_wp2
  go_loop [2, 3] (fun i cm => ∃ j : Nat, e ≤ j ∧ j ≤ at_ ∧ i = .int .i64 j ∧ cm = .bool false) (fun i _ => T.size + 1 - (intOf i).toNat)
  case atStart => exact ⟨e, by omega, by omega, rfl, rfl⟩
  case round =>
    obtain ⟨j, hj1, hj2, rfl, rfl⟩ := hrel
    by_cases hja : j < at_
    · have hjs : j < T.size := by omega
      have h32 := Hsp.out j hj1 hja hjs
      have e32 : (T[j].toNat : Int) = 32 := by rw [h32]; rfl
      clear h32
      go_wp2
      go_round
      case rel => exact ⟨j + 1, by omega, by omega, by go_num, rfl⟩
      case measure => simp [intOf]; omega
    · obtain rfl : j = at_ := by omega
      rcases Hk.out with ⟨h1, h2, h3⟩ | ⟨hje, hcase⟩
      · subst h2
        subst h3
        have hje : ¬ en < T.size := by omega
        have hjb : ((en : Int) == (T.size : Int)) = true := by simp; omega
        clear h1 Hk
        have hfin := ((hB.set 1 (.int .i64 en)).set 2 (.int .i64 en)).set 3 (.int .u8 0)
        go_wp2
        refine bodyPost_ret (results_none rfl _ _ _) rfl ⟨rfl, ?_, (((Only.refl p w).setCell 1 _).setCell 2 _).setCell 3 _⟩
        exact hfin
      · have hjb : ((j : Int) == (T.size : Int)) = false := by simp; omega
        have hb4 := (((hB.set 1 (.int .i64 j)).set 2 (.int .i64 j)).set 3 (.int .u8 0)).set 2 (.int .i64 ((j : Int) + 1))
        have ho4 := ((((Only.refl p w).setCell 1 (.int .i64 j)).setCell 2 (.int .i64 j)).setCell 3 (.int .u8 0)).setCell 2 (.int .i64 ((j : Int) + 1))
        have hnb := not_blank (c := T[j]) (by rcases hcase with h | h | h; exact .inl h.1; exact .inr (.inl h.1); exact .inr (.inr h.1))
        obtain ⟨n1, n2, n3, n4, n5⟩ := hnb
        rcases hcase with ⟨hl, hk, hlt, hle, hall, hend⟩ | ⟨hl, hk, hlt, hle, hall, hend⟩ | ⟨hl, hk, hlt⟩
        · subst hk
          have HL : Hid (letB T[j] = true) := hl
          have Hall : Hid (∀ i, j < i → i < en → ∀ hi : i < T.size, alnB T[i] = true) := hall
          have Hend : Hid (∀ hi : en < T.size, alnB T[en] = false) := hend
          clear hl hall hend Hk
          go_wp2_with (go_at_call 163; go_must (refine (isLetter_any _ _).mono ?_; rintro e w' ⟨rfl, rfl⟩; rw [HL.out]))
          have hb5 : Blk _ p 223 (pCells T j (j + 1) 97 X) := hb4.set 3 (.int .u8 97)
          have ho5 := ho4.setCell 3 (.int .u8 97)
          go_loopw [] (fun wr => ∃ i : Nat, j < i ∧ i ≤ en ∧ Blk wr p 223 (pCells T j i 97 X) ∧ Only p w wr) (fun wr => en - endOf p wr)
          case atStart => exact ⟨j + 1, by omega, by omega, hb5, ho5⟩
          case round =>
            obtain ⟨i, hi1, hi2, hbr, hor⟩ := hrel
            by_cases hin : i < en
            · have his : i < T.size := by omega
              have hal := Hall.out i hi1 hin his
              have hc0 : wr.cell? ⟨p, 0, none⟩ = some (.string T) := hbr.cell 0
              have hc2 : wr.cell? ⟨p, 2, none⟩ = some (.int .i64 i) := hbr.cell 2
              have hf2 := hbr.frozen 2
              have Hbr : Hid (Blk wr p 223 (pCells T j i 97 X)) := hbr
              clear hbr
              cases hli : letB T[i] with
              | true =>
                have HL0 : Hid (∀ wx, Calls Fafg.prog 163 #[.int .u8 T[i].toNat] wx fun e w' => e = .returned (.bool true) ∧ w' = wx) := fun wx => by have := isLetter_any T[i] wx; rw [hli] at this; exact this
                have HD0 : Hid True := trivial
                clear hal hli
                go_wp2_with fail
                go_quiet ((go_at_call 163; exact Calls.quiet_of_same (HL0.out _)))
                go_wp2
                go_roundw
                case rel =>
                  have h7 := (Hbr.out.set 2 (.int .i64 ((i + 1 : Nat) : Int)))
                  exact ⟨i + 1, by omega, by omega, h7, (hor.drewN _).setCell 2 _⟩
                case measure =>
                  have h7 : Blk (((wr.drewN nq)).setCell ⟨p, 2, none⟩ (.int .i64 ((i + 1 : Nat) : Int))) p 223 (pCells T j (i + 1) 97 X) := Hbr.out.set 2 (.int .i64 ((i + 1 : Nat) : Int))
                  rw [endOf_blk Hbr.out]
                  have h8 := endOf_blk h7
                  simp only [Int.natCast_add, Int.cast_ofNat_Int] at h8
                  rw [h8]
                  omega
              | false =>
                have hdi : digB T[i] = true := by unfold alnB at hal; rw [hli] at hal; simpa using hal
                have HL0 : Hid (∀ wx, Calls Fafg.prog 163 #[.int .u8 T[i].toNat] wx fun e w' => e = .returned (.bool false) ∧ w' = wx) := fun wx => by have := isLetter_any T[i] wx; rw [hli] at this; exact this
                have HD0 : Hid (∀ wx, Calls Fafg.prog 164 #[.int .u8 T[i].toNat] wx fun e w' => e = .returned (.bool true) ∧ w' = wx) := fun wx => by have := isDigit_any T[i] wx; rw [hdi] at this; exact this
                clear hal hli hdi
                go_wp2_with fail
                go_quiet ((first | (go_at_call 163; exact Calls.quiet_of_same (HL0.out _)) | (go_at_call 164; exact Calls.quiet_of_same (HD0.out _))))
                go_wp2
                go_roundw
                case rel =>
                  have h7 := (Hbr.out.set 2 (.int .i64 ((i + 1 : Nat) : Int)))
                  exact ⟨i + 1, by omega, by omega, h7, (hor.drewN _).setCell 2 _⟩
                case measure =>
                  have h7 : Blk (((wr.drewN nq)).setCell ⟨p, 2, none⟩ (.int .i64 ((i + 1 : Nat) : Int))) p 223 (pCells T j (i + 1) 97 X) := Hbr.out.set 2 (.int .i64 ((i + 1 : Nat) : Int))
                  rw [endOf_blk Hbr.out]
                  have h8 := endOf_blk h7
                  simp only [Int.natCast_add, Int.cast_ofNat_Int] at h8
                  rw [h8]
                  omega
            · obtain rfl : i = en := by omega
              have hc0 : wr.cell? ⟨p, 0, none⟩ = some (.string T) := hbr.cell 0
              have hc2 : wr.cell? ⟨p, 2, none⟩ = some (.int .i64 i) := hbr.cell 2
              have hf2 := hbr.frozen 2
              have Hbr : Hid (Blk wr p 223 (pCells T j i 97 X)) := hbr
              clear hbr
              by_cases his : i < T.size
              · have hal := Hend.out his
                have hli : letB T[i] = false := by unfold alnB at hal; rw [Bool.or_eq_false_iff] at hal; exact hal.1
                have hdi : digB T[i] = false := by unfold alnB at hal; rw [Bool.or_eq_false_iff] at hal; exact hal.2
                have HL0 : Hid (∀ wx, Calls Fafg.prog 163 #[.int .u8 T[i].toNat] wx fun e w' => e = .returned (.bool false) ∧ w' = wx) := fun wx => by have := isLetter_any T[i] wx; rw [hli] at this; exact this
                have HD0 : Hid (∀ wx, Calls Fafg.prog 164 #[.int .u8 T[i].toNat] wx fun e w' => e = .returned (.bool false) ∧ w' = wx) := fun wx => by have := isDigit_any T[i] wx; rw [hdi] at this; exact this
                clear hal hli hdi
                go_wp2_with fail
                go_quiet ((first | (go_at_call 163; exact Calls.quiet_of_same (HL0.out _)) | (go_at_call 164; exact Calls.quiet_of_same (HD0.out _))))
                go_wp2
                go_end0
                exact ⟨rfl, Hbr.out, hor.drewN _⟩
              · have hld : decide ((i : Int) < (T.size : Int)) = false := by simp; omega
                go_wp2_with fail
                go_quiet (fail)
                go_wp2
                go_end0
                exact ⟨rfl, Hbr.out, hor.drewN _⟩
        · subst hk
          have hll : letB T[j] = false := by
            have := dig_nat hl
            unfold letB
            simp; omega
          have HL : Hid (letB T[j] = false) := hll
          have HD : Hid (digB T[j] = true) := hl
          have Hall : Hid (∀ i, j < i → i < en → ∀ hi : i < T.size, digB T[i] = true) := hall
          have Hend : Hid (∀ hi : en < T.size, digB T[en] = false) := hend
          clear hl hall hend Hk hll
          go_wp2_with (first | (go_at_call 163; go_must (refine (isLetter_any _ _).mono ?_; rintro e w' ⟨rfl, rfl⟩; rw [HL.out])) | (go_at_call 164; go_must (refine (isDigit_any _ _).mono ?_; rintro e w' ⟨rfl, rfl⟩; rw [HD.out])))
          have hb5 : Blk _ p 223 (pCells T j (j + 1) 48 X) := hb4.set 3 (.int .u8 48)
          have ho5 := ho4.setCell 3 (.int .u8 48)
          go_loopw [] (fun wr => ∃ i : Nat, j < i ∧ i ≤ en ∧ Blk wr p 223 (pCells T j i 48 X) ∧ Only p w wr) (fun wr => en - endOf p wr)
          case atStart => exact ⟨j + 1, by omega, by omega, hb5, ho5⟩
          case round =>
            obtain ⟨i, hi1, hi2, hbr, hor⟩ := hrel
            by_cases hin : i < en
            · have his : i < T.size := by omega
              have hdi := Hall.out i hi1 hin his
              have hc0 : wr.cell? ⟨p, 0, none⟩ = some (.string T) := hbr.cell 0
              have hc2 : wr.cell? ⟨p, 2, none⟩ = some (.int .i64 i) := hbr.cell 2
              have hf2 := hbr.frozen 2
              have Hbr : Hid (Blk wr p 223 (pCells T j i 48 X)) := hbr
              clear hbr
              have HD0 : Hid (∀ wx, Calls Fafg.prog 164 #[.int .u8 T[i].toNat] wx fun e w' => e = .returned (.bool true) ∧ w' = wx) := fun wx => by have := isDigit_any T[i] wx; rw [hdi] at this; exact this
              clear hdi
              go_wp2_with fail
              go_quiet ((go_at_call 164; exact Calls.quiet_of_same (HD0.out _)))
              go_wp2
              go_roundw
              case rel =>
                have h7 := (Hbr.out.set 2 (.int .i64 ((i + 1 : Nat) : Int)))
                exact ⟨i + 1, by omega, by omega, h7, (hor.drewN _).setCell 2 _⟩
              case measure =>
                have h7 : Blk (((wr.drewN nq)).setCell ⟨p, 2, none⟩ (.int .i64 ((i + 1 : Nat) : Int))) p 223 (pCells T j (i + 1) 48 X) := Hbr.out.set 2 (.int .i64 ((i + 1 : Nat) : Int))
                rw [endOf_blk Hbr.out]
                have h8 := endOf_blk h7
                simp only [Int.natCast_add, Int.cast_ofNat_Int] at h8
                rw [h8]
                omega
            · obtain rfl : i = en := by omega
              have hc0 : wr.cell? ⟨p, 0, none⟩ = some (.string T) := hbr.cell 0
              have hc2 : wr.cell? ⟨p, 2, none⟩ = some (.int .i64 i) := hbr.cell 2
              have hf2 := hbr.frozen 2
              have Hbr : Hid (Blk wr p 223 (pCells T j i 48 X)) := hbr
              clear hbr
              by_cases his : i < T.size
              · have hdi := Hend.out his
                have HD0 : Hid (∀ wx, Calls Fafg.prog 164 #[.int .u8 T[i].toNat] wx fun e w' => e = .returned (.bool false) ∧ w' = wx) := fun wx => by have := isDigit_any T[i] wx; rw [hdi] at this; exact this
                clear hdi
                go_wp2_with fail
                go_quiet ((go_at_call 164; exact Calls.quiet_of_same (HD0.out _)))
                go_wp2
                go_end0
                exact ⟨rfl, Hbr.out, hor.drewN _⟩
              · have hld : decide ((i : Int) < (T.size : Int)) = false := by simp; omega
                go_wp2_with fail
                go_quiet (fail)
                go_wp2
                go_end0
                exact ⟨rfl, Hbr.out, hor.drewN _⟩
        · subst hk
          subst hlt
          have hsc := sign_cases hl
          have hll : letB T[j] = false := by
            unfold letB
            simp; omega
          have hdd : digB T[j] = false := by
            unfold digB
            simp; omega
          have HL : Hid (letB T[j] = false) := hll
          have HD : Hid (digB T[j] = false) := hdd
          have Hsc : Hid (T[j].toNat = 123 ∨ T[j].toNat = 125 ∨ T[j].toNat = 40 ∨ T[j].toNat = 41 ∨ T[j].toNat = 64 ∨ T[j].toNat = 58 ∨ T[j].toNat = 59) := hsc
          clear hl Hk hll hdd hsc
          have hsx : (((T[j].toNat : Int) == 123) = true) ∨ (((T[j].toNat : Int) == 123) = false ∧ ((T[j].toNat : Int) == 125) = true) ∨ (((T[j].toNat : Int) == 123) = false ∧ ((T[j].toNat : Int) == 125) = false ∧ ((T[j].toNat : Int) == 40) = true) ∨ (((T[j].toNat : Int) == 123) = false ∧ ((T[j].toNat : Int) == 125) = false ∧ ((T[j].toNat : Int) == 40) = false ∧ ((T[j].toNat : Int) == 41) = true) ∨ (((T[j].toNat : Int) == 123) = false ∧ ((T[j].toNat : Int) == 125) = false ∧ ((T[j].toNat : Int) == 40) = false ∧ ((T[j].toNat : Int) == 41) = false ∧ ((T[j].toNat : Int) == 64) = true) ∨ (((T[j].toNat : Int) == 123) = false ∧ ((T[j].toNat : Int) == 125) = false ∧ ((T[j].toNat : Int) == 40) = false ∧ ((T[j].toNat : Int) == 41) = false ∧ ((T[j].toNat : Int) == 64) = false ∧ ((T[j].toNat : Int) == 58) = true) ∨ (((T[j].toNat : Int) == 123) = false ∧ ((T[j].toNat : Int) == 125) = false ∧ ((T[j].toNat : Int) == 40) = false ∧ ((T[j].toNat : Int) == 41) = false ∧ ((T[j].toNat : Int) == 64) = false ∧ ((T[j].toNat : Int) == 58) = false ∧ ((T[j].toNat : Int) == 59) = true) := by
            have h := Hsc.out
            simp only [beq_iff_eq, beq_eq_false_iff_ne, ne_eq]
            omega
          have hb5 : Blk _ p 223 (pCells T j (j + 1) T[j].toNat X) := hb4.set 3 (.int .u8 T[j].toNat)
          have ho5 := ho4.setCell 3 (.int .u8 T[j].toNat)
          rcases hsx with q0 | ⟨q0, q1⟩ | ⟨q0, q1, q2⟩ | ⟨q0, q1, q2, q3⟩ | ⟨q0, q1, q2, q3, q4⟩ | ⟨q0, q1, q2, q3, q4, q5⟩ | ⟨q0, q1, q2, q3, q4, q5, q6⟩
          all_goals
            go_wp2_with (first | (go_at_call 163; go_must (refine (isLetter_any _ _).mono ?_; rintro e w' ⟨rfl, rfl⟩; rw [HL.out])) | (go_at_call 164; go_must (refine (isDigit_any _ _).mono ?_; rintro e w' ⟨rfl, rfl⟩; rw [HD.out])))
            go_end0
            exact ⟨rfl, hb5, ho5⟩
end Go.Proofs.Ygcfaf
