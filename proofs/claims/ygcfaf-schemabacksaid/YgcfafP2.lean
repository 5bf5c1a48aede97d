import Derived.Test.YgcfafP1
namespace Go.Proofs.Ygcfaf
open Go.RowKit
set_option linter.unusedVariables false

/-- The token that follows place e. -/
structure TokAt (T : ByteArray) (e at_ en k : Nat) : Prop where
  le : e ≤ at_
  sz : at_ ≤ T.size
  sp : ∀ i, e ≤ i → i < at_ → ∀ hi : i < T.size, T[i] = 32
  kind : KindOf T at_ en k

theorem next_tok {p : Nat} {T : ByteArray} {at0 e tok0 at_ en k : Nat} {X : List Value} {w : World} (hT : T.size ≤ 100000) (hB : Blk w p 223 (pCells T at0 e tok0 X)) (h : TokAt T e at_ en k) :
    Calls Fafg.prog 101 #[.pointer (some ⟨p, 0, none⟩)] w fun e w' => e = .returned (.tuple #[]) ∧ Blk w' p 223 (pCells T at_ en k X) ∧ Only p w w' :=
  next_any p T at0 e tok0 at_ en k X w hT hB h.le h.sz h.sp h.kind

set_option maxHeartbeats 1000000 in
theorem word_any (p : Nat) (T : ByteArray) (at_ en tok : Nat) (X : List Value) (w : World) (hT : T.size ≤ 100000) (hB : Blk w p 223 (pCells T at_ en tok X)) (h1 : at_ ≤ en) (h2 : en ≤ T.size) :
    Calls Fafg.prog 102 #[.pointer (some ⟨p, 0, none⟩)] w fun e w' => e = .returned (.string (T.extract at_ en)) ∧ ∃ n, w' = w.drewN n := by
  have c0 : w.cell? ⟨p, 0, none⟩ = some (.string T) := hB.cell 0
  have c1 : w.cell? ⟨p, 1, none⟩ = some (.int .i64 at_) := hB.cell 1
  have c2 : w.cell? ⟨p, 2, none⟩ = some (.int .i64 en) := hB.cell 2
  go_enter Fafg.func102, Fafg.ntmps102
  go_wp2
  go_quiet (fail)
  go_wp2
  go_ret
  exact ⟨rfl, _, rfl⟩

set_option maxHeartbeats 1000000 in
theorem expect_any (p : Nat) (T : ByteArray) (at0 e tok at_ en k : Nat) (X : List Value) (w : World) (hT : T.size ≤ 100000) (hB : Blk w p 223 (pCells T at0 e tok X)) (h : TokAt T e at_ en k) :
    Calls Fafg.prog 166 #[.pointer (some ⟨p, 0, none⟩), .int .u8 tok] w fun e w' => e = .returned (.bool true) ∧ Blk w' p 223 (pCells T at_ en k X) ∧ Only p w w' := by
  have c3 : w.cell? ⟨p, 3, none⟩ = some (.int .u8 tok) := hB.cell 3
  have HN : Hid (Calls Fafg.prog 101 #[.pointer (some ⟨p, 0, none⟩)] w fun e w' => e = .returned (.tuple #[]) ∧ Blk w' p 223 (pCells T at_ en k X) ∧ Only p w w') := next_tok hT hB h
  go_enter Fafg.func166, Fafg.ntmps166
  go_wp2_with (go_at_call 101; go_must (refine HN.out.mono ?_; rintro e w' ⟨rfl, hb', ho'⟩))
  go_ret
  exact ⟨rfl, hb', ho'⟩

set_option maxHeartbeats 2000000 in
theorem name_any (p : Nat) (T : ByteArray) (at0 e at_ en k : Nat) (cap : Bool) (X : List Value) (w : World) (hT : T.size ≤ 100000) (hB : Blk w p 223 (pCells T at0 e 97 X)) (h : TokAt T e at_ en k) (h1 : at0 ≤ e) (h2 : e ≤ T.size)
    (hcap : cap = true → capL (T.extract at0 e).data.toList = true) (h8 : (T.extract at0 e).size ≤ 8) :
    Calls Fafg.prog 167 #[.pointer (some ⟨p, 0, none⟩), .bool cap] w fun r w' => r = .returned (.tuple #[.string (T.extract at0 e), .int .i64 at0, .bool true]) ∧ Blk w' p 223 (pCells T at_ en k X) ∧ Only p w w' := by
  have c1 : w.cell? ⟨p, 1, none⟩ = some (.int .i64 at0) := hB.cell 1
  have c3 : w.cell? ⟨p, 3, none⟩ = some (.int .u8 97) := hB.cell 3
  have HW : Hid (∀ n, Calls Fafg.prog 102 #[.pointer (some ⟨p, 0, none⟩)] (w.drewN n) fun e' w' => e' = .returned (.string (T.extract at0 e)) ∧ ∃ m, w' = (w.drewN n).drewN m) := fun n => word_any p T at0 e 97 X (w.drewN n) hT hB h1 h2
  have HX : Hid (∀ n, Calls Fafg.prog 166 #[.pointer (some ⟨p, 0, none⟩), .int .u8 97] (w.drewN n) fun e w' => e = .returned (.bool true) ∧ Blk w' p 223 (pCells T at_ en k X) ∧ Only p (w.drewN n) w') := fun n => expect_any p T at0 e 97 at_ en k X (w.drewN n) hT hB h
  generalize T.extract at0 e = s at *
  cases cap with
  | false =>
    go_enter Fafg.func167, Fafg.ntmps167
    go_wp2
    go_quiet ((go_at_call 102; exact Calls.quiet_of (HW.out _)))
    go_wp2_with (go_at_call 166; go_must (refine (HX.out _).mono ?_; rintro e w' ⟨rfl, hb', ho'⟩))
    go_ret3
    exact ⟨rfl, hb', ⟨ho'.os, ho'.tape, ho'.output, ho'.size, ho'.block⟩⟩
  | true =>
    have HC : Hid (capL s.data.toList = true) := hcap rfl
    clear hcap
    go_enter Fafg.func167, Fafg.ntmps167
    go_wp2
    go_quiet ((go_at_call 102; exact Calls.quiet_of (HW.out _)))
    go_wp2_with (first | (go_at_call 160; go_must (refine (isCapital_any _ _).mono ?_; rintro e w' ⟨rfl, rfl⟩; rw [HC.out])) | (go_at_call 166; go_must (refine (HX.out _).mono ?_; rintro e w' ⟨rfl, hb', ho'⟩)))
    go_ret3
    exact ⟨rfl, hb', ⟨ho'.os, ho'.tape, ho'.output, ho'.size, ho'.block⟩⟩

/-- The number that j digits from 'at_' on say, cut at 16. -/
def numTo (T : ByteArray) (at_ : Nat) : Nat → Int
  | 0 => 0
  | j + 1 => if 16 < numTo T at_ j * 10 + ((if h : at_ + j < T.size then (T[at_ + j].toNat : Int) else 48) - 48) then 16 else numTo T at_ j * 10 + ((if h : at_ + j < T.size then (T[at_ + j].toNat : Int) else 48) - 48)

theorem numTo_bd (T : ByteArray) (at_ : Nat) (h : ∀ j, ∀ hj : at_ + j < T.size, 0 ≤ (T[at_ + j].toNat : Int)) : ∀ j, numTo T at_ j ≤ 16
  | 0 => by simp [numTo]
  | j + 1 => by
    simp only [numTo]
    split <;> omega

set_option maxHeartbeats 2000000 in
theorem value_any (p : Nat) (T : ByteArray) (at_ en tok : Nat) (X : List Value) (w : World) (hT : T.size ≤ 100000) (hB : Blk w p 223 (pCells T at_ en tok X)) (h1 : at_ ≤ en) (h2 : en ≤ T.size)
    (hd : ∀ i, at_ ≤ i → i < en → ∀ hi : i < T.size, digB T[i] = true) :
    Calls Fafg.prog 198 #[.pointer (some ⟨p, 0, none⟩)] w fun e w' => e = .returned (.int .i64 (numTo T at_ (en - at_))) ∧ w' = w := by
  have c0 : w.cell? ⟨p, 0, none⟩ = some (.string T) := hB.cell 0
  have c1 : w.cell? ⟨p, 1, none⟩ = some (.int .i64 at_) := hB.cell 1
  have c2 : w.cell? ⟨p, 2, none⟩ = some (.int .i64 en) := hB.cell 2
  have Hd : Hid (∀ i, at_ ≤ i → i < en → ∀ hi : i < T.size, digB T[i] = true) := hd
  clear hd
  go_enter Fafg.func198, Fafg.ntmps198
  go_wp2
  go_loop [3, 4] (fun n i => ∃ j : Nat, at_ + j ≤ en ∧ i = .int .i64 ((at_ + j : Nat) : Int) ∧ n = .int .i64 (numTo T at_ j) ∧ 0 ≤ numTo T at_ j ∧ numTo T at_ j ≤ 16) (fun _ i => en + 1 - (intOf i).toNat)
  case atStart => exact ⟨0, by omega, by go_num, rfl, by simp [numTo], by simp [numTo]⟩
  case round =>
    obtain ⟨j, hj, rfl, rfl, hn0, hn1⟩ := hrel
    by_cases hlt : at_ + j < en
    · have hjs : at_ + j < T.size := by omega
      have hdd := dig_nat (Hd.out (at_ + j) (by omega) hlt hjs)
      obtain ⟨hd0, hd1⟩ := hdd
      have HNs : Hid (numTo T at_ (j + 1) = if 16 < numTo T at_ j * 10 + ((T[at_ + j].toNat : Int) - 48) then 16 else numTo T at_ j * 10 + ((T[at_ + j].toNat : Int) - 48)) := by
        show _ = _
        simp only [numTo]
        rw [dif_pos hjs]
      generalize hNN : numTo T at_ j = N at *
      have HNN : Hid (numTo T at_ j = N) := hNN
      clear hNN
      go_wp2
      all_goals
        go_round
        case rel => exact ⟨j + 1, by omega, by go_num, by first | (rw [HNs.out]; done) | (rw [HNs.out, if_pos (by omega)]; done) | (rw [HNs.out, if_neg (by omega)]; done), by rw [HNs.out]; split <;> omega, by rw [HNs.out]; split <;> omega⟩
        case measure => simp [intOf]; omega
    · have hje : j = en - at_ := by omega
      go_wp2
      go_ret
      exact ⟨rfl, rfl⟩
end Go.Proofs.Ygcfaf
