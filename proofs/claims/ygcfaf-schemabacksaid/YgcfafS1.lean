import Derived.Test.YgcfafT6
import Derived.Lib.Strings
namespace Go.Proofs.Ygcfaf
open Go.RowKit
set_option linter.unusedVariables false

def letB (c : UInt8) : Bool := (decide (65 ≤ c.toNat) && decide (c.toNat ≤ 90)) || (decide (97 ≤ c.toNat) && decide (c.toNat ≤ 122))
def digB (c : UInt8) : Bool := decide (48 ≤ c.toNat) && decide (c.toNat ≤ 57)
def alnB (c : UInt8) : Bool := letB c || digB c

theorem ret_bool {a b : Bool} (h : a = b) : Ending.returned (.bool a) = .returned (.bool b) := by rw [h]

set_option maxHeartbeats 400000 in
theorem isLetter_any (c : UInt8) (w : World) :
    Calls Fafg.prog 163 #[.int .u8 c.toNat] w fun e w' => e = .returned (.bool (letB c)) ∧ w' = w := by
  go_enter Fafg.func163, Fafg.ntmps163
  go_wp2
  all_goals
    go_ret
    refine ⟨ret_bool ?_, rfl⟩
    unfold letB
    rw [Bool.eq_iff_iff]
    simp
    omega

set_option maxHeartbeats 400000 in
theorem isDigit_any (c : UInt8) (w : World) :
    Calls Fafg.prog 164 #[.int .u8 c.toNat] w fun e w' => e = .returned (.bool (digB c)) ∧ w' = w := by
  go_enter Fafg.func164, Fafg.ntmps164
  go_wp2
  all_goals
    go_ret
    refine ⟨ret_bool ?_, rfl⟩
    unfold digB
    rw [Bool.eq_iff_iff]
    simp
    omega

def capL : List UInt8 → Bool
  | [] => false
  | c :: _ => decide (65 ≤ c.toNat) && decide (c.toNat ≤ 90)

theorem capL_get (s : ByteArray) (h : 0 < s.size) : capL s.data.toList = (decide (65 ≤ s[0].toNat) && decide (s[0].toNat ≤ 90)) := by
  have h2 : 0 < s.data.toList.length := by simpa using h
  cases hl : s.data.toList with
  | nil => rw [hl] at h2; simp at h2
  | cons c r =>
    have : s[0] = c := by
      have e : s[0] = s.data.toList[0] := rfl
      rw [e]; simp [hl]
    rw [this]; rfl

set_option maxHeartbeats 400000 in
theorem isCapital_any (s : ByteArray) (w : World) :
    Calls Fafg.prog 160 #[.string s] w fun e w' => e = .returned (.bool (capL s.data.toList)) ∧ w' = w := by
  by_cases h0 : s.toList = []
  · have hc : capL s.data.toList = false := by rw [← Lib.toList_data, h0]; rfl
    rw [hc]
    go_enter Fafg.func160, Fafg.ntmps160
    go_wp2
    all_goals
      go_ret
      exact ⟨rfl, rfl⟩
  · have hs : 0 < s.size := by
      rw [Lib.size_eq, ← Lib.toList_data]
      exact List.length_pos_iff.2 h0
    have hc := capL_get s hs
    have HC : Hid (capL s.data.toList = (decide (65 ≤ s[0].toNat) && decide (s[0].toNat ≤ 90))) := hc
    clear hc
    have he : s.toList.isEmpty = false := by simpa using h0
    go_enter Fafg.func160, Fafg.ntmps160
    go_wp2
    all_goals
      go_ret
      refine ⟨ret_bool ?_, rfl⟩
      rw [HC.out, Bool.eq_iff_iff]
      simp
      omega

def nameL : List UInt8 → Bool
  | [] => false
  | c :: r => decide (r.length ≤ 7) && letB c && r.all alnB

theorem toList_ne {s : ByteArray} (h : 0 < s.size) : s.toList.isEmpty = false := by
  rw [Lib.size_eq, ← Lib.toList_data] at h
  cases hl : s.toList with
  | nil => rw [hl] at h; simp at h
  | cons => rfl

theorem get_data (s : ByteArray) (k : Nat) (h : k < s.size) : s.data.toList[k]? = some s[k] := by
  have : s[k] = s.data.toList[k]'(by rw [← Lib.size_eq]; exact h) := rfl
  rw [this]; simp [h]

theorem cons_data (s : ByteArray) (h : 0 < s.size) : ∃ r, s.data.toList = s[0] :: r ∧ r.length + 1 = s.size := by
  have h0 := get_data s 0 h
  cases hl : s.data.toList with
  | nil => rw [hl] at h0; simp at h0
  | cons c r =>
    rw [hl] at h0
    simp at h0
    have := Lib.size_eq s
    rw [hl] at this
    exact ⟨r, by rw [h0], by simpa using this.symm⟩

/-- The bytes from the second on, up to k, are letters and digits. -/
def tailOk (s : ByteArray) (k : Nat) : Prop := ∀ j, 1 ≤ j → j < k → ∀ h : j < s.size, alnB s[j] = true

theorem nameL_of {s : ByteArray} (h : 0 < s.size) : nameL s.data.toList = true ↔ s.size ≤ 8 ∧ letB s[0] = true ∧ tailOk s s.size := by
  obtain ⟨r, hr, hlen⟩ := cons_data s h
  rw [hr]
  simp only [nameL, Bool.and_eq_true, decide_eq_true_eq, List.all_eq_true]
  constructor
  · rintro ⟨⟨h1, h2⟩, h3⟩
    refine ⟨by omega, h2, fun j hj _ hjs => ?_⟩
    obtain ⟨i, rfl⟩ : ∃ i, j = i + 1 := ⟨j - 1, by omega⟩
    have := get_data s (i + 1) hjs
    rw [hr] at this
    simp only [List.getElem?_cons_succ] at this
    exact h3 _ (List.mem_of_getElem? this)
  · rintro ⟨h1, h2, h3⟩
    refine ⟨⟨by omega, h2⟩, fun x hx => ?_⟩
    obtain ⟨i, hi, rfl⟩ := List.getElem_of_mem hx
    have h4 := h3 (i + 1) (by omega) (by omega) (by omega)
    have := get_data s (i + 1) (by omega)
    rw [hr] at this
    simp only [List.getElem?_cons_succ, List.getElem?_eq_getElem hi, Option.some.injEq] at this
    rw [this]; exact h4

set_option maxHeartbeats 1000000 in
theorem isName_any (s : ByteArray) (w : World) :
    Calls Fafg.prog 159 #[.string s] w fun e w' => e = .returned (.bool (nameL s.data.toList)) ∧ w' = w := by
  by_cases hs : 0 < s.size
  · have he := toList_ne hs
    by_cases h8 : s.size ≤ 8
    · have h8b : decide ((8 : Int) < (s.size : Int)) = false := by simp; omega
      cases hl : letB s[0] with
      | false =>
        have hn : nameL s.data.toList = false := by
          rw [Bool.eq_false_iff]; intro h
          have := (nameL_of hs).1 h
          rw [hl] at this; simp at this
        rw [hn]
        have HL : Hid (letB s[0] = false) := hl
        clear hl hn
        go_enter Fafg.func159, Fafg.ntmps159
        go_wp2_with (go_at_call 163; go_must (refine (isLetter_any _ _).mono ?_; rintro e w' ⟨rfl, rfl⟩; rw [HL.out]))
        go_ret
        exact ⟨rfl, rfl⟩
      | true =>
        have HL : Hid (letB s[0] = true) := hl
        clear hl
        go_enter Fafg.func159, Fafg.ntmps159
        go_wp2_with (go_at_call 163; go_must (refine (isLetter_any _ _).mono ?_; rintro e w' ⟨rfl, rfl⟩; rw [HL.out]))
        go_loop [3] (fun i => ∃ k : Nat, 1 ≤ k ∧ k ≤ s.size ∧ i = .int .i64 k ∧ Hid (tailOk s k)) (fun i => s.size - (intOf i).toNat)
        case atStart => exact ⟨1, by omega, by omega, rfl, fun j h1 h2 => by omega⟩
        case round =>
          obtain ⟨k, hk1, hk2, rfl, hto⟩ := hrel
          by_cases hlt : k < s.size
          · cases hl : letB s[k] with
            | true =>
              have HLk : Hid (letB s[k] = true) := hl
              clear hl
              go_wp2_with (go_at_call 163; go_must (refine (isLetter_any _ _).mono ?_; rintro e w' ⟨rfl, rfl⟩; rw [HLk.out]))
              go_round
              case rel =>
                refine ⟨k + 1, by omega, by omega, by go_num, fun j h1 h2 h3 => ?_⟩
                by_cases hjk : j < k
                · exact hto.out j h1 hjk h3
                · obtain rfl : j = k := by omega
                  unfold alnB; rw [HLk.out]; rfl
              case measure => simp [intOf]; omega
            | false =>
              have HLk : Hid (letB s[k] = false) := hl
              clear hl
              cases hd : digB s[k] with
              | true =>
                have HDk : Hid (digB s[k] = true) := hd
                clear hd
                go_wp2_with (first | (go_at_call 163; go_must (refine (isLetter_any _ _).mono ?_; rintro e w' ⟨rfl, rfl⟩; rw [HLk.out])) | (go_at_call 164; go_must (refine (isDigit_any _ _).mono ?_; rintro e w' ⟨rfl, rfl⟩; rw [HDk.out])))
                go_round
                case rel =>
                  refine ⟨k + 1, by omega, by omega, by go_num, fun j h1 h2 h3 => ?_⟩
                  by_cases hjk : j < k
                  · exact hto.out j h1 hjk h3
                  · obtain rfl : j = k := by omega
                    unfold alnB; rw [HDk.out]; simp
                case measure => simp [intOf]; omega
              | false =>
                have HDk : Hid (digB s[k] = false) := hd
                clear hd
                have hn : Hid (nameL s.data.toList = false) := by
                  show _ = _
                  rw [Bool.eq_false_iff]; intro h
                  have := ((nameL_of hs).1 h).2.2 k hk1 hlt hlt
                  unfold alnB at this
                  rw [HLk.out, HDk.out] at this; simp at this
                go_wp2_with (first | (go_at_call 163; go_must (refine (isLetter_any _ _).mono ?_; rintro e w' ⟨rfl, rfl⟩; rw [HLk.out])) | (go_at_call 164; go_must (refine (isDigit_any _ _).mono ?_; rintro e w' ⟨rfl, rfl⟩; rw [HDk.out])))
                go_ret
                exact ⟨ret_bool hn.out.symm, rfl⟩
          · have hke : k = s.size := by omega
            have hn : Hid (nameL s.data.toList = true) := (nameL_of hs).2 ⟨h8, HL.out, by rw [← hke]; exact hto⟩
            go_wp2
            go_ret
            exact ⟨ret_bool hn.out.symm, rfl⟩
    · have h8b : decide ((8 : Int) < (s.size : Int)) = true := by simp; omega
      have hn : nameL s.data.toList = false := by
        rw [Bool.eq_false_iff]; intro h
        have := (nameL_of hs).1 h
        omega
      rw [hn]
      clear hn
      go_enter Fafg.func159, Fafg.ntmps159
      go_wp2
      go_ret
      exact ⟨rfl, rfl⟩
  · have he : s.toList.isEmpty = true := by
      rw [List.isEmpty_iff, Lib.toList_data]
      exact List.eq_nil_of_length_eq_zero (by rw [← Lib.size_eq]; omega)
    have hn : nameL s.data.toList = false := by
      rw [← Lib.toList_data, List.isEmpty_iff.1 he]; rfl
    rw [hn]
    clear hn
    go_enter Fafg.func159, Fafg.ntmps159
    go_wp2
    go_ret
    exact ⟨rfl, rfl⟩
end Go.Proofs.Ygcfaf
