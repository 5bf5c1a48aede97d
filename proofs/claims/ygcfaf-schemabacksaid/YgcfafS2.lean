import Derived.Test.YgcfafS1
namespace Go.Proofs.Ygcfaf
open Go.RowKit
set_option linter.unusedVariables false

def typeNames : List (List UInt8) := [[66, 111, 111, 108],
  [73, 110, 116, 56],
  [73, 110, 116, 49, 54],
  [73, 110, 116, 51, 50],
  [73, 110, 116, 54, 52],
  [85, 73, 110, 116, 56],
  [85, 73, 110, 116, 49, 54],
  [85, 73, 110, 116, 51, 50],
  [85, 73, 110, 116, 54, 52],
  [70, 108, 111, 97, 116, 51, 50],
  [70, 108, 111, 97, 116, 54, 52],
  [84, 101, 120, 116]]
def tnL (k : Nat) : List UInt8 := typeNames.getD k []
def tnB (k : Nat) : ByteArray := ⟨(tnL k).toArray⟩
def tnTab : Value := .agg #[.string ⟨#[66, 111, 111, 108]⟩, .string ⟨#[73, 110, 116, 56]⟩, .string ⟨#[73, 110, 116, 49, 54]⟩, .string ⟨#[73, 110, 116, 51, 50]⟩, .string ⟨#[73, 110, 116, 54, 52]⟩, .string ⟨#[85, 73, 110, 116, 56]⟩, .string ⟨#[85, 73, 110, 116, 49, 54]⟩, .string ⟨#[85, 73, 110, 116, 51, 50]⟩, .string ⟨#[85, 73, 110, 116, 54, 52]⟩, .string ⟨#[70, 108, 111, 97, 116, 51, 50]⟩, .string ⟨#[70, 108, 111, 97, 116, 54, 52]⟩, .string ⟨#[84, 101, 120, 116]⟩]

theorem tnIx0 (w : World) : (Instr.index 296 tnTab (.int .u8 0)).run Fafg.prog w = .ok (.string (tnB 0)) w := by kernel_rfl
theorem tnIx1 (w : World) : (Instr.index 296 tnTab (.int .u8 1)).run Fafg.prog w = .ok (.string (tnB 1)) w := by kernel_rfl
theorem tnIx2 (w : World) : (Instr.index 296 tnTab (.int .u8 2)).run Fafg.prog w = .ok (.string (tnB 2)) w := by kernel_rfl
theorem tnIx3 (w : World) : (Instr.index 296 tnTab (.int .u8 3)).run Fafg.prog w = .ok (.string (tnB 3)) w := by kernel_rfl
theorem tnIx4 (w : World) : (Instr.index 296 tnTab (.int .u8 4)).run Fafg.prog w = .ok (.string (tnB 4)) w := by kernel_rfl
theorem tnIx5 (w : World) : (Instr.index 296 tnTab (.int .u8 5)).run Fafg.prog w = .ok (.string (tnB 5)) w := by kernel_rfl
theorem tnIx6 (w : World) : (Instr.index 296 tnTab (.int .u8 6)).run Fafg.prog w = .ok (.string (tnB 6)) w := by kernel_rfl
theorem tnIx7 (w : World) : (Instr.index 296 tnTab (.int .u8 7)).run Fafg.prog w = .ok (.string (tnB 7)) w := by kernel_rfl
theorem tnIx8 (w : World) : (Instr.index 296 tnTab (.int .u8 8)).run Fafg.prog w = .ok (.string (tnB 8)) w := by kernel_rfl
theorem tnIx9 (w : World) : (Instr.index 296 tnTab (.int .u8 9)).run Fafg.prog w = .ok (.string (tnB 9)) w := by kernel_rfl
theorem tnIx10 (w : World) : (Instr.index 296 tnTab (.int .u8 10)).run Fafg.prog w = .ok (.string (tnB 10)) w := by kernel_rfl
theorem tnIx11 (w : World) : (Instr.index 296 tnTab (.int .u8 11)).run Fafg.prog w = .ok (.string (tnB 11)) w := by kernel_rfl
theorem tnIx (n : Nat) (h : n < 12) (w : World) : (Instr.index 296 tnTab (.int .u8 n)).run Fafg.prog w = .ok (.string (tnB n)) w := by
  have hc : n = 0 ∨ n = 1 ∨ n = 2 ∨ n = 3 ∨ n = 4 ∨ n = 5 ∨ n = 6 ∨ n = 7 ∨ n = 8 ∨ n = 9 ∨ n = 10 ∨ n = 11 := by omega
  rcases hc with rfl | rfl | rfl | rfl | rfl | rfl | rfl | rfl | rfl | rfl | rfl | rfl
  · exact tnIx0 w
  · exact tnIx1 w
  · exact tnIx2 w
  · exact tnIx3 w
  · exact tnIx4 w
  · exact tnIx5 w
  · exact tnIx6 w
  · exact tnIx7 w
  · exact tnIx8 w
  · exact tnIx9 w
  · exact tnIx10 w
  · exact tnIx11 w

theorem ret_str {a b : ByteArray} (h : a = b) : Ending.returned (.string a) = .returned (.string b) := by rw [h]

set_option maxHeartbeats 400000 in
set_option maxRecDepth 100000 in
theorem typeName_any (k : Nat) (w : World) (h1 : k ≤ 255) :
    Calls Fafg.prog 105 #[.int .u8 k] w fun e w' => e = .returned (.string (tnB k)) ∧ w' = w := by
  by_cases hk : 11 < k
  · go_enter Fafg.func105, Fafg.ntmps105
    go_wp2
    go_ret
    refine ⟨ret_str ?_, rfl⟩
    unfold tnB tnL
    rw [List.getD_eq_getElem?_getD, List.getElem?_eq_none (by simp [typeNames]; omega)]
    rfl
  · have hix := tnIx k (by omega)
    simp only [tnTab] at hix
    go_enter Fafg.func105, Fafg.ntmps105
    go_wp2
    go_ret
    exact ⟨rfl, rfl⟩

/-- The kind of a built-in type's name. -/
def kindTo (l : List UInt8) (n : Nat) : Option Nat := (List.range n).find? fun k => tnL k == l
def kindL (l : List UInt8) : Option Nat := kindTo l 12
def kindV (l : List UInt8) : Int := match kindL l with | some k => (k : Int) | none => 0
def kindOk (l : List UInt8) : Bool := (kindL l).isSome

theorem kindTo_succ (l : List UInt8) (n : Nat) (h : kindTo l n = none) : kindTo l (n + 1) = if tnL n == l then some n else none := by
  unfold kindTo at *
  rw [List.range_succ, List.find?_append, h]
  simp only [List.find?_cons, List.find?_nil, Option.none_or]
  cases tnL n == l <;> rfl

theorem kindTo_hit (l : List UInt8) (n m : Nat) (h : kindTo l n = none) (hf : (tnL n == l) = true) (hm : n < m) : kindTo l m = some n := by
  have e : m = (n + 1) + (m - (n + 1)) := by omega
  have h1 := kindTo_succ l n h
  rw [hf, if_pos rfl] at h1
  unfold kindTo at *
  rw [e, List.range_add, List.find?_append, h1]
  rfl

theorem tnB_list (k : Nat) : (tnB k).toList = tnL k := by rw [Lib.toList_data]; unfold tnB; simp

set_option maxHeartbeats 1000000 in
theorem kindOf_any (s : ByteArray) (w : World) :
    Calls Fafg.prog 197 #[.string s] w fun e w' => e = .returned (.tuple #[.int .u8 (kindV s.data.toList), .bool (kindOk s.data.toList)]) ∧ w' = w := by
  go_enter Fafg.func197, Fafg.ntmps197
  go_wp2
  go_loop [4] (fun i => ∃ k : Nat, k ≤ 12 ∧ i = .int .u8 k ∧ Hid (kindTo s.data.toList k = none)) (fun i => 12 - (intOf i).toNat)
  case atStart => exact ⟨0, by omega, rfl, rfl⟩
  case round =>
    obtain ⟨k, hk, rfl, hno⟩ := hrel
    by_cases hlt : k < 12
    · have he : ((tnB k).toList == s.toList) = (tnL k == s.data.toList) := by rw [tnB_list, Lib.toList_data]
      cases hc : (tnL k == s.data.toList) with
      | true =>
        have HC : Hid ((tnL k == s.data.toList) = true) := hc
        rw [hc] at he
        clear hc
        go_wp2_with (go_at_call 105; go_must (refine (typeName_any _ _ (by omega)).mono ?_; rintro e w' ⟨rfl, rfl⟩))
        go_ret2
        have hfin : kindL s.data.toList = some k := kindTo_hit _ _ _ hno.out HC.out hlt
        refine ⟨ret2 ?_ ?_, rfl⟩
        · unfold kindV; rw [hfin]
        · unfold kindOk; rw [hfin]; rfl
      | false =>
        have HC : Hid ((tnL k == s.data.toList) = false) := hc
        rw [hc] at he
        clear hc
        go_wp2_with (go_at_call 105; go_must (refine (typeName_any _ _ (by omega)).mono ?_; rintro e w' ⟨rfl, rfl⟩))
        go_round
        case rel => exact ⟨k + 1, by omega, by go_num, by show kindTo _ (k + 1) = none; rw [kindTo_succ _ _ hno.out, HC.out]; rfl⟩
        case measure => simp [intOf]; omega
    · have hke : k = 12 := by omega
      subst hke
      go_wp2
      go_ret2
      refine ⟨ret2 ?_ ?_, rfl⟩
      · unfold kindV kindL; rw [hno.out]
      · unfold kindOk kindL; rw [hno.out]; rfl

def listL : List UInt8 := [76, 105, 115, 116]
def builtL (l : List UInt8) : Bool := kindOk l || l == listL

set_option maxHeartbeats 1000000 in
theorem isBuiltIn_any (s : ByteArray) (w : World) :
    Calls Fafg.prog 161 #[.string s] w fun e w' => e = .returned (.bool (builtL s.data.toList)) ∧ w' = w := by
  cases hk : kindOk s.data.toList with
  | true =>
    have HK : Hid (kindOk s.data.toList = true) := hk
    clear hk
    go_enter Fafg.func161, Fafg.ntmps161
    go_wp2_with (go_at_call 197; go_must (refine (kindOf_any _ _).mono ?_; rintro e w' ⟨rfl, rfl⟩; rw [HK.out]))
    go_ret
    exact ⟨ret_bool (by unfold builtL; rw [HK.out]; rfl), rfl⟩
  | false =>
    have HK : Hid (kindOk s.data.toList = false) := hk
    clear hk
    go_enter Fafg.func161, Fafg.ntmps161
    go_wp2_with (go_at_call 197; go_must (refine (kindOf_any _ _).mono ?_; rintro e w' ⟨rfl, rfl⟩; rw [HK.out]))
    go_ret
    refine ⟨ret_bool ?_, rfl⟩
    unfold builtL
    rw [HK.out, ← Lib.toList_data]
    rfl
end Go.Proofs.Ygcfaf
