/- The proof of Rows.RecordTextCodesSaid: the seat's shell, its hole filled by the machine's runs (YgcfafO6). -/
import Derived.Test.YgcfafRows
import Derived.WalkKit
import Derived.ProofKit
import Derived.ShutString
import Derived.ChangeOld
import Derived.Below
import Derived.Test.YgcfafO6
namespace Go.Proofs.Ygcfaf.recordTextCodes
open Go.ChangeShapes Go.WideShapes Go.ChangeAt Go.RowKit
set_option linter.unusedVariables false

theorem own : ownKnob Fafg.prog.godebug = none := by kernel_rfl
theorem laidOut : laidOutB Fafg.prog = true := by kernel_rfl

theorem walk (a0 : Int) (w0 : (Lit.int .u8 a0).wf = true) (w : World) :
    Calls Fafg.prog 5 #[.int .u8 a0] w fun e w' => e = .returned (.bool true) ∧ Below w.heap.size w w' := by
  have h : 0 ≤ a0 ∧ a0 ≤ 255 := by
    simp [Lit.wf, IntKind.min, IntKind.max, IntKind.signed, IntKind.bits] at w0
    omega
  obtain ⟨i, rfl⟩ : ∃ i : Nat, a0 = .ofNat i := ⟨a0.toNat, by rw [Int.ofNat_eq_natCast]; omega⟩
  exact Mach.law_any i (by have := h.2; rw [Int.ofNat_eq_natCast] at this; omega) w

set_option maxRecDepth 100000 in
theorem lifted (os : Os) (started : os.Started) (H : Type) (enc : TypeId × Value → H) :
    ReturnsInHanded {} Fafg.checked os 5 .any (Rows.recordTextCodesSpec.pre6 enc Fafg.prog Fafg.f5 Rows.recordTextCodesRow.domain false) (Rows.recordTextCodesSpec.post enc Fafg.prog Fafg.f5 false true false false) := by
  refine returnsInHanded_of_change (C := Fafg.checked) own started (by kernel_rfl) Fafg.func5
    (ChangeSpec.witness6 (enc := enc) (C := Fafg.checked) false ⟨#[], #[.int .u8 0], []⟩ 8 (by kernel_rfl) (by kernel_rfl) (by kernel_rfl) (by kernel_rfl)) ?_
  intro W base args ds gs before hval0 hW hcnd _
  have hval : ∀ (j : Nat) t v, Fafg.f5.params[j]? = some t → args[j]? = some v → Value.okWide Fafg.prog W .any base t v := hval0
  have hW' := hW
  obtain ⟨p, q, hA0, hV, rfl, hfz, hnd⟩ := hW
  have hA : DataW.TrodAll enc Fafg.prog W 0 (fun _ => true) true Fafg.f5.params.toList args.toList ds p := hA0
  rw [Fafg.params5] at hA hval
  obtain ⟨v0, vs0, d0, ds0, p0, q0, hargs, rfl, rfl, h0, r0⟩ := trodAll_cons hA
  obtain ⟨rfl, rfl, rfl⟩ := trodAll_nil r0
  obtain rfl : args = #[v0] := by cases args; simp_all
  obtain ⟨rfl, rfl⟩ := trodVars_none hV
  have k0 := h0
  have lt0 : ∀ x ∈ p0, x.block < W.heap.size := by obtain ⟨m, hm⟩ := k0; exact DataW.trod_lt m _ _ _ hm
  obtain ⟨a0, rfl, rfl, rfl, w0⟩ := open_int Fafg.underlying5 (hval 0 5 v0 rfl rfl) h0
  clear hA0 hval0
  refine (walk a0 w0 W).mono fun e W' ⟨he, bel⟩ => ?_
  subst he
  exact ⟨_, rfl, _, _, _, [], _, [], hW', trodAll_mk1 (shut_bool Fafg.underlying4 _), (trodAll_mk1 (Below.trod laidOut (by kernel_rfl) (of_decide_eq_true (by kernel_rfl)) k0 bel lt0)), rfl, bel.frame _, fun h => by cases h⟩

theorem over : Rows.recordTextCodesRow.holds Fafg.pinned (OpenSpec.ofChange Rows.recordTextCodesSpec) :=
  OpenClaim.holds_of_wide 5 Fafg.f5 rfl rfl rfl rfl rfl rfl rfl ⟨rfl, rfl, rfl, rfl, rfl⟩ rfl rfl rfl rfl rfl (by kernel_rfl) Fafg.func5 (by kernel_rfl)
    (of_decide_eq_true (by kernel_rfl)) (by unfold Func.isWrapper; first | (rw [if_pos (by decide +kernel)]; kernel_rfl) | (rw [if_neg (by decide +kernel)]; exact ⟨rfl, rfl⟩))
    (fun os started H enc _ => lifted os started H enc)

/-- ████ THE STATEMENT ████ -/
theorem proved : Rows.RecordTextCodesSaid := over
end Go.Proofs.Ygcfaf.recordTextCodes
