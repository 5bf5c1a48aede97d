/- The proof of Rows.SchemaBackSaid: the walks of YgcfafQ8 under the row's frame. -/
import Derived.Test.YgcfafRows
import Derived.WalkKit
import Derived.ProofKit
import Derived.ShutString
import Derived.ChangeOld
import Derived.Below
import Derived.Test.YgcfafQ9
namespace Go.Proofs.Ygcfaf.schemaBack
open Go.ChangeShapes Go.WideShapes Go.ChangeAt Go.RowKit
set_option linter.unusedVariables false

theorem own : ownKnob Fafg.prog.godebug = none := by kernel_rfl
theorem laidOut : laidOutB Fafg.prog = true := by kernel_rfl

set_option maxRecDepth 100000 in
theorem lifted (os : Os) (started : os.Started) (H : Type) (enc : TypeId × Value → H) :
    ReturnsInHanded {} Fafg.checked os 13 .any (Rows.schemaBackSpec.pre6 enc Fafg.prog Fafg.f13 Rows.schemaBackRow.domain false) (Rows.schemaBackSpec.post enc Fafg.prog Fafg.f13 false true false false) := by
  refine returnsInHanded_of_change (C := Fafg.checked) own started (by kernel_rfl) Fafg.func13
    (ChangeSpec.witness6 (enc := enc) (C := Fafg.checked) false ⟨#[], #[.agg #[.slice none 0 0]], []⟩ 8 (by kernel_rfl) (by kernel_rfl) (by kernel_rfl) (by kernel_rfl)) ?_
  intro W base args ds gs before hval0 hW hcnd _
  have hval : ∀ (j : Nat) t v, Fafg.f13.params[j]? = some t → args[j]? = some v → Value.okWide Fafg.prog W .any base t v := hval0
  have hW' := hW
  obtain ⟨p, q, hA0, hV, rfl, hfz, hnd⟩ := hW
  have hA : DataW.TrodAll enc Fafg.prog W 0 (fun _ => true) true Fafg.f13.params.toList args.toList ds p := hA0
  rw [Fafg.params13] at hA hval
  obtain ⟨v0, vs0, d0, ds0, p0, q0, hargs, rfl, rfl, h0, r0⟩ := trodAll_cons hA
  obtain ⟨rfl, rfl, rfl⟩ := trodAll_nil r0
  obtain rfl : args = #[v0] := by cases args; simp_all
  obtain ⟨rfl, rfl⟩ := trodVars_none hV
  obtain ⟨cs, hv, _⟩ := okWide_struct Fafg.underlying93 (hval 0 93 v0 rfl rfl)
  subst hv
  have k0 := h0
  have lt0 : ∀ x ∈ p0, x.block < W.heap.size := by obtain ⟨m, hm⟩ := k0; exact DataW.trod_lt m _ _ _ hm
  obtain ⟨ss, a, cap, rfl, hI⟩ : ∃ (ss : List Str) (a : Option Addr) (cap : Nat), cs = #[.slice a ss.length cap] ∧ In (W.alloc (.cells #[.slice a ss.length cap] 93)) (W.heap.size + 1) W.heap.size ss a cap := by
    obtain ⟨fuel, hf⟩ := h0
    exact open_sch hf
  clear hA0 hval0
  refine (schemaBack_any W ss a cap hI).mono fun e W' ⟨he, bel⟩ => ?_
  subst he
  exact ⟨_, rfl, _, _, _, [], _, [], hW', trodAll_mk1 (shut_bool Fafg.underlying4 _), (trodAll_mk1 (Below.trod laidOut (by kernel_rfl) (of_decide_eq_true (by kernel_rfl)) k0 bel lt0)), rfl, bel.frame _, fun h => by cases h⟩

theorem over : Rows.schemaBackRow.holds Fafg.pinned (OpenSpec.ofChange Rows.schemaBackSpec) :=
  OpenClaim.holds_of_wide 13 Fafg.f13 rfl rfl rfl rfl rfl rfl rfl ⟨rfl, rfl, rfl, rfl, rfl⟩ rfl rfl rfl rfl rfl (by kernel_rfl) Fafg.func13 (by kernel_rfl)
    (of_decide_eq_true (by kernel_rfl)) (by unfold Func.isWrapper; first | (rw [if_pos (by decide +kernel)]; kernel_rfl) | (rw [if_neg (by decide +kernel)]; exact ⟨rfl, rfl⟩))
    (fun os started H enc _ => lifted os started H enc)

/-- ████ THE STATEMENT ████ -/
theorem proved : Rows.SchemaBackSaid := over
end Go.Proofs.Ygcfaf.schemaBack
