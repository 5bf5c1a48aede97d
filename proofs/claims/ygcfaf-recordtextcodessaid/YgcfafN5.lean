/- What is checked, once, of a program for the machine. -/
import Derived.Test.YgcfafN4
namespace Go.Proofs.Ygcfaf.Mach
open Go
set_option linter.unusedVariables false
set_option linter.unusedSimpArgs false

noncomputable def sizeB (P : Program) (t s : Nat) (ag : Bool) : Bool :=
  match P.info? t, P.underlying t with
  | some inf, some d => Nat.beq inf.size s && (isAggD d == ag)
  | _, _ => false
theorem sizeB_ok {P : Program} {t s : Nat} {ag : Bool} (h : sizeB P t s ag = true) : SizeOk P t s ag := by
  unfold sizeB at h
  split at h
  · rename_i inf d h1 h2
    simp only [Bool.and_eq_true, beq_iff_eq] at h
    exact ⟨inf, d, h1, beq_iff h.1, h2, h.2⟩
  · cases h

noncomputable def zeroB (P : Program) (t s : Nat) (zs : List Value) : Bool :=
  match P.info? t with
  | some inf => match inf.zero with
    | some z => Nat.beq inf.size s && (eqL eqCell z.cells.toList zs && (Nat.beq zs.length s && (zs.all gr1 && (Nat.ble inf.bytes 1048576 && Nat.ble s 4096))))
    | none => false
  | none => false
theorem zeroB_ok {P : Program} {t s : Nat} {zs : List Value} (h : zeroB P t s zs = true) : ZeroOk P t s zs := by
  unfold zeroB at h
  split at h
  · rename_i inf h1
    split at h
    · rename_i z h2
      simp only [Bool.and_eq_true] at h
      obtain ⟨a1, a2, a3, a4, a5, a6⟩ := h
      exact ⟨inf, z, h1, beq_iff a1, h2, by rw [← eqL_eq (fun _ _ => eqCell_eq) _ _ a2], beq_iff a3, a4, ble_iff a5, ble_iff a6⟩
    · cases h
  · cases h

noncomputable def fieldsB (P : Program) : List Field → List (Nat × Nat × Bool) → Bool
  | [], [] => true
  | f :: fs, q :: qs => Nat.beq f.offset q.1 && (sizeB P f.type q.2.1 q.2.2 && (Nat.blt 0 q.2.1 && fieldsB P fs qs))
  | _, _ => false
theorem fieldsB_ok {P : Program} : ∀ (fs : List Field) (qs : List (Nat × Nat × Bool)), fieldsB P fs qs = true → L2 (fun (f : Field) (q : Nat × Nat × Bool) => f.offset = q.1 ∧ SizeOk P f.type q.2.1 q.2.2 ∧ 0 < q.2.1) fs qs := by
  intro fs
  induction fs with
  | nil => intro qs h; cases qs with
    | nil => exact .nil
    | cons q qs => cases h
  | cons f fs ih =>
    intro qs h
    cases qs with
    | nil => cases h
    | cons q qs =>
      have h : (Nat.beq f.offset q.1 && (sizeB P f.type q.2.1 q.2.2 && (Nat.blt 0 q.2.1 && fieldsB P fs qs))) = true := h
      simp only [Bool.and_eq_true] at h
      exact .cons ⟨beq_iff h.1, sizeB_ok h.2.1, blt_iff h.2.2.1⟩ (ih qs h.2.2.2)

noncomputable def descB (P : Program) (d : TypeDesc) (r : TyD) : Bool :=
  match r, d with
  | .other, _ => true
  | .int k, .int k' => decide (k' = k)
  | .str, .string => true
  | .ptr, .pointer _ => true
  | .struct fs, .struct fields => fieldsB P fields.toList fs
  | .array len e es ea, .array len' e' => Nat.beq len' len && (Nat.beq e' e && (sizeB P e es ea && Nat.blt 0 es))
  | .slice e es ez, .slice e' => Nat.beq e' e && (zeroB P e es ez && Nat.blt 0 es)
  | _, _ => false
theorem descB_ok {P : Program} {d : TypeDesc} {r : TyD} (h : descB P d r = true) : DescOk P d r := by
  unfold descB at h
  split at h
  · trivial
  · rw [of_decide_eq_true h]; rfl
  · rfl
  · exact ⟨_, rfl⟩
  · exact ⟨_, rfl, fieldsB_ok _ _ h⟩
  · simp only [Bool.and_eq_true] at h
    rw [beq_iff h.1, beq_iff h.2.1]
    exact ⟨rfl, sizeB_ok h.2.2.1, blt_iff h.2.2.2⟩
  · simp only [Bool.and_eq_true] at h
    rw [beq_iff h.1]
    exact ⟨rfl, zeroB_ok h.2.1, blt_iff h.2.2⟩
  · cases h

noncomputable def tyB (P : Program) (i : Nat) (r : TyR) : Bool :=
  zeroB P i r.size r.zero && (match P.underlying i with | some d => (isAggD d == r.agg) && descB P d r.d | none => false)
theorem tyB_ok {P : Program} {i : Nat} {r : TyR} (h : tyB P i r = true) : TyOk P i r := by
  unfold tyB at h
  simp only [Bool.and_eq_true] at h
  obtain ⟨h1, h2⟩ := h
  split at h2
  · rename_i d hd
    simp only [Bool.and_eq_true, beq_iff_eq] at h2
    exact ⟨zeroB_ok h1, d, hd, h2.1, descB_ok h2.2⟩
  · cases h2

noncomputable def tysB (P : Program) (T : List (Nat × TyR)) : Bool := T.all fun p => tyB P p.1 p.2
theorem tysB_ok {P : Program} {T : List (Nat × TyR)} (h : tysB P T = true) : ∀ i r, tl T i = some r → TyOk P i r := fun i r hi =>
  tyB_ok (List.all_eq_true.1 h (i, r) (tl_mem hi))

theorem enters_of {P : Program} {g : Nat} {fn : Func} (hf : P.funcs[g]? = some fn) (hn : (fn.name == "runtime.NumGoroutine") = false) (hb : fn.body.isNone = false) : Enters P g := by
  intro args w
  simp only [callFunc, Sem.run_bind, run_program, Result.andThen_ok, hf, hn, hb, Bool.false_eq_true, if_false, Sem.run_pure]

noncomputable def bodyB (pl : List (Nat × Nat × PlanK)) (g : Nat) (fn : Func) : Bool := match fn.body with | some c => codeOk pl g c | none => true
theorem bodyB_ok {pl : List (Nat × Nat × PlanK)} {g : Nat} {fn : Func} (h : bodyB pl g fn = true) : ∀ c, fn.body = some c → codeOk pl g c = true := by
  intro c hc
  unfold bodyB at h
  rw [hc] at h
  exact h
theorem fnOk_of {P : Program} {pl : List (Nat × Nat × PlanK)} {g : Nat} {fn : Func} (hf : P.funcs[g]? = some fn) (hn : (fn.name == "runtime.NumGoroutine") = false) (hb : fn.body.isNone = false) (h : bodyB pl g fn = true) : FnOk P pl g fn :=
  ⟨hf, enters_of hf hn hb, bodyB_ok h⟩
end Go.Proofs.Ygcfaf.Mach
