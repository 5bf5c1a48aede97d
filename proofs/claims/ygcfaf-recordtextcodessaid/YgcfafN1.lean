/- The machine's regions. -/
import Derived.Test.YgcfafM9
namespace Go.Proofs.Ygcfaf.Mach
open Go
set_option linter.unusedVariables false
set_option linter.unusedSimpArgs false
variable {α β R : Type}

/-- A function that a call goes into. -/
def Enters (P : Program) (g : FuncId) : Prop := ∀ (args : Array Value) (w : World), (callFunc g args).run P w = .ok (.enter g args) w

/-- What a call has done. -/
def Ended (P : Program) (fl : Nat) (m : Mp) (nx : Nat) (w : World) (v : Value) (h' : Tr Blk) (nx' : Nat) (e : Ending) (w' : World) : Prop :=
  ∃ m' v', e = .returned v' ∧ VR m' v v' ∧ Stp fl m w m' w' ∧ Rel P m' h' nx' w' ∧ nx ≤ nx' ∧ ∀ b, b < nx → m' b = m b
def CallOk (P : Program) (call : CallF) : Prop := ∀ fl g args h nx v h' nx', call fl g args h nx = some (v, h', nx') → Enters P g ∧
  ∀ (m : Mp) (args' : Array Value) (w : World), L2 (EV m) args args'.toList → Rel P m h nx w → Calls P g args' w (Ended P fl m nx w v h' nx')

theorem evs_sound {m : Mp} {n : Nat} {t : Tr Value} {a : Act} (hf : FR m n t a) (l : List Operand) : L2 (EV m) (evs t l) (l.map a.eval) := by
  induction l with
  | nil => exact .nil
  | cons x r ih => exact .cons (hf.ev x) ih

section
variable {P : Program} {T : List (Nat × TyR)} {m : Mp} (hT : ∀ i r, tl T i = some r → TyOk P i r)
variable {h h' : Tr Blk} {nx fl n : Nat} {w : World} {call : CallF} (hcall : CallOk P call)

include hcall in
theorem aCall_sound {t : Tr Value} {a : Act} (hf : FR m n t a) {o : Oper} {fl' : Nat} {v : Value} {nx' : Nat} (hv : aCall call fl' t h nx o.op = some (v, h', nx')) :
    ∃ g args', (∀ w, (execOp a.eval o).run P w = .ok (.enter g args') w) ∧ ∀ w, Rel P m h nx w → Calls P g args' w (Ended P fl' m nx w v h' nx') := by
  unfold aCall at hv
  split at hv
  · rename_i c e
    unfold cCall at hv
    split at hv
    · rename_i f args tys
      obtain ⟨he, hc⟩ := hcall _ _ _ _ _ _ _ _ hv
      refine ⟨f, args.map a.eval, fun w => ?_, fun w hr => hc m (args.map a.eval) w ?_ hr⟩
      · unfold execOp
        rw [e]
        simp only [resolve, Act.eval, Deferred.ofValue, Sem.run_bind, Sem.run_pure, Result.andThen_ok, invoke]
        rw [he]
        simp
      · rw [Array.toList_map]
        exact evs_sound hf args.toList
    · cases hv
  · cases hv

/-- What stands behind an operation. -/
def After (P : Program) (fl : Nat) (m : Mp) (n nx : Nat) (w : World) (s : St) (a' : Act) (w' : World) : Prop :=
  ∃ m', Stp fl m w m' w' ∧ FR m' n s.t a' ∧ Rel P m' s.h s.nx w' ∧ nx ≤ s.nx ∧ ∀ b, b < nx → m' b = m b

include hT hcall in
theorem opRun_sound (hr : Rel P m h nx w) {t : Tr Value} {a : Act} (hf : FR m n t a) {ops : Array Oper} {o : Oper} {k : St → Option R} {r : R} (hv : opRun P T fl n call ops.toList o ⟨t, h, nx⟩ k = some r) {K : Act → World → Prop} {Q : Exit → Act → World → Prop}
    (hK : ∀ s a' w', k s = some r → After P fl m n nx w s a' w' → K a' w') :
    if Region.wanted o (yielded ops a.tmps) then o.wp P a w K Q ∨ (o.asks P a w ∧ LetsOut Q) else K (a.put o.dst undef) w := by
  have hv : cond (wantedL ops.toList t o) (opVal P T fl n call o t h nx k) (put n t o.dst undef fun t => k ⟨t, h, nx⟩) = some r := hv
  rw [wantedL_eq hf ops o] at hv
  cases hw : Region.wanted o (yielded ops a.tmps)
  · rw [hw] at hv
    simp only [cond_false] at hv
    simp only [Bool.false_eq_true, if_false]
    obtain ⟨t', hk, hf'⟩ := put_sound hv hf (.inr (.undef m))
    exact hK _ _ _ hk ⟨m, Stp.refl _ _ _, hf', hr, Nat.le_refl _, fun _ _ => rfl⟩
  · rw [hw] at hv
    simp only [cond_true] at hv
    simp only [if_true]
    refine .inl ?_
    unfold opVal at hv
    unfold Oper.wp
    split at hv
    · rename_i v hp
      obtain ⟨v', h1, h2⟩ := aPure_sound hT hf hp
      rw [h2 w]
      obtain ⟨t', hk, hf'⟩ := put_sound hv hf h1
      exact hK _ _ _ hk ⟨m, Stp.refl _ _ _, hf', hr, Nat.le_refl _, fun _ _ => rfl⟩
    · split at hv
      · rename_i v hp
        obtain ⟨v', h1, h2⟩ := aRead_sound hT hr hf hp
        rw [h2]
        obtain ⟨t', hk, hf'⟩ := put_sound hv hf (.inr h1)
        exact hK _ _ _ hk ⟨m, Stp.refl _ _ _, hf', hr, Nat.le_refl _, fun _ _ => rfl⟩
      · unfold putO at hv
        split at hv
        · rename_i v h1 nx1 hp
          obtain ⟨m', v', w', nxt, d1, d2, d3, d4, d5, d6, hle, _⟩ := aMut_sound hT hr (hr.top nx (Nat.le_refl _)) hf hp
          obtain ⟨t', hk, hf'⟩ := put_sound hv (hf.ext d4.old) d1
          rw [d2]
          rcases d3 with rfl | ⟨rfl, rfl⟩
          · exact hK _ _ _ hk ⟨m', d4, hf', d6 nx1 hle (Nat.le_refl _), hle, fun b hb => d5 b (by omega)⟩
          · exact hK _ _ _ hk ⟨m', d4, hf', d6 nx1 hle (Nat.le_refl _), hle, fun b hb => d5 b (by omega)⟩
        · split at hv
          · rename_i v h1 nx1 hp
            obtain ⟨g, args', e1, e2⟩ := aCall_sound hcall hf hp
            rw [e1 w]
            refine (e2 w hr).mono fun e w' he => ?_
            obtain ⟨m', v', rfl, f1, f2, f3, f4, f5⟩ := he
            obtain ⟨t', hk, hf'⟩ := put_sound hv (hf.ext f2.old) (.inr f1)
            exact hK _ _ _ hk ⟨m', f2, hf', f3, f4, f5⟩
          · cases hv

theorem After.trans {s s' : St} {a' : Act} {w' w'' : World} {m' : Mp} (h1 : Stp fl m w m' w') (hn : nx ≤ s.nx) (hlow : ∀ b, b < nx → m' b = m b) (h2 : After P fl m' n s.nx w' s' a' w'') : After P fl m n nx w s' a' w'' := by
  obtain ⟨m'', g1, g2, g3, g4, g5⟩ := h2
  exact ⟨m'', h1.trans g1, g2, g3, Nat.le_trans hn g4, fun b hb => (g5 b (by omega)).trans (hlow b hb)⟩

include hT hcall in
theorem opsRun_sound {ops : Array Oper} {Q : Exit → Act → World → Prop} {e : Ex} {s' : St} : ∀ (l : List Oper) (k : Nat) (s : St) (m : Mp) (a : Act) (w : World), (∀ j, l[j]? = ops[k + j]?) → Rel P m s.h s.nx w → FR m n s.t a →
    opsRun P T fl n call ops.toList l s = some (e, s') → (∀ a' w', e = .normal → After P fl m n s.nx w s' a' w' → Q .normal a' w') → wpOps P ops Q (List.range' k l.length) a w := by
  intro l
  induction l with
  | nil =>
    intro k s m a w hl hr hf hv hQ
    have hv : some (Ex.normal, s) = some (e, s') := hv
    cases hv
    exact hQ a w rfl ⟨m, Stp.refl _ _ _, hf, hr, Nat.le_refl _, fun _ _ => rfl⟩
  | cons o l ih =>
    intro k s m a w hl hr hf hv hQ
    have hv : opRun P T fl n call ops.toList o s (opsRun P T fl n call ops.toList l) = some (e, s') := hv
    have h0 : ops[k]? = some o := by simpa using (hl 0).symm
    rw [List.length_cons, List.range'_succ, wpOps_cons]
    unfold wpOp
    simp only [h0]
    obtain ⟨t, h, nx⟩ := s
    refine opRun_sound hT hcall hr hf hv fun s1 a1 w1 hk hA => ?_
    obtain ⟨m1, g1, g2, g3, g4, g5⟩ := hA
    exact ih (k + 1) s1 m1 a1 w1 (fun j => by have := hl (j + 1); simpa [Nat.add_assoc, Nat.add_comm 1 j] using this) g3 g2 hk fun a' w' he hA' => hQ a' w' he (After.trans g1 g4 g5 hA')

/-- The class of worlds of a region that only reads. -/
def Cls (P : Program) (fl : Nat) (m : Mp) (h : Tr Blk) (nx : Nat) (w w' : World) : Prop := Rel P m h nx w' ∧ Stp fl m w m w'

theorem Cls.done {w1 w2 : World} {v : Value} {h2 : Tr Blk} {nx2 : Nat} {e : Ending} (hc : Cls P fl m h nx w w1) (he : Ended P nx m nx w1 v h2 nx2 e w2) (hg : gr v = true) : e = .returned v ∧ Cls P fl m h nx w w2 := by
  obtain ⟨m', v', rfl, f1, f2, f3, f4, f5⟩ := he
  have hall : ∀ k, k < w1.heap.size → w2.heap[k]? = w1.heap[k]? := fun k hk => f2.kept k hk (fun b x hb hx => by rw [hc.1.top b hb] at hx; cases hx)
  rw [f1.ofGr hg]
  exact ⟨rfl, hc.1.keep f2.size hall, hc.2.trans ⟨f2.os, f2.tape, f2.output, f2.size, fun k hk _ => hall k hk, fun _ _ h => h, fun _ _ h => .inl h⟩⟩

include hT hcall in
theorem quiRun_sound {ops : Array Oper} {Q : Act → Prop} {e : Ex} {s' : St} {w0 : World} (hw0 : Cls P fl m h nx w w0) : ∀ (l : List Oper) (t : Tr Value) (a : Act), FR m n t a →
    quiRun P T n call h nx ops.toList l t = some (e, s') → (∀ t' a', e = .normal → s' = ⟨t', h, nx⟩ → FR m n t' a' → Q a') → wpQuiet P ops (Cls P fl m h nx w) Q l a := by
  intro l
  induction l with
  | nil =>
    intro t a hf hv hQ
    have hv : some (Ex.normal, (⟨t, h, nx⟩ : St)) = some (e, s') := hv
    cases hv
    exact hQ t a rfl rfl hf
  | cons o l ih =>
    intro t a hf hv hQ
    have hv : cond (wantedL ops.toList t o) (quiVal P T n call o t h nx (quiRun P T n call h nx ops.toList l)) (put n t o.dst undef (quiRun P T n call h nx ops.toList l)) = some (e, s') := hv
    rw [wantedL_eq hf ops o] at hv
    unfold wpQuiet
    cases hw : Region.wanted o (yielded ops a.tmps)
    · rw [hw] at hv
      simp only [cond_false] at hv
      simp only [Bool.false_eq_true, if_false]
      obtain ⟨t', hk, hf'⟩ := put_sound hv hf (.inr (.undef m))
      exact ih t' _ hf' hk hQ
    · rw [hw] at hv
      simp only [cond_true] at hv
      simp only [if_true]
      unfold quiVal at hv
      split at hv
      · rename_i v hp
        obtain ⟨v', h1, h2⟩ := aPure_sound hT hf hp
        obtain ⟨t', hk, hf'⟩ := put_sound hv hf h1
        refine ⟨v', fun w1 _ => ?_, ih t' _ hf' hk hQ⟩
        unfold Oper.quietAt
        rw [h2 w1]
        exact ⟨rfl, rfl⟩
      · split at hv
        · rename_i v hp
          obtain ⟨v', h1, _⟩ := aRead_sound hT hw0.1 hf hp
          obtain ⟨t', hk, hf'⟩ := put_sound hv hf (.inr h1)
          refine ⟨v', fun w1 hc1 => ?_, ih t' _ hf' hk hQ⟩
          obtain ⟨v'', h3, h4⟩ := aRead_sound hT hc1.1 hf hp
          unfold Oper.quietAt
          rw [h4]
          exact ⟨rfl, VR.det h3 h1⟩
        · unfold quiC at hv
          split at hv
          · rename_i v h1 nx1 hp
            obtain ⟨hg, hv⟩ := cond_some hv
            obtain ⟨g, args', e1, e2⟩ := aCall_sound hcall hf hp
            obtain ⟨t', hk, hf'⟩ := put_sound hv hf (.inr (.grAll hg))
            refine ⟨v, fun w1 hc1 => ?_, ih t' _ hf' hk hQ⟩
            unfold Oper.quietAt
            rw [e1 w1]
            exact ⟨rfl, (e2 w1 hc1.1).mono fun e w2 he => Cls.done hc1 he hg⟩
          · cases hv
end
end Go.Proofs.Ygcfaf.Mach
