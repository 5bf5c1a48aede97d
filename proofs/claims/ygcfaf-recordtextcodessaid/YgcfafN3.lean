/- ████ THE MACHINE IS SOUND ████ -/
import Derived.Test.YgcfafN2
namespace Go.Proofs.Ygcfaf.Mach
open Go
set_option linter.unusedVariables false
set_option linter.unusedSimpArgs false
variable {α β R : Type}

noncomputable def drawOk (ops : Array Oper) (k : Option PlanK) : Bool :=
  match k with
  | some .quiet => Region.lexB .any ops
  | some (.any p) => Region.noSelect ops && pOk ops p ops.size (Array.replicate ops.size false) none
  | none => true
noncomputable def codeOk (pl : List (Nat × Nat × PlanK)) (f : Nat) : Code → Bool
  | .seq a b => codeOk pl f a && codeOk pl f b
  | .cond _ a b => codeOk pl f a && codeOk pl f b
  | .block _ c => codeOk pl f c
  | .loop c => codeOk pl f c
  | .region id ops true => drawOk ops (lookPl pl f id)
  | _ => true

structure FnOk (P : Program) (pl : List (Nat × Nat × PlanK)) (g : Nat) (fn : Func) : Prop where
  func : P.funcs[g]? = some fn
  enters : Enters P g
  code : ∀ c, fn.body = some c → codeOk pl g c = true

structure EnvOk (E : Env) : Prop where
  types : ∀ i r, tl E.T i = some r → TyOk E.P i r
  funcs : ∀ g fn, look E.fs g = some fn → FnOk E.P E.pl g fn
  orc : CallOk E.P fun _ g args h nx => E.orc g args h nx
  mixed : E.P.follows .mixedOrders = true

def exOf : Ex → Exit
  | .normal => .normal
  | .exit i => .exit i
  | .ret => .ret

def Post (P : Program) (fl : Nat) (m : Mp) (n nx : Nat) (w : World) (e : Ex) (s' : St) : Exit → Act → World → Prop := fun x a' w' => x = exOf e ∧ After P fl m n nx w s' a' w'
def SelfOk (E : Env) (self : Self) : Prop := ∀ f fl n c s e s', self f fl n c s = some (e, s') → codeOk E.pl f c = true → ∀ (m : Mp) (a : Act) (w : World), FR m n s.t a → Rel E.P m s.h s.nx w → c.wp E.P (Post E.P fl m n s.nx w e s') a w

theorem tmps0_sound : ∀ (args : List Value) (i : Nat) (t : Tr Value) (k : Tr Value → Option R) (r : R), tmps0 args i t k = some r →
    ∃ t', k t' = some r ∧ (∀ v ∈ args, okU v = true) ∧ ∀ j, t'.get j = if i ≤ j ∧ j < i + args.length then args[j - i]? else t.get j := by
  intro args
  induction args with
  | nil =>
    intro i t k r h
    have h : k t = some r := h
    exact ⟨t, h, (fun v hv => by cases hv), fun j => by rw [if_neg (by simp)]⟩
  | cons v rest ih =>
    intro i t k r h
    have h : cond (okU v) (fVal v fun v => t.setK v 12 i fun t => tmps0 rest (Nat.succ i) t k) none = some r := h
    obtain ⟨hu, h⟩ := cond_some h
    rw [fVal_eq] at h
    obtain ⟨t1, hk, h1⟩ := Tr.setK_some _ _ _ _ _ h
    obtain ⟨t2, hk2, h3, h2⟩ := ih _ _ _ _ hk
    refine ⟨t2, hk2, fun u hu' => ?_, fun j => ?_⟩
    · rcases List.mem_cons.1 hu' with rfl | h
      · exact hu
      · exact h3 u h
    · rw [h2 j, h1 j]
      by_cases hj : j = i
      · subst hj
        rw [if_neg (by omega), if_pos rfl, if_pos (by simp)]
        simp
      · rw [if_neg hj]
        by_cases hr : i ≤ j ∧ j < i + (v :: rest).length
        · rw [if_pos hr, if_pos (by simp at hr; omega)]
          obtain ⟨d, rfl⟩ : ∃ d, j = i + 1 + d := ⟨j - (i + 1), by omega⟩
          rw [show i + 1 + d - Nat.succ i = d by omega, show i + 1 + d - i = d + 1 by omega]
          simp
        · rw [if_neg hr, if_neg (by simp at hr; omega)]

/-- A result's reading. -/
def readRes (tmps : Array Value) : ResultVar → Sem Value
  | .tmp i => pure (tmps.getD i undef)
  | .cell ad ty => do loadVar ty (← asAddr (tmps.getD ad undef))

section
variable {E : Env} (hE : EnvOk E)

include hE in
theorem resOf_sound {m : Mp} {n nx : Nat} {t : Tr Value} {a : Act} {h : Tr Blk} {w : World} (hf : FR m n t a) (hr : Rel E.P m h nx w) {r : ResultVar} {v : Value} (hv : resOf E.T t h r = some v) (hok : okC v = true) :
    ∃ v', V1 m v v' ∧ (readRes a.tmps r).run E.P w = .ok v' w := by
  unfold resOf at hv
  split at hv
  · rename_i i
    cases hv
    exact ⟨_, (hf.val i).v1 hok, rfl⟩
  · rename_i ad ty
    unfold loadT at hv
    split at hv
    · rename_i r' hty
      obtain ⟨cb, o, hx, v', h1, h2⟩ := loadL_sound hr (hE.types _ _ hty) (.inr (hf.val ad)) hv
      refine ⟨v', h1, ?_⟩
      simp only [readRes, hx, asAddr, Sem.run_bind, Sem.run_pure, Result.andThen_ok, h2]
    · cases hv

include hE in
theorem resAll_sound {m : Mp} {n nx : Nat} {t : Tr Value} {a : Act} {h : Tr Blk} {w : World} (hf : FR m n t a) (hr : Rel E.P m h nx w) : ∀ (l : List ResultVar) (vs : List Value), resAll E.T t h l = some vs →
    ∃ vs', L2 (V1 m) vs vs' ∧ (l.mapM (readRes a.tmps)).run E.P w = .ok vs' w := by
  intro l
  induction l with
  | nil => intro vs h; cases h; exact ⟨[], .nil, by simp⟩
  | cons r l ih =>
    intro vs hv
    have hv : (match resOf E.T t h r, resAll E.T t h l with | some v, some vs => cond (okC v) (some (v :: vs)) none | _, _ => none) = some vs := hv
    split at hv
    · rename_i v vs1 h1 h2
      obtain ⟨hok, hv⟩ := cond_some hv
      cases hv
      obtain ⟨v', g1, g2⟩ := resOf_sound hE hf hr h1 hok
      obtain ⟨vs', g3, g4⟩ := ih _ h2
      refine ⟨v' :: vs', .cons g1 g3, ?_⟩
      rw [List.mapM_cons]
      simp only [Sem.run_bind, g2, Result.andThen_ok, g4, Sem.run_pure]
    · cases hv

def oneOf : List Value → Value
  | [v] => v
  | vs => .tuple ⟨vs⟩
theorem run_results {fn : Func} {tmps : Array Value} {P : Program} {w : World} {vs : List Value} (h : (fn.results.toList.mapM (readRes tmps)).run P w = .ok vs w) :
    (results fn tmps).run P w = .ok (oneOf vs) w := by
  have e : results fn tmps = (do let vs ← fn.results.mapM (readRes tmps); pure (if h : vs.size = 1 then vs[0] else .tuple vs)) := by
    unfold results
    congr 1
  rw [e, Array.mapM_eq_mapM_toList]
  simp only [Sem.run_bind, Sem.run_map, h, Result.andThen_ok, Sem.run_pure]
  match vs with
  | [] => rfl
  | [v] => rfl
  | u :: v :: vs => rfl

include hE in
theorem call_sound {self : Self} (hself : SelfOk E self) : CallOk E.P (callWith E self) := by
  intro fl g args h nx v h' nx' hv
  unfold callWith at hv
  split at hv
  · rename_i r ho
    cases hv
    exact hE.orc fl g args h nx v h' nx' ho
  · unfold callFn at hv
    split at hv
    · rename_i fn hfn
      have hF := hE.funcs _ _ hfn
      refine ⟨hF.enters, fun m args' w ha hr => ?_⟩
      split at hv
      · rename_i c hb
        obtain ⟨hle, hv⟩ := cond_some hv
        have hle := ble_iff hle
        rw [lenR_eq] at hle
        obtain ⟨t, hk, hu, ht⟩ := tmps0_sound _ _ _ _ _ hv
        have hlen : args.length = args'.size := ha.length
        have hf : FR m fn.ntmps t { tmps := args' ++ Array.replicate (fn.ntmps - args'.size) undef, defers := [] } := by
          refine ⟨rfl, by simp; omega, fun i => ?_⟩
          rw [ht i]
          by_cases hi : i < args.length
          · rw [if_pos (by omega), Nat.sub_zero]
            obtain ⟨v', h1, h2⟩ := ha.get i _ (List.getElem?_eq_getElem hi)
            have hi' : i < args'.size := by omega
            have e1 : (args' ++ Array.replicate (fn.ntmps - args'.size) undef).getD i undef = v' := by
              rw [Array.getElem?_toList] at h1
              rw [Array.getD_eq_getD_getElem?, Array.getElem?_append_left hi', h1]
              rfl
            show VR m (args[i]?.getD undef) ((args' ++ Array.replicate (fn.ntmps - args'.size) undef).getD i undef)
            rw [e1, List.getElem?_eq_getElem hi]
            exact h2.resolve_left fun e => by
              have := hu _ (List.getElem_mem hi)
              rw [e] at this
              simp [okU] at this
          · rw [if_neg (by omega), Tr.get_nil]
            have e1 : (args' ++ Array.replicate (fn.ntmps - args'.size) undef).getD i undef = undef := by
              rw [Array.getD_eq_getD_getElem?, Array.getElem?_append_right (by omega)]
              by_cases h2 : i - args'.size < fn.ntmps - args'.size
              · simp [h2]
              · simp [h2]
            show VR m undef ((args' ++ Array.replicate (fn.ntmps - args'.size) undef).getD i undef)
            rw [e1]
            exact .undef m
        unfold finC at hk
        split at hk
        · cases hk
        · rename_i e t1 h1 nx1 hne hrun
          have hwp := hself _ _ _ _ _ _ _ hrun (hF.code c hb) m _ w hf hr
          refine calls_of_wp hF.func hb (wp_mono hwp fun x a' w' hp => ?_)
          obtain ⟨hx, m', g1, g2, g3, g4, g5⟩ := hp
          have fin : a'.defers = [] ∧ ∃ v0, (results fn a'.tmps).run E.P w' = .ok v0 w' ∧ Ended E.P fl m nx w v h' nx' (.returned v0) w' := by
            refine ⟨g2.defers, ?_⟩
            split at hk
            · rename_i v1 hres
              cases hk
              obtain ⟨vs', q1, q2⟩ := resAll_sound hE g2 g3 _ _ hres
              have q3 := run_results q2
              cases q1 with
              | cons q1 q4 =>
                cases q4
                exact ⟨_, q3, m', _, rfl, .one q1, g1, g3, g4, g5⟩
            · rename_i vs hnone hres
              cases hk
              obtain ⟨vs', q1, q2⟩ := resAll_sound hE g2 g3 _ _ hres
              have q3 := run_results q2
              refine ⟨_, q3, m', _, rfl, ?_, g1, g3, g4, g5⟩
              match vs, vs', q1, hnone with
              | _, _, .nil, _ => exact .tup .nil
              | _, _, .cons _ .nil, hn => exact (hn _ rfl).elim
              | _, _, .cons c1 (.cons c2 c3), _ => exact .tup (.cons c1 (.cons c2 c3))
            · cases hk
          subst hx
          cases e with
          | normal => exact fin
          | exit i => exact (hne i rfl).elim
          | ret => exact fin
        · cases hk
      · cases hv
    · cases hv
end
end Go.Proofs.Ygcfaf.Mach
