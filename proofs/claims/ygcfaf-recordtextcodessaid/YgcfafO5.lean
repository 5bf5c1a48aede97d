/- The calls that the law makes, known ahead. -/
import Derived.Test.YgcfafO4
import Derived.Test.YgcfafR1
import Derived.Test.YgcfafR2
import Derived.Test.YgcfafR3
import Derived.Test.YgcfafR4
import Derived.Test.YgcfafR5
import Derived.Below
namespace Go.Proofs.Ygcfaf.Mach
open Go Go.RowKit
set_option linter.unusedVariables false
set_option linter.unusedSimpArgs false

theorem rows_ok : ∀ q ∈ rows, ok14 q.2.1 q.2.2 (run14 q.1) = true :=
  List.forall_mem_cons.2 ⟨r14_0, List.forall_mem_cons.2 ⟨r14_1, List.forall_mem_cons.2 ⟨r14_2, List.forall_mem_cons.2 ⟨r14_3, List.forall_mem_cons.2 ⟨r14_4, List.forall_mem_cons.2 ⟨r14_5, List.forall_mem_cons.2 ⟨r14_6, List.forall_mem_cons.2 ⟨r14_7, List.forall_mem_cons.2 ⟨r14_8, List.forall_mem_cons.2 ⟨r14_9, List.forall_mem_cons.2 ⟨r14_10, List.forall_mem_cons.2 ⟨r14_11, List.forall_mem_cons.2 ⟨r14_12, List.forall_mem_cons.2 ⟨r14_13, List.forall_mem_cons.2 ⟨r14_14, List.forall_mem_cons.2 ⟨r14_15, List.forall_mem_cons.2 ⟨r14_16, List.forall_mem_cons.2 ⟨r14_17, List.forall_mem_cons.2 ⟨r14_18, List.forall_mem_cons.2 ⟨r14_19, List.forall_mem_cons.2 ⟨r14_20, List.forall_mem_cons.2 ⟨r14_21, List.forall_mem_cons.2 ⟨r14_22, List.forall_mem_cons.2 ⟨r14_23, List.forall_mem_cons.2 ⟨r14_24, List.forall_mem_cons.2 ⟨r14_25, List.forall_mem_cons.2 ⟨r14_26, List.forall_mem_cons.2 ⟨r14_27, List.forall_mem_cons.2 ⟨r14_28, List.forall_mem_cons.2 ⟨r14_29, List.forall_mem_cons.2 ⟨r14_30, List.forall_mem_cons.2 ⟨r14_31, List.forall_mem_cons.2 ⟨r14_32, List.forall_mem_cons.2 ⟨r14_33, List.forall_mem_cons.2 ⟨r14_34, List.forall_mem_cons.2 ⟨r14_35, List.forall_mem_cons.2 ⟨r14_36, List.forall_mem_cons.2 ⟨r14_37, List.forall_mem_cons.2 ⟨r14_38, List.forall_mem_cons.2 ⟨r14_39, List.forall_mem_cons.2 ⟨r14_40, List.forall_mem_cons.2 ⟨r14_41, List.forall_mem_cons.2 ⟨r14_42, List.forall_mem_cons.2 ⟨r14_43, List.forall_mem_cons.2 ⟨r14_44, fun q hq => by cases hq⟩⟩⟩⟩⟩⟩⟩⟩⟩⟩⟩⟩⟩⟩⟩⟩⟩⟩⟩⟩⟩⟩⟩⟩⟩⟩⟩⟩⟩⟩⟩⟩⟩⟩⟩⟩⟩⟩⟩⟩⟩⟩⟩⟩⟩

noncomputable def findRow (l : List (List UInt8 × Nat × Nat)) (t : List UInt8) : Option (Nat × Nat) :=
  List.rec (motive := fun _ => Option (Nat × Nat)) none (fun q _ ih => cond (eqBytes q.1 t) (some q.2) ih) l
theorem findRow_some {l : List (List UInt8 × Nat × Nat)} {t : List UInt8} {r : Nat × Nat} (h : findRow l t = some r) : (t, r) ∈ l := by
  induction l with
  | nil => cases h
  | cons q l ih =>
    have h : cond (eqBytes q.1 t) (some q.2) (findRow l t) = some r := h
    cases hb : eqBytes q.1 t
    · rw [hb] at h; exact List.mem_cons_of_mem _ (ih h)
    · rw [hb] at h
      rw [eqBytes_eq] at hb
      have e : q.1 = t := by simpa using hb
      obtain ⟨a, b⟩ := q
      simp only at e
      cases h
      subst e
      exact List.mem_cons_self

noncomputable def ans14 (h : Tr Blk) (nx : Nat) (q : Option (Nat × Nat)) : Out :=
  match q with
  | some (code, at') => cond (Nat.beq code 0) (some (.tuple ⟨[.pointer (some ⟨nx, 4, none⟩), .int .i64 (.ofNat at'), .int .u8 (.ofNat code)]⟩, h, nx + 1)) (some (.tuple ⟨[.pointer none, .int .i64 (.ofNat at'), .int .u8 (.ofNat code)]⟩, h, nx))
  | none => none
noncomputable def orc14 : Orc := fun g args h nx =>
  match args with
  | [p, .int .u8 (.ofNat 0), .string s] => cond (Nat.beq g 14 && (eqCell p sPtr && subB hsL h)) (ans14 h nx (findRow rows s.data.toList)) none
  | _ => none

theorem Rel.name {P : Program} {m : Mp} {h : Tr Blk} {nx cb : Nat} {w : World} (hr : Rel P m h nx w) (hc : cb < w.heap.size) : Rel P (upd m nx (cb, 0)) h (nx + 1) w := by
  have htop := hr.top nx (Nat.le_refl _)
  have hold := upd_old (m := m) (i := nx) (cb, 0) htop
  have hne : ∀ b k, h.get b = some k → k ≠ .dead → b ≠ nx := by
    intro b k hb hd e
    subst e
    have hL := hr.live b k hb
    cases k with
    | row e own cs => obtain ⟨c1, c2, arr, h1, _⟩ := hL; rw [htop] at h1; cases h1
    | iter s p => obtain ⟨c1, c2, h1, _⟩ := hL; rw [htop] at h1; cases h1
    | dead => exact hd rfl
  refine ⟨fun b k hb => (hr.live b k hb).same hold (fun _ _ _ => rfl), fun b b' k k' hb hb' hd hd' hn x x' hx hx' => ?_, fun b hb => ?_, fun b x hx => ?_⟩
  · unfold upd at hx hx'
    rw [if_neg (hne b k hb hd)] at hx
    rw [if_neg (hne b' k' hb' hd')] at hx'
    exact hr.inj b b' k k' hb hb' hd hd' hn x x' hx hx'
  · unfold upd
    rw [if_neg (by omega)]
    exact hr.top b (by omega)
  · unfold upd at hx
    split at hx
    · cases hx; exact hc
    · exact hr.lt b x hx

theorem args_three {m : Mp} {x y z : Value} {args' : Array Value} (h : L2 (EV m) [x, y, z] args'.toList) : ∃ x' y' z', args' = #[x', y', z'] ∧ EV m x x' ∧ EV m y y' ∧ EV m z z' := by
  obtain ⟨l⟩ := args'
  cases h with | cons h1 h2 =>
  cases h2 with | cons h2 h3 =>
  cases h3 with | cons h3 h4 =>
  cases h4
  exact ⟨_, _, _, rfl, h1, h2, h3⟩

theorem ok14_some {code at' : Nat} {o : Out} (h : ok14 code at' o = true) : (code ≠ 0 ∧ ∃ h1 nx1, o = some (.tuple ⟨[.pointer none, .int .i64 (.ofNat at'), .int .u8 (.ofNat code)]⟩, h1, nx1)) ∨
    (code = 0 ∧ ∃ b h1 nx1, 401 ≤ b ∧ o = some (.tuple ⟨[.pointer (some ⟨b, 4, none⟩), .int .i64 (.ofNat at'), .int .u8 (.ofNat code)]⟩, h1, nx1)) := by
  unfold ok14 at h
  split at h
  · simp only [Bool.and_eq_true, Bool.not_eq_true'] at h
    obtain ⟨h1, h2, h3⟩ := h
    rw [beq_iff h2, beq_iff h3]
    exact .inl ⟨(fun e => by rw [e] at h1; cases h1), _, _, rfl⟩
  · simp only [Bool.and_eq_true] at h
    obtain ⟨h1, h2, h3, h4⟩ := h
    rw [beq_iff h3, beq_iff h4]
    exact .inr ⟨beq_iff h1, _, _, _, ble_iff h2, rfl⟩
  · cases h

theorem orc14_ok : CallOk Fafg.prog fun _ g args h nx => orc14 g args h nx := by
  intro fl g args h nx v h' nx' hv0
  have hv1 : orc14 g args h nx = some (v, h', nx') := hv0
  clear hv0
  unfold orc14 at hv1
  split at hv1
  · rename_i p s
    obtain ⟨hc, hv⟩ := cond_some hv1
    clear hv1
    simp only [Bool.and_eq_true] at hc
    obtain ⟨c1, c2, c3⟩ := hc
    have c1 := beq_iff c1
    have c2 := eqCell_eq c2
    subst c1
    subst c2
    unfold ans14 at hv
    split at hv
    · rename_i code at' hq
      have hmem := findRow_some hq
      have hok := rows_ok _ hmem
      have hstr : (⟨⟨s.data.toList⟩⟩ : ByteArray) = s := rfl
      have start : ∀ (v1 : Value) (h1 : Tr Blk) (nx1 : Nat), run14 s.data.toList = some (v1, h1, nx1) → Enters Fafg.prog 14 ∧ ∀ (m : Mp) (args' : Array Value) (w : World), L2 (EV m) [sPtr, .int .u8 (.ofNat 0), .string s] args'.toList → Rel Fafg.prog m h nx w →
          Calls Fafg.prog 14 args' w (Ended Fafg.prog 401 (cut 401 m) 401 w v1 h1 nx1) := by
        intro v1 h1 nx1 hrun
        obtain ⟨he, hcall⟩ := callRun_sound e1_ok 3000 _ _ _ _ _ _ _ _ hrun
        refine ⟨he, fun m args' w ha hr => ?_⟩
        obtain ⟨x', y', z', rfl, hx, hy, hz⟩ := args_three ha
        have hy := (hy.vr (by simp)).int
        have hz := (hz.vr (by simp)).string
        subst hy
        subst hz
        exact hcall (cut 401 m) #[x', _, _] w (.cons (sPtr_cut hx) (.cons (.inr (.grd rfl)) (.cons (.inr (.grd rfl)) .nil))) ((hr.less (sub_less c3)).cut hs_low)
      rcases ok14_some hok with ⟨hne, h1, nx1, hrun⟩ | ⟨he0, b, h1, nx1, hb, hrun⟩
      · have hcode : Nat.beq code 0 = false := by
          cases hbe : Nat.beq code 0
          · rfl
          · exact (hne (beq_iff hbe)).elim
        rw [hcode] at hv
        cases hv
        obtain ⟨he, hcall⟩ := start _ _ _ hrun
        refine ⟨he, fun m args' w ha hr => (hcall m args' w ha hr).mono fun e w' hend => ?_⟩
        obtain ⟨m1, v', rfl, f1, f2, f3, f4, f5⟩ := hend
        obtain ⟨y, hy, rfl⟩ := f1.tuple
        cases hy with | cons a1 hy =>
        cases hy with | cons a2 hy =>
        cases hy with | cons a3 hy =>
        cases hy
        have e1 := (VR.one a1).nilPtr
        have e2 := (VR.one a2).int
        have e3 := (VR.one a3).int
        subst e1
        subst e2
        subst e3
        exact ⟨m, _, rfl, .tup (.cons (.cell (.gr rfl)) (.cons (.cell (.gr rfl)) (.cons (.cell (.gr rfl)) .nil))), stp_all f2, hr.keep f2.size (kept_all f2), Nat.le_refl _, fun _ _ => rfl⟩
      · have he0 : code = 0 := he0
        subst he0
        have hv : some (Value.tuple ⟨[.pointer (some ⟨nx, 4, none⟩), .int .i64 (.ofNat at'), .int .u8 (.ofNat 0)]⟩, h, nx + 1) = some (v, h', nx') := hv
        cases hv
        obtain ⟨he, hcall⟩ := start _ _ _ hrun
        refine ⟨he, fun m args' w ha hr => (hcall m args' w ha hr).mono fun e w' hend => ?_⟩
        obtain ⟨m1, v', rfl, f1, f2, f3, f4, f5⟩ := hend
        obtain ⟨y, hy, rfl⟩ := f1.tuple
        cases hy with | cons a1 hy =>
        cases hy with | cons a2 hy =>
        cases hy with | cons a3 hy =>
        cases hy
        obtain ⟨cb, cap, hcb, e1⟩ := (VR.one a1).ptr
        have e2 := (VR.one a2).int
        have e3 := (VR.one a3).int
        subst e1
        subst e2
        subst e3
        have htop := hr.top nx (Nat.le_refl _)
        have hsz : w.heap.size ≤ cb := by
          rcases f2.new b _ hcb with q | q | ⟨b0, y, q1, q2, q3⟩
          · have := (cut_old q).1; omega
          · exact q
          · have := (cut_old q2).1; omega
        have hS := stp_all (fl := fl) f2
        refine ⟨upd m nx (cb, 0), _, rfl, .tup (.cons (.cell (.ptr (upd_same _ _ _))) (.cons (.cell (.gr rfl)) (.cons (.cell (.gr rfl)) .nil))), ⟨hS.os, hS.tape, hS.output, hS.size, hS.kept, upd_old _ htop, fun b1 x hx => ?_⟩, (hr.keep f2.size (kept_all f2)).name (f3.lt _ _ hcb), Nat.le_succ _, fun b1 hb1 => by unfold upd; rw [if_neg (by omega)]⟩
        unfold upd at hx
        split at hx
        · cases hx; exact .inr (.inl hsz)
        · exact .inl hx
    · cases hv
  · cases hv1

noncomputable def orc2 : Orc := fun g args h nx =>
  match orc21 g args h nx with
  | some r => some r
  | none => orc14 g args h nx
theorem orc2_ok : CallOk Fafg.prog fun _ g args h nx => orc2 g args h nx := by
  intro fl g args h nx v h' nx' hv
  have hv : orc2 g args h nx = some (v, h', nx') := hv
  unfold orc2 at hv
  split at hv
  · rename_i r hr
    cases hv
    exact orc21_ok fl g args h nx v h' nx' hr
  · exact orc14_ok fl g args h nx v h' nx' hv
noncomputable def E2 : Env := env orc2
theorem e2_ok : EnvOk E2 := envOk orc2_ok

/-! ### The law -/
noncomputable def run5 (i : Nat) : Out := callRun E2 300 0 5 [.int .u8 (.ofNat i)] .nil 0
noncomputable def allIn (lo n : Nat) : Bool := Nat.rec (motive := fun _ => Bool) true (fun k ih => cond (ok19 (run5 (Nat.add lo k))) ih false) n
theorem allIn_ok (lo : Nat) : ∀ n, allIn lo n = true → ∀ i, lo ≤ i → i < lo + n → ok19 (run5 i) = true := by
  intro n
  induction n with
  | zero => intro _ i h1 h2; omega
  | succ n ih =>
    intro h i h1 h2
    have h : cond (ok19 (run5 (Nat.add lo n))) (allIn lo n) false = true := h
    cases hc : ok19 (run5 (Nat.add lo n))
    · rw [hc] at h; cases h
    · rw [hc] at h
      by_cases e : i = lo + n
      · subst e; exact hc
      · exact ih h i h1 (by omega)
theorem law_of {i : Nat} (h : ok19 (run5 i) = true) (w : World) : Calls Fafg.prog 5 #[.int .u8 (.ofNat i)] w fun e w' => e = .returned (.bool true) ∧ Below w.heap.size w w' := by
  obtain ⟨h1, nx1, hrun⟩ := ok19_some h
  obtain ⟨_, hcall⟩ := callRun_sound e2_ok 300 _ _ _ _ _ _ _ _ hrun
  refine (hcall (fun _ => none) #[.int .u8 (.ofNat i)] w (.cons (.inr (.grd rfl)) .nil) ⟨fun b k hb => ?_, fun b b' k k' hb => ?_, fun _ _ => rfl, fun b x hx => by cases hx⟩).mono fun e w' hend => ?_
  · rw [Tr.get_nil] at hb; cases hb
  · rw [Tr.get_nil] at hb; cases hb
  · obtain ⟨m1, v', rfl, f1, f2, _⟩ := hend
    rw [f1.bool]
    exact ⟨rfl, f2.os, f2.tape, f2.output, f2.size, fun k hk => f2.kept k hk fun b x _ hx => by cases hx⟩
end Go.Proofs.Ygcfaf.Mach
