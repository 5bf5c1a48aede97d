/- What the runs say of the model: the schema parsed, checked; a record's text parsed. -/
import Derived.Test.YgcfafO2
import Derived.Test.YgcfafO3
namespace Go.Proofs.Ygcfaf.Mach
open Go
set_option linter.unusedVariables false
set_option linter.unusedSimpArgs false

/-! ### The numbers from n on forgotten -/
def cut (n : Nat) (m : Mp) : Mp := fun b => if b < n then m b else none
def lowC (n : Nat) (v : Value) : Bool :=
  match v with
  | .pointer (some a) => Nat.blt a.block n
  | .slice (some a) _ _ => Nat.blt a.block n
  | _ => true
def lowK (n : Nat) (k : Blk) : Bool :=
  match k with
  | .row _ _ cs => cs.all (lowC n)
  | _ => true
theorem cut_some {n : Nat} {m : Mp} {b : Nat} {x : Nat × Nat} (h : m b = some x) (hb : b < n) : cut n m b = some x := by simp [cut, hb, h]
theorem cut_old {n : Nat} {m : Mp} {b : Nat} {x : Nat × Nat} (h : cut n m b = some x) : b < n ∧ m b = some x := by
  unfold cut at h
  split at h
  · rename_i hb; exact ⟨hb, h⟩
  · cases h
theorem CR.cut {n : Nat} {m : Mp} {v v' : Value} (h : CR m v v') (hl : lowC n v = true) : CR (cut n m) v v' := by
  cases h with
  | gr h => exact .gr h
  | ptr h => exact .ptr (cut_some h (blt_iff hl))
  | slc h => exact .slc (cut_some h (blt_iff hl))
  | slk h => exact .slk (cut_some h (blt_iff hl))
theorem L2.cut {n : Nat} {m : Mp} {x y : List Value} (h : L2 (CR m) x y) (hl : x.all (lowC n) = true) : L2 (CR (cut n m)) x y := by
  induction h with
  | nil => exact .nil
  | cons hab _ ih =>
    simp only [List.all_cons, Bool.and_eq_true] at hl
    exact .cons (hab.cut hl.1) (ih hl.2)
theorem Rel.cut {P : Program} {m : Mp} {h : Tr Blk} {nx n : Nat} {w : World} (hr : Rel P m h nx w) (hl : ∀ b k, h.get b = some k → b < n ∧ lowK n k = true) : Rel P (cut n m) h n w := by
  refine ⟨fun b k hb => ?_, fun b b' k k' hb hb' hd hd' hne x x' hx hx' => hr.inj b b' k k' hb hb' hd hd' hne x x' (cut_old hx).2 (cut_old hx').2, fun b hb => by simp only [Mach.cut]; rw [if_neg (by omega)], fun b x hx => hr.lt b x (cut_old hx).2⟩
  obtain ⟨hlt, hlow⟩ := hl b k hb
  have hL := hr.live b k hb
  cases k with
  | row e own cs =>
    obtain ⟨cb, cap, arr, h1, h2, h3, h4, h5⟩ := hL
    exact ⟨cb, cap, arr, cut_some h1 hlt, h2, h3, h4.cut hlow, h5⟩
  | iter s pos =>
    obtain ⟨cb, cap, h1, h2⟩ := hL
    exact ⟨cb, cap, cut_some h1 hlt, h2⟩
  | dead => trivial

/-! ### The schema in memory -/
theorem hs_mk : ((Tr.nil : Tr Blk).setK blk0 20 0 fun t => t.setK blk1 20 210 fun t => t.setK blk2 20 364 fun t => some t) = some hs := by kernel_rfl
theorem hs_get (j : Nat) : hs.get j = if j = 364 then some blk2 else if j = 210 then some blk1 else if j = 0 then some blk0 else none := by
  obtain ⟨t1, h1, g1⟩ := Tr.setK_some _ _ _ _ _ hs_mk
  obtain ⟨t2, h2, g2⟩ := Tr.setK_some _ _ _ _ _ h1
  obtain ⟨t3, h3, g3⟩ := Tr.setK_some _ _ _ _ _ h2
  cases h3
  rw [g3, g2, g1, Tr.get_nil]
theorem hs_cases {b : Nat} {k : Blk} (h : hs.get b = some k) : (b = 364 ∧ k = blk2) ∨ (b = 210 ∧ k = blk1) ∨ (b = 0 ∧ k = blk0) := by
  rw [hs_get] at h
  split at h
  · rename_i e; cases h; exact .inl ⟨e, rfl⟩
  · split at h
    · rename_i e; cases h; exact .inr (.inl ⟨e, rfl⟩)
    · split at h
      · rename_i e; cases h; exact .inr (.inr ⟨e, rfl⟩)
      · cases h
theorem low0 : lowK 401 blk0 = true := by kernel_rfl
theorem low1 : lowK 401 blk1 = true := by kernel_rfl
theorem low2 : lowK 401 blk2 = true := by kernel_rfl
theorem hs_low : ∀ b k, hs.get b = some k → b < 401 ∧ lowK 401 k = true := by
  intro b k h
  rcases hs_cases h with ⟨rfl, rfl⟩ | ⟨rfl, rfl⟩ | ⟨rfl, rfl⟩
  · exact ⟨by decide, low2⟩
  · exact ⟨by decide, low1⟩
  · exact ⟨by decide, low0⟩
theorem subB_cons {p : Nat × Blk} {l : List (Nat × Blk)} {h : Tr Blk} (hs : subB (p :: l) h = true) : h.get p.1 = some p.2 ∧ subB l h = true := by
  have hs : cond (match h.get p.1 with | some k => eqBlk k p.2 | none => false) (subB l h) false = true := hs
  cases hc : (match h.get p.1 with | some k => eqBlk k p.2 | none => false)
  · rw [hc] at hs; cases hs
  · rw [hc] at hs
    refine ⟨?_, hs⟩
    split at hc
    · rename_i k hk; rw [hk, eqBlk_eq hc]
    · cases hc
theorem sub_less {h : Tr Blk} (hb : subB hsL h = true) : ∀ b k, hs.get b = some k → h.get b = some k := by
  intro b k hk
  obtain ⟨h0, hb⟩ := subB_cons hb
  obtain ⟨h1, hb⟩ := subB_cons hb
  obtain ⟨h2, hb⟩ := subB_cons hb
  rcases hs_cases hk with ⟨rfl, rfl⟩ | ⟨rfl, rfl⟩ | ⟨rfl, rfl⟩
  · exact h2
  · exact h1
  · exact h0

/-! ### Nothing that was there is written -/
theorem kept_all {m m1 : Mp} {n : Nat} {w w' : World} (h : Stp n (cut n m) w m1 w') : ∀ k, k < w.heap.size → w'.heap[k]? = w.heap[k]? := fun k hk =>
  h.kept k hk fun b x hb hx => absurd (cut_old hx).1 (by omega)
theorem stp_all {fl : Nat} {m m1 : Mp} {n : Nat} {w w' : World} (h : Stp n (cut n m) w m1 w') : Stp fl m w m w' :=
  ⟨h.os, h.tape, h.output, h.size, fun k hk _ => kept_all h k hk, fun _ _ h => h, fun _ _ h => .inl h⟩

theorem args_one {m : Mp} {x : Value} {args' : Array Value} (h : L2 (EV m) [x] args'.toList) : ∃ y, args' = #[y] ∧ EV m x y := by
  obtain ⟨l⟩ := args'
  cases h with | cons h1 h2 =>
  cases h2
  exact ⟨_, rfl, h1⟩
theorem sPtr_cut {m : Mp} {y : Value} (h : EV m sPtr y) : EV (cut 401 m) sPtr y := by
  have h := h.vr (by simp [sPtr])
  obtain ⟨cb, cap, h1, rfl⟩ := VR.ptr h
  exact .inr (.one (.cell (.ptr (cut_some h1 (by decide)))))

theorem ok19_some {o : Out} (h : ok19 o = true) : ∃ h1 nx1, o = some (.bool true, h1, nx1) := by
  unfold ok19 at h
  split at h
  · exact ⟨_, _, rfl⟩
  · cases h
theorem orc19_ok : CallOk Fafg.prog fun _ g args h nx => orc19 g args h nx := by
  intro fl g args h nx v h' nx' hv
  have hv : cond (Nat.beq g 19 && (eqL eqCell args [sPtr] && subB hsL h)) (some (.bool true, h, nx)) none = some (v, h', nx') := hv
  obtain ⟨hc, hv⟩ := cond_some hv
  cases hv
  simp only [Bool.and_eq_true] at hc
  obtain ⟨c1, c2, c3⟩ := hc
  have c1 := beq_iff c1
  have c2 := eqL_eq (fun _ _ => eqCell_eq) _ _ c2
  subst c1
  subst c2
  obtain ⟨h1, nx1, hrun⟩ := ok19_some r19
  obtain ⟨he, hcall⟩ := callRun_sound e0_ok 3000 _ _ _ _ _ _ _ _ hrun
  refine ⟨he, fun m args' w ha hr => ?_⟩
  obtain ⟨y, rfl, hy⟩ := args_one ha
  refine (hcall (cut 401 m) #[y] w (.cons (sPtr_cut hy) .nil) ((hr.less (sub_less c3)).cut hs_low)).mono fun e w' hend => ?_
  obtain ⟨m1, v', rfl, f1, f2, f3, f4, f5⟩ := hend
  rw [f1.bool]
  exact ⟨m, _, rfl, .grd rfl, stp_all f2, hr.keep f2.size (kept_all f2), Nat.le_refl _, fun _ _ => rfl⟩
theorem e1_ok : EnvOk E1 := envOk orc19_ok

/-! ### The schema's text -/
noncomputable def orc21 : Orc := fun g args h nx => cond (Nat.beq g 21 && (eqL eqCell args [.string ⟨⟨txt⟩⟩] && Nat.beq nx 0)) (some (v21, hs, 401)) none
theorem ok21_some {o : Out} (h : ok21 o = true) : ∃ h1, o = some (v21, h1, 401) ∧ subB hsL h1 = true := by
  unfold ok21 at h
  split at h
  · rename_i v h1 nx
    simp only [Bool.and_eq_true] at h
    rw [eqVal_eq h.1, beq_iff h.2.1]
    exact ⟨h1, rfl, h.2.2⟩
  · cases h
theorem orc21_ok : CallOk Fafg.prog fun _ g args h nx => orc21 g args h nx := by
  intro fl g args h nx v h' nx' hv
  have hv : cond (Nat.beq g 21 && (eqL eqCell args [.string ⟨⟨txt⟩⟩] && Nat.beq nx 0)) (some (v21, hs, 401)) none = some (v, h', nx') := hv
  obtain ⟨hc, hv⟩ := cond_some hv
  cases hv
  simp only [Bool.and_eq_true] at hc
  obtain ⟨c1, c2, c3⟩ := hc
  have c1 := beq_iff c1
  have c2 := eqL_eq (fun _ _ => eqCell_eq) _ _ c2
  have c3 := beq_iff c3
  subst c1
  subst c2
  subst c3
  obtain ⟨h1, hrun, hsub⟩ := ok21_some r21
  obtain ⟨he, hcall⟩ := callRun_sound e0_ok 3000 _ _ _ _ _ _ _ _ hrun
  refine ⟨he, fun m args' w ha hr => ?_⟩
  refine (hcall m args' w ha (hr.less fun b k hb => by rw [Tr.get_nil] at hb; cases hb)).mono fun e w' hend => ?_
  obtain ⟨m1, v', rfl, f1, f2, f3, f4, f5⟩ := hend
  refine ⟨m1, v', rfl, f1, ⟨f2.os, f2.tape, f2.output, f2.size, fun k hk hn => f2.kept k hk fun b x hb hx => ?_, f2.old, fun b x hx => ?_⟩, f3.less (sub_less hsub), f4, f5⟩
  · rw [hr.top b (Nat.zero_le _)] at hx; cases hx
  · rcases f2.new b x hx with q | q | ⟨b0, y, q1, q2, q3⟩
    · exact .inl q
    · exact .inr (.inl q)
    · rw [hr.top b0 (Nat.zero_le _)] at q2; cases q2
end Go.Proofs.Ygcfaf.Mach
