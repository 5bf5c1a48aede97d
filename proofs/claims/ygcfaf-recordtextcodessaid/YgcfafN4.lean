/- ████ THE MACHINE IS SOUND: the code ████ -/
import Derived.Test.YgcfafN3
namespace Go.Proofs.Ygcfaf.Mach
open Go
set_option linter.unusedVariables false
set_option linter.unusedSimpArgs false
variable {α β R : Type}

/-- A loop whose rounds are counted down. -/
theorem wp_loop_n {P : Program} {Q : Exit → Act → World → Prop} {c : Code} (J : Nat → Act → World → Prop) (round : ∀ k a w, J k a w → c.wp P (Exit.then (fun a' w' => ∃ k', k' < k ∧ J k' a' w') Q) a w) {k : Nat} {a : Act} {w : World} (h0 : J k a w) : (Code.loop c).wp P Q a w := by
  intro b kk cs
  have key : ∀ n a w, J n a w → ∃ e a' w', Q e a' w' ∧ Arrives P (lone (b.at a (.code c :: .inLoop c :: kk)) cs w) b kk cs e a' w' := by
    intro n
    induction n using Nat.strongRecOn with
    | _ n ih =>
      intro a w hJ
      obtain ⟨e, a1, w1, hq, harr⟩ := round n a w hJ b (.inLoop c :: kk) cs
      have other : e ≠ .normal → Q e a1 w1 → ∃ e a' w', Q e a' w' ∧ Arrives P (lone (b.at a (.code c :: .inLoop c :: kk)) cs w) b kk cs e a' w' := fun hne hq =>
        ⟨e, a1, w1, hq, .pass (x := .inLoop c) rfl (fun _ _ => .inl hne) harr⟩
      cases e with
      | normal =>
        obtain ⟨k', hlt, hJ'⟩ := hq
        obtain ⟨e2, a2, w2, hq2, harr2⟩ := ih k' hlt a1 w1 hJ'
        exact ⟨e2, a2, w2, hq2, .of_steps (Steps.trans harr (.one step_inLoop)) harr2⟩
      | exit id => exact other (by simp) hq
      | goto l => exact other (by simp) hq
      | ret => exact other (by simp) hq
      | panic ch => exact other (by simp) hq
      | outgrown => exact other (by simp) hq
  obtain ⟨e, a', w', hq, harr⟩ := key k a w h0
  exact ⟨e, a', w', hq, .of_steps (.one step_loop) harr⟩

theorem exOf_normal {e : Ex} (h : exOf e = .normal) : e = .normal := by cases e <;> first | rfl | cases h

section
variable {E : Env} (hE : EnvOk E)

theorem seq_post {P : Program} {fl : Nat} {m : Mp} {n nx : Nat} {w : World} {e e1 : Ex} {s' s1 : St} {K : Act → World → Prop} {x : Exit} {a1 : Act} {w1 : World} (hp : Post P fl m n nx w e1 s1 x a1 w1) (hn : e1 = .normal → After P fl m n nx w s1 a1 w1 → K a1 w1) (he : e1 ≠ .normal → e1 = e ∧ s1 = s') :
    Exit.then K (Post P fl m n nx w e s') x a1 w1 := by
  obtain ⟨rfl, hA⟩ := hp
  cases e1 with
  | normal => exact hn rfl hA
  | exit i =>
    obtain ⟨rfl, rfl⟩ := he (by simp)
    exact ⟨rfl, hA⟩
  | ret =>
    obtain ⟨rfl, rfl⟩ := he (by simp)
    exact ⟨rfl, hA⟩

theorem bSeq_some {self : Self} {f fl n : Nat} {b : Code} {o : Option (Ex × St)} {e : Ex} {s' : St} (h : bSeq self f fl n b o = some (e, s')) : ∃ e1 s1, o = some (e1, s1) ∧ (e1 = .normal → self f fl n b s1 = some (e, s')) ∧ (e1 ≠ .normal → e1 = e ∧ s1 = s') := by
  unfold bSeq at h
  split at h
  · rename_i s1
    exact ⟨.normal, s1, rfl, fun _ => h, fun h => (h rfl).elim⟩
  · rename_i r hn
    subst h
    exact ⟨e, s', rfl, fun he => by subst he; exact (hn _ rfl).elim, fun _ => ⟨rfl, rfl⟩⟩

include hE in
theorem run_sound : ∀ fuel, SelfOk E (run E fuel) := by
  intro fuel
  induction fuel using Nat.strongRecOn with
  | _ fuel ih =>
  cases fuel with
  | zero => intro f fl n c s e s' h; cases h
  | succ fuel =>
    have hself : SelfOk E (run E fuel) := ih fuel (Nat.lt_succ_self _)
    have hcall := call_sound hE hself
    intro f fl n c s e s' hv hok m a w hf hr
    have hv' : body E (run E fuel) f fl n c s = some (e, s') := hv
    cases c with
    | skip =>
      have hv' : some (Ex.normal, s) = some (e, s') := hv'
      cases hv'
      exact wp_skip ⟨rfl, m, Stp.refl _ _ _, hf, hr, Nat.le_refl _, fun _ _ => rfl⟩
    | seq x y =>
      have hv' : bSeq (run E fuel) f fl n y (run E fuel f fl n x s) = some (e, s') := hv'
      obtain ⟨e1, s1, h1, h2, h3⟩ := bSeq_some hv'
      simp only [codeOk, Bool.and_eq_true] at hok
      refine wp_seq (wp_mono (hself _ _ _ _ _ _ _ h1 hok.1 m a w hf hr) fun xx a1 w1 hp => seq_post hp (fun he hA => ?_) h3)
      obtain ⟨m1, g1, g2, g3, g4, g5⟩ := hA
      exact wp_mono (hself _ _ _ _ _ _ _ (h2 he) hok.2 m1 a1 w1 g2 g3) fun x2 a2 w2 hp2 => ⟨hp2.1, After.trans g1 g4 g5 hp2.2⟩
    | cond x y z =>
      have hv' : bCond (run E fuel) f fl n y z s (ev s.t x) = some (e, s') := hv'
      have hx := hf.ev x
      simp only [codeOk, Bool.and_eq_true] at hok
      unfold bCond at hv'
      split at hv'
      · rename_i hx'
        rw [hx'] at hx
        exact wp_cond_true (hx.vr (by simp)).bool (hself _ _ _ _ _ _ _ hv' hok.1 m a w hf hr)
      · rename_i hx'
        rw [hx'] at hx
        exact wp_cond_false (hx.vr (by simp)).bool (hself _ _ _ _ _ _ _ hv' hok.2 m a w hf hr)
      · cases hv'
    | block id x =>
      have hv' : bBlock id (run E fuel f fl n x s) = some (e, s') := hv'
      have hok : codeOk E.pl f x = true := hok
      unfold bBlock at hv'
      split at hv'
      · rename_i i s1 h1
        refine wp_block (wp_mono (hself _ _ _ _ _ _ _ h1 hok m a w hf hr) fun xx a1 w1 hp => ?_)
        obtain ⟨rfl, hA⟩ := hp
        show if i = id then _ else _
        cases hb : Nat.beq i id
        · rw [hb] at hv'
          cases hv'
          have hne : i ≠ id := fun h => by subst h; simp at hb
          rw [if_neg hne]
          exact ⟨rfl, hA⟩
        · rw [hb] at hv'
          cases hv'
          rw [if_pos (beq_iff hb)]
          exact ⟨rfl, hA⟩
      · rename_i r hn
        refine wp_block (wp_mono (hself _ _ _ _ _ _ _ hv' hok m a w hf hr) fun xx a1 w1 hp => ?_)
        obtain ⟨rfl, hA⟩ := hp
        cases e with
        | normal => exact ⟨rfl, hA⟩
        | exit i => exact (hn i s' hv').elim
        | ret => exact ⟨rfl, hA⟩
    | loop x =>
      have hok : codeOk E.pl f x = true := hok
      refine wp_loop_n (fun k a1 w1 => k ≤ fuel + 1 ∧ ∃ s1 m1, run E k f fl n (.loop x) s1 = some (e, s') ∧ FR m1 n s1.t a1 ∧ Rel E.P m1 s1.h s1.nx w1 ∧ Stp fl m w m1 w1 ∧ s.nx ≤ s1.nx ∧ ∀ b, b < s.nx → m1 b = m b) (fun k a1 w1 hJ => ?_) (k := fuel + 1) ⟨Nat.le_refl _, s, m, hv, hf, hr, Stp.refl _ _ _, Nat.le_refl _, fun _ _ => rfl⟩
      obtain ⟨hk, s1, m1, j1, j2, j3, j4, j5, j6⟩ := hJ
      cases k with
      | zero => cases j1
      | succ k =>
        have j1 : bSeq (run E k) f fl n (.loop x) (run E k f fl n x s1) = some (e, s') := j1
        obtain ⟨e1, s2, h1, h2, h3⟩ := bSeq_some j1
        refine wp_mono (ih k (by omega) _ _ _ _ _ _ _ h1 hok m1 a1 w1 j2 j3) fun xx a2 w2 hp => ?_
        have hp2 : Post E.P fl m n s.nx w e1 s2 xx a2 w2 := ⟨hp.1, After.trans j4 j5 j6 hp.2⟩
        refine seq_post hp2 (fun he hA => ?_) h3
        obtain ⟨m2, g1, g2, g3, g4, g5⟩ := hA
        exact ⟨k, Nat.lt_succ_self _, by omega, s2, m2, h2 he, g2, g3, g1, g4, g5⟩
    | exit i =>
      have hv' : some (Ex.exit i, s) = some (e, s') := hv'
      cases hv'
      exact wp_exit ⟨rfl, m, Stp.refl _ _ _, hf, hr, Nat.le_refl _, fun _ _ => rfl⟩
    | ret =>
      have hv' : some (Ex.ret, s) = some (e, s') := hv'
      cases hv'
      exact wp_ret ⟨rfl, m, Stp.refl _ _ _, hf, hr, Nat.le_refl _, fun _ _ => rfl⟩
    | region id ops draw =>
      cases draw with
      | false =>
        have hv' : opsRun E.P E.T fl n (callWith E (run E fuel)) ops.toList ops.toList s = some (e, s') := hv'
        refine wp_region ?_
        have h1 := opsRun_sound hE.types hcall (Q := Post E.P fl m n s.nx w e s') ops.toList 0 s m a w (fun j => by simp) hr hf hv' (fun a' w' he hA => ⟨by rw [he]; rfl, hA⟩)
        rw [Array.length_toList, ← List.range_eq_range'] at h1
        exact h1
      | true =>
        have hv' : bDraw E (run E fuel) fl n ops.toList s (lookPl E.pl f id) = some (e, s') := hv'
        have hok : drawOk ops (lookPl E.pl f id) = true := hok
        unfold bDraw at hv'
        split at hv'
        · rename_i hpl
          rw [hpl] at hok
          have hok : Region.lexB .any ops = true := hok
          have hC : Cls E.P fl m s.h s.nx w { w with drawn := w.drawn + 1 } := ⟨hr.drew _, Stp.drew _ (Stp.refl _ _ _)⟩
          refine wp_region_quiet (C := Cls E.P fl m s.h s.nx w) hE.mixed hok hC ?_
          refine quiRun_sound hE.types hcall hC ops.toList s.t a hf hv' fun t' a' he hs' hf' w' hw' => ?_
          subst he
          subst hs'
          exact ⟨rfl, m, hw'.2, hf', hw'.1, Nat.le_refl _, fun _ _ => rfl⟩
        · rename_i p hpl
          rw [hpl] at hok
          have hok : (Region.noSelect ops && pOk ops p ops.size (Array.replicate ops.size false) none) = true := hok
          simp only [Bool.and_eq_true] at hok
          unfold bPlan at hv'
          split at hv'
          · rename_i s2 hp
            obtain ⟨rfl, rfl⟩ : Ex.normal = e ∧ s2 = s' := by cases hv'; exact ⟨rfl, rfl⟩
            rw [lenR_eq, Array.length_toList] at hp
            refine wp_region_any hE.mixed ?_
            refine (planRun_sound hE.types hcall hok.1 (Q := Post E.P fl m n s.nx w .normal s2) (fun c a w h => by cases h.1) p ops.size (Array.replicate ops.size false) ⟨s.t, s.h, s.nx + ops.size⟩ m a { w with drawn := w.drawn + 1 } (by simp) (Nat.le_refl _) (fun i hi => hr.top _ (Nat.le_add_right _ _)) ((hr.drew _).up (Nat.le_add_right _ _)) hf hp ?_).1 hok.2
            intro m' a' w' q1 q2 q3 q4 q5
            exact ⟨rfl, m', Stp.drew _ q1, q2, q3, Nat.le_trans (Nat.le_add_right _ _) q4, q5⟩
          · cases hv'
        · cases hv'
    | rangeFunc _ _ _ _ => cases hv'
    | scope _ => cases hv'
    | label _ => cases hv'
    | goto _ => cases hv'
    | refuse _ => cases hv'

include hE in
/-- ████ A CALL THAT THE MACHINE HAS RUN ████ -/
theorem callRun_sound (fuel : Nat) : CallOk E.P (callRun E fuel) := call_sound hE (run_sound hE fuel)
end
end Go.Proofs.Ygcfaf.Mach
