/- The machine's plans: every order of a region that writes. -/
import Derived.Test.YgcfafN1
namespace Go.Proofs.Ygcfaf.Mach
open Go
set_option linter.unusedVariables false
set_option linter.unusedSimpArgs false
variable {α β R : Type}

/-! ### What is found alike is alike -/
theorem bytes_eq {x y : ByteArray} (h : eqBytes x.data.toList y.data.toList = true) : x = y := by
  rw [eqBytes_eq] at h
  exact WideShapes.bytes_inj (by simpa using h)
theorem eqCell_eq {a b : Value} (h : eqCell a b = true) : a = b := by
  unfold eqCell at h
  split at h
  · simp at h; rw [h]
  · simp only [Bool.and_eq_true, decide_eq_true_eq] at h; rw [h.1, beq_iff h.2]
  · simp only [Bool.and_eq_true, decide_eq_true_eq] at h; rw [h.1, beq_iff h.2]
  · rw [bytes_eq h]
  · rfl
  · simp only [Bool.and_eq_true] at h; rw [beq_iff h.1, beq_iff h.2]
  · simp only [Bool.and_eq_true] at h; rw [beq_iff h.1, beq_iff h.2]
  · simp only [Bool.and_eq_true] at h; rw [beq_iff h.1, beq_iff h.2.1, beq_iff h.2.2.1, beq_iff h.2.2.2]
  · cases h
theorem eqL_eq {e : α → α → Bool} (he : ∀ a b, e a b = true → a = b) : ∀ (x y : List α), eqL e x y = true → x = y := by
  intro x
  induction x with
  | nil => intro y h; cases y with
    | nil => rfl
    | cons b y => cases h
  | cons a x ih =>
    intro y h
    cases y with
    | nil => cases h
    | cons b y =>
      have h : cond (e a b) (eqL e x y) false = true := h
      cases hb : e a b
      · rw [hb] at h; cases h
      · rw [hb] at h
        rw [he a b hb, ih y h]
theorem eqVal1_eq {a b : Value} (h : eqVal1 a b = true) : a = b := by
  unfold eqVal1 at h
  split at h
  · rw [eqL_eq (fun _ _ => eqCell_eq) _ _ h]
  · exact eqCell_eq h
theorem eqVal_eq {a b : Value} (h : eqVal a b = true) : a = b := by
  unfold eqVal at h
  split at h
  · rw [eqL_eq (fun _ _ => eqVal1_eq) _ _ h]
  · exact eqVal1_eq h
theorem eqBlk_eq {a b : Blk} (h : eqBlk a b = true) : a = b := by
  unfold eqBlk at h
  split at h
  · simp only [Bool.and_eq_true, beq_iff_eq] at h
    rw [beq_iff h.1, h.2.1, eqL_eq (fun _ _ => eqCell_eq) _ _ h.2.2]
  · simp only [Bool.and_eq_true] at h
    rw [beq_iff h.1, bytes_eq h.2]
  · rfl
  · cases h
theorem eqO_eq {e : α → α → Bool} (he : ∀ a b, e a b = true → a = b) {x y : Option α} (h : eqO e x y = true) : x = y := by
  unfold eqO at h
  split at h
  · rfl
  · rw [he _ _ h]
  · cases h
theorem eqTr_eq {e : α → α → Bool} (he : ∀ a b, e a b = true → a = b) : ∀ (x y : Tr α), eqTr e x y = true → x = y := by
  intro x
  induction x with
  | nil => intro y h; cases y with
    | nil => rfl
    | node v l r => cases h
  | node v l r ihl ihr =>
    intro y h
    cases y with
    | nil => cases h
    | node v' l' r' =>
      have h : cond (eqO e v v') (cond (eqTr e l l') (eqTr e r r') false) false = true := h
      cases h1 : eqO e v v'
      · rw [h1] at h; cases h
      · rw [h1] at h
        simp only [cond_true] at h
        cases h2 : eqTr e l l'
        · rw [h2] at h; cases h
        · rw [h2] at h
          rw [eqO_eq he h1, ihl l' h2, ihr r' h]
theorem eqSt_eq {a b : St} (h : eqSt a b = true) : a = b := by
  obtain ⟨t, hh, nx⟩ := a
  obtain ⟨t', hh', nx'⟩ := b
  unfold eqSt at h
  simp only [Bool.and_eq_true] at h
  rw [beq_iff h.1, eqTr_eq (fun _ _ => eqVal_eq) _ _ h.2.1, eqTr_eq (fun _ _ => eqBlk_eq) _ _ h.2.2]

/-- A plan fits a region. -/
def pOk (ops : Array Oper) : Plan → Nat → Array Bool → Option (List Nat) → Bool
  | .fin, _, l, none => (Region.ready .any ops l).isEmpty
  | .take i p, f + 1, l, none => Region.free .any ops l i && ((Region.ready .any ops l).contains i && pOk ops p f (l.setIfInBounds i true) none)
  | .alt i p q, f + 1, l, none => match Region.ready .any ops l with
    | r :: rs => Nat.beq r i && (pOk ops p f (l.setIfInBounds i true) none && pOk ops q (f + 1) l (some rs))
    | [] => false
  | .alt i p q, f + 1, l, some (r :: rs) => Nat.beq r i && (pOk ops p f (l.setIfInBounds i true) none && pOk ops q (f + 1) l (some rs))
  | .no, _, _, some [] => true
  | _, _, _, _ => false

section
variable {P : Program} {T : List (Nat × TyR)} (hT : ∀ i r, tl T i = some r → TyOk P i r)
variable {fl n : Nat} {call : CallF} (hcall : CallOk P call)

/-- What stands behind an operation of a plan. -/
def AfterP (P : Program) (fl : Nat) (m : Mp) (n nx id : Nat) (w : World) (s : St) (a' : Act) (w' : World) : Prop :=
  ∃ m', Stp fl m w m' w' ∧ FR m' n s.t a' ∧ Rel P m' s.h s.nx w' ∧ nx ≤ s.nx ∧ ∀ b, b < nx → b ≠ id → m' b = m b

include hT hcall in
theorem opRunP_sound {m : Mp} {h : Tr Blk} {nx id : Nat} {w : World} (hr : Rel P m h nx w) (hid : m id = none) (hlt : id < nx) {t : Tr Value} {a : Act} (hf : FR m n t a) {ops : Array Oper} {o : Oper} {k : St → Option R} {r : R} (hv : opRunP P T fl n id call ops.toList o ⟨t, h, nx⟩ k = some r) {K : Act → World → Prop} {Q : Exit → Act → World → Prop}
    (hK : ∀ s a' w', k s = some r → AfterP P fl m n nx id w s a' w' → K a' w') :
    if Region.wanted o (yielded ops a.tmps) then o.wp P a w K Q ∨ (o.asks P a w ∧ LetsOut Q) else K (a.put o.dst undef) w := by
  have hv : cond (wantedL ops.toList t o) (opValP P T fl n id call o t h nx k) (put n t o.dst undef fun t => k ⟨t, h, nx⟩) = some r := hv
  rw [wantedL_eq hf ops o] at hv
  cases hw : Region.wanted o (yielded ops a.tmps)
  · rw [hw] at hv
    simp only [cond_false] at hv
    simp only [Bool.false_eq_true, if_false]
    obtain ⟨t', hk, hf'⟩ := put_sound hv hf (.inr (.undef m))
    exact hK _ _ _ hk ⟨m, Stp.refl _ _ _, hf', hr, Nat.le_refl _, fun _ _ _ => rfl⟩
  · rw [hw] at hv
    simp only [cond_true] at hv
    simp only [if_true]
    refine .inl ?_
    unfold opValP at hv
    unfold Oper.wp
    split at hv
    · rename_i v hp
      obtain ⟨v', h1, h2⟩ := aPure_sound hT hf hp
      rw [h2 w]
      obtain ⟨t', hk, hf'⟩ := put_sound hv hf h1
      exact hK _ _ _ hk ⟨m, Stp.refl _ _ _, hf', hr, Nat.le_refl _, fun _ _ _ => rfl⟩
    · split at hv
      · rename_i v hp
        obtain ⟨v', h1, h2⟩ := aRead_sound hT hr hf hp
        rw [h2]
        obtain ⟨t', hk, hf'⟩ := put_sound hv hf (.inr h1)
        exact hK _ _ _ hk ⟨m, Stp.refl _ _ _, hf', hr, Nat.le_refl _, fun _ _ _ => rfl⟩
      · unfold putI at hv
        split at hv
        · rename_i v h1 nx1 hp
          obtain ⟨m', v', w', nxt, d1, d2, d3, d4, d5, d6, d7, d8⟩ := aMut_sound hT hr hid hf hp
          obtain ⟨t', hk, hf'⟩ := put_sound hv (hf.ext d4.old) d1
          rw [d2]
          rcases d3 with rfl | ⟨rfl, rfl⟩
          · exact hK _ _ _ hk ⟨m', d4, hf', d6 nx (Nat.le_refl _) (by omega), Nat.le_refl _, fun b _ hb => d5 b hb⟩
          · exact hK _ _ _ hk ⟨m', d4, hf', d6 nx (Nat.le_refl _) (by omega), Nat.le_refl _, fun b _ hb => d5 b hb⟩
        · unfold putO at hv
          split at hv
          · rename_i v h1 nx1 hp
            obtain ⟨g, args', e1, e2⟩ := aCall_sound hcall hf hp
            rw [e1 w]
            refine (e2 w hr).mono fun e w' he => ?_
            obtain ⟨m', v', rfl, f1, f2, f3, f4, f5⟩ := he
            obtain ⟨t', hk, hf'⟩ := put_sound hv (hf.ext f2.old) (.inr f1)
            exact hK _ _ _ hk ⟨m', f2, hf', f3, f4, fun b hb _ => f5 b hb⟩
          · cases hv

/-- Where a plan stands: the numbers of what has not been made yet are free. -/
def Free (m : Mp) (base : Nat) (l : Array Bool) : Prop := ∀ i, l.getD i true = false → m (base + i) = none

theorem ready_lt {ops : Array Oper} {l : Array Bool} {i : Nat} (h : i ∈ Region.ready .any ops l) : i < ops.size ∧ l.getD i true = false := by
  obtain ⟨h1, o, h2, _⟩ := mem_ready.1 h
  exact ⟨(Array.getElem?_eq_some_iff.1 h2).1, h1⟩

theorem Free.set {m m' : Mp} {base nx i : Nat} {ops : Array Oper} {l : Array Bool} (hF : Free m base l) (hnx : base + ops.size ≤ nx) (hsz : l.size = ops.size) (hm : ∀ b, b < nx → b ≠ base + i → m' b = m b) : Free m' base (l.setIfInBounds i true) := by
  intro j hj
  have hjl : j < l.size := by
    rcases Nat.lt_or_ge j l.size with h | h
    · exact h
    · rw [Array.getD_eq_getD_getElem?, Array.getElem?_eq_none (by simpa using h)] at hj
      cases hj
  by_cases hji : j = i
  · subst hji
    simp [hjl] at hj
  · rw [getD_set_ne true (fun e => hji e.symm)] at hj
    rw [hm (base + j) (by omega) (by omega)]
    exact hF j hj

theorem planRun_alt {base i : Nat} {ops : List Oper} {p q : Plan} {s s' : St} (hv : planRun P T fl n base call ops (.alt i p q) s = some s') :
    ∃ o, nth ops i = some o ∧ opRunP P T fl n (Nat.add base i) call ops o s (planRun P T fl n base call ops p) = some s' ∧ (q = .no ∨ planRun P T fl n base call ops q s = some s') := by
  unfold planRun at hv
  split at hv
  · rename_i o ho; exact ⟨o, ho, hv, .inl rfl⟩
  · rename_i o ho hnq
    unfold same at hv
    split at hv
    · rename_i x y hx hy
      obtain ⟨he, hv⟩ := cond_some hv
      cases hv
      have := eqSt_eq he
      subst this
      exact ⟨o, ho, hx, .inr hy⟩
    · cases hv
  · cases hv

include hT hcall in
theorem planRun_sound {ops : Array Oper} (hsel : Region.noSelect ops = true) {base : Nat} {s' : St} {Q : Exit → Act → World → Prop} (hp0 : ∀ c a w, ¬ Q (.panic c) a w) : ∀ (p : Plan) (f : Nat) (l : Array Bool) (s : St) (m : Mp) (a : Act) (w : World),
    l.size = ops.size → base + ops.size ≤ s.nx → Free m base l → Rel P m s.h s.nx w → FR m n s.t a → planRun P T fl n base call ops.toList p s = some s' →
    (∀ m' a' w', Stp fl m w m' w' → FR m' n s'.t a' → Rel P m' s'.h s'.nx w' → s.nx ≤ s'.nx → (∀ b, b < base → m' b = m b) → Q .normal a' w') →
    (pOk ops p f l none = true → wpAny P .any ops Q f l a w) ∧
    (∀ rs f', f = f' + 1 → (∀ i ∈ rs, i ∈ Region.ready .any ops l) → pOk ops p f l (some rs) = true → ∀ i ∈ rs, wpOp P ops Q i (wpAny P .any ops Q f' (l.setIfInBounds i true)) a w) := by
  intro p
  induction p with
  | fin =>
    intro f l s m a w hsz hnx hF hr hf hv hQ
    have hv : some s = some s' := hv
    cases hv
    refine ⟨fun hok => ?_, fun rs f' hf' _ hok => ?_⟩
    · have hok : (Region.ready .any ops l).isEmpty = true := hok
      exact wpAny_done (by simpa using hok) (hQ m a w (Stp.refl _ _ _) hf hr (Nat.le_refl _) (fun _ _ => rfl)) f
    · simp [pOk] at hok
  | take i p ih =>
    intro f l s m a w hsz hnx hF hr hf hv hQ
    refine ⟨fun hok => ?_, fun rs f' hf' _ hok => by simp [pOk] at hok⟩
    cases f with
    | zero => simp [pOk] at hok
    | succ f =>
      simp only [pOk, Bool.and_eq_true] at hok
      obtain ⟨o1, o2, o3⟩ := hok
      obtain ⟨t, h, nx⟩ := s
      have hv : (match nth ops.toList i with
        | some o => pureStep P T n ops.toList o ⟨t, h, nx⟩ (planRun P T fl n base call ops.toList p)
        | none => none) = some s' := hv
      rw [nth_eq, Array.getElem?_toList] at hv
      split at hv
      · rename_i o ho
        have hv : cond (wantedL ops.toList t o) (match aPure P T t o.op with
           | some v => put n t o.dst v fun t => planRun P T fl n base call ops.toList p ⟨t, h, nx⟩
           | none => none) (put n t o.dst undef fun t => planRun P T fl n base call ops.toList p ⟨t, h, nx⟩) = some s' := hv
        rw [wantedL_eq hf ops o] at hv
        have go : ∀ v v', EV m v v' → Yields P ops o v' a → (put n t o.dst v fun t => planRun P T fl n base call ops.toList p ⟨t, h, nx⟩) = some s' → wpAny P .any ops Q (f + 1) l a w := by
          intro v v' hev hy hput
          obtain ⟨t', hk, hf'⟩ := put_sound hput hf hev
          refine wpAny_take ho hsel o1 o2 (fun c a w hq => (hp0 c _ w hq).elim) hy ?_
          exact (ih f (l.setIfInBounds i true) ⟨t', h, nx⟩ m (a.put o.dst v') w (by simpa using hsz) hnx (Free.set hF hnx hsz (fun _ _ _ => rfl)) hr hf' hk hQ).1 o3
        cases hw : Region.wanted o (yielded ops a.tmps)
        · rw [hw] at hv
          exact go undef undef (.inr (.undef m)) (.inr ⟨hw, rfl⟩) hv
        · rw [hw] at hv
          simp only [cond_true] at hv
          split at hv
          · rename_i v hp
            obtain ⟨v', h1, h2⟩ := aPure_sound hT hf hp
            exact go v v' h1 (.inl ⟨hw, h2⟩) hv
          · cases hv
      · cases hv
  | alt i p q ihp ihq =>
    intro f l s m a w hsz hnx hF hr hf hv hQ
    obtain ⟨t, h, nx⟩ := s
    have one : ∀ o f', ops[i]? = some o → opRunP P T fl n (Nat.add base i) call ops.toList o ⟨t, h, nx⟩ (planRun P T fl n base call ops.toList p) = some s' → i ∈ Region.ready .any ops l → pOk ops p f' (l.setIfInBounds i true) none = true →
        wpOp P ops Q i (wpAny P .any ops Q f' (l.setIfInBounds i true)) a w := by
      intro o f' ho hop hri hpok
      unfold wpOp
      simp only [ho]
      obtain ⟨hi1, hi2⟩ := ready_lt hri
      refine opRunP_sound hT hcall hr (hF i hi2) (by show base + i < nx; exact Nat.lt_of_lt_of_le (by omega) hnx) hf hop fun s1 a1 w1 hk hA => ?_
      obtain ⟨m1, g1, g2, g3, g4, g5⟩ := hA
      exact (ihp f' (l.setIfInBounds i true) s1 m1 a1 w1 (by simpa using hsz) (Nat.le_trans hnx g4) (Free.set hF hnx hsz g5) g3 g2 hk (fun m' a' w' q1 q2 q3 q4 q5 => hQ m' a' w' (g1.trans q1) q2 q3 (Nat.le_trans g4 q4) (fun b hb => (q5 b hb).trans (g5 b (by have : base + ops.size ≤ nx := hnx; omega) (by show b ≠ base + i; omega))))).1 hpok
    obtain ⟨o, ho, hop, hq⟩ := planRun_alt hv
    rw [nth_eq, Array.getElem?_toList] at ho
    have rest : ∀ rs f', (∀ j ∈ rs, j ∈ Region.ready .any ops l) → pOk ops q (f' + 1) l (some rs) = true → ∀ j ∈ rs, wpOp P ops Q j (wpAny P .any ops Q f' (l.setIfInBounds j true)) a w := by
      intro rs f' hrs hok
      rcases hq with rfl | hq
      · cases rs with
        | nil => intro j hj; cases hj
        | cons r rs => simp [pOk] at hok
      · exact (ihq (f' + 1) l ⟨t, h, nx⟩ m a w hsz hnx hF hr hf hq hQ).2 rs f' rfl hrs hok
    refine ⟨fun hok => ?_, fun rs f' hf' hrs hok => ?_⟩
    · cases f with
      | zero => simp [pOk] at hok
      | succ f =>
        simp only [pOk] at hok
        split at hok
        · rename_i r rs hready
          simp only [Bool.and_eq_true] at hok
          obtain ⟨o1, o2, o3⟩ := hok
          have := beq_iff o1
          subst this
          refine wpAny_all hready (by simp) fun j hj => ?_
          rcases List.mem_cons.1 hj with rfl | hj
          · exact one o f ho hop (by rw [hready]; exact List.mem_cons_self) o2
          · exact rest rs f (fun j hj => by rw [hready]; exact List.mem_cons_of_mem _ hj) o3 j hj
        · cases hok
    · subst hf'
      cases rs with
      | nil => intro j hj; cases hj
      | cons r rs =>
        simp only [pOk, Bool.and_eq_true] at hok
        obtain ⟨o1, o2, o3⟩ := hok
        have := beq_iff o1
        subst this
        intro j hj
        rcases List.mem_cons.1 hj with rfl | hj
        · exact one o f' ho hop (hrs _ List.mem_cons_self) o2
        · exact rest rs f' (fun j hj => hrs j (List.mem_cons_of_mem _ hj)) o3 j hj
  | no =>
    intro f l s m a w hsz hnx hF hr hf hv hQ
    cases hv
end
end Go.Proofs.Ygcfaf.Mach
