/- The machine's lists and tries are what they seem; the relation between its memory and the model's. -/
import Derived.Test.YgcfafM1
import Derived.Laws.AppendOwn
import Derived.Laws.Cells
import Derived.Laws.IdiomCopy
namespace Go.Proofs.Ygcfaf.Mach
open Go
set_option linter.unusedVariables false
variable {α β R : Type}

/-! ### Forcing -/
theorem fNat_eq (n : Nat) (k : Nat → R) : fNat n k = k n := by cases n <;> rfl
theorem fInt_eq (n : Int) (k : Int → R) : fInt n k = k n := by
  cases n with
  | ofNat m => exact fNat_eq m fun m => k (.ofNat m)
  | negSucc m => exact fNat_eq m fun m => k (.negSucc m)
theorem fList_eq (l : List α) (k : List α → R) : fList l k = k l := by
  induction l generalizing k with
  | nil => rfl
  | cons a t ih => exact ih fun t => k (a :: t)
theorem fBytes_eq (s : ByteArray) (k : ByteArray → R) : fBytes s k = k s := by
  obtain ⟨⟨l⟩⟩ := s
  exact fList_eq l _
theorem fVal_eq (v : Value) (k : Value → R) : fVal v k = k v := by
  unfold fVal
  split
  · exact fInt_eq _ _
  · rename_i b; cases b <;> rfl
  · exact fBytes_eq _ _
  · exact fNat_eq _ _
  · rw [fNat_eq, fNat_eq]
  · exact fList_eq _ _
  · exact fList_eq _ _
  · rfl

/-! ### Lists -/
theorem nth_eq (l : List α) : ∀ i, nth l i = l[i]? := by
  induction l with
  | nil => intro i; simp [nth]
  | cons a t ih =>
    intro i
    cases i with
    | zero => rfl
    | succ j => rw [List.getElem?_cons_succ, ← ih j]; rfl
theorem takeR_eq (l : List α) : ∀ i, takeR l i = l.take i := by
  induction l with
  | nil => intro i; simp [takeR]
  | cons a t ih =>
    intro i
    cases i with
    | zero => rfl
    | succ j => rw [List.take_succ_cons, ← ih j]; rfl
theorem dropR_eq (l : List α) : ∀ i, dropR l i = l.drop i := by
  induction l with
  | nil => intro i; simp [dropR]
  | cons a t ih =>
    intro i
    cases i with
    | zero => rfl
    | succ j => rw [List.drop_succ_cons, ← ih j]; rfl
theorem lenR_eq (l : List α) : lenR l = l.length := by
  induction l with
  | nil => rfl
  | cons a t ih => rw [List.length_cons, ← ih]; rfl
theorem appR_eq (l m : List α) : appR l m = l ++ m := by
  induction l with
  | nil => rfl
  | cons a t ih => rw [List.cons_append, ← ih]; rfl
theorem over_eq (vs : List Value) (cs : List Value) : ∀ off, off + vs.length ≤ cs.length → over cs off vs = cs.take off ++ vs ++ cs.drop (off + vs.length) := by
  induction cs with
  | nil =>
    intro off h
    have : vs = [] := List.eq_nil_of_length_eq_zero (by have : off + vs.length ≤ 0 := h; omega)
    subst this
    simp [over]
  | cons c t ih =>
    intro off h
    cases off with
    | zero =>
      show appR vs (dropR (c :: t) (lenR vs)) = _
      rw [appR_eq, dropR_eq, lenR_eq]
      simp
    | succ j =>
      have h' := ih j (by simp at h; omega)
      show c :: over t j vs = _
      rw [h', List.take_succ_cons, show j + 1 + vs.length = (j + vs.length) + 1 by omega, List.drop_succ_cons]
      simp
theorem eqBytes_eq (a : List UInt8) : ∀ b, eqBytes a b = (a == b) := by
  induction a with
  | nil => intro b; cases b <;> rfl
  | cons x t ih =>
    intro b
    cases b with
    | nil => rfl
    | cons y u =>
      show cond (Nat.beq x.toNat y.toNat) (eqBytes t u) false = _
      rw [ih u]
      by_cases hxy : x = y
      · subst hxy
        simp
      · have : Nat.beq x.toNat y.toNat = false := by
          rw [Bool.eq_false_iff]
          intro h
          exact hxy (UInt8.toNat_inj.1 (Nat.eq_of_beq_eq_true h))
        simp [this, hxy]

/-! ### The trie -/
theorem Tr.get_nil (j : Nat) : (Tr.nil : Tr α).get j = none := rfl
theorem Tr.get_node (x : Option α) (l r : Tr α) (j : Nat) :
    (Tr.node x l r).get j = if j = 0 then x else if j % 2 = 1 then l.get (j / 2) else r.get (j / 2 - 1) := by
  show cond (Nat.beq j 0) x (cond (Nat.beq (Nat.mod j 2) 1) (l.get (Nat.div j 2)) (r.get (Nat.sub (Nat.div j 2) 1))) = _
  have e1 : Nat.beq j 0 = decide (j = 0) := by cases j <;> simp [Nat.beq]
  have e2 : Nat.beq (Nat.mod j 2) 1 = decide (j % 2 = 1) := by
    by_cases h : j % 2 = 1
    · rw [show Nat.mod j 2 = 1 from h]; simp [h, Nat.beq]
    · have : Nat.beq (Nat.mod j 2) 1 = false := by
        rw [Bool.eq_false_iff]; intro h'; exact h (Nat.eq_of_beq_eq_true h')
      simp [this, h]
  rw [e1, e2]
  by_cases h0 : j = 0
  · simp [h0]
  · by_cases h1 : j % 2 = 1
    · simp [h0, h1]; rfl
    · simp [h0, h1]; rfl

theorem Tr.setK_some {v : α} : ∀ (d : Nat) (t : Tr α) (i : Nat) (k : Tr α → Option R) (r : R), t.setK v d i k = some r →
    ∃ t', k t' = some r ∧ ∀ j, t'.get j = if j = i then some v else t.get j := by
  intro d
  induction d with
  | zero => intro t i k r h; cases h
  | succ d ih =>
    intro t i k r h
    have go : ∀ (x : Option α) (l u : Tr α), (∀ j, t.get j = (Tr.node x l u).get j) →
        (cond (Nat.beq i 0) (k (.node (some v) l u)) (cond (Nat.beq (Nat.mod i 2) 1) (l.setK v d (Nat.div i 2) fun l' => k (.node x l' u)) (u.setK v d (Nat.sub (Nat.div i 2) 1) fun r' => k (.node x l r')))) = some r →
        ∃ t', k t' = some r ∧ ∀ j, t'.get j = if j = i then some v else t.get j := by
      intro x l u ht h
      by_cases h0 : i = 0
      · subst h0
        refine ⟨_, h, fun j => ?_⟩
        rw [ht, Tr.get_node, Tr.get_node]
        by_cases hj : j = 0 <;> simp [hj]
      · have e1 : Nat.beq i 0 = false := by rw [Bool.eq_false_iff]; intro h'; exact h0 (Nat.eq_of_beq_eq_true h')
        rw [e1] at h
        by_cases h1 : i % 2 = 1
        · have e2 : Nat.beq (Nat.mod i 2) 1 = true := by rw [show Nat.mod i 2 = 1 from h1]; rfl
          rw [e2] at h
          obtain ⟨l', hk, hl⟩ := ih l (Nat.div i 2) (fun l' => k (.node x l' u)) r h
          refine ⟨_, hk, fun j => ?_⟩
          rw [ht, Tr.get_node, Tr.get_node]
          by_cases hj : j = 0
          · subst hj; simp [Ne.symm h0]
          · by_cases hj1 : j % 2 = 1
            · rw [if_neg hj, if_pos hj1, if_neg hj, if_pos hj1, hl (j / 2)]
              have : (j / 2 = Nat.div i 2) ↔ j = i := by show j / 2 = i / 2 ↔ _; omega
              by_cases hji : j = i
              · rw [if_pos (this.2 hji), if_pos hji]
              · rw [if_neg (fun h => hji (this.1 h)), if_neg hji]
            · rw [if_neg hj, if_neg hj1, if_neg hj, if_neg hj1, if_neg (by omega)]
        · have e2 : Nat.beq (Nat.mod i 2) 1 = false := by rw [Bool.eq_false_iff]; intro h'; exact h1 (Nat.eq_of_beq_eq_true h')
          rw [e2] at h
          obtain ⟨r', hk, hl⟩ := ih u (Nat.sub (Nat.div i 2) 1) (fun r' => k (.node x l r')) r h
          refine ⟨_, hk, fun j => ?_⟩
          rw [ht, Tr.get_node, Tr.get_node]
          by_cases hj : j = 0
          · subst hj; simp [Ne.symm h0]
          · by_cases hj1 : j % 2 = 1
            · rw [if_neg hj, if_pos hj1, if_neg hj, if_pos hj1, if_neg (by omega)]
            · rw [if_neg hj, if_neg hj1, if_neg hj, if_neg hj1, hl (j / 2 - 1)]
              have : (j / 2 - 1 = Nat.sub (Nat.div i 2) 1) ↔ j = i := by show j / 2 - 1 = i / 2 - 1 ↔ _; omega
              by_cases hji : j = i
              · rw [if_pos (this.2 hji), if_pos hji]
              · rw [if_neg (fun h => hji (this.1 h)), if_neg hji]
    cases t with
    | nil =>
      refine go none .nil .nil (fun j => ?_) h
      rw [Tr.get_node]
      simp [Tr.get_nil]
    | node x l u => exact go x l u (fun _ => rfl) h

theorem tl_mem {T : List (Nat × TyR)} {i : Nat} {r : TyR} (h : tl T i = some r) : (i, r) ∈ T := by
  induction T with
  | nil => cases h
  | cons p t ih =>
    have h' : cond (Nat.beq p.1 i) (some p.2) (tl t i) = some r := h
    cases hb : Nat.beq p.1 i
    · rw [hb] at h'; exact List.mem_cons_of_mem _ (ih h')
    · rw [hb] at h'
      have h1 := Nat.eq_of_beq_eq_true hb
      obtain ⟨a, b⟩ := p
      simp only [cond_true, Option.some.injEq] at h'
      simp only at h1
      subst h1; subst h'
      exact List.mem_cons_self
theorem look_mem {T : List (Nat × Func)} {i : Nat} {r : Func} (h : look T i = some r) : (i, r) ∈ T := by
  induction T with
  | nil => cases h
  | cons p t ih =>
    have h' : cond (Nat.beq p.1 i) (some p.2) (look t i) = some r := h
    cases hb : Nat.beq p.1 i
    · rw [hb] at h'; exact List.mem_cons_of_mem _ (ih h')
    · rw [hb] at h'
      have h1 := Nat.eq_of_beq_eq_true hb
      obtain ⟨a, b⟩ := p
      simp only [cond_true, Option.some.injEq] at h'
      simp only at h1
      subst h1; subst h'
      exact List.mem_cons_self

/-! ### Two lists, entry by entry -/
inductive L2 (R : α → β → Prop) : List α → List β → Prop where
  | nil : L2 R [] []
  | cons {a : α} {b : β} {x : List α} {y : List β} : R a b → L2 R x y → L2 R (a :: x) (b :: y)

namespace L2
variable {R S : α → β → Prop}
theorem length {x : List α} {y : List β} (h : L2 R x y) : x.length = y.length := by induction h <;> simp_all
theorem mono {x : List α} {y : List β} (h : L2 R x y) (f : ∀ a b, R a b → S a b) : L2 S x y := by
  induction h with
  | nil => exact .nil
  | cons a _ ih => exact .cons (f _ _ a) ih
theorem get {x : List α} {y : List β} (h : L2 R x y) : ∀ (i : Nat) (a : α), x[i]? = some a → ∃ b, y[i]? = some b ∧ R a b := by
  induction h with
  | nil => intro i a h; cases h
  | cons hab _ ih =>
    intro i a h
    cases i with
    | zero => simp at h; subst h; exact ⟨_, rfl, hab⟩
    | succ j => simp at h; simpa using ih j a h
theorem take {x : List α} {y : List β} (h : L2 R x y) : ∀ n, L2 R (x.take n) (y.take n) := by
  induction h with
  | nil => intro n; simp; exact .nil
  | cons hab _ ih =>
    intro n
    cases n with
    | zero => simp; exact .nil
    | succ n => simp; exact .cons hab (ih n)
theorem drop {x : List α} {y : List β} (h : L2 R x y) : ∀ n, L2 R (x.drop n) (y.drop n) := by
  induction h with
  | nil => intro n; simp; exact .nil
  | cons hab ht ih =>
    intro n
    cases n with
    | zero => simp; exact .cons hab ht
    | succ n => simp; exact ih n
theorem append {x x' : List α} {y y' : List β} (h : L2 R x y) (h' : L2 R x' y') : L2 R (x ++ x') (y ++ y') := by
  induction h with
  | nil => simpa using h'
  | cons hab _ ih => simp; exact .cons hab ih
theorem of_get {x : List α} : ∀ {y : List β}, x.length = y.length → (∀ (i : Nat) (a : α) (b : β), x[i]? = some a → y[i]? = some b → R a b) → L2 R x y := by
  induction x with
  | nil => intro y h _; have : y = [] := List.eq_nil_of_length_eq_zero (by simpa using h.symm); subst this; exact .nil
  | cons a t ih =>
    intro y h hr
    cases y with
    | nil => simp at h
    | cons b u => exact .cons (hr 0 a b rfl rfl) (ih (by simpa using h) fun i a b ha hb => hr (i + 1) a b (by simpa using ha) (by simpa using hb))
theorem det {x : List α} {y y' : List β} (hd : ∀ a b b', R a b → R a b' → b = b') (h : L2 R x y) (h' : L2 R x y') : y = y' := by
  induction h generalizing y' with
  | nil => cases h'; rfl
  | cons hab _ ih => cases h' with | cons hab' ht' => rw [hd _ _ _ hab hab', ih ht']
end L2
end Go.Proofs.Ygcfaf.Mach
