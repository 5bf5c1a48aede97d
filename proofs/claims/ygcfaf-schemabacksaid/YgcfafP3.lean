import Derived.Test.YgcfafP2
namespace Go.Proofs.Ygcfaf
open Go.RowKit
set_option linter.unusedVariables false

/-- What is left of the text from place e on. -/
def At (T : ByteArray) (e : Nat) (l : List UInt8) : Prop := e ≤ T.size ∧ T.data.toList.drop e = l

theorem At.size {T : ByteArray} {e : Nat} {l : List UInt8} (h : At T e l) : e + l.length = T.size := by
  have h1 := congrArg List.length h.2
  rw [List.length_drop, ← Lib.size_eq] at h1
  have := h.1
  omega

theorem At.step {T : ByteArray} {e : Nat} {a b : List UInt8} (h : At T e (a ++ b)) : At T (e + a.length) b := by
  have hs := h.size
  rw [List.length_append] at hs
  refine ⟨by omega, ?_⟩
  rw [← List.drop_drop, h.2, List.drop_left]

theorem At.get {T : ByteArray} {e : Nat} {l : List UInt8} (h : At T e l) (i : Nat) (hi : i < l.length) : ∃ hj : e + i < T.size, T[e + i] = l[i] := by
  have hs := h.size
  refine ⟨by omega, ?_⟩
  have h1 := get_data T (e + i) (by omega)
  have h2 : (T.data.toList.drop e)[i]? = some T[e + i] := by rw [List.getElem?_drop]; exact h1
  rw [h.2, List.getElem?_eq_getElem hi] at h2
  exact (Option.some.inj h2).symm

theorem At.extract {T : ByteArray} {e : Nat} {a b : List UInt8} (h : At T e (a ++ b)) : (T.extract e (e + a.length)).data.toList = a := by
  rw [Lib.extract_data, h.2, show e + a.length - e = a.length by omega, List.take_left]

/-- No letter and no digit comes first. -/
def stop (l : List UInt8) : Prop := ∀ c, l.head? = some c → alnB c = false

theorem tok_name {T : ByteArray} {e : Nat} {nm rest : List UInt8} (h : At T e (nm ++ rest)) (hn : nameL nm = true) (hr : stop rest) : TokAt T e e (e + nm.length) 97 := by
  have hs := h.size
  rw [List.length_append] at hs
  cases nm with
  | nil => simp [nameL] at hn
  | cons c r =>
    simp only [nameL, Bool.and_eq_true, decide_eq_true_eq, List.all_eq_true] at hn
    obtain ⟨⟨h7, hl⟩, hall⟩ := hn
    simp only [List.length_cons] at hs ⊢
    have h0 := h.get 0 (by simp)
    simp only [Nat.add_zero, List.cons_append, List.getElem_cons_zero] at h0
    obtain ⟨hj, h0⟩ := h0
    refine ⟨Nat.le_refl _, by omega, fun i h1 h2 => by omega, .inr ⟨hj, .inl ⟨by rw [h0]; exact hl, rfl, by omega, by omega, fun i h1 h2 hi => ?_, fun hi => ?_⟩⟩⟩
    · obtain ⟨j, rfl⟩ : ∃ j, i = e + (j + 1) := ⟨i - e - 1, by omega⟩
      obtain ⟨_, hg⟩ := h.get (j + 1) (by simp; omega)
      rw [hg]
      simp only [List.cons_append, List.getElem_cons_succ]
      rw [List.getElem_append_left (by omega)]
      exact hall _ (List.getElem_mem _)
    · cases rest with
      | nil => simp at hs; omega
      | cons d rest' =>
        obtain ⟨_, hg⟩ := h.get (r.length + 1) (by simp)
        have e1 : e + (r.length + 1) = e + (r.length + 1) := rfl
        rw [hg]
        simp only [List.cons_append, List.getElem_cons_succ]
        rw [List.getElem_append_right (by omega)]
        simp only [Nat.sub_self, List.getElem_cons_zero]
        exact hr d rfl

theorem tok_sign {T : ByteArray} {e : Nat} {c : UInt8} {rest : List UInt8} (h : At T e (c :: rest)) (hc : signB c = true) : TokAt T e e (e + 1) c.toNat := by
  have hs := h.size
  simp only [List.length_cons] at hs
  obtain ⟨hj, h0⟩ := h.get 0 (by simp)
  simp only [Nat.add_zero, List.getElem_cons_zero] at hj h0
  exact ⟨Nat.le_refl _, by omega, fun i h1 h2 => by omega, .inr ⟨hj, .inr (.inr ⟨by rw [h0]; exact hc, by rw [h0], rfl⟩)⟩⟩

theorem tok_end {T : ByteArray} {e : Nat} (h : At T e []) : TokAt T e e e 0 := by
  have hs := h.size
  simp at hs
  exact ⟨Nat.le_refl _, by omega, fun i h1 h2 => by omega, .inl ⟨hs, rfl, rfl⟩⟩

theorem tok_num {T : ByteArray} {e : Nat} {ds : List UInt8} {c : UInt8} {rest : List UInt8} (h : At T e (ds ++ c :: rest)) (hne : ds ≠ []) (hd : ∀ x ∈ ds, digB x = true) (hc : digB c = false) : TokAt T e e (e + ds.length) 48 := by
  have hs := h.size
  simp only [List.length_append, List.length_cons] at hs
  have hl : 0 < ds.length := List.length_pos_iff.2 hne
  have hg : ∀ i (hi : i < ds.length), ∃ hj : e + i < T.size, digB T[e + i] = true := fun i hi => by
    obtain ⟨hj, h1⟩ := h.get i (by simp; omega)
    refine ⟨hj, ?_⟩
    rw [h1, List.getElem_append_left hi]
    exact hd _ (List.getElem_mem _)
  obtain ⟨hj, h0⟩ := hg 0 hl
  simp only [Nat.add_zero] at hj h0
  refine ⟨Nat.le_refl _, by omega, fun i h1 h2 => by omega, .inr ⟨hj, .inr (.inl ⟨h0, rfl, by omega, by omega, fun i h1 h2 hi => ?_, fun hi => ?_⟩)⟩⟩
  · obtain ⟨j, rfl⟩ : ∃ j, i = e + j := ⟨i - e, by omega⟩
    exact (hg j (by omega)).2
  · obtain ⟨_, h1⟩ := h.get ds.length (by simp)
    rw [h1, List.getElem_append_right (by omega)]
    simp only [Nat.sub_self, List.getElem_cons_zero]
    exact hc

/-- The same behind one blank. -/
theorem TokAt.blank {T : ByteArray} {e at_ en k : Nat} {rest : List UInt8} (h : At T e (32 :: rest)) (ht : TokAt T (e + 1) at_ en k) : TokAt T e at_ en k := by
  refine ⟨by have := ht.le; omega, ht.sz, fun i h1 h2 hi => ?_, ht.kind⟩
  by_cases hie : i = e
  · subst hie
    obtain ⟨_, h0⟩ := h.get 0 (by simp)
    simpa using h0
  · exact ht.sp i (by omega) h2 hi

theorem sign_stop {c : UInt8} {r : List UInt8} (h : signB c = true) : stop (c :: r) := by
  intro d hd
  simp at hd
  subst hd
  have := sign_cases h
  unfold alnB letB digB
  simp
  omega

theorem dig_num (i : Nat) (h : i < 16) : ∀ x ∈ numText i, digB x = true := by
  have hc : i = 0 ∨ i = 1 ∨ i = 2 ∨ i = 3 ∨ i = 4 ∨ i = 5 ∨ i = 6 ∨ i = 7 ∨ i = 8 ∨ i = 9 ∨ i = 10 ∨ i = 11 ∨ i = 12 ∨ i = 13 ∨ i = 14 ∨ i = 15 := by omega
  rcases hc with rfl | rfl | rfl | rfl | rfl | rfl | rfl | rfl | rfl | rfl | rfl | rfl | rfl | rfl | rfl | rfl <;> decide

theorem num_ne (i : Nat) : numText i ≠ [] := by unfold numText; simp

theorem numTo_at {T : ByteArray} {e i : Nat} {rest : List UInt8} (h : At T e (numText i ++ rest)) (hi : i < 16) : numTo T e (numText i).length = i := by
  by_cases h10 : 10 ≤ i
  · have hn := num_hi i h10 (by omega)
    rw [hn] at h ⊢
    obtain ⟨j0, g0⟩ := h.get 0 (by simp)
    obtain ⟨j1, g1⟩ := h.get 1 (by simp)
    simp only [Nat.add_zero, List.cons_append, List.nil_append, List.getElem_cons_zero, List.getElem_cons_succ] at j0 g0 g1
    simp only [List.length_append, List.length_cons, List.length_nil, Nat.zero_add, numTo, Nat.add_zero]
    rw [dif_pos j0, dif_pos j1, g0, g1, byte_val _ (by omega), byte_val _ (by omega)]
    have : i / 10 = 1 := by omega
    rw [this]
    have hm : i % 10 = i - 10 := by omega
    rw [hm]
    split
    · split at * <;> omega
    · split at * <;> omega
  · have hn := num_lo i (by omega)
    rw [hn] at h ⊢
    obtain ⟨j0, g0⟩ := h.get 0 (by simp)
    simp only [Nat.add_zero, List.cons_append, List.nil_append, List.getElem_cons_zero] at j0 g0
    simp only [List.length_cons, List.length_nil, Nat.zero_add, numTo, Nat.add_zero]
    rw [dif_pos j0, g0, byte_val _ (by omega)]
    have hm : i % 10 = i := by omega
    rw [hm]
    split <;> omega
end Go.Proofs.Ygcfaf
