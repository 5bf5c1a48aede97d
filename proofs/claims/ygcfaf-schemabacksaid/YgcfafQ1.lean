import Derived.Test.YgcfafP9
namespace Go.Proofs.Ygcfaf
open Go.RowKit
set_option linter.unusedVariables false

/-- Where a struct's pieces lie, the struct's text beginning at a. -/
def sB (a : Nat) (t : Str) : Nat := a + 7 + t.name.data.toList.length
def fAt (a : Nat) (ss : List Str) (t : Str) (i : Nat) : Nat := sB a t + 1 + (fieldsTo ss t.fs i).length
def enF (a : Nat) (ss : List Str) (t : Str) (i : Nat) : Nat := match t.fs[i]? with | some f => pAt (fAt a ss t i) f | none => fAt a ss t i + 1
def kF (t : Str) (i : Nat) : Nat := match t.fs[i]? with | some _ => 97 | none => 125

structure StrToks (T : ByteArray) (a : Nat) (ss : List Str) (t : Str) : Prop where
  ext : (T.extract a (a + 6)).data.toList = [115, 116, 114, 117, 99, 116]
  tNm : TokAt T (a + 6) (a + 7) (sB a t) 97
  nm : T.extract (a + 7) (sB a t) = t.name
  tB : TokAt T (sB a t) (sB a t) (sB a t + 1) 123
  tF : ∀ i, i ≤ t.fs.length → TokAt T (fAt a ss t i) (fAt a ss t i) (enF a ss t i) (kF t i)
  fld : ∀ i f, t.fs[i]? = some f → FieldToks T (fAt a ss t i) ss i f
  size : fAt a ss t t.fs.length + 1 ≤ T.size

theorem fAt_succ (a : Nat) (ss : List Str) (t : Str) (i : Nat) (f : Fld) (h : t.fs[i]? = some f) : fAt a ss t (i + 1) = pSem (fAt a ss t i) ss i f + 1 := by
  unfold fAt pSem pTyp pCol pNum pAt
  rw [fieldText_snoc ss t.fs i f h]
  simp only [List.length_append, List.length_cons, List.length_nil]
  omega

theorem fieldsTo_split (ss : List Str) (fs : List Fld) (n : Nat) : ∀ i, i ≤ n → ∃ r, fieldsTo ss fs n = fieldsTo ss fs i ++ r ∧ ∀ f, fs[i]? = some f → i < n → ∃ r', r = fieldText ss i f ++ r' := by
  intro i hi
  induction n with
  | zero => obtain rfl : i = 0 := by omega
            exact ⟨[], by simp, fun f _ h => by omega⟩
  | succ n ih =>
    by_cases h : i = n + 1
    · subst h; exact ⟨[], by simp, fun f _ h => by omega⟩
    · obtain ⟨r, h1, h2⟩ := ih (by omega)
      by_cases hn : i = n
      · subst hn
        have e0 : r = [] := by have := congrArg List.length h1; simp at this; exact this
        refine ⟨r ++ (match fs[i]? with | some f => fieldText ss i f | none => []), by simp only [fieldsTo]; rw [e0]; cases fs[i]? <;> simp, fun f hf _ => ⟨[], by rw [hf, e0]; simp⟩⟩
      · refine ⟨r ++ (match fs[n]? with | some f => fieldText ss n f | none => []), by simp only [fieldsTo]; rw [h1, List.append_assoc]; cases fs[n]? <;> rfl, fun f hf _ => ?_⟩
        obtain ⟨r', hr⟩ := h2 f hf (by omega)
        exact ⟨r' ++ (match fs[n]? with | some f => fieldText ss n f | none => []), by rw [hr, List.append_assoc]⟩

theorem str_toks {T : ByteArray} {a : Nat} {ss : List Str} {k : Nat} {t : Str} {rest : List UInt8} (h : At T a (structText ss t ++ rest)) (hW : WholeP ss k t) (hN : Names ss) : StrToks T a ss t := by
  have h0 : At T a ([115, 116, 114, 117, 99, 116] ++ (32 :: (t.name.data.toList ++ (123 :: (fieldsTo ss t.fs t.fs.length ++ 125 :: rest))))) := by
    have e : structText ss t ++ rest = [115, 116, 114, 117, 99, 116] ++ (32 :: (t.name.data.toList ++ (123 :: (fieldsTo ss t.fs t.fs.length ++ 125 :: rest)))) := by
      simp [structText, structL, List.append_assoc]
    rw [← e]; exact h
  have h1 := h0.step
  have h1' : At T (a + 6) ([32] ++ (t.name.data.toList ++ (123 :: (fieldsTo ss t.fs t.fs.length ++ 125 :: rest)))) := h1
  have h2 : At T (a + 7) (t.name.data.toList ++ (123 :: (fieldsTo ss t.fs t.fs.length ++ 125 :: rest))) := h1'.step
  have h3 : At T (sB a t) ([123] ++ (fieldsTo ss t.fs t.fs.length ++ 125 :: rest)) := h2.step
  have h4 : At T (sB a t + 1) (fieldsTo ss t.fs t.fs.length ++ 125 :: rest) := h3.step
  have hf : ∀ i f, t.fs[i]? = some f → ∃ r', At T (fAt a ss t i) (fieldText ss i f ++ r') := by
    intro i f hif
    have hl : i < t.fs.length := (List.getElem?_eq_some_iff.1 hif).1
    obtain ⟨r, e1, e2⟩ := fieldsTo_split ss t.fs t.fs.length i (by omega)
    obtain ⟨r', e3⟩ := e2 f hif hl
    rw [e1, e3, List.append_assoc, List.append_assoc] at h4
    exact ⟨_, h4.step⟩
  have hend : At T (fAt a ss t t.fs.length) (125 :: rest) := h4.step
  refine ⟨h0.extract, TokAt.blank h1 (tok_name h2 hW.name (sign_stop (by decide))), data_ext h2.extract, tok_sign (c := 123) h3 (by decide), fun i hi => ?_, fun i f hif => ?_, ?_⟩
  · unfold enF kF
    cases hif : t.fs[i]? with
    | none =>
      have : i = t.fs.length := by have := List.getElem?_eq_none_iff.1 hif; omega
      subst this
      exact tok_sign (c := 125) hend (by decide)
    | some f =>
      obtain ⟨r', hr⟩ := hf i f hif
      have hr' : At T (fAt a ss t i) (f.name.data.toList ++ (64 :: (numText i ++ [58] ++ typeText ss f.t ++ [59] ++ r'))) := by
        have e : fieldText ss i f ++ r' = f.name.data.toList ++ (64 :: (numText i ++ [58] ++ typeText ss f.t ++ [59] ++ r')) := by simp [fieldText, List.append_assoc]
        rw [← e]; exact hr
      exact tok_name hr' (hW.flds i f hif).1 (sign_stop (by decide))
  · obtain ⟨r', hr⟩ := hf i f hif
    have hl : i < t.fs.length := (List.getElem?_eq_some_iff.1 hif).1
    have := hW.len
    exact field_toks hr (hW.flds i f hif).1 (core_p hN (hW.flds i f hif).2.1) (by omega)
  · have := hend.size
    simp only [List.length_cons] at this
    omega

/-- The uses that the first i fields make. -/
def usesTo (T : ByteArray) (a : Nat) (ss : List Str) (k : Nat) (t : Str) : Nat → List Use
  | 0 => []
  | i + 1 => usesTo T a ss k t i ++ (match t.fs[i]? with | some f => useOf T (pTyp (fAt a ss t i) i f) ss k i f.t | none => [])

theorem useOf_len (T : ByteArray) (at_ : Nat) (ss : List Str) (k i : Nat) (t : Typ) : (useOf T at_ ss k i t).length ≤ 1 := by unfold useOf; split <;> simp
theorem usesTo_len (T : ByteArray) (a : Nat) (ss : List Str) (k : Nat) (t : Str) (i : Nat) : (usesTo T a ss k t i).length ≤ i := by
  induction i with
  | zero => simp [usesTo]
  | succ i ih =>
    simp only [usesTo, List.length_append]
    split
    · have := useOf_len T (pTyp (fAt a ss t i) i ‹Fld›) ss k i (‹Fld›).t; omega
    · simp; omega
theorem usesTo_mem {T : ByteArray} {a : Nat} {ss : List Str} {k : Nat} {t : Str} {i : Nat} {u : Use} (h : u ∈ usesTo T a ss k t i) : u.strct = k ∧ u.field < i := by
  induction i with
  | zero => simp [usesTo] at h
  | succ i ih =>
    simp only [usesTo, List.mem_append] at h
    rcases h with h | h
    · have := ih h; omega
    · split at h
      · unfold useOf at h
        split at h
        · simp at h; subst h; exact ⟨rfl, by simp⟩
        · simp at h
      · simp at h
end Go.Proofs.Ygcfaf
