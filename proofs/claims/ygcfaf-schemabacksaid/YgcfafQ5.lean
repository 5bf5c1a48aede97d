import Derived.Test.YgcfafQ4
namespace Go.Proofs.Ygcfaf
open Go.RowKit
set_option linter.unusedVariables false

/-- Where struct n's text begins. -/
def aAt (ss : List Str) (n : Nat) : Nat := (printTo ss n).length
def eAt (ss : List Str) (n : Nat) : Nat := match ss[n]? with | some _ => aAt ss n + 6 | none => aAt ss n
def kAt (ss : List Str) (n : Nat) : Nat := match ss[n]? with | some _ => 97 | none => 0

def usesAll (T : ByteArray) (ss : List Str) : Nat → List Use
  | 0 => []
  | n + 1 => usesAll T ss n ++ (match ss[n]? with | some t => usesTo T (aAt ss n) ss n t t.fs.length | none => [])

theorem printTo_split (ss : List Str) (m : Nat) : ∀ n, n ≤ m → ∃ r, printTo ss m = printTo ss n ++ r ∧ ∀ t, ss[n]? = some t → n < m → ∃ r', r = structText ss t ++ r' := by
  intro n hn
  induction m with
  | zero => obtain rfl : n = 0 := by omega
            exact ⟨[], by simp, fun t _ h => by omega⟩
  | succ m ih =>
    by_cases h : n = m + 1
    · subst h; exact ⟨[], by simp, fun t _ h => by omega⟩
    · obtain ⟨r, h1, h2⟩ := ih (by omega)
      by_cases hm : n = m
      · subst hm
        have e0 : r = [] := by have := congrArg List.length h1; simp at this; exact this
        refine ⟨r ++ (match ss[n]? with | some t => structText ss t | none => []), by simp only [printTo]; rw [e0]; cases ss[n]? <;> simp, fun t ht _ => ⟨[], by rw [ht, e0]; simp⟩⟩
      · refine ⟨r ++ (match ss[m]? with | some t => structText ss t | none => []), by simp only [printTo]; rw [h1, List.append_assoc]; cases ss[m]? <;> rfl, fun t ht _ => ?_⟩
        obtain ⟨r', hr⟩ := h2 t ht (by omega)
        exact ⟨r' ++ (match ss[m]? with | some t => structText ss t | none => []), by rw [hr, List.append_assoc]⟩

/-- All that the parser's road needs of the text. -/
structure TextP (T : ByteArray) (ss : List Str) : Prop where
  str : ∀ n t, ss[n]? = some t → StrToks T (aAt ss n) ss t
  tok : ∀ n, n ≤ ss.length → TokAt T (aAt ss n) (aAt ss n) (eAt ss n) (kAt ss n)
  nxt : ∀ n t, ss[n]? = some t → fAt (aAt ss n) ss t t.fs.length + 1 = aAt ss (n + 1)

theorem text_p {ss : List Str} (hs : ShapedP ss) {T : ByteArray} (hT : T.data.toList = printText ss) : TextP T ss := by
  have h0 : At T 0 (printTo ss ss.length) := ⟨Nat.zero_le _, by simp; exact hT⟩
  have hst : ∀ n t, ss[n]? = some t → ∃ r', At T (aAt ss n) (structText ss t ++ r') := by
    intro n t ht
    have hl : n < ss.length := (List.getElem?_eq_some_iff.1 ht).1
    obtain ⟨r, e1, e2⟩ := printTo_split ss ss.length n (by omega)
    obtain ⟨r', e3⟩ := e2 t ht hl
    rw [e1, e3] at h0
    have := h0.step
    rw [Nat.zero_add] at this
    exact ⟨r', this⟩
  refine ⟨fun n t ht => ?_, fun n hn => ?_, fun n t ht => ?_⟩
  · obtain ⟨r', hr⟩ := hst n t ht
    exact str_toks hr (hs.whole n t ht) hs.names
  · unfold eAt kAt
    cases hn' : ss[n]? with
    | none =>
      have : n = ss.length := by have := List.getElem?_eq_none_iff.1 hn'; omega
      subst this
      have h1 : At T (0 + (printTo ss ss.length).length) [] := by
        have h2 : At T 0 (printTo ss ss.length ++ []) := by rw [List.append_nil]; exact h0
        exact h2.step
      rw [Nat.zero_add] at h1
      exact tok_end h1
    | some t =>
      obtain ⟨r', hr⟩ := hst n t hn'
      have e : structText ss t ++ r' = [115, 116, 114, 117, 99, 116] ++ (32 :: (t.name.data.toList ++ [123] ++ fieldsTo ss t.fs t.fs.length ++ [125] ++ r')) := by simp [structText, structL, List.append_assoc]
      rw [e] at hr
      exact tok_name hr (by decide) (fun c hc => by simp at hc; subst hc; decide)
  · show _ = (printTo ss (n + 1)).length
    rw [structText_snoc ss n t ht]
    unfold fAt sB aAt
    simp only [List.length_append, List.length_cons, List.length_nil, structL]

theorem usesAll_len {T : ByteArray} {ss : List Str} (hs : ShapedP ss) (n : Nat) : (usesAll T ss n).length ≤ 16 * n := by
  induction n with
  | zero => simp [usesAll]
  | succ n ih =>
    simp only [usesAll, List.length_append]
    cases ht : ss[n]? with
    | none => simp; omega
    | some t =>
      have h1 := usesTo_len T (aAt ss n) ss n t t.fs.length
      have h2 := (hs.whole n t ht).len
      simp only
      omega

theorem usesAll_lt {T : ByteArray} {ss : List Str} {n : Nat} {u : Use} (h : u ∈ usesAll T ss n) : u.strct < n := by
  induction n with
  | zero => simp [usesAll] at h
  | succ n ih =>
    simp only [usesAll, List.mem_append] at h
    rcases h with h | h
    · have := ih h; omega
    · cases ht : ss[n]? with
      | none => rw [ht] at h; simp at h
      | some t =>
        rw [ht] at h
        have := (usesTo_mem h).1; omega

theorem useOf_ok {T : ByteArray} {at_ : Nat} {ss : List Str} {k i : Nat} {t : Str} {f : Fld} {u : Use} (hk : ss[k]? = some t) (hf : t.fs[i]? = some f) (hty : typeB f.t ss.length = true) (htk : TypToks T at_ f.t.nest (coreText ss f.t)) (h : u ∈ useOf T at_ ss k i f.t) : ∃ r, UseOk ss u t f r := by
  unfold useOf at h
  split at h
  · rename_i h13
    simp at h
    subst h
    have hr := (core_of hty).2.2.2 h13
    refine ⟨ss[f.t.ref], hk, hf, List.getElem?_eq_getElem hr, data_ext ?_⟩
    show (T.extract _ _).data.toList = _
    rw [htk.core.2]
    unfold coreText nameAt
    rw [if_pos h13, List.getElem?_eq_getElem hr]
  · simp at h

theorem usesTo_ok {T : ByteArray} {ss : List Str} {k : Nat} {t : Str} (hs : ShapedP ss) (hx : TextP T ss) (hk : ss[k]? = some t) {i : Nat} {u : Use} (h : u ∈ usesTo T (aAt ss k) ss k t i) : ∃ t f r, UseOk ss u t f r := by
  induction i with
  | zero => simp [usesTo] at h
  | succ i ih =>
    simp only [usesTo, List.mem_append] at h
    rcases h with h | h
    · exact ih h
    · cases hf : t.fs[i]? with
      | none => rw [hf] at h; simp at h
      | some f =>
        rw [hf] at h
        obtain ⟨r, hr⟩ := useOf_ok hk hf ((hs.whole k t hk).flds i f hf).2.1 ((hx.str k t hk).fld i f hf).typ h
        exact ⟨t, f, r, hr⟩

theorem usesAll_ok {T : ByteArray} {ss : List Str} (hs : ShapedP ss) (hx : TextP T ss) {n : Nat} {u : Use} (h : u ∈ usesAll T ss n) : ∃ t f r, UseOk ss u t f r := by
  induction n with
  | zero => simp [usesAll] at h
  | succ n ih =>
    simp only [usesAll, List.mem_append] at h
    rcases h with h | h
    · exact ih h
    · cases ht : ss[n]? with
      | none => rw [ht] at h; simp at h
      | some t =>
        rw [ht] at h
        exact usesTo_ok hs hx ht h

theorem usesTo_has {T : ByteArray} {ss : List Str} {a k : Nat} {t : Str} {f : Fld} {i : Nat} (hf : t.fs[i]? = some f) (h13 : f.t.core = 13) : ∀ n, i < n → ∃ u ∈ usesTo T a ss k t n, u.strct = k ∧ u.field = i
  | 0, h => by omega
  | n + 1, h => by
    by_cases hn : i = n
    · subst hn
      simp only [usesTo, hf, useOf, if_pos h13]
      exact ⟨_, List.mem_append_right _ (List.mem_singleton.2 rfl), rfl, rfl⟩
    · obtain ⟨u, hu, h2⟩ := usesTo_has (T := T) (ss := ss) (a := a) (k := k) hf h13 n (by omega)
      exact ⟨u, List.mem_append_left _ hu, h2⟩

theorem usesAll_has {T : ByteArray} {ss : List Str} {k : Nat} {t : Str} {f : Fld} {i : Nat} (hk : ss[k]? = some t) (hf : t.fs[i]? = some f) (h13 : f.t.core = 13) : ∀ n, k < n → ∃ u ∈ usesAll T ss n, u.strct = k ∧ u.field = i
  | 0, h => by omega
  | n + 1, h => by
    by_cases hn : k = n
    · subst hn
      obtain ⟨u, hu, h2⟩ := usesTo_has (T := T) (ss := ss) (a := aAt ss k) (k := k) hf h13 t.fs.length (List.getElem?_eq_some_iff.1 hf).1
      refine ⟨u, ?_, h2⟩
      simp only [usesAll, hk]
      exact List.mem_append_right _ hu
    · obtain ⟨u, hu, h2⟩ := usesAll_has (T := T) hk hf h13 n (by omega)
      exact ⟨u, List.mem_append_left _ hu, h2⟩

theorem ref_core {t : Typ} {n : Nat} (h : typeB t n = true) (hr : t.ref ≠ 0) : t.core = 13 := by
  unfold typeB at h
  rw [decide_eq_true_eq] at h
  unfold Typ.core
  split <;> omega

theorem names_uniq {ss : List Str} (hs : ShapedP ss) : ∀ (i j : Nat) (a b : Str), i ≠ j → ss[i]? = some a → ss[j]? = some b → (a.name.toList == b.name.toList) = false := by
  intro i j a b hij ha hb
  rcases Nat.lt_or_gt_of_ne hij with h | h
  · have := (hs.whole j b hb).dup i a h ha
    simpa using this
  · have := (hs.whole i a ha).dup j b h hb
    have h2 : ¬ b.name.toList = a.name.toList := by simpa using this
    simp only [beq_eq_false_iff_ne]
    exact fun h3 => h2 h3.symm
end Go.Proofs.Ygcfaf
