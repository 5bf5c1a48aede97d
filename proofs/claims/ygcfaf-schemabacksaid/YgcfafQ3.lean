import Derived.Test.YgcfafQ2
namespace Go.Proofs.Ygcfaf
open Go.RowKit
set_option linter.unusedVariables false

/-- The slice that holds the fields of t. -/
def Fval (t : Str) (g : Nat) : Value := if t.fs = [] then .slice none 0 0 else .slice (some ⟨g, 0, none⟩) t.fs.length t.fs.length

/-- The structs that the parser holds, with their rows of fields. -/
structure Rows (w : World) (b0 n : Nat) (ss : List Str) (S : List PStr) (γ : Nat → Nat) (G : Nat → List Fld) : Prop where
  len : S.length = n
  str : ∀ k t, k < n → ss[k]? = some t → S[k]? = some ⟨t.name, Fval t (γ k), t.data, t.ptrs⟩
  blk : ∀ k t, k < n → ss[k]? = some t → t.fs ≠ [] → b0 ≤ γ k ∧ Blk w (γ k) 150 (fRow (G k))
  inj : ∀ k k' t t', k < n → k' < n → ss[k]? = some t → ss[k']? = some t' → t.fs ≠ [] → t'.fs ≠ [] → k ≠ k' → γ k ≠ γ k'

/-- A use that names what it ought to. -/
structure UseOk (ss : List Str) (u : Use) (t : Str) (f : Fld) (r : Str) : Prop where
  ht : ss[u.strct]? = some t
  hf : t.fs[u.field]? = some f
  hr : ss[f.t.ref]? = some r
  nm : u.name = r.name

/-- The fields as bind holds them after some uses. -/
structure Half (ss : List Str) (us : List Use) (y : Nat) (G : Nat → List Fld) : Prop where
  len : ∀ k t, ss[k]? = some t → (G k).length = t.fs.length
  fld : ∀ k t i f, ss[k]? = some t → t.fs[i]? = some f → ∃ g, (G k)[i]? = some g ∧ (g = f ∨ (g = f.half ∧ ∀ u ∈ us.take y, ¬ (u.strct = k ∧ u.field = i)))

theorem half_start (ss : List Str) (us : List Use) : Half ss us 0 (fun k => match ss[k]? with | some t => t.fs.map Fld.half | none => []) := by
  refine ⟨fun k t hk => by simp [hk], fun k t i f hk hf => ⟨f.half, by simp [hk, hf], .inr ⟨rfl, fun u hu => by simp at hu⟩⟩⟩

theorem half_step {ss : List Str} {us : List Use} {y : Nat} {G : Nat → List Fld} {u : Use} {t : Str} {f : Fld} (h : Half ss us y G) (hu : us[y]? = some u) (ht : ss[u.strct]? = some t) (hf : t.fs[u.field]? = some f) :
    Half ss us (y + 1) (fun k => if k = u.strct then (G k).set u.field f else G k) := by
  refine ⟨fun k t' hk => ?_, fun k t' i f' hk hf' => ?_⟩
  · show List.length (if k = u.strct then (G k).set u.field f else G k) = _
    split
    · rw [List.length_set]; exact h.len k t' hk
    · exact h.len k t' hk
  · obtain ⟨g, hg, hgo⟩ := h.fld k t' i f' hk hf'
    by_cases hks : k = u.strct
    · by_cases hi : u.field = i
      · refine ⟨f', ?_, .inl rfl⟩
        simp only [hks, if_true]
        subst hks
        rw [ht] at hk; cases hk
        rw [hi] at hf
        rw [hf] at hf'; cases hf'
        rw [List.getElem?_set, hi, if_pos rfl, if_pos (List.getElem?_eq_some_iff.1 hg).1]
      · refine ⟨g, ?_, ?_⟩
        · simp only [if_pos hks]
          rw [List.getElem?_set, if_neg hi]; exact hg
        · rcases hgo with e | ⟨e, hno⟩
          · exact .inl e
          · refine .inr ⟨e, fun v hv => ?_⟩
            rw [List.take_add_one, hu] at hv
            rcases List.mem_append.1 hv with hv | hv
            · exact hno v hv
            · simp at hv; subst hv; exact fun h => hi h.2
    · refine ⟨g, by simp only [if_neg hks]; exact hg, ?_⟩
      rcases hgo with e | ⟨e, hno⟩
      · exact .inl e
      · refine .inr ⟨e, fun v hv => ?_⟩
        rw [List.take_add_one, hu] at hv
        rcases List.mem_append.1 hv with hv | hv
        · exact hno v hv
        · simp at hv; subst hv; exact fun h => hks h.1.symm

theorem half_end {ss : List Str} {us : List Use} {G : Nat → List Fld} (h : Half ss us us.length G) (hall : ∀ k t i f, ss[k]? = some t → t.fs[i]? = some f → f.t.ref ≠ 0 → ∃ u ∈ us, u.strct = k ∧ u.field = i) : ∀ k t, ss[k]? = some t → G k = t.fs := by
  intro k t hk
  refine List.ext_getElem? fun i => ?_
  by_cases hi : i < t.fs.length
  · have hf : t.fs[i]? = some t.fs[i] := List.getElem?_eq_getElem hi
    obtain ⟨g, hg, hgo⟩ := h.fld k t i _ hk hf
    rw [hg, hf]
    rcases hgo with e | ⟨e, hno⟩
    · rw [e]
    · by_cases hr : t.fs[i].t.ref = 0
      · rw [e]
        have e2 : ∀ f : Fld, f.t.ref = 0 → f.half = f := by
          intro f hf
          obtain ⟨fn, ⟨fk, fe, fr, fne⟩, fp⟩ := f
          simp only at hf
          subst hf
          rfl
        rw [e2 _ hr]
      · obtain ⟨u, hu, hu2⟩ := hall k t i _ hk hf hr
        rw [List.take_length] at hno
        exact absurd hu2 (hno u hu)
  · rw [List.getElem?_eq_none (by rw [h.len k t hk]; omega), List.getElem?_eq_none (by omega)]
end Go.Proofs.Ygcfaf
