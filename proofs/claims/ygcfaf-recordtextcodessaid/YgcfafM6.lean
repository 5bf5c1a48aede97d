/- The machine's builds and its reads of memory. -/
import Derived.Test.YgcfafM5
import Derived.Great.BuildSlice
namespace Go.Proofs.Ygcfaf.Mach
open Go
set_option linter.unusedVariables false
set_option linter.unusedSimpArgs false
variable {α β R : Type}

theorem foldl_set (off : Nat) : ∀ (vs : List Value) (k : Nat) (cs : Array Value), off + k + vs.length ≤ cs.size →
    ((vs.zipIdx k).foldl (fun cs p => cs.setIfInBounds (off + p.2) p.1) cs).toList = cs.toList.take (off + k) ++ vs ++ cs.toList.drop (off + k + vs.length)
  | [], k, cs, h => by simp
  | v :: r, k, cs, h => by
    have hl : off + k + 1 + r.length ≤ cs.size := by simp at h; omega
    have ih := foldl_set off r (k + 1) (cs.setIfInBounds (off + k) v) (by simp; omega)
    rw [List.zipIdx_cons, List.foldl_cons, ih]
    have hs : (cs.setIfInBounds (off + k) v).toList = cs.toList.set (off + k) v := by simp
    rw [hs]
    have h1 : (cs.toList.set (off + k) v).take (off + (k + 1)) = cs.toList.take (off + k) ++ [v] := by
      have hlt : off + k < cs.toList.length := by simp; omega
      apply List.ext_getElem?
      intro j
      rw [List.getElem?_take, List.getElem?_append, List.length_take]
      by_cases hj : j < off + k
      · rw [if_pos (by omega), if_pos (by omega), List.getElem?_set_ne (by omega), List.getElem?_take, if_pos hj]
      · by_cases hj2 : j = off + k
        · subst hj2
          rw [if_pos (by omega), if_neg (by omega), List.getElem?_set_self hlt]
          simp [Nat.min_eq_left (show off + k ≤ cs.size by omega)]
        · rw [if_neg (by omega), if_neg (by omega)]
          rw [List.getElem?_eq_none]
          simp
          omega
    have h2 : (cs.toList.set (off + k) v).drop (off + (k + 1) + r.length) = cs.toList.drop (off + k + (v :: r).length) := by
      rw [List.drop_set_of_lt (by omega)]
      congr 1
      simp
      omega
    rw [h1, h2]
    simp

theorem fill_cons (pl : Nat → Option (Nat × Nat)) (i : Nat) (v : Value) (rest : List (Nat × Value)) (cells : Array Value) (off size : Nat) (hp : pl i = some (off, size)) (hs : v.cells.size = size) (hle : off + size ≤ cells.size) :
    Instr.fill pl cells ((i, v) :: rest) = Instr.fill pl (cells.toList.take off ++ v.cells.toList ++ cells.toList.drop (off + size)).toArray rest := by
  rw [Instr.fill, hp]
  have h1 : ¬ ((decide (v.cells.size ≠ size) || decide (off + v.cells.size > cells.size)) = true) := by simp [hs]; omega
  simp only [h1, if_false, Bool.false_eq_true]
  congr 1
  apply Array.ext'
  rw [← Array.foldl_toList, Array.toList_zipIdx]
  have := foldl_set off v.cells.toList 0 cells (by simp [hs]; omega)
  simp only [Nat.add_zero, Array.length_toList, hs] at this
  simpa using this

theorem fill_sound {m : Mp} {pl pl' : Nat → Option (Nat × Nat)} (hpl : ∀ i q, pl i = some q → pl' i = some q) : ∀ (ps ps' : List (Nat × Value)) (z : List Value) (z' : Array Value) (cs : List Value), L2 (fun (p p' : Nat × Value) => p.1 = p'.1 ∧ EV m p.2 p'.2) ps ps' →
    L2 (CR m) z z'.toList → fillL pl ps z = some cs → ∃ cs' : Array Value, Instr.fill pl' z' ps' = some cs' ∧ L2 (CR m) cs cs'.toList := by
  intro ps
  induction ps with
  | nil =>
    intro ps' z z' cs hp hz h
    cases hp
    cases h
    exact ⟨z', rfl, hz⟩
  | cons p ps ih =>
    intro ps' z z' cs hp hz h
    cases hp with | cons hab hps =>
    rename_i p' ps'
    obtain ⟨i, v⟩ := p
    obtain ⟨i', v'⟩ := p'
    obtain ⟨hi, hv⟩ := hab
    simp only at hi hv
    subst hi
    have h' : (match pl i with
      | none => none
      | some q => cond (okC v && (Nat.beq (lenR (cellsL v)) q.2 && Nat.ble (Nat.add q.1 q.2) (lenR z))) (fList (over z q.1 (cellsL v)) (fillL pl ps)) none) = some cs := h
    split at h'
    · cases h'
    · rename_i q hq
      obtain ⟨hc, h2⟩ := cond_some h'
      rw [fList_eq] at h2
      simp only [Bool.and_eq_true] at hc
      obtain ⟨hc1, hc2, hc3⟩ := hc
      have e2 := beq_iff hc2
      have e3 := ble_iff hc3
      rw [lenR_eq] at e2 e3
      have hv1 := (hv.vr (fun e => by rw [e] at hc1; simp [okC] at hc1)).v1 hc1
      have hcl := hv1.cells
      have hlen := hcl.length
      have hzl := hz.length
      rw [over_eq _ _ _ (by rw [e2]; exact e3)] at h2
      have hn : L2 (CR m) (z.take q.1 ++ cellsL v ++ z.drop (q.1 + (cellsL v).length)) (z'.toList.take q.1 ++ v'.cells.toList ++ z'.toList.drop (q.1 + q.2)).toArray.toList := by
        rw [e2]
        exact ((hz.take _).append hcl).append (hz.drop _)
      obtain ⟨cs', h3, h4⟩ := ih ps' _ _ _ hps hn h2
      have hvs : v'.cells.size = q.2 := by rw [← Array.length_toList, ← hlen, e2]
      have hzs : z'.size = z.length := by rw [← Array.length_toList, hzl]
      refine ⟨cs', ?_, h4⟩
      rw [fill_cons pl' i v' ps' z' q.1 q.2 (hpl _ _ hq) hvs (by rw [hzs]; exact e3)]
      exact h3

theorem evParts_sound {m : Mp} {n : Nat} {t : Tr Value} {a : Act} (hf : FR m n t a) (l : List (Nat × Operand)) : L2 (fun (p p' : Nat × Value) => p.1 = p'.1 ∧ EV m p.2 p'.2) (evParts t l) (l.map fun p => (p.1, a.eval p.2)) := by
  induction l with
  | nil => exact .nil
  | cons p t' ih => exact .cons ⟨rfl, hf.ev p.2⟩ ih

section
variable {P : Program} {T : List (Nat × TyR)} {m : Mp} (hT : ∀ i r, tl T i = some r → TyOk P i r)

theorem pAgg_some {o : Option (List Value)} {v : Value} (h : pAgg o = some v) : ∃ cs, o = some cs ∧ v = .agg ⟨cs⟩ := by
  unfold pAgg at h
  split at h
  · cases h; exact ⟨_, rfl, rfl⟩
  · cases h

theorem parts_list (a : Act) (parts : Array (Nat × Operand)) : (parts.map fun (i, x) => (i, a.eval x)).toList = parts.toList.map fun p => (p.1, a.eval p.2) := by
  simp

theorem places_map {fields : List Field} {fs : List (Nat × Nat × Bool)} (h : L2 (fun (f : Field) (q : Nat × Nat × Bool) => f.offset = q.1 ∧ SizeOk P f.type q.2.1 q.2.2 ∧ 0 < q.2.1) fields fs) :
    fields.mapM (fun f => (P.info? f.type).map fun i => (f.offset, i.size)) = some (fs.map fun q => (q.1, q.2.1)) := by
  induction h with
  | nil => rfl
  | cons hab _ ih =>
    obtain ⟨h1, ⟨inf, d, h2, h3, _⟩, _⟩ := hab
    rw [List.mapM_cons, ih, h2]
    simp [h1, h3]

include hT in
theorem pBuild_sound {t : Tr Value} {n : Nat} {a : Act} (hf : FR m n t a) {ty : TypeId} {parts : Array (Nat × Operand)} {v : Value} (h : pBuild t (tl T ty) parts.toList = some v) :
    ∃ v', EV m v v' ∧ ∀ w, (Instr.build ty (parts.map fun (i, x) => (i, a.eval x))).run P w = .ok v' w := by
  unfold pBuild at h
  split at h
  · rename_i size byts ag z fs hr
    obtain ⟨cs, hcs, rfl⟩ := pAgg_some h
    have htk := hT _ _ hr
    obtain ⟨inf, z0, hi, _, hz0, hzc, _, hgr, _⟩ := htk.zero
    obtain ⟨d, hd, _, fields, he, hl⟩ := htk.desc
    subst he
    obtain ⟨cs', h1, h2⟩ := fill_sound (m := m) (pl' := ((fs.map fun q => (q.1, q.2.1)).toArray[·]?)) (fun i q hq => by
      unfold placeS at hq
      rw [nth_eq] at hq
      split at hq
      · rename_i q' hq'
        cases hq
        simp [hq']
      · cases hq) _ _ z z0.cells cs (evParts_sound hf parts.toList) (by rw [hzc]; exact L2.grs hgr) hcs
    refine ⟨.agg cs', .inr (.one (.agg (y := cs'.toList) h2)), fun w => run_build w ty _ cs' ?_⟩
    unfold Program.built
    simp only [hi, hd, hz0, places_map hl, parts_list]
    exact h1
  · rename_i size byts ag z len e es ea hr
    obtain ⟨cs, hcs, rfl⟩ := pAgg_some h
    have htk := hT _ _ hr
    obtain ⟨inf, z0, hi, _, hz0, hzc, _, hgr, _⟩ := htk.zero
    obtain ⟨d, hd, _, he, ⟨inf', d', hi', hs', _⟩, _⟩ := htk.desc
    subst he
    obtain ⟨cs', h1, h2⟩ := fill_sound (m := m) (pl' := fun i => some (i * inf'.size, inf'.size)) (fun i q hq => by
      rw [← hq, hs']; rfl) _ _ z z0.cells cs (evParts_sound hf parts.toList) (by rw [hzc]; exact L2.grs hgr) hcs
    refine ⟨.agg cs', .inr (.one (.agg (y := cs'.toList) h2)), fun w => run_build w ty _ cs' ?_⟩
    unfold Program.built
    simp only [hi, hd, hz0, hi', parts_list]
    exact h1
  · cases h

include hT in
/-- ████ AN OPERATION THAT LOOKS AT NO MEMORY ████ -/
theorem aPure_sound {t : Tr Value} {n : Nat} {a : Act} (hf : FR m n t a) {o : Oper} {v : Value} (h : aPure P T t o.op = some v) :
    ∃ v', EV m v v' ∧ ∀ w, (execOp a.eval o).run P w = .ok (.value v') w := by
  unfold execOp
  have lift : ∀ {s : Sem Value}, (∃ v', EV m v v' ∧ ∀ w, s.run P w = .ok v' w) → ∃ v', EV m v v' ∧ ∀ w, (do pure (Next.value (← s)) : Sem Next).run P w = .ok (.value v') w := by
    rintro s ⟨v', h1, h2⟩
    exact ⟨v', h1, fun w => by simp [h2 w]⟩
  unfold aPure at h
  split at h
  · rename_i x e; rw [e]; cases h; exact ⟨_, hf.ev x, fun w => rfl⟩
  · rename_i x e; rw [e]; cases h; exact ⟨_, hf.ev x, fun w => rfl⟩
  · rename_i c x y e; rw [e]; exact pPick_sound h (hf.ev c) (hf.ev x) (hf.ev y)
  · rename_i x e
    rw [e]
    have hx := hf.ev x
    unfold pNil at h
    split at h
    · rename_i ad he
      cases h
      rw [he] at hx
      obtain ⟨cb, cap, hb, hx'⟩ := (hx.vr (by simp)).ptrAny
      simp only [hx']
      exact ⟨_, .inr (hx' ▸ hx.vr (by simp)), fun w => rfl⟩
    · cases h
  · rename_i op ty x y yt e; rw [e]; exact lift (pBin_sound hT h (hf.ev x) (hf.ev y))
  · rename_i op ty x e; rw [e]; exact lift (pUn_sound h (hf.ev x))
  · rename_i s d x e; rw [e]; exact lift (pConv_sound hT h (hf.ev x))
  · rename_i ty x lo hi mx e; rw [e]; exact lift (pSlice_sound hT hf h)
  · rename_i s x f e; rw [e]; exact lift (pFieldA_sound hT h (hf.ev x))
  · rename_i ty x ix e; rw [e]; exact lift (pIndexA_sound hT h (hf.ev x) (hf.ev ix))
  · rename_i ty x ix e; rw [e]; exact lift (pIndex_sound hT h (hf.ev x) (hf.ev ix))
  · rename_i x i e; rw [e]; exact lift (pExtract_sound h (hf.ev x))
  · rename_i ty parts e; rw [e]; exact lift (pBuild_sound hT hf h)
  · rename_i c e
    rw [e]
    unfold pCall at h
    split at h
    · rename_i b args tys
      unfold pBuiltin at h
      split at h
      · rename_i x ty
        obtain ⟨v', h1, h2⟩ := pLen_sound (typ := o.type) hT h (hf.ev x)
        exact ⟨v', h1, fun w => by simp [resolve, invoke, builtin, h2 w]⟩
      · rename_i tys' x y
        obtain ⟨v', h1, h2⟩ := pMin_sound (P := P) (tys := tys) (typ := o.type) h (hf.ev x) (hf.ev y)
        exact ⟨v', h1, fun w => by simp [resolve, invoke, builtin, h2 w]⟩
      · cases h
    · cases h
  · cases h
end
end Go.Proofs.Ygcfaf.Mach
