import Derived.Test.YgcfafP7
namespace Go.Proofs.Ygcfaf
open Go.RowKit
set_option linter.unusedVariables false

def fld0 : Fld := ⟨⟨#[]⟩, ⟨0, 0, 0, 0⟩, ⟨0, 0, 0, false⟩⟩
/-- The field as order leaves it: placed, no reference yet. -/
def Fld.half (f : Fld) : Fld := { name := f.name, t := f.t.bare, p := f.p }
def stg1 (fs : List Fld) (j : Nat) : List Fld := (fs.take j).map Fld.bare ++ List.replicate (fs.length - j) fld0
def stg3 (fs : List Fld) (j : Nat) : List Fld := (fs.take j).map Fld.half ++ (fs.drop j).map Fld.bare

theorem stg1_at (fs : List Fld) (j : Nat) (h : j < fs.length) : (stg1 fs j)[j]? = some fld0 := by
  unfold stg1
  rw [List.getElem?_append_right (by simp; omega), List.getElem?_replicate, if_pos (by simp; omega)]
theorem stg1_set (fs : List Fld) (j : Nat) (f : Fld) (h : fs[j]? = some f) : (stg1 fs j).set j f.bare = stg1 fs (j + 1) := by
  have hl : j < fs.length := (List.getElem?_eq_some_iff.1 h).1
  unfold stg1
  rw [List.set_append_right _ _ (by simp; omega), List.take_add_one, h]
  simp only [List.map_append, List.length_map, List.length_take, Nat.min_eq_left (Nat.le_of_lt hl), Nat.sub_self]
  rw [show fs.length - j = (fs.length - (j + 1)) + 1 by omega, List.replicate_succ, List.set_cons_zero]
  simp
theorem stg1_zero (fs : List Fld) : stg1 fs 0 = List.replicate fs.length fld0 := by simp [stg1]
theorem stg3_zero (fs : List Fld) : stg3 fs 0 = stg1 fs fs.length := by simp [stg3, stg1]
theorem stg3_end (fs : List Fld) : stg3 fs fs.length = fs.map Fld.half := by simp [stg3]
theorem stg3_at (fs : List Fld) (j : Nat) (f : Fld) (h : fs[j]? = some f) : (stg3 fs j)[j]? = some f.bare := by
  have hl : j < fs.length := (List.getElem?_eq_some_iff.1 h).1
  unfold stg3
  rw [List.getElem?_append_right (by simp; omega)]
  simp [Nat.min_eq_left (Nat.le_of_lt hl), h]
theorem stg3_set (fs : List Fld) (j : Nat) (f : Fld) (h : fs[j]? = some f) : (stg3 fs j).set j f.half = stg3 fs (j + 1) := by
  have hl : j < fs.length := (List.getElem?_eq_some_iff.1 h).1
  unfold stg3
  have hd : fs.drop j = f :: fs.drop (j + 1) := by rw [List.drop_eq_getElem_cons hl]; congr 1; exact (List.getElem?_eq_some_iff.1 h).2
  rw [List.set_append_right _ _ (by simp; omega), List.take_add_one, h, hd]
  simp only [List.map_append, List.map_cons, List.length_map, List.length_take, Nat.min_eq_left (Nat.le_of_lt hl), Nat.sub_self, List.set_cons_zero]
  simp

theorem made150 (n : Nat) : (madeCells (Value.agg #[.string ⟨#[]⟩, .int .u8 0, .int .u8 0, .int .u8 0, .int .u8 0, .int .u8 0, .int .u16 0, .int .u8 0, .bool false]).cells (n * 9)).toList = fRow (List.replicate n fld0) := by
  unfold madeCells
  rw [Array.toList_map, Array.toList_range]
  refine List.ext_getElem? fun q => ?_
  by_cases hq : q < n * 9
  · rw [List.getElem?_map, List.getElem?_range hq]
    have hm : (List.replicate n fld0)[q / 9]? = some fld0 := by rw [List.getElem?_replicate, if_pos (by omega)]
    have h9 : q % 9 < 9 := Nat.mod_lt _ (by decide)
    have hx : ∀ r : Fin 9, (fldCells fld0)[r.val]? = some ((#[Value.string ⟨#[]⟩, .int .u8 0, .int .u8 0, .int .u8 0, .int .u8 0, .int .u8 0, .int .u16 0, .int .u8 0, .bool false])[r.val]!) := by
      intro ⟨r, hr⟩
      have : r = 0 ∨ r = 1 ∨ r = 2 ∨ r = 3 ∨ r = 4 ∨ r = 5 ∨ r = 6 ∨ r = 7 ∨ r = 8 := by omega
      rcases this with rfl | rfl | rfl | rfl | rfl | rfl | rfl | rfl | rfl <;> rfl
    have hf := flat_at fldCells 9 fld_len (List.replicate n fld0) (q / 9) (q % 9) fld0 _ hm (hx ⟨q % 9, h9⟩)
    rw [show q / 9 * 9 + q % 9 = q by omega] at hf
    exact hf.symm
  · rw [List.getElem?_eq_none (by simp; omega), List.getElem?_eq_none]
    unfold fRow
    rw [flat_len fldCells 9 fld_len]
    simp; omega

/-- Nine cells set: one field set. -/
theorem set9 (l : List Fld) (j : Nat) (x f : Fld) (h : l[j]? = some x) :
    (((((((((fRow l).set (j * 9) (.string f.name)).set (j * 9 + 1) (.int .u8 f.t.kind)).set (j * 9 + 2) (.int .u8 f.t.elem)).set (j * 9 + 3) (.int .u8 f.t.ref)).set (j * 9 + 4) (.int .u8 f.t.nest)).set (j * 9 + 5) (.int .u8 f.p.bits)).set (j * 9 + 6) (.int .u16 f.p.off)).set (j * 9 + 7) (.int .u8 f.p.slot)).set (j * 9 + 8) (.bool f.p.isPtr) = fRow (l.set j f) := by
  have hl : j < l.length := (List.getElem?_eq_some_iff.1 h).1
  have st : ∀ (m : List Fld) (y y' : Fld) (o : Nat) (u : Value), m[j]? = some y → o < 9 → (fldCells y).set o u = fldCells y' → (fRow m).set (j * 9 + o) u = fRow (m.set j y') := fun m y y' o u hm ho hs => flat_set fldCells 9 fld_len m j o y y' u hm ho hs
  have at_ : ∀ y : Fld, (l.set j y)[j]? = some y := fun y => by rw [List.getElem?_set]; simp [hl]
  obtain ⟨xn, ⟨xk, xe, xr, xs⟩, ⟨xb, xo, xl, xq⟩⟩ := x
  obtain ⟨gn, ⟨gk, ge, gr, gs⟩, ⟨gb, go, gl, gq⟩⟩ := f
  have e0 := st l _ ⟨gn, ⟨xk, xe, xr, xs⟩, ⟨xb, xo, xl, xq⟩⟩ 0 (.string gn) h (by decide) rfl
  rw [Nat.add_zero] at e0
  have e1 := st (l.set j ⟨gn, ⟨xk, xe, xr, xs⟩, ⟨xb, xo, xl, xq⟩⟩) _ ⟨gn, ⟨gk, xe, xr, xs⟩, ⟨xb, xo, xl, xq⟩⟩ 1 (.int .u8 gk) (at_ _) (by decide) rfl
  rw [List.set_set] at e1
  have e2 := st (l.set j ⟨gn, ⟨gk, xe, xr, xs⟩, ⟨xb, xo, xl, xq⟩⟩) _ ⟨gn, ⟨gk, ge, xr, xs⟩, ⟨xb, xo, xl, xq⟩⟩ 2 (.int .u8 ge) (at_ _) (by decide) rfl
  rw [List.set_set] at e2
  have e3 := st (l.set j ⟨gn, ⟨gk, ge, xr, xs⟩, ⟨xb, xo, xl, xq⟩⟩) _ ⟨gn, ⟨gk, ge, gr, xs⟩, ⟨xb, xo, xl, xq⟩⟩ 3 (.int .u8 gr) (at_ _) (by decide) rfl
  rw [List.set_set] at e3
  have e4 := st (l.set j ⟨gn, ⟨gk, ge, gr, xs⟩, ⟨xb, xo, xl, xq⟩⟩) _ ⟨gn, ⟨gk, ge, gr, gs⟩, ⟨xb, xo, xl, xq⟩⟩ 4 (.int .u8 gs) (at_ _) (by decide) rfl
  rw [List.set_set] at e4
  have e5 := st (l.set j ⟨gn, ⟨gk, ge, gr, gs⟩, ⟨xb, xo, xl, xq⟩⟩) _ ⟨gn, ⟨gk, ge, gr, gs⟩, ⟨gb, xo, xl, xq⟩⟩ 5 (.int .u8 gb) (at_ _) (by decide) rfl
  rw [List.set_set] at e5
  have e6 := st (l.set j ⟨gn, ⟨gk, ge, gr, gs⟩, ⟨gb, xo, xl, xq⟩⟩) _ ⟨gn, ⟨gk, ge, gr, gs⟩, ⟨gb, go, xl, xq⟩⟩ 6 (.int .u16 go) (at_ _) (by decide) rfl
  rw [List.set_set] at e6
  have e7 := st (l.set j ⟨gn, ⟨gk, ge, gr, gs⟩, ⟨gb, go, xl, xq⟩⟩) _ ⟨gn, ⟨gk, ge, gr, gs⟩, ⟨gb, go, gl, xq⟩⟩ 7 (.int .u8 gl) (at_ _) (by decide) rfl
  rw [List.set_set] at e7
  have e8 := st (l.set j ⟨gn, ⟨gk, ge, gr, gs⟩, ⟨gb, go, gl, xq⟩⟩) _ ⟨gn, ⟨gk, ge, gr, gs⟩, ⟨gb, go, gl, gq⟩⟩ 8 (.bool gq) (at_ _) (by decide) rfl
  rw [List.set_set] at e8
  rw [e0, e1, e2, e3, e4, e5, e6, e7, e8]

theorem set4p (l : List Fld) (j : Nat) (x f : Fld) (h : l[j]? = some x) (hn : x.name = f.name) (ht : x.t = f.t) :
    ((((fRow l).set (j * 9 + 5) (.int .u8 f.p.bits)).set (j * 9 + 6) (.int .u16 f.p.off)).set (j * 9 + 7) (.int .u8 f.p.slot)).set (j * 9 + 8) (.bool f.p.isPtr) = fRow (l.set j f) := by
  have hl : j < l.length := (List.getElem?_eq_some_iff.1 h).1
  have st : ∀ (m : List Fld) (y y' : Fld) (o : Nat) (u : Value), m[j]? = some y → o < 9 → (fldCells y).set o u = fldCells y' → (fRow m).set (j * 9 + o) u = fRow (m.set j y') := fun m y y' o u hm ho hs => flat_set fldCells 9 fld_len m j o y y' u hm ho hs
  have at_ : ∀ y : Fld, (l.set j y)[j]? = some y := fun y => by rw [List.getElem?_set]; simp [hl]
  obtain ⟨xn, ⟨xk, xe, xr, xs⟩, ⟨xb, xo, xl, xq⟩⟩ := x
  obtain ⟨gn, ⟨gk, ge, gr, gs⟩, ⟨gb, go, gl, gq⟩⟩ := f
  simp only at hn
  simp only [Typ.mk.injEq] at ht
  obtain ⟨rfl, rfl, rfl, rfl⟩ := ht
  subst hn
  have e5 := st l _ ⟨xn, ⟨xk, xe, xr, xs⟩, ⟨gb, xo, xl, xq⟩⟩ 5 (.int .u8 gb) h (by decide) rfl
  have e6 := st (l.set j ⟨xn, ⟨xk, xe, xr, xs⟩, ⟨gb, xo, xl, xq⟩⟩) _ ⟨xn, ⟨xk, xe, xr, xs⟩, ⟨gb, go, xl, xq⟩⟩ 6 (.int .u16 go) (at_ _) (by decide) rfl
  rw [List.set_set] at e6
  have e7 := st (l.set j ⟨xn, ⟨xk, xe, xr, xs⟩, ⟨gb, go, xl, xq⟩⟩) _ ⟨xn, ⟨xk, xe, xr, xs⟩, ⟨gb, go, gl, xq⟩⟩ 7 (.int .u8 gl) (at_ _) (by decide) rfl
  rw [List.set_set] at e7
  have e8 := st (l.set j ⟨xn, ⟨xk, xe, xr, xs⟩, ⟨gb, go, gl, xq⟩⟩) _ ⟨xn, ⟨xk, xe, xr, xs⟩, ⟨gb, go, gl, gq⟩⟩ 8 (.bool gq) (at_ _) (by decide) rfl
  rw [List.set_set] at e8
  rw [e5, e6, e7, e8]

theorem own_below {w w' : World} {B base n size : Nat} {e : TypeId} {xs : List Value} {v : Value} (h : w.ownsRow base e size v n xs) (hb : Below B w w') (hB : w.heap.size ≤ B) : w'.ownsRow base e size v n xs := by
  refine ⟨h.1, ?_⟩
  rcases h.2 with hn | ⟨g, cap, cur, hv, hg, hh, rest⟩
  · exact .inl hn
  · refine .inr ⟨g, cap, cur, hv, hg, ?_, rest⟩
    rw [hb.block g (by have := heap_lt hh; omega)]
    exact hh

theorem Kf.below' {b0 Bk : Nat} {w w' : World} (hb : Below w.heap.size w w') (h0 : b0 ≤ w.heap.size) : Kf b0 Bk w w' :=
  ⟨hb.mono h0, fun g cur fz _ hh => by rw [hb.block g (heap_lt hh)]; exact hh⟩

theorem setCell_same {w : World} {g o : Nat} {v : Value} (h : w.cell? ⟨g, o, none⟩ = some v) : w.setCell ⟨g, o, none⟩ v = w := by
  have h1 : (w.setCell ⟨g, o, none⟩ v).heap = w.heap := by
    apply Array.ext_getElem?
    intro i
    unfold World.setCell
    simp only
    rw [Array.getElem?_modify]
    by_cases hi : g = i
    · subst hi
      rw [if_pos rfl]
      unfold World.cell? at h
      simp only at h
      cases hx : w.heap[g]? with
      | none => simp
      | some ob =>
        rw [hx] at h
        cases ob with
        | cells c e fz =>
          simp at h ⊢
          have h5 : c[o]? = some v := h
          apply Array.ext_getElem?
          intro q
          rw [Array.getElem?_setIfInBounds]
          by_cases hq : o = q
          · subst hq
            rw [if_pos rfl, if_pos (Array.getElem?_eq_some_iff.1 h5).1, h5]
          · rw [if_neg hq]
        | _ => simp
    · rw [if_neg hi]
  have h2 : w.setCell ⟨g, o, none⟩ v = { w with heap := (w.setCell ⟨g, o, none⟩ v).heap } := rfl
  rw [h2, h1]
end Go.Proofs.Ygcfaf
