import Derived.Test.YgcfafP8
namespace Go.Proofs.Ygcfaf
open Go.RowKit
set_option linter.unusedVariables false

/-- What order leaves. -/
def OrdEnd (w : World) (p b0 Bk at_ en tok k : Nat) (T : ByteArray) (sg scap : Nat) (nums : List Int) (us : List Use) (S : List PStr) (Uv : Value) (t : Str) (e : Ending) (w' : World) : Prop :=
  ∃ Fv', e = .returned (.tuple #[]) ∧ Blk w' p 223 (pCells T at_ en tok (xCells (.slice (some ⟨sg, 0, none⟩) S.length scap) nums Uv)) ∧ w'.ownsRow b0 148 4 (.slice (some ⟨sg, 0, none⟩) S.length scap) S.length (sRow (S.set k ⟨t.name, Fv', t.data, t.ptrs⟩)) ∧
    ((t.fs = [] ∧ Fv' = .slice none 0 0) ∨ ∃ g, t.fs ≠ [] ∧ Bk ≤ g ∧ Fv' = .slice (some ⟨g, 0, none⟩) t.fs.length t.fs.length ∧ Blk w' g 150 (fRow (t.fs.map Fld.half))) ∧
    w'.ownsRow b0 295 4 Uv us.length (usesRow us) ∧ Kf b0 Bk w w' ∧ Bk ≤ w'.heap.size

theorem x_numAt (T : ByteArray) (a e k : Nat) (Sv Uv : Value) (nums : List Int) (i : Nat) (v : Int) (h : nums[i]? = some v) : (pCells T a e k (xCells Sv nums Uv))[7 + i]? = some (.int .i64 v) := by
  have hl : i < nums.length := (List.getElem?_eq_some_iff.1 h).1
  unfold pCells xCells
  rw [Nat.add_comm 7 i]
  simp only [List.getElem?_cons_succ]
  rw [List.getElem?_append_left (by simp; exact hl), List.getElem?_map, h]
  rfl

/-- What one round of order's first loop stores. -/
def ordW (W : World) (g1 tb j : Nat) (f : Fld) : World := (((((((((((((W.setCell ⟨g1, j * 9, none⟩ (.string f.name)).setCell ⟨g1, j * 9 + 1, none⟩ (.int .u8 f.t.kind)).setCell ⟨g1, j * 9 + 2, none⟩ (.int .u8 f.t.elem)).setCell ⟨g1, j * 9 + 3, none⟩ (.int .u8 0)).setCell ⟨g1, j * 9 + 4, none⟩ (.int .u8 f.t.nest)).setCell ⟨g1, j * 9 + 5, none⟩ (.int .u8 0)).setCell ⟨g1, j * 9 + 6, none⟩ (.int .u16 0)).setCell ⟨g1, j * 9 + 7, none⟩ (.int .u8 0)).setCell ⟨g1, j * 9 + 8, none⟩ (.bool false)).setCell ⟨tb, j * 4, none⟩ (.int .u8 f.t.kind)).setCell ⟨tb, j * 4 + 1, none⟩ (.int .u8 f.t.elem)).setCell ⟨tb, j * 4 + 2, none⟩ (.int .u8 0)).setCell ⟨tb, j * 4 + 3, none⟩ (.int .u8 f.t.nest))
theorem set9b (l : List Fld) (j : Nat) (f x : Fld) (h : l[j]? = some x) : ((((((((((fRow l).set (j * 9) (.string f.name)).set (j * 9 + 1) (.int .u8 f.t.kind)).set (j * 9 + 2) (.int .u8 f.t.elem)).set (j * 9 + 3) (.int .u8 0)).set (j * 9 + 4) (.int .u8 f.t.nest)).set (j * 9 + 5) (.int .u8 0)).set (j * 9 + 6) (.int .u16 0)).set (j * 9 + 7) (.int .u8 0)).set (j * 9 + 8) (.bool false)) = fRow (l.set j f.bare) := set9 l j x f.bare h
theorem ts4b (l : List Fld) (j n : Nat) (f : Fld) (h : l[j]? = some f.bare) (hn : j < n) : (((((tsCells l j n).set (j * 4) (.int .u8 f.t.kind)).set (j * 4 + 1) (.int .u8 f.t.elem)).set (j * 4 + 2) (.int .u8 0)).set (j * 4 + 3) (.int .u8 f.t.nest)) = tsCells l (j + 1) n := tsCells_step l j n f.bare hn h
theorem ord_g {W : World} {g1 tb j : Nat} {f : Fld} {fs : List Fld} (h : Blk W g1 150 (fRow (stg1 fs j))) (hf : fs[j]? = some f) (n3 : ¬ g1 = tb) : Blk (ordW W g1 tb j f) g1 150 (fRow (stg1 fs (j + 1))) := by
  have hl : j < fs.length := (List.getElem?_eq_some_iff.1 hf).1
  have h9 := (((((((((((((h.set (j * 9) (.string f.name)).set (j * 9 + 1) (.int .u8 f.t.kind)).set (j * 9 + 2) (.int .u8 f.t.elem)).set (j * 9 + 3) (.int .u8 0)).set (j * 9 + 4) (.int .u8 f.t.nest)).set (j * 9 + 5) (.int .u8 0)).set (j * 9 + 6) (.int .u16 0)).set (j * 9 + 7) (.int .u8 0)).set (j * 9 + 8) (.bool false)).setOther ⟨tb, j * 4, none⟩ (.int .u8 f.t.kind) n3).setOther ⟨tb, j * 4 + 1, none⟩ (.int .u8 f.t.elem) n3).setOther ⟨tb, j * 4 + 2, none⟩ (.int .u8 0) n3).setOther ⟨tb, j * 4 + 3, none⟩ (.int .u8 f.t.nest) n3)
  rw [set9b _ _ _ _ (stg1_at _ _ hl), stg1_set _ _ _ hf] at h9
  exact h9
theorem ord_t {W : World} {g1 tb j n : Nat} {f : Fld} {l : List Fld} (h : Blk W tb 85 (tsCells l j n)) (hf : l[j]? = some f.bare) (hn : j < n) (n6 : ¬ tb = g1) : Blk (ordW W g1 tb j f) tb 85 (tsCells l (j + 1) n) := by
  have h9 := (((((((((((((h.setOther ⟨g1, j * 9, none⟩ (.string f.name) n6).setOther ⟨g1, j * 9 + 1, none⟩ (.int .u8 f.t.kind) n6).setOther ⟨g1, j * 9 + 2, none⟩ (.int .u8 f.t.elem) n6).setOther ⟨g1, j * 9 + 3, none⟩ (.int .u8 0) n6).setOther ⟨g1, j * 9 + 4, none⟩ (.int .u8 f.t.nest) n6).setOther ⟨g1, j * 9 + 5, none⟩ (.int .u8 0) n6).setOther ⟨g1, j * 9 + 6, none⟩ (.int .u16 0) n6).setOther ⟨g1, j * 9 + 7, none⟩ (.int .u8 0) n6).setOther ⟨g1, j * 9 + 8, none⟩ (.bool false) n6).set (j * 4) (.int .u8 f.t.kind)).set (j * 4 + 1) (.int .u8 f.t.elem)).set (j * 4 + 2) (.int .u8 0)).set (j * 4 + 3) (.int .u8 f.t.nest))
  rw [ts4b _ _ _ _ hf hn] at h9
  exact h9
theorem ord_b {W w : World} {g1 tb j : Nat} {f : Fld} (h : Below g1 w W) (ht : g1 ≤ tb) : Below g1 w (ordW W g1 tb j f) := by
  unfold ordW
  iterate 13 refine Below.setCell ?_ (by first | exact ht | exact Nat.le_refl _) _
  exact h
/-- What one round of order's last loop stores. -/
def plcW (W : World) (g1 j : Nat) (f : Fld) : World := (((W.setCell ⟨g1, j * 9 + 5, none⟩ (.int .u8 f.p.bits)).setCell ⟨g1, j * 9 + 6, none⟩ (.int .u16 f.p.off)).setCell ⟨g1, j * 9 + 7, none⟩ (.int .u8 f.p.slot)).setCell ⟨g1, j * 9 + 8, none⟩ (.bool f.p.isPtr)
theorem plc_g {W : World} {g1 j : Nat} {f : Fld} {fs : List Fld} (h : Blk W g1 150 (fRow (stg3 fs j))) (hf : fs[j]? = some f) : Blk (plcW W g1 j f) g1 150 (fRow (stg3 fs (j + 1))) := by
  have h9 := (((h.set (j * 9 + 5) (.int .u8 f.half.p.bits)).set (j * 9 + 6) (.int .u16 f.half.p.off)).set (j * 9 + 7) (.int .u8 f.half.p.slot)).set (j * 9 + 8) (.bool f.half.p.isPtr)
  rw [set4p _ _ _ f.half (stg3_at _ _ _ hf) rfl rfl, stg3_set _ _ _ hf] at h9
  exact h9
theorem plc_b {W w : World} {g1 j : Nat} {f : Fld} (h : Below g1 w W) : Below g1 w (plcW W g1 j f) := by
  unfold plcW
  iterate 4 refine Below.setCell ?_ (by exact Nat.le_refl _) _
  exact h
theorem plc_p {W : World} {g1 j BB n pg pc : Nat} {f : Fld} {xs : List Value} (h : W.ownsRow BB 82 4 (.slice (some ⟨pg, 0, none⟩) n pc) n xs) (hn : ¬ pg = g1) : (plcW W g1 j f).ownsRow BB 82 4 (.slice (some ⟨pg, 0, none⟩) n pc) n xs := by
  unfold plcW
  iterate 4 refine ownsRow_setCell_other ?_ (by simp [Value.ownBlock]; exact hn) _
  exact h
theorem Below.trans' {B : Nat} {w w' : World} {d : Nat} (h : Below B (w.drewN d) w') : Below B w w' := ⟨h.os, h.tape, h.output, h.size, h.block⟩

theorem kinds_bare (t : Str) : kindsOf { t with fs := t.fs.map Fld.bare } = kindsOf t := by
  funext i
  unfold kindsOf
  simp only [List.getElem?_map]
  cases t.fs[i]? <;> rfl

theorem Blk.drew {w : World} {g : Nat} {e : TypeId} {l : List Value} (h : Blk w g e l) : Blk w.drew g e l := h

/-- order's last stores. -/
def endW (W : World) (sg k data ptrs : Nat) (Fv : Value) : World := ((W.setCell ⟨sg, k * 4 + 2, none⟩ (.int .u8 data)).setCell ⟨sg, k * 4 + 3, none⟩ (.int .u8 ptrs)).setCell ⟨sg, k * 4 + 1, none⟩ Fv

theorem end_row {W : World} {b0 sg scap k data ptrs : Nat} {S : List PStr} {sn : ByteArray} {F0 : Value} (Fv : Value) (hS : W.ownsRow b0 148 4 (.slice (some ⟨sg, 0, none⟩) S.length scap) S.length (sRow S)) (hk : S[k]? = some ⟨sn, F0, 0, 0⟩) :
    (endW W sg k data ptrs Fv).ownsRow b0 148 4 (.slice (some ⟨sg, 0, none⟩) S.length scap) S.length (sRow (S.set k ⟨sn, Fv, data, ptrs⟩)) := by
  have hl : k < S.length := (List.getElem?_eq_some_iff.1 hk).1
  have at_ : ∀ y : PStr, (S.set k y)[k]? = some y := fun y => by rw [List.getElem?_set]; simp [hl]
  have h1 := own_set hS (k * 4 + 2) (by omega) (.int .u8 data)
  rw [show (sRow S).set (k * 4 + 2) (.int .u8 data) = sRow (S.set k ⟨sn, F0, data, 0⟩) from flat_set pstrCells 4 pstr_len S k 2 _ _ _ hk (by decide) rfl] at h1
  have h2 := own_set h1 (k * 4 + 3) (by omega) (.int .u8 ptrs)
  rw [show (sRow (S.set k ⟨sn, F0, data, 0⟩)).set (k * 4 + 3) (.int .u8 ptrs) = sRow ((S.set k ⟨sn, F0, data, 0⟩).set k ⟨sn, F0, data, ptrs⟩) from flat_set pstrCells 4 pstr_len _ k 3 _ _ _ (at_ _) (by decide) rfl, List.set_set] at h2
  have h3 := own_set h2 (k * 4 + 1) (by omega) Fv
  rw [show (sRow (S.set k ⟨sn, F0, data, ptrs⟩)).set (k * 4 + 1) Fv = sRow ((S.set k ⟨sn, F0, data, ptrs⟩).set k ⟨sn, Fv, data, ptrs⟩) from flat_set pstrCells 4 pstr_len _ k 1 _ _ _ (at_ _) (by decide) rfl, List.set_set] at h3
  exact h3

theorem end_other {W : World} {b0 sg scap k data ptrs n size base : Nat} {e : TypeId} {S : List PStr} {sn : ByteArray} {F0 v : Value} {xs : List Value} (Fv : Value) (hS : W.ownsRow b0 148 4 (.slice (some ⟨sg, 0, none⟩) S.length scap) S.length (sRow S)) (h : W.ownsRow base e size v n xs) (he : e ≠ 148) :
    (endW W sg k data ptrs Fv).ownsRow base e size v n xs := by
  by_cases hv : v.ownBlock = some sg
  · exfalso
    rcases hS.2 with ⟨h2, _⟩ | ⟨g2, cap2, cur2, hv2, hb2, hh2, _⟩
    · cases h2
    · cases hv2
      rcases h.2 with ⟨h3, _⟩ | ⟨g3, cap3, cur3, hv3, hb3, hh3, _⟩
      · rw [h3] at hv; simp [Value.ownBlock] at hv
      · rw [hv3] at hv
        simp [Value.ownBlock] at hv
        subst hv
        rw [hh2] at hh3
        simp at hh3
        exact he hh3.2.symm
  · unfold endW
    iterate 3 refine ownsRow_setCell_other ?_ hv _
    exact h

theorem end_blk {W : World} {b0 sg scap k data ptrs g : Nat} {e : TypeId} {S : List PStr} {l : List Value} (Fv : Value) (hS : W.ownsRow b0 148 4 (.slice (some ⟨sg, 0, none⟩) S.length scap) S.length (sRow S)) (h : Blk W g e l) (he : e ≠ 148) : Blk (endW W sg k data ptrs Fv) g e l := by
  have hne : g ≠ sg := by
    rintro rfl
    rcases hS.2 with ⟨h2, _⟩ | ⟨g2, cap2, cur2, hv2, hb2, hh2, _⟩
    · cases h2
    · cases hv2
      unfold Blk at h
      rw [h] at hh2
      simp at hh2
      exact he hh2.2
  exact ((h.setOther _ _ hne).setOther _ _ hne).setOther _ _ hne

theorem end_kf {w W : World} {b0 Bk sg scap k data ptrs : Nat} {S : List PStr} (Fv : Value) (hS : W.ownsRow b0 148 4 (.slice (some ⟨sg, 0, none⟩) S.length scap) S.length (sRow S)) (h : Kf b0 Bk w W) : Kf b0 Bk w (endW W sg k data ptrs Fv) := by
  have hb : b0 ≤ sg := (hS.lt sg rfl).1
  refine ⟨?_, fun g cur fz hg hh => ?_⟩
  · unfold endW
    iterate 3 refine Below.setCell ?_ hb _
    exact h.below
  · have h1 := h.rows g cur fz hg hh
    have hne : g ≠ sg := by
      rintro rfl
      rcases hS.2 with ⟨h2, _⟩ | ⟨g2, cap2, cur2, hv2, hb2, hh2, _⟩
      · cases h2
      · cases hv2
        rw [h1] at hh2
        simp at hh2
    unfold endW
    rw [Below.heap_setCell _ _ _ _ hne, Below.heap_setCell _ _ _ _ hne, Below.heap_setCell _ _ _ _ hne]
    exact h1

theorem ord_end {w W : World} {p b0 Bk at_ en tok k : Nat} {T : ByteArray} {sg scap : Nat} {nums : List Int} {us : List Use} {S : List PStr} {Uv : Value} {t : Str} {sn : ByteArray} {F0 : Value} (Fv : Value)
    (hB : Blk W p 223 (pCells T at_ en tok (xCells (.slice (some ⟨sg, 0, none⟩) S.length scap) nums Uv))) (hS : W.ownsRow b0 148 4 (.slice (some ⟨sg, 0, none⟩) S.length scap) S.length (sRow S))
    (hU : W.ownsRow b0 295 4 Uv us.length (usesRow us)) (hK : Kf b0 Bk w W) (hz : Bk ≤ W.heap.size) (hk : S[k]? = some ⟨sn, F0, 0, 0⟩) (hsn : sn = t.name)
    (hF : (t.fs = [] ∧ Fv = .slice none 0 0) ∨ ∃ g, t.fs ≠ [] ∧ Bk ≤ g ∧ Fv = .slice (some ⟨g, 0, none⟩) t.fs.length t.fs.length ∧ Blk W g 150 (fRow (t.fs.map Fld.half))) :
    OrdEnd w p b0 Bk at_ en tok k T sg scap nums us S Uv t (.returned (.tuple #[])) (endW W sg k t.data t.ptrs Fv) := by
  subst hsn
  refine ⟨Fv, rfl, end_blk Fv hS hB (by decide), end_row Fv hS hk, ?_, end_other (sn := t.name) (F0 := F0) Fv hS hU (by decide), end_kf Fv hS hK, ?_⟩
  · rcases hF with h | ⟨g, h0, h1, h2, h3⟩
    · exact .inl h
    · exact .inr ⟨g, h0, h1, h2, end_blk Fv hS h3 (by decide)⟩
  · unfold endW; simp; exact hz

theorem setCell_twice (w : World) (a : Addr) (u v : Value) : (w.setCell a u).setCell a v = w.setCell a v := by
  have h1 : ((w.setCell a u).setCell a v).heap = (w.setCell a v).heap := by
    apply Array.ext_getElem?
    intro i
    unfold World.setCell
    simp only [Array.getElem?_modify]
    by_cases hi : a.block = i
    · simp only [hi, if_true]
      cases w.heap[i]? with
      | none => rfl
      | some o =>
        cases o with
        | cells c e fz => by_cases hs : a.spot.isSome = true <;> simp [hs]
        | _ => rfl
    · simp only [hi, if_false]
  have h2 : (w.setCell a u).setCell a v = { w with heap := ((w.setCell a u).setCell a v).heap } := rfl
  rw [h2, h1]
  rfl

theorem ord_end2 {w W : World} {p b0 Bk at_ en tok k : Nat} {T : ByteArray} {sg scap : Nat} {nums : List Int} {us : List Use} {S : List PStr} {Uv : Value} {t : Str} {sn : ByteArray} {F0 : Value} {g1 : Nat}
    (hB : Blk W p 223 (pCells T at_ en tok (xCells (.slice (some ⟨sg, 0, none⟩) S.length scap) nums Uv))) (hS : W.ownsRow b0 148 4 (.slice (some ⟨sg, 0, none⟩) S.length scap) S.length (sRow S))
    (hU : W.ownsRow b0 295 4 Uv us.length (usesRow us)) (hK : Kf b0 Bk w W) (hz : Bk ≤ W.heap.size) (hk : S[k]? = some ⟨sn, F0, 0, 0⟩) (hsn : sn = t.name)
    (hF : Blk W g1 150 (fRow (t.fs.map Fld.half))) (hg : Bk ≤ g1) (hne : t.fs ≠ []) :
    OrdEnd w p b0 Bk at_ en tok k T sg scap nums us S Uv t (.returned (.tuple #[])) ((endW W sg k t.data t.ptrs (.slice none 0 0)).setCell ⟨sg, k * 4 + 1, none⟩ (.slice (some ⟨g1, 0, none⟩) t.fs.length t.fs.length)) := by
  have e : (endW W sg k t.data t.ptrs (.slice none 0 0)).setCell ⟨sg, k * 4 + 1, none⟩ (.slice (some ⟨g1, 0, none⟩) t.fs.length t.fs.length) = endW W sg k t.data t.ptrs (.slice (some ⟨g1, 0, none⟩) t.fs.length t.fs.length) := by
    unfold endW; exact setCell_twice _ _ _ _
  rw [e]
  exact ord_end _ hB hS hU hK hz hk hsn (.inr ⟨g1, hne, hg, rfl, hF⟩)

set_option maxHeartbeats 8000000 in
set_option maxRecDepth 100000 in
theorem order_any (w : World) (p b0 Bk at_ en tok k m : Nat) (T : ByteArray) (sg scap : Nat) (Uv : Value) (fa0 : Option Addr) (fc0 : Nat) (nums : List Int) (us : List Use) (ss : List Str) (S : List PStr) (t : Str) (sn : ByteArray)
    (hp : b0 ≤ p) (h0k : b0 ≤ Bk) (hBk : Bk ≤ w.heap.size) (hsn : sn = t.name)
    (hB : Blk w p 223 (pCells T at_ en tok (xCells (.slice (some ⟨sg, 0, none⟩) S.length scap) nums Uv))) (hnl : nums.length = 16) (hnum : ∀ j, j < t.fs.length → nums[j]? = some (j : Int))
    (hS : w.ownsRow b0 148 4 (.slice (some ⟨sg, 0, none⟩) S.length scap) S.length (sRow S)) (hk : S[k]? = some ⟨sn, .slice fa0 t.fs.length fc0, 0, 0⟩) (hS4 : S.length ≤ 4)
    (hF : w.ownsRow Bk 150 9 (.slice fa0 t.fs.length fc0) t.fs.length (fRow (t.fs.map Fld.bare))) (hW : WholeP ss k t) (htw : StrWf t)
    (hU : w.ownsRow b0 295 4 Uv us.length (usesRow us)) (hul : us.length ≤ 1000) (huf : ∀ u ∈ us, u.strct = k → u.field < t.fs.length) :
    Calls Fafg.prog 169 #[.pointer (some ⟨p, 0, none⟩), .int .i64 k, .int .i64 m] w (OrdEnd w p b0 Bk at_ en tok k T sg scap nums us S Uv t) := by
  have hkl : k < S.length := (List.getElem?_eq_some_iff.1 hk).1
  have hn16 := hW.len
  obtain ⟨st, hst, hsd, hsp, hps⟩ := hW.lay
  have Hk : Hid (S[k]? = some ⟨sn, .slice fa0 t.fs.length fc0, 0, 0⟩) := hk
  have Hst : Hid (layTo (kindsOf t) t.fs.length = some st) := hst
  have Hps : Hid (st.ps = t.fs.map (·.p)) := hps
  have Hnum : Hid (∀ j, j < t.fs.length → nums[j]? = some (j : Int)) := hnum
  have Huf : Hid (∀ u ∈ us, u.strct = k → u.field < t.fs.length) := huf
  clear hk hst hps hnum huf
  have c6 : w.cell? ⟨p, 6, none⟩ = some (.slice (some ⟨sg, 0, none⟩) S.length scap) := hB.cell 6
  have cF : w.cell? ⟨sg, k * 4 + 1, none⟩ = some (.slice fa0 t.fs.length fc0) := own_cell hS _ _ (flat_at pstrCells 4 pstr_len S k 1 _ _ Hk.out rfl)
  have h16 : decide ((16 : Int) < (t.fs.length : Int)) = false := by simp; omega
  obtain ⟨i150, hi, hz0, hz1, hz2⟩ := info_parts info150
  obtain ⟨i85, gi, gz0, gz1, gz2⟩ := info_parts info85
  have Hi : Hid (Fafg.prog.info? 150 = some i150) := hi
  have Gi : Hid (Fafg.prog.info? 85 = some i85) := gi
  clear hi gi
  go_enter Fafg.func169, Fafg.ntmps169
  go_wp2_with (first
    | (at_make; (refine wpList_make_full w rfl _ _ 146 rfl w.heap.size 150 i150 _ 9 Fafg.underlying146 Hi.out hz0 hz1 .i64 .i64 _ _ t.fs.length rfl rfl rfl rfl (by rw [hz2]; omega) (by unfold maxLen; omega) (Nat.le_refl _) ?_; intro w1 hown1 hgr1; have Hb1 : Hid (Below w.heap.size w w1) := (Below.refl _ _).grown hgr1 (Nat.le_refl _) (by simp)))
    | (at_make; go_must (refine wpList_make_full _ rfl _ _ 75 rfl w1.heap.size 85 i85 _ 4 Fafg.underlying75 Gi.out gz0 gz1 .i64 .i64 _ _ t.fs.length rfl rfl rfl rfl (by rw [gz2]; omega) (by unfold maxLen; omega) (Nat.le_refl _) ?_; intro w2 hown2 hgr2; have Hb2 : Hid (Below w.heap.size w w2) := Hb1.out.grown hgr2 Hb1.out.size (by simp); have d1 : w2.cell? ⟨sg, k * 4 + 1, none⟩ = some (.slice fa0 t.fs.length fc0) := (Hb2.out.cell (by exact (hS.lt sg rfl).2)).trans cF)))
  have hblk1 := Blk.ofOwn hown1
  rw [made150, ← stg1_zero] at hblk1
  have hne : w.heap.size < w1.heap.size := hblk1.lt
  have hblk1 := hblk1.grown hgr2 (by simp)
  have hblk2 := Blk.ofOwn hown2
  rw [made85 (fun _ => 0), ← tsCells_zero (t.fs.map Fld.bare)] at hblk2
  have hb2 := Hb2.out
  clear hown1 hown2 hgr1 hgr2 Hb1 Hb2 d1 cF c6
  have hpl : p < w.heap.size := hB.lt
  have hsgl : sg < w.heap.size := (hS.lt sg rfl).2
  have HBl : Hid (Blk w p 223 (pCells T at_ en tok (xCells (.slice (some ⟨sg, 0, none⟩) S.length scap) nums Uv))) := hB
  have HS : Hid (w.ownsRow b0 148 4 (.slice (some ⟨sg, 0, none⟩) S.length scap) S.length (sRow S)) := hS
  have HF : Hid (w.ownsRow Bk 150 9 (.slice fa0 t.fs.length fc0) t.fs.length (fRow (t.fs.map Fld.bare))) := hF
  have HU : Hid (w.ownsRow b0 295 4 Uv us.length (usesRow us)) := hU
  have HWh : Hid (WholeP ss k t) := hW
  have Htw : Hid (StrWf t) := htw
  have hd255 : t.data ≤ 255 := htw.data
  have hp255 : t.ptrs ≤ 255 := htw.ptrs
  clear htw
  clear hB hS hF hU hW
  generalize hgg : w.heap.size = g1 at *
  have Hgg : Hid (w.heap.size = g1) := hgg
  clear hgg
  generalize w1.heap.size = tb at *
  go_loopw [43] (fun x wr => ∃ j : Nat, j ≤ t.fs.length ∧ x = .int .i64 j ∧ Below g1 w wr ∧ Blk wr g1 150 (fRow (stg1 t.fs j)) ∧ Blk wr tb 85 (tsCells (t.fs.map Fld.bare) j t.fs.length)) (fun x _ => t.fs.length + 1 - (intOf x).toNat)
  case atStart => exact ⟨0, by omega, rfl, hb2, hblk1, hblk2⟩
  case round =>
    obtain ⟨j, hj, rfl, hbr, hkg, hkt⟩ := hrel
    clear hb2 hblk1 hblk2
    have Hbr : Hid (Below g1 w wr) := hbr
    have Hkg : Hid (Blk wr g1 150 (fRow (stg1 t.fs j))) := hkg
    have Hkt : Hid (Blk wr tb 85 (tsCells (t.fs.map Fld.bare) j t.fs.length)) := hkt
    clear hbr hkg hkt
    by_cases hlt : j < t.fs.length
    · obtain ⟨f, hf⟩ : ∃ f, t.fs[j]? = some f := ⟨t.fs[j], List.getElem?_eq_getElem hlt⟩
      have hfb : (t.fs.map Fld.bare)[j]? = some f.bare := by rw [List.getElem?_map, hf]; rfl
      have Hf : Hid (t.fs[j]? = some f) := hf
      have Hfb : Hid ((t.fs.map Fld.bare)[j]? = some f.bare) := hfb
      clear hf hfb
      obtain ⟨fg, fcap, hfv, _, hfgl⟩ := own_head HF.out (by omega)
      rw [Hgg.out] at hfgl
      obtain ⟨rfl, rfl⟩ : fa0 = some ⟨fg, 0, none⟩ ∧ fc0 = fcap := by cases hfv; exact ⟨rfl, rfl⟩
      have hcc : ∀ o u, (fldCells f.bare)[o]? = some u → wr.cell? ⟨fg, j * 9 + o, none⟩ = some u := fun o u ho => (Hbr.out.cell (by exact hfgl)).trans (own_cell HF.out _ _ (flat_at fldCells 9 fld_len _ j o _ _ Hfb.out ho))
      have a0 : wr.cell? ⟨fg, j * 9, none⟩ = some (.string f.name) := hcc 0 _ rfl
      have a1 : wr.cell? ⟨fg, j * 9 + 1, none⟩ = some (.int .u8 f.t.kind) := hcc 1 _ rfl
      have a2 : wr.cell? ⟨fg, j * 9 + 2, none⟩ = some (.int .u8 f.t.elem) := hcc 2 _ rfl
      have a3 : wr.cell? ⟨fg, j * 9 + 3, none⟩ = some (.int .u8 0) := hcc 3 _ rfl
      have a4 : wr.cell? ⟨fg, j * 9 + 4, none⟩ = some (.int .u8 f.t.nest) := hcc 4 _ rfl
      have a5 : wr.cell? ⟨fg, j * 9 + 5, none⟩ = some (.int .u8 0) := hcc 5 _ rfl
      have a6 : wr.cell? ⟨fg, j * 9 + 6, none⟩ = some (.int .u16 0) := hcc 6 _ rfl
      have a7 : wr.cell? ⟨fg, j * 9 + 7, none⟩ = some (.int .u8 0) := hcc 7 _ rfl
      have a8 : wr.cell? ⟨fg, j * 9 + 8, none⟩ = some (.bool false) := hcc 8 _ rfl
      clear hcc
      have n0 : wr.cell? ⟨p, 7 + j, none⟩ = some (.int .i64 j) := ((HBl.out.below Hbr.out (by exact hpl)).cell (7 + j)).trans (x_numAt _ _ _ _ _ _ _ j _ (Hnum.out j hlt))
      have z0 : wr.cell? ⟨g1, j * 9, none⟩ = some (.string ⟨#[]⟩) := (Hkg.out.cell (j * 9)).trans (flat_at fldCells 9 fld_len _ j 0 _ _ (stg1_at _ _ hlt) rfl)
      have hgl : g1 < wr.heap.size := Hkg.out.lt
      have htl : tb < wr.heap.size := Hkt.out.lt
      have hpw : p < wr.heap.size := by omega
      have hlt' : decide ((t.fs.length : Int) ≤ (j : Int)) = false := by simp; omega
      go_wp2_with fail
      clear a0 a1 a2 a3 a4 a5 a6 a7 a8 n0 z0
      have HtX : Hid (Blk (wr.alloc (.cells (fldCells f.bare).toArray 150)) tb 85 (tsCells (t.fs.map Fld.bare) j t.fs.length)) := Hkt.out.alloc _
      have HgX : Hid (Blk (wr.alloc (.cells (fldCells f.bare).toArray 150)) g1 150 (fRow (stg1 t.fs j))) := Hkg.out.alloc _
      have Hnew : Hid (Blk (wr.alloc (.cells (fldCells f.bare).toArray 150)) wr.heap.size 150 (fldCells f.bare)) := Blk.new _ _ _
      have HbX : Hid (Below g1 w (wr.alloc (.cells (fldCells f.bare).toArray 150))) := Hbr.out.alloc (by omega) _
      have eWX : wr.alloc (.cells #[.string f.name, .int .u8 f.t.kind, .int .u8 f.t.elem, .int .u8 0, .int .u8 f.t.nest, .int .u8 0, .int .u16 0, .int .u8 0, .bool false] 150) = wr.alloc (.cells (fldCells f.bare).toArray 150) := rfl
      rw [eWX]
      clear eWX Hkt Hkg
      generalize wr.alloc (.cells (fldCells f.bare).toArray 150) = WX at *
      generalize wr.heap.size = fk at *
      have x0 : WX.cell? ⟨fk, 0, none⟩ = some (.string f.name) := Hnew.out.cell 0
      have x1 : WX.cell? ⟨fk, 1, none⟩ = some (.int .u8 f.t.kind) := Hnew.out.cell 1
      have x2 : WX.cell? ⟨fk, 2, none⟩ = some (.int .u8 f.t.elem) := Hnew.out.cell 2
      have x3 : WX.cell? ⟨fk, 3, none⟩ = some (.int .u8 0) := Hnew.out.cell 3
      have x4 : WX.cell? ⟨fk, 4, none⟩ = some (.int .u8 f.t.nest) := Hnew.out.cell 4
      have x5 : WX.cell? ⟨fk, 5, none⟩ = some (.int .u8 0) := Hnew.out.cell 5
      have x6 : WX.cell? ⟨fk, 6, none⟩ = some (.int .u16 0) := Hnew.out.cell 6
      have x7 : WX.cell? ⟨fk, 7, none⟩ = some (.int .u8 0) := Hnew.out.cell 7
      have x8 : WX.cell? ⟨fk, 8, none⟩ = some (.bool false) := Hnew.out.cell 8
      have y0 : WX.cell? ⟨g1, j * 9, none⟩ = some (.string ⟨#[]⟩) := (HgX.out.cell _).trans (flat_at fldCells 9 fld_len _ j 0 _ _ (stg1_at _ _ hlt) rfl)
      have v0 : WX.frozen? ⟨g1, j * 9, none⟩ = false := HgX.out.frozen _
      have y1 : WX.cell? ⟨g1, j * 9 + 1, none⟩ = some (.int .u8 0) := (HgX.out.cell _).trans (flat_at fldCells 9 fld_len _ j 1 _ _ (stg1_at _ _ hlt) rfl)
      have v1 : WX.frozen? ⟨g1, j * 9 + 1, none⟩ = false := HgX.out.frozen _
      have y2 : WX.cell? ⟨g1, j * 9 + 2, none⟩ = some (.int .u8 0) := (HgX.out.cell _).trans (flat_at fldCells 9 fld_len _ j 2 _ _ (stg1_at _ _ hlt) rfl)
      have v2 : WX.frozen? ⟨g1, j * 9 + 2, none⟩ = false := HgX.out.frozen _
      have y3 : WX.cell? ⟨g1, j * 9 + 3, none⟩ = some (.int .u8 0) := (HgX.out.cell _).trans (flat_at fldCells 9 fld_len _ j 3 _ _ (stg1_at _ _ hlt) rfl)
      have v3 : WX.frozen? ⟨g1, j * 9 + 3, none⟩ = false := HgX.out.frozen _
      have y4 : WX.cell? ⟨g1, j * 9 + 4, none⟩ = some (.int .u8 0) := (HgX.out.cell _).trans (flat_at fldCells 9 fld_len _ j 4 _ _ (stg1_at _ _ hlt) rfl)
      have v4 : WX.frozen? ⟨g1, j * 9 + 4, none⟩ = false := HgX.out.frozen _
      have y5 : WX.cell? ⟨g1, j * 9 + 5, none⟩ = some (.int .u8 0) := (HgX.out.cell _).trans (flat_at fldCells 9 fld_len _ j 5 _ _ (stg1_at _ _ hlt) rfl)
      have v5 : WX.frozen? ⟨g1, j * 9 + 5, none⟩ = false := HgX.out.frozen _
      have y6 : WX.cell? ⟨g1, j * 9 + 6, none⟩ = some (.int .u16 0) := (HgX.out.cell _).trans (flat_at fldCells 9 fld_len _ j 6 _ _ (stg1_at _ _ hlt) rfl)
      have v6 : WX.frozen? ⟨g1, j * 9 + 6, none⟩ = false := HgX.out.frozen _
      have y7 : WX.cell? ⟨g1, j * 9 + 7, none⟩ = some (.int .u8 0) := (HgX.out.cell _).trans (flat_at fldCells 9 fld_len _ j 7 _ _ (stg1_at _ _ hlt) rfl)
      have v7 : WX.frozen? ⟨g1, j * 9 + 7, none⟩ = false := HgX.out.frozen _
      have y8 : WX.cell? ⟨g1, j * 9 + 8, none⟩ = some (.bool false) := (HgX.out.cell _).trans (flat_at fldCells 9 fld_len _ j 8 _ _ (stg1_at _ _ hlt) rfl)
      have v8 : WX.frozen? ⟨g1, j * 9 + 8, none⟩ = false := HgX.out.frozen _
      have q0 := (HtX.out.cell (j * 4)).trans (tsCells_get _ _ _ _ (by omega))
      have p0 : WX.frozen? ⟨tb, j * 4, none⟩ = false := HtX.out.frozen _
      have q1 := (HtX.out.cell (j * 4 + 1)).trans (tsCells_get _ _ _ _ (by omega))
      have p1 : WX.frozen? ⟨tb, j * 4 + 1, none⟩ = false := HtX.out.frozen _
      have q2 := (HtX.out.cell (j * 4 + 2)).trans (tsCells_get _ _ _ _ (by omega))
      have p2 : WX.frozen? ⟨tb, j * 4 + 2, none⟩ = false := HtX.out.frozen _
      have q3 := (HtX.out.cell (j * 4 + 3)).trans (tsCells_get _ _ _ _ (by omega))
      have p3 : WX.frozen? ⟨tb, j * 4 + 3, none⟩ = false := HtX.out.frozen _
      have n1 : ¬ fk = g1 := by omega
      have n2 : ¬ fk = tb := by omega
      have n3 : ¬ g1 = tb := by omega
      have n4 : ¬ g1 = fk := by omega
      have n5 : ¬ tb = fk := by omega
      have n6 : ¬ tb = g1 := by omega
      go_region
      clear x0 x1 x2 x3 x4 x5 x6 x7 x8 y0 y1 y2 y3 y4 y5 y6 y7 y8 v0 v1 v2 v3 v4 v5 v6 v7 v8 q0 q1 q2 q3 p0 p1 p2 p3
      go_wp2
      go_roundw
      case rel =>
        refine ⟨j + 1, by omega, by go_num, ?_, ?_, ?_⟩
        · exact (ord_b HbX.out (by omega)).drew
        · exact (ord_g HgX.out Hf.out n3).drew
        · exact (ord_t HtX.out Hfb.out hlt n6).drew
      case measure => simp [intOf]; omega
    · obtain rfl : j = t.fs.length := by omega
      have cU : ∃ ua uc, Uv = .slice ua us.length uc := own_slice HU.out
      obtain ⟨ua, uc, rfl⟩ := cU
      have d8 : wr.cell? ⟨p, 23, none⟩ = some (.slice ua us.length uc) := ((HBl.out.below Hbr.out (by exact hpl)).cell 23).trans (x_uses _ _ _ _ _ _ _ hnl)
      go_wp2_with fail
      clear d8
      generalize wr = w3 at *
      have HB3 : Hid (Blk w3 p 223 (pCells T at_ en tok (xCells (.slice (some ⟨sg, 0, none⟩) S.length scap) nums (.slice ua us.length uc)))) := HBl.out.below Hbr.out (by exact hpl)
      have HU3 : Hid (w3.ownsRow b0 295 4 (.slice ua us.length uc) us.length (usesRow us)) := own_below HU.out Hbr.out (by rw [Hgg.out]; exact Nat.le_refl _)
      go_loopw [83] (fun x wq => ∃ y : Nat, y ≤ us.length ∧ x = .int .i64 y ∧ ∃ d, wq = w3.drewN d) (fun x _ => us.length + 1 - (intOf x).toNat)
      case atStart => exact ⟨0, by omega, rfl, 0, rfl⟩
      case round =>
        obtain ⟨y, hy, rfl, d, rfl⟩ := hrel
        by_cases hyl : y < us.length
        · obtain ⟨u, hu⟩ : ∃ u, us[y]? = some u := ⟨us[y], List.getElem?_eq_getElem hyl⟩
          obtain ⟨ug, ucap, huv, _, hugl⟩ := own_head HU3.out (by omega)
          obtain ⟨rfl, rfl⟩ : ua = some ⟨ug, 0, none⟩ ∧ uc = ucap := by cases huv; exact ⟨rfl, rfl⟩
          have u8 : w3.cell? ⟨p, 23, none⟩ = some (.slice (some ⟨ug, 0, none⟩) us.length uc) := (HB3.out.cell 23).trans (x_uses _ _ _ _ _ _ _ hnl)
          have u1 : w3.cell? ⟨ug, y * 4 + 1, none⟩ = some (.int .i64 u.strct) := own_cell HU3.out _ _ (flat_at useCells 4 (fun _ => rfl) us y 1 _ _ hu rfl)
          have u2 : w3.cell? ⟨ug, y * 4 + 2, none⟩ = some (.int .i64 u.field) := own_cell HU3.out _ _ (flat_at useCells 4 (fun _ => rfl) us y 2 _ _ hu rfl)
          have uz : w3.frozen? ⟨ug, y * 4 + 2, none⟩ = false := own_frozen HU3.out _
          by_cases hs : u.strct = k
          · have hfl := Huf.out u (List.mem_of_getElem? hu) hs
            have u7 : w3.cell? ⟨p, 7 + u.field, none⟩ = some (.int .i64 u.field) := (HB3.out.cell (7 + u.field)).trans (x_numAt _ _ _ _ _ _ _ _ _ (Hnum.out _ hfl))
            have he : ((u.strct : Int) == (k : Int)) = true := by simp [hs]
            have hf16 : u.field < 16 := by omega
            clear hs hu
            go_wp2_with fail
            go_region
            go_wp2
            go_roundw
            case rel =>
              refine ⟨y + 1, by omega, by go_num, d + 1, ?_⟩
              exact setCell_same (w := w3.drewN (d + 1)) u2
            case measure => simp [intOf]; omega
          · have he : ((u.strct : Int) == (k : Int)) = false := by simp; omega
            clear hs hu
            go_wp2
            go_roundw
            case rel => exact ⟨y + 1, by omega, by go_num, d, rfl⟩
            case measure => simp [intOf]; omega
        · obtain rfl : y = us.length := by omega
          have HK3 : Hid (Blk w3 tb 85 (tsCells (t.fs.map Fld.bare) (t.fs.map Fld.bare).length (t.fs.map Fld.bare).length)) := by
            have h := Hkt.out
            show Blk _ _ _ _
            rw [List.length_map]
            exact h
          have hts := ts_cells (t := { t with fs := t.fs.map Fld.bare }) HK3.out
          have u8 : w3.cell? ⟨p, 23, none⟩ = some (.slice ua us.length uc) := (HB3.out.cell 23).trans (x_uses _ _ _ _ _ _ _ hnl)
          have HL := layout_all tb 0 t.fs.length t.fs.length _ _ _ _ (w3.drewN d) (by unfold maxLen; omega) (by exact Hkt.out.lt) (by rw [kinds_bare]; exact kinds_ok Htw.out) (fun i hi => hts i (by simp; exact hi))
          clear hts
          go_wp2_with fail
          rw [kinds_bare] at HL
          refine HL.mono ?_
          rintro e w4 ⟨hb4, h4⟩
          clear HL
          have e4 : lay (kindsOf t) t.fs.length = some st := by unfold lay; rw [if_neg (by omega)]; exact Hst.out
          rcases h4 with ⟨hn4, _⟩ | ⟨st', pv, hs4, rfl, hP4⟩
          · rw [e4] at hn4; cases hn4
          obtain rfl : st = st' := by rw [e4] at hs4; cases hs4; rfl
          clear e4 hs4
          rw [hsd, hsp]
          obtain ⟨pa, pc, rfl⟩ := own_slice hP4
          go_wp2_with fail
          have hb4' : Below g1 w w4 := Hbr.out.trans (Below.trans' (hb4.mono (by have := Hkg.out.lt; show g1 ≤ w3.heap.size; omega)))
          have hg4 : Blk w4 g1 150 (fRow (stg3 t.fs 0)) := by rw [stg3_zero]; exact Blk.below (w := w3.drewN d) Hkg.out hb4 (by exact Hkg.out.lt)
          have hgP : g1 < (w3.drewN d).heap.size := Hkg.out.lt
          generalize (w3.drewN d).heap.size = BB at *
          clear hb4
          go_loopw [125] (fun x wq => ∃ j : Nat, j ≤ t.fs.length ∧ x = .int .i64 j ∧ Below g1 w wq ∧ Blk wq g1 150 (fRow (stg3 t.fs j)) ∧ wq.ownsRow BB 82 4 (.slice pa t.fs.length pc) t.fs.length (psCells st.ps)) (fun x _ => t.fs.length + 1 - (intOf x).toNat)
          case atStart => exact ⟨0, by omega, rfl, hb4', hg4, hP4⟩
          case round =>
            obtain ⟨j, hj, rfl, hb5, hg5, hP5⟩ := hrel
            clear hb4' hg4 hP4
            have Hb5 : Hid (Below g1 w wr) := hb5
            have Hg5 : Hid (Blk wr g1 150 (fRow (stg3 t.fs j))) := hg5
            have HP5 : Hid (wr.ownsRow BB 82 4 (.slice pa t.fs.length pc) t.fs.length (psCells st.ps)) := hP5
            clear hb5 hg5 hP5
            by_cases hlt : j < t.fs.length
            · obtain ⟨f, hf⟩ : ∃ f, t.fs[j]? = some f := ⟨t.fs[j], List.getElem?_eq_getElem hlt⟩
              have hfp : st.ps[j]? = some f.p := by rw [Hps.out, List.getElem?_map, hf]; rfl
              obtain ⟨pg, pcap, hpv, hpg, hpgl⟩ := own_head HP5.out (by omega)
              obtain ⟨rfl, rfl⟩ : pa = some ⟨pg, 0, none⟩ ∧ pc = pcap := by cases hpv; exact ⟨rfl, rfl⟩
              have a0 : wr.cell? ⟨pg, j * 4, none⟩ = some (.int .u8 f.p.bits) := own_cell HP5.out _ _ (psCells_at st.ps j 0 f.p _ hfp rfl)
              have a1 : wr.cell? ⟨pg, j * 4 + 1, none⟩ = some (.int .u16 f.p.off) := own_cell HP5.out _ _ (psCells_at st.ps j 1 f.p _ hfp rfl)
              have a2 : wr.cell? ⟨pg, j * 4 + 2, none⟩ = some (.int .u8 f.p.slot) := own_cell HP5.out _ _ (psCells_at st.ps j 2 f.p _ hfp rfl)
              have a3 : wr.cell? ⟨pg, j * 4 + 3, none⟩ = some (.bool f.p.isPtr) := own_cell HP5.out _ _ (psCells_at st.ps j 3 f.p _ hfp rfl)
              have y5 : wr.cell? ⟨g1, j * 9 + 5, none⟩ = some (.int .u8 0) := (Hg5.out.cell _).trans (flat_at fldCells 9 fld_len _ j 5 _ _ (stg3_at _ _ _ hf) rfl)
              have y6 : wr.cell? ⟨g1, j * 9 + 6, none⟩ = some (.int .u16 0) := (Hg5.out.cell _).trans (flat_at fldCells 9 fld_len _ j 6 _ _ (stg3_at _ _ _ hf) rfl)
              have y7 : wr.cell? ⟨g1, j * 9 + 7, none⟩ = some (.int .u8 0) := (Hg5.out.cell _).trans (flat_at fldCells 9 fld_len _ j 7 _ _ (stg3_at _ _ _ hf) rfl)
              have y8 : wr.cell? ⟨g1, j * 9 + 8, none⟩ = some (.bool false) := (Hg5.out.cell _).trans (flat_at fldCells 9 fld_len _ j 8 _ _ (stg3_at _ _ _ hf) rfl)
              have v5 : wr.frozen? ⟨g1, j * 9 + 5, none⟩ = false := Hg5.out.frozen _
              have v6 : wr.frozen? ⟨g1, j * 9 + 6, none⟩ = false := Hg5.out.frozen _
              have v7 : wr.frozen? ⟨g1, j * 9 + 7, none⟩ = false := Hg5.out.frozen _
              have v8 : wr.frozen? ⟨g1, j * 9 + 8, none⟩ = false := Hg5.out.frozen _
              have n1 : ¬ pg = g1 := by omega
              have n2 : ¬ g1 = pg := by omega
              have Hf : Hid (t.fs[j]? = some f) := hf
              clear hf hfp
              go_wp2
              go_roundw
              case rel => exact ⟨j + 1, by omega, by go_num, plc_b Hb5.out, plc_g Hg5.out Hf.out, plc_p HP5.out n1⟩
              case measure => simp [intOf]; omega
            · obtain rfl : j = t.fs.length := by omega
              have HS5 : Hid (wr.ownsRow b0 148 4 (.slice (some ⟨sg, 0, none⟩) S.length scap) S.length (sRow S)) := own_below HS.out Hb5.out (by rw [Hgg.out]; exact Nat.le_refl _)
              have HU5 : Hid (wr.ownsRow b0 295 4 (.slice ua us.length uc) us.length (usesRow us)) := own_below HU.out Hb5.out (by rw [Hgg.out]; exact Nat.le_refl _)
              have HB5 : Hid (Blk wr p 223 (pCells T at_ en tok (xCells (.slice (some ⟨sg, 0, none⟩) S.length scap) nums (.slice ua us.length uc)))) := HBl.out.below Hb5.out (by exact hpl)
              have HK5 : Hid (Kf b0 Bk w wr) := Kf.below' (by rw [Hgg.out]; exact Hb5.out) (by rw [Hgg.out]; omega)
              have Hz5 : Hid (Bk ≤ wr.heap.size) := by have := Hb5.out.size; rw [Hgg.out] at this; show Bk ≤ _; omega
              have s1 : wr.cell? ⟨sg, k * 4 + 1, none⟩ = some (.slice fa0 t.fs.length fc0) := own_cell HS5.out _ _ (flat_at pstrCells 4 pstr_len S k 1 _ _ Hk.out rfl)
              have s2 : wr.cell? ⟨sg, k * 4 + 2, none⟩ = some (.int .u8 0) := own_cell HS5.out _ _ (flat_at pstrCells 4 pstr_len S k 2 _ _ Hk.out rfl)
              have s3 : wr.cell? ⟨sg, k * 4 + 3, none⟩ = some (.int .u8 0) := own_cell HS5.out _ _ (flat_at pstrCells 4 pstr_len S k 3 _ _ Hk.out rfl)
              have t1 : wr.frozen? ⟨sg, k * 4 + 1, none⟩ = false := own_frozen HS5.out _
              have t2 : wr.frozen? ⟨sg, k * 4 + 2, none⟩ = false := own_frozen HS5.out _
              have t3 : wr.frozen? ⟨sg, k * 4 + 3, none⟩ = false := own_frozen HS5.out _
              have Hg6 : Hid (Blk wr g1 150 (fRow (t.fs.map Fld.half))) := by have h := Hg5.out; rw [stg3_end] at h; exact h
              have hsg1 : sg < g1 := hsgl
              by_cases h0 : t.fs.length = 0
              · have hz : decide ((0 : Int) < (t.fs.length : Int)) = false := by rw [decide_eq_false_iff_not]; omega
                go_wp2
                refine bodyPost_ret (results_none rfl _ _ _) rfl ?_
                exact ord_end (.slice none 0 0) HB5.out HS5.out HU5.out HK5.out Hz5.out Hk.out hsn (.inl ⟨List.eq_nil_of_length_eq_zero h0, rfl⟩)
              · have hz : decide ((0 : Int) < (t.fs.length : Int)) = true := by rw [decide_eq_true_eq]; omega
                go_wp2
                refine bodyPost_ret (results_none rfl _ _ _) rfl ?_
                exact ord_end2 HB5.out HS5.out HU5.out HK5.out Hz5.out Hk.out hsn Hg6.out hBk (fun h => h0 (by rw [h]; rfl))
end Go.Proofs.Ygcfaf
