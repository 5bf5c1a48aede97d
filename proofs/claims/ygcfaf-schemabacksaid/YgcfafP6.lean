import Derived.Test.YgcfafP5
namespace Go.Proofs.Ygcfaf
open Go.RowKit
set_option linter.unusedVariables false

theorem info150 : (Fafg.prog.info? 150).map (fun i => (i.zero, i.size, i.bytes)) = some (some (.agg #[.string ⟨#[]⟩, .int .u8 0, .int .u8 0, .int .u8 0, .int .u8 0, .int .u8 0, .int .u16 0, .int .u8 0, .bool false]), 9, 32) := by kernel_rfl
theorem info148 : (Fafg.prog.info? 148).map (fun i => (i.zero, i.size, i.bytes)) = some (some (.agg #[.string ⟨#[]⟩, .slice none 0 0, .int .u8 0, .int .u8 0]), 4, 48) := by kernel_rfl

/-- 'append' on a row of the call's own, as one step of a region that draws. -/
theorem step_append_own {P : Program} {ops : Array Oper} {o : Oper} {a : Act} {w : World} {K : Act → World → Prop} {Q : Exit → Act → World → Prop} {E : Prop} (hgd : o.guard = none) (s x : Operand) (t : TypeId)
    (ho : o.op = .call { callee := .builtin .append, args := #[s, x], argTypes := #[t, t] })
    (base : Nat) (e : TypeId) (i : TypeInfo) (z : Value) (size bytes : Nat) (ht : P.underlying t = some (.slice e)) (hi : P.info? e = some i) (hz : i.zero = some z)
    (hsize : i.size = size) (hby : i.bytes = bytes) (hzs : z.cells.size = size) (hsz : 0 < size)
    (v : Value) (n : Nat) (xs : List Value) (hs : a.eval s = v) (hown : w.ownsRow base e size v n xs)
    (ad : Addr) (m c : Nat) (news : List Value) (hx : a.eval x = .slice (some ad) m c) (hl : news.length = m * size) (hnews : ∀ j u, news[j]? = some u → w.cell? (ad.add j) = some u) (h1 : ∀ u ∈ news, u.oneCell' = true)
    (h63 : n + m ≤ maxLen) (hbytes : (n + m) * bytes ≤ 140737488355328) (hbase : base ≤ w.heap.size)
    (h : ∀ v' w', w'.ownsRow base e size v' (n + m) (xs ++ news) → w.grownBy w' v.ownBlock → K (a.put o.dst v') w') : if Region.wanted o (yielded ops a.tmps) = true then Oper.wp P o a w K Q else E := by
  rw [if_pos (by simp [Region.wanted, hgd])]
  exact wp_append_own w s x t ho base e i z size bytes ht hi hz hsize hby hzs hsz v n xs hs hown ad m c news hx hl hnews h1 h63 hbytes hbase fun v' w' h2 h3 _ => h v' w' h2 h3

/-- A struct as the parser holds it. -/
structure PStr where
  name : ByteArray
  F : Value
  data : Nat
  ptrs : Nat

def pstrCells (s : PStr) : List Value := [.string s.name, s.F, .int .u8 s.data, .int .u8 s.ptrs]
def sRow (S : List PStr) : List Value := S.flatMap pstrCells
def fRow (fs : List Fld) : List Value := fs.flatMap fldCells

theorem flat_at {α : Type} (f : α → List Value) (n : Nat) (hn : ∀ x, (f x).length = n) (l : List α) (i j : Nat) (x : α) (u : Value) (h : l[i]? = some x) (hu : (f x)[j]? = some u) : (l.flatMap f)[i * n + j]? = some u := by
  have hj : j < n := by have := (List.getElem?_eq_some_iff.1 hu).1; rw [hn] at this; exact this
  induction l generalizing i with
  | nil => simp at h
  | cons q l ih =>
    cases i with
    | zero =>
      simp at h; subst h
      simp only [List.flatMap_cons, Nat.zero_mul, Nat.zero_add]
      rw [List.getElem?_append_left (by rw [hn]; exact hj)]
      exact hu
    | succ i =>
      simp at h
      have := ih i h
      simp only [List.flatMap_cons]
      rw [List.getElem?_append_right (by rw [hn, Nat.succ_mul]; omega), hn, Nat.succ_mul, show i * n + n + j - n = i * n + j by omega]
      exact this

theorem flat_set {α : Type} (f : α → List Value) (n : Nat) (hn : ∀ x, (f x).length = n) (l : List α) (i j : Nat) (x x' : α) (u : Value) (h : l[i]? = some x) (hj : j < n) (hx : (f x).set j u = f x') : (l.flatMap f).set (i * n + j) u = (l.set i x').flatMap f := by
  induction l generalizing i with
  | nil => simp at h
  | cons q l ih =>
    cases i with
    | zero =>
      simp at h; subst h
      simp only [List.flatMap_cons, Nat.zero_mul, Nat.zero_add, List.set_cons_zero]
      rw [List.set_append_left _ _ (by rw [hn]; exact hj), hx]
    | succ i =>
      simp at h
      have := ih i h
      simp only [List.flatMap_cons, List.set_cons_succ]
      rw [List.set_append_right _ _ (by rw [hn, Nat.succ_mul]; omega), hn, Nat.succ_mul, show i * n + n + j - n = i * n + j by omega, this]

theorem flat_len {α : Type} (f : α → List Value) (n : Nat) (hn : ∀ x, (f x).length = n) (l : List α) : (l.flatMap f).length = l.length * n := by
  induction l with
  | nil => simp
  | cons q l ih => simp only [List.flatMap_cons, List.length_append, hn, ih, List.length_cons, Nat.succ_mul]; omega

theorem fld_len (f : Fld) : (fldCells f).length = 9 := rfl
theorem pstr_len (s : PStr) : (pstrCells s).length = 4 := rfl
theorem fld_one (f : Fld) : ∀ u ∈ fldCells f, u.oneCell' = true := by
  intro u hu
  simp [fldCells, Typ.cells, plcCells] at hu
  rcases hu with rfl | rfl | rfl | rfl | rfl | rfl | rfl | rfl | rfl <;> rfl

/-- A cell of a row that is owned is set: the row is owned with the new content. -/
theorem own_set {w : World} {base n size g cap : Nat} {e : TypeId} {xs : List Value} (h : w.ownsRow base e size (.slice (some ⟨g, 0, none⟩) n cap) n xs) (o : Nat) (ho : o < n * size) (u : Value) :
    (w.setCell ⟨g, o, none⟩ u).ownsRow base e size (.slice (some ⟨g, 0, none⟩) n cap) n (xs.set o u) := by
  obtain ⟨h1, h2⟩ := h
  refine ⟨by rw [List.length_set]; exact h1, ?_⟩
  rcases h2 with ⟨h2, _⟩ | ⟨g', cap', cur, hv, hb, hh, hnc, hcm, hcs, ht⟩
  · cases h2
  · cases hv
    refine .inr ⟨g, cap, cur.setIfInBounds o u, rfl, hb, ?_, hnc, hcm, by simpa using hcs, ?_⟩
    · simp [World.setCell, Array.getElem?_modify, hh]
    · rw [← ht, Array.toList_setIfInBounds, List.take_set]

theorem own_cell {w : World} {base n size g cap : Nat} {e : TypeId} {xs : List Value} (h : w.ownsRow base e size (.slice (some ⟨g, 0, none⟩) n cap) n xs) (o : Nat) (u : Value) (hu : xs[o]? = some u) : w.cell? ⟨g, o, none⟩ = some u := by
  have := h.cells (g := g) rfl o u hu
  rwa [Addr.add_lit, Nat.zero_add] at this

theorem own_frozen {w : World} {base n size g cap : Nat} {e : TypeId} {xs : List Value} (h : w.ownsRow base e size (.slice (some ⟨g, 0, none⟩) n cap) n xs) (o : Nat) : w.frozen? ⟨g, o, none⟩ = false := by
  rcases h.2 with ⟨h2, _⟩ | ⟨g', cap', cur, hv, hb, hh, _⟩
  · cases h2
  · cases hv
    simp [World.frozen?, hh]

theorem own_head {w : World} {base n size : Nat} {e : TypeId} {xs : List Value} {v : Value} (h : w.ownsRow base e size v n xs) (hn : 0 < n) : ∃ g cap, v = .slice (some ⟨g, 0, none⟩) n cap ∧ base ≤ g ∧ g < w.heap.size := by
  rcases h.2 with ⟨_, h2⟩ | ⟨g', cap', cur, hv, hb, hh, _⟩
  · omega
  · exact ⟨g', cap', hv, hb, heap_lt hh⟩

/-- Old memory, and the rows of fields below Bk, are as they were. -/
structure Kf (b0 Bk : Nat) (w w' : World) : Prop where
  below : Below b0 w w'
  rows : ∀ (g : Nat) (cur : Array Value) (fz : Nat × Nat), g < Bk → w.heap[g]? = some (Obj.cells cur 150 fz) → w'.heap[g]? = some (Obj.cells cur 150 fz)

theorem Kf.refl (b0 Bk : Nat) (w : World) : Kf b0 Bk w w := ⟨Below.refl _ _, fun _ _ _ _ h => h⟩
theorem Kf.trans {b0 Bk : Nat} {a b c : World} (h : Kf b0 Bk a b) (k : Kf b0 Bk b c) : Kf b0 Bk a c := ⟨h.below.trans k.below, fun g cur fz hg hh => k.rows g cur fz hg (h.rows g cur fz hg hh)⟩
theorem Kq.kf {b0 Bk : Nat} {w w' : World} (h : Kq b0 w w') : Kf b0 Bk w w' := ⟨h.below, fun g cur fz _ hh => h.other g cur 150 fz hh (by decide) (by decide)⟩
theorem Kf.drew {b0 Bk : Nat} {a w : World} (h : Kf b0 Bk a w) : Kf b0 Bk a w.drew := ⟨h.below.drew, h.rows⟩
theorem Kf.alloc {b0 Bk : Nat} {a w : World} (h : Kf b0 Bk a w) (hB : b0 ≤ w.heap.size) (o : Obj) : Kf b0 Bk a (w.alloc o) :=
  ⟨h.below.alloc hB o, fun g cur fz hg hh => by have := h.rows g cur fz hg hh; rw [Below.heap_alloc _ _ _ (heap_lt this)]; exact this⟩
theorem Kf.grown {b0 Bk : Nat} {a w w' : World} {e : TypeId} {n size : Nat} {xs : List Value} {v : Value} (h : Kf b0 Bk a w) (hr : w.ownsRow Bk e size v n xs) (hg : w.grownBy w' v.ownBlock) (h0 : b0 ≤ Bk) (hB : Bk ≤ w.heap.size) : Kf b0 Bk a w' := by
  refine h.trans ⟨(Below.refl _ _).grown hg (by omega) (fun k hk => by have := (hr.lt k hk).1; omega), fun g cur fz hgb hh => ?_⟩
  rw [hg.block g (heap_lt hh) ?_]
  · exact hh
  · intro hk
    have := (hr.lt g hk.symm).1
    omega
theorem Kf.setOther {b0 Bk : Nat} {a w : World} {g : Nat} {e : TypeId} {base n size cap : Nat} {xs : List Value} (h : Kf b0 Bk a w) (hr : w.ownsRow base e size (.slice (some ⟨g, 0, none⟩) n cap) n xs) (he : e ≠ 150) (h0 : b0 ≤ base) (o : Nat) (u : Value) : Kf b0 Bk a (w.setCell ⟨g, o, none⟩ u) := by
  have hgb : base ≤ g := (hr.lt g rfl).1
  refine h.trans ⟨(Below.refl _ _).setCell (by show b0 ≤ g; omega) u, fun g' cur fz _ hh => ?_⟩
  rw [Below.heap_setCell _ _ _ _ ?_]
  · exact hh
  · intro hk
    simp only at hk
    subst hk
    rcases hr.2 with ⟨h2, _⟩ | ⟨g2, cap2, cur2, hv, hb, hh2, _⟩
    · cases h2
    · cases hv
      rw [hh] at hh2
      simp at hh2
      exact he hh2.2.1.symm
end Go.Proofs.Ygcfaf
