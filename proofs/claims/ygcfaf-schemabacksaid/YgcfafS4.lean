import Derived.Test.YgcfafS3
import Derived.Deep.QuietTactic
import Derived.BigQuiet
import Derived.RegionTactic
import Derived.Deep.RegionWith
namespace Go.Proofs.Ygcfaf
open Go.RowKit
set_option linter.unusedVariables false

structure Fld where
  name : ByteArray
  t : Typ
  p : Plc

structure Str where
  name : ByteArray
  fs : List Fld
  data : Nat
  ptrs : Nat

def fldCells (f : Fld) : List Value := .string f.name :: (f.t.cells ++ plcCells f.p)

/-- The nine cells of a field lie at b, off. -/
def FldAt (w : World) (b off : Nat) (f : Fld) : Prop := ∀ j u, (fldCells f)[j]? = some u → w.cell? ⟨b, off + j, none⟩ = some u

/-- A struct of a schema lies at b, off; all its memory lies below B. -/
structure StrAt (w : World) (B b off : Nat) (s : Str) (fa : Option Addr) (cap : Nat) : Prop where
  c0 : w.cell? ⟨b, off, none⟩ = some (.string s.name)
  c1 : w.cell? ⟨b, off + 1, none⟩ = some (.slice fa s.fs.length cap)
  c2 : w.cell? ⟨b, off + 2, none⟩ = some (.int .u8 s.data)
  c3 : w.cell? ⟨b, off + 3, none⟩ = some (.int .u8 s.ptrs)
  flds : s.fs = [] ∨ ∃ fb fo, fa = some ⟨fb, fo, none⟩ ∧ fb < B ∧ ∀ i f, s.fs[i]? = some f → FldAt w fb (fo + i * 9) f

/-- A schema lies at ⟨sb, 0⟩. -/
structure SchAt (w : World) (B sb : Nat) (ss : List Str) (a : Option Addr) (cap : Nat) : Prop where
  lt : sb < B
  cell : w.cell? ⟨sb, 0, none⟩ = some (.slice a ss.length cap)
  strs : ss = [] ∨ ∃ b off, a = some ⟨b, off, none⟩ ∧ b < B ∧ ∀ k s, ss[k]? = some s → ∃ fa c, StrAt w B b (off + k * 4) s fa c

theorem FldAt.below {B : Nat} {w w' : World} {b off : Nat} {f : Fld} (h : FldAt w b off f) (hb : Below B w w') (hl : b < B) : FldAt w' b off f :=
  fun j u hj => by rw [hb.cell (by exact hl)]; exact h j u hj

theorem StrAt.below {B B' : Nat} {w w' : World} {b off cap : Nat} {s : Str} {fa : Option Addr} (h : StrAt w B b off s fa cap) (hb : Below B' w w') (hl : b < B) (hB : B ≤ B') : StrAt w' B b off s fa cap := by
  have e : ∀ o, w'.cell? ⟨b, o, none⟩ = w.cell? ⟨b, o, none⟩ := fun o => hb.cell (by show b < B'; omega)
  refine ⟨by rw [e]; exact h.c0, by rw [e]; exact h.c1, by rw [e]; exact h.c2, by rw [e]; exact h.c3, ?_⟩
  rcases h.flds with h0 | ⟨fb, fo, h1, h2, h3⟩
  · exact .inl h0
  · exact .inr ⟨fb, fo, h1, h2, fun i f hf => (h3 i f hf).below hb (by omega)⟩

theorem SchAt.below {B B' : Nat} {w w' : World} {sb cap : Nat} {ss : List Str} {a : Option Addr} (h : SchAt w B sb ss a cap) (hb : Below B' w w') (hB : B ≤ B') : SchAt w' B sb ss a cap := by
  refine ⟨h.lt, by rw [hb.cell (by have := h.lt; show sb < B'; omega)]; exact h.cell, ?_⟩
  rcases h.strs with h0 | ⟨b, off, h1, h2, h3⟩
  · exact .inl h0
  · refine .inr ⟨b, off, h1, h2, fun k s hs => ?_⟩
    obtain ⟨fa, c, hc⟩ := h3 k s hs
    exact ⟨fa, c, hc.below hb h2 hB⟩

/-- The numbers fit their kinds. -/
structure FldWf (f : Fld) : Prop where
  kind : f.t.kind ≤ 255
  elem : f.t.elem ≤ 255
  ref : f.t.ref ≤ 255
  nest : f.t.nest ≤ 255
  bits : f.p.bits ≤ 255
  off : f.p.off ≤ 65535
  slot : f.p.slot ≤ 255
  name : f.name.size ≤ maxLen

structure StrWf (s : Str) : Prop where
  data : s.data ≤ 255
  ptrs : s.ptrs ≤ 255
  len : s.fs.length ≤ maxLen
  name : s.name.size ≤ maxLen
  flds : ∀ f ∈ s.fs, FldWf f

def kindsOf (t : Str) : Nat → Int := fun i => match t.fs[i]? with | some f => (f.t.kind : Int) | none => 0

/-- A struct of a schema is as Check asks. -/
structure WholeP (ss : List Str) (k : Nat) (t : Str) : Prop where
  name : nameL t.name.data.toList = true
  cap : capL t.name.data.toList = true
  nb : builtL t.name.data.toList = false
  len : t.fs.length ≤ 16
  dup : ∀ (i : Nat) (u : Str), i < k → ss[i]? = some u → ¬ (u.name.toList == t.name.toList) = true
  flds : ∀ (i : Nat) (f : Fld), t.fs[i]? = some f → nameL f.name.data.toList = true ∧ typeB f.t ss.length = true ∧ ∀ (j : Nat) (g : Fld), j < i → t.fs[j]? = some g → ¬ (g.name.toList == f.name.toList) = true
  lay : ∃ st, layTo (kindsOf t) t.fs.length = some st ∧ st.data = t.data ∧ st.ptrs = t.ptrs ∧ st.ps = t.fs.map (·.p)

/-- New blocks and draws, one behind the other. -/
def grow (w : World) : List (Option Obj) → World
  | [] => w
  | some o :: l => grow (w.alloc o) l
  | none :: l => grow w.drew l

theorem grow_alloc (w : World) (l : List (Option Obj)) (o : Obj) : grow w (l ++ [some o]) = (grow w l).alloc o := by
  induction l generalizing w with
  | nil => rfl
  | cons x l ih => cases x with
    | none => exact ih w.drew
    | some x => exact ih (w.alloc x)

theorem grow_below (w : World) (l : List (Option Obj)) : Below w.heap.size w (grow w l) := by
  induction l generalizing w with
  | nil => exact Below.refl _ _
  | cons x l ih => cases x with
    | none => exact (Below.drew (Below.refl _ w)).trans (ih w.drew)
    | some x => exact ((Below.refl _ _).alloc (Nat.le_refl _) x).trans ((ih (w.alloc x)).mono (by simp))

theorem cell_lt {w : World} {a : Addr} {v : Value} (h : w.cell? a = some v) : a.block < w.heap.size := by
  rcases Nat.lt_or_ge a.block w.heap.size with h1 | h1
  · exact h1
  · simp only [World.cell?, Array.getElem?_eq_none h1] at h; cases h

theorem grow_cell (w : World) (l : List (Option Obj)) (a : Addr) (v : Value) (h : w.cell? a = some v) : (grow w l).cell? a = some v := by
  rw [(grow_below w l).cell (cell_lt h)]; exact h

theorem wp_region_quiet_C {P : Program} {C : World → Prop} {id : Nat} {Q : Exit → Act → World → Prop} {a : Act} {w : World} {l : List Oper} (hm : P.follows .mixedOrders = true) (hB : Region.lexB .any l.toArray = true) (hC : C { w with drawn := w.drawn + 1 })
    (h : wpQuiet P l.toArray C (fun a' => ∀ w', C w' → Q .normal a' w') l a) : (Code.region id l.toArray true).wp P Q a w := wp_region_quiet hm hB hC (by simpa using h)

/-- The cells of n types of which the first k are those of the fields. -/
def tsCells (fs : List Fld) (k n : Nat) : List Value := (List.range (4 * n)).map fun q => if q / 4 < k then (match fs[q / 4]? with | some f => f.t.cells.getD (q % 4) (.int .u8 0) | none => .int .u8 0) else .int .u8 0

theorem tsCells_get (fs : List Fld) (k n q : Nat) (h : q < 4 * n) : (tsCells fs k n)[q]? = some (if q / 4 < k then (match fs[q / 4]? with | some f => f.t.cells.getD (q % 4) (.int .u8 0) | none => .int .u8 0) else .int .u8 0) := by
  unfold tsCells; simp [h]

theorem tsCells_zero (fs : List Fld) (n : Nat) : tsCells fs 0 n = tyCells (fun _ => 0) 0 n := by
  unfold tsCells tyCells
  refine List.map_congr_left fun q _ => ?_
  rw [if_neg (by omega), if_neg (by omega)]

theorem tsCells_step (fs : List Fld) (k n : Nat) (f : Fld) (h : k < n) (hf : fs[k]? = some f) :
    ((((tsCells fs k n).set (k * 4) (.int .u8 f.t.kind)).set (k * 4 + 1) (.int .u8 f.t.elem)).set (k * 4 + 2) (.int .u8 f.t.ref)).set (k * 4 + 3) (.int .u8 f.t.nest) = tsCells fs (k + 1) n := by
  refine List.ext_getElem? fun q => ?_
  by_cases hq : q < 4 * n
  · simp only [List.getElem?_set, List.length_set]
    have hl : (tsCells fs k n).length = 4 * n := by simp [tsCells]
    rw [hl, tsCells_get _ _ _ _ hq, tsCells_get _ _ _ _ hq]
    by_cases h3 : k * 4 + 3 = q
    · subst h3
      rw [if_pos rfl, if_pos hq, show (k * 4 + 3) / 4 = k by omega, if_pos (by omega), hf, show (k * 4 + 3) % 4 = 3 by omega]; rfl
    · rw [if_neg h3]
      by_cases h2 : k * 4 + 2 = q
      · subst h2
        rw [if_pos rfl, if_pos hq, show (k * 4 + 2) / 4 = k by omega, if_pos (by omega), hf, show (k * 4 + 2) % 4 = 2 by omega]; rfl
      · rw [if_neg h2]
        by_cases h1 : k * 4 + 1 = q
        · subst h1
          rw [if_pos rfl, if_pos hq, show (k * 4 + 1) / 4 = k by omega, if_pos (by omega), hf, show (k * 4 + 1) % 4 = 1 by omega]; rfl
        · rw [if_neg h1]
          by_cases h0 : k * 4 = q
          · subst h0
            rw [if_pos rfl, if_pos hq, show k * 4 / 4 = k by omega, if_pos (by omega), hf, show k * 4 % 4 = 0 by omega]; rfl
          · rw [if_neg h0]
            by_cases hk : q / 4 < k
            · rw [if_pos hk, if_pos (by omega)]
            · rw [if_neg hk, if_neg (by omega)]
  · rw [List.getElem?_eq_none (by simp [tsCells]; omega), List.getElem?_eq_none (by simp [tsCells]; omega)]

def elemsOf (t : Str) : Nat → Int := fun i => match t.fs[i]? with | some f => (f.t.elem : Int) | none => 0
def refsOf (t : Str) : Nat → Int := fun i => match t.fs[i]? with | some f => (f.t.ref : Int) | none => 0
def nestsOf (t : Str) : Nat → Int := fun i => match t.fs[i]? with | some f => (f.t.nest : Int) | none => 0

theorem ts_cells {w : World} {tb : Nat} {t : Str} (h : Blk w tb 85 (tsCells t.fs t.fs.length t.fs.length)) : ∀ i, i < t.fs.length → w.cell? ⟨tb, 0 + i * 4, none⟩ = some (.int .u8 (kindsOf t i)) ∧ w.cell? ⟨tb, 0 + i * 4 + 1, none⟩ = some (.int .u8 (elemsOf t i)) ∧ w.cell? ⟨tb, 0 + i * 4 + 2, none⟩ = some (.int .u8 (refsOf t i)) ∧ w.cell? ⟨tb, 0 + i * 4 + 3, none⟩ = some (.int .u8 (nestsOf t i)) := by
  intro i hi
  have hf : t.fs[i]? = some t.fs[i] := List.getElem?_eq_getElem hi
  rw [h.cell, h.cell, h.cell, h.cell, tsCells_get _ _ _ _ (by omega), tsCells_get _ _ _ _ (by omega), tsCells_get _ _ _ _ (by omega), tsCells_get _ _ _ _ (by omega)]
  unfold kindsOf elemsOf refsOf nestsOf
  rw [show (0 + i * 4) / 4 = i by omega, show (0 + i * 4 + 1) / 4 = i by omega, show (0 + i * 4 + 2) / 4 = i by omega, show (0 + i * 4 + 3) / 4 = i by omega,
    show (0 + i * 4) % 4 = 0 by omega, show (0 + i * 4 + 1) % 4 = 1 by omega, show (0 + i * 4 + 2) % 4 = 2 by omega, show (0 + i * 4 + 3) % 4 = 3 by omega, hf]
  simp [hi, Typ.cells]

theorem kinds_ok {t : Str} (h : StrWf t) : ∀ i, 0 ≤ kindsOf t i ∧ kindsOf t i ≤ 255 := by
  intro i
  unfold kindsOf
  cases hf : t.fs[i]? with
  | none => constructor <;> decide
  | some f =>
    have := (h.flds f (List.mem_of_getElem? hf)).kind
    simp only
    omega

theorem psCells_at (ps : List Plc) (i j : Nat) (p : Plc) (u : Value) (h : ps[i]? = some p) (hu : (plcCells p)[j]? = some u) : (psCells ps)[i * 4 + j]? = some u := by
  have hj : j < 4 := by have := (List.getElem?_eq_some_iff.1 hu).1; simpa [plcCells] using this
  induction ps generalizing i with
  | nil => simp at h
  | cons q ps ih =>
    cases i with
    | zero =>
      simp at h; subst h
      simp only [psCells, List.flatMap_cons, Nat.zero_mul, Nat.zero_add]
      rw [List.getElem?_append_left (by simpa [plcCells] using hj)]
      exact hu
    | succ i =>
      simp at h
      have := ih i h
      simp only [psCells, List.flatMap_cons] at this ⊢
      rw [List.getElem?_append_right (by simp [plcCells]; omega)]
      simp only [plcCells, List.length_cons, List.length_nil]
      rw [show (i + 1) * 4 + j - (0 + 1 + 1 + 1 + 1) = i * 4 + j by omega]
      exact this

theorem ps_row4 {w : World} {base n : Nat} {v : Value} {ps : List Plc} (h : w.ownsRow base 82 4 v n (psCells ps)) : ∀ i p, i < n → ps[i]? = some p →
    ∃ gb cap0, v = .slice (some ⟨gb, 0, none⟩) n cap0 ∧ gb < w.heap.size ∧ ∀ j u, (plcCells p)[j]? = some u → w.cell? ⟨gb, i * 4 + j, none⟩ = some u := by
  intro i p hi hp
  rcases h.2 with ⟨_, h0⟩ | ⟨gb, cap0, cur, hv, hb, hh, _⟩
  · omega
  · refine ⟨gb, cap0, hv, (Array.getElem?_eq_some_iff.1 hh).1, fun j u hu => ?_⟩
    have := h.cells (g := gb) (by rw [hv]; rfl) (i * 4 + j) _ (psCells_at ps i j p u hp hu)
    rw [Addr.add_lit, Nat.zero_add] at this
    exact this

theorem plc_ne {a b : Plc} (h : ¬ b = a) : (((a.bits : Int) == (b.bits : Int)) = false) ∨ (((a.bits : Int) == (b.bits : Int)) = true ∧ ((a.off : Int) == (b.off : Int)) = false) ∨ (((a.bits : Int) == (b.bits : Int)) = true ∧ ((a.off : Int) == (b.off : Int)) = true ∧ ((a.slot : Int) == (b.slot : Int)) = false) ∨ (((a.bits : Int) == (b.bits : Int)) = true ∧ ((a.off : Int) == (b.off : Int)) = true ∧ ((a.slot : Int) == (b.slot : Int)) = true ∧ (a.isPtr == b.isPtr) = false) := by
  obtain ⟨a1, a2, a3, a4⟩ := a
  obtain ⟨b1, b2, b3, b4⟩ := b
  simp only [beq_eq_false_iff_ne, beq_iff_eq, ne_eq]
  by_cases h1 : a1 = b1
  · by_cases h2 : a2 = b2
    · by_cases h3 : a3 = b3
      · subst h1; subst h2; subst h3
        refine .inr (.inr (.inr ⟨rfl, rfl, rfl, fun e => h (by rw [e])⟩))
      · exact .inr (.inr (.inl ⟨by omega, by omega, by omega⟩))
    · exact .inr (.inl ⟨by omega, by omega⟩)
  · exact .inl (by omega)

theorem ps_same {ps : List Plc} {fs : List Fld} (hlen : ps.length = fs.length) (h : ∀ (i : Nat) (g : Fld) (p : Plc), i < fs.length → fs[i]? = some g → ps[i]? = some p → p = g.p) : ps = fs.map (·.p) := by
  refine List.ext_getElem? fun i => ?_
  by_cases hi : i < fs.length
  · rw [List.getElem?_map, List.getElem?_eq_getElem hi, List.getElem?_eq_getElem (by omega)]
    simp only [Option.map_some]
    exact congrArg some (h i _ _ hi (List.getElem?_eq_getElem hi) (List.getElem?_eq_getElem (by omega)))
  · rw [List.getElem?_eq_none (by omega), List.getElem?_eq_none (by simp; omega)]

/-- What has been found of the first i fields. -/
def FldsTo (ss : List Str) (t : Str) (i : Nat) : Prop := ∀ (j : Nat) (f : Fld), j < i → t.fs[j]? = some f → nameL f.name.data.toList = true ∧ typeB f.t ss.length = true ∧ ∀ (j' : Nat) (g : Fld), j' < j → t.fs[j']? = some g → ¬ (g.name.toList == f.name.toList) = true

set_option maxHeartbeats 4000000 in
set_option maxRecDepth 100000 in
theorem whole_any (w : World) (B sb cap k b off cap1 : Nat) (ss : List Str) (t : Str) (fa : Option Addr) (hB : B ≤ w.heap.size) (hS : w.cell? ⟨sb, 0, none⟩ = some (.slice (some ⟨b, off, none⟩) ss.length cap)) (hsb : sb < B) (hb : b < B)
    (hss : ∀ k s, ss[k]? = some s → ∃ fa c, StrAt w B b (off + k * 4) s fa c) (hk : ss[k]? = some t) (hlen : ss.length ≤ 4) (hT : StrAt w B b (off + k * 4) t fa cap1) (wf : ∀ s ∈ ss, StrWf s) :
    Calls Fafg.prog 100 #[.pointer (some ⟨sb, 0, none⟩), .int .i64 k] w fun e w' => ∃ r : Bool, e = .returned (.bool r) ∧ (r = true ↔ WholeP ss k t) ∧ Below w.heap.size w w' := by
  have hk4 : k < ss.length := (List.getElem?_eq_some_iff.1 hk).1
  obtain ⟨c0, c1, c2, c3, hflds⟩ := hT
  have twf := wf t (List.mem_of_getElem? hk)
  cases hn : nameL t.name.data.toList with
  | false =>
    have HN : Hid (nameL t.name.data.toList = false) := hn
    clear hn hss hk
    have HW : Hid (¬ WholeP ss k t) := fun h => by have := h.name; rw [HN.out] at this; cases this
    go_enter Fafg.func100, Fafg.ntmps100
    go_wp2_with (go_at_call 159; go_must (refine (isName_any _ _).mono ?_; rintro e w' ⟨rfl, rfl⟩; rw [HN.out]))
    go_ret
    exact ⟨false, rfl, ⟨fun h => Bool.noConfusion h, fun h => absurd h HW.out⟩, Below.refl _ _⟩
  | true =>
  cases hc : capL t.name.data.toList with
  | false =>
    have HN : Hid (nameL t.name.data.toList = true) := hn
    have HC : Hid (capL t.name.data.toList = false) := hc
    clear hn hc hss hk
    have HW : Hid (¬ WholeP ss k t) := fun h => by have := h.cap; rw [HC.out] at this; cases this
    go_enter Fafg.func100, Fafg.ntmps100
    go_wp2_with (first | (go_at_call 159; go_must (refine (isName_any _ _).mono ?_; rintro e w' ⟨rfl, rfl⟩; rw [HN.out])) | (go_at_call 160; go_must (refine (isCapital_any _ _).mono ?_; rintro e w' ⟨rfl, rfl⟩; rw [HC.out])))
    go_ret
    exact ⟨false, rfl, ⟨fun h => Bool.noConfusion h, fun h => absurd h HW.out⟩, Below.refl _ _⟩
  | true =>
  cases hbu : builtL t.name.data.toList with
  | true =>
    have HN : Hid (nameL t.name.data.toList = true) := hn
    have HC : Hid (capL t.name.data.toList = true) := hc
    have HBu : Hid (builtL t.name.data.toList = true) := hbu
    clear hn hc hbu hss hk
    have HW : Hid (¬ WholeP ss k t) := fun h => by have := h.nb; rw [HBu.out] at this; cases this
    go_enter Fafg.func100, Fafg.ntmps100
    go_wp2_with (first | (go_at_call 159; go_must (refine (isName_any _ _).mono ?_; rintro e w' ⟨rfl, rfl⟩; rw [HN.out])) | (go_at_call 160; go_must (refine (isCapital_any _ _).mono ?_; rintro e w' ⟨rfl, rfl⟩; rw [HC.out])) | (go_at_call 161; go_must (refine (isBuiltIn_any _ _).mono ?_; rintro e w' ⟨rfl, rfl⟩; rw [HBu.out])))
    go_ret
    exact ⟨false, rfl, ⟨fun h => Bool.noConfusion h, fun h => absurd h HW.out⟩, Below.refl _ _⟩
  | false =>
  by_cases h16 : t.fs.length ≤ 16
  · have h16b : decide ((16 : Int) < (t.fs.length : Int)) = false := by simp; omega
    have HN : Hid (nameL t.name.data.toList = true) := hn
    have HC : Hid (capL t.name.data.toList = true) := hc
    have HBu : Hid (builtL t.name.data.toList = false) := hbu
    have Hk : Hid (ss[k]? = some t) := hk
    have Hss : Hid (∀ k s, ss[k]? = some s → ∃ fa c, StrAt w B b (off + k * 4) s fa c) := hss
    clear hn hc hbu hss hk
    go_enter Fafg.func100, Fafg.ntmps100
    go_wp2_with (first | (go_at_call 159; go_must (refine (isName_any _ _).mono ?_; rintro e w' ⟨rfl, rfl⟩; rw [HN.out])) | (go_at_call 160; go_must (refine (isCapital_any _ _).mono ?_; rintro e w' ⟨rfl, rfl⟩; rw [HC.out])) | (go_at_call 161; go_must (refine (isBuiltIn_any _ _).mono ?_; rintro e w' ⟨rfl, rfl⟩; rw [HBu.out])))
    have Hc : Hid (w'.cell? ⟨sb, 0, none⟩ = some (.slice (some ⟨b, off, none⟩) ss.length cap) ∧ StrAt w' B b (off + k * 4) t fa cap1) := ⟨hS, c0, c1, c2, c3, hflds⟩
    clear hS c0 c1 c2 c3 hflds
    go_loopw [53] (fun i wr => ∃ j : Nat, j ≤ k ∧ i = .int .i64 j ∧ Below w'.heap.size w' wr ∧ Hid (∀ (i : Nat) (u : Str), i < j → ss[i]? = some u → ¬ (u.name.toList == t.name.toList) = true)) (fun i _ => k - (intOf i).toNat)
    case atStart => exact ⟨0, by omega, rfl, Below.refl _ _, fun i u hi => by omega⟩
    case round =>
      obtain ⟨j, hj, rfl, hbel, hdup⟩ := hrel
      have Hbel : Hid (Below w'.heap.size w' wr) := hbel
      clear hbel
      have hS : wr.cell? ⟨sb, 0, none⟩ = some (.slice (some ⟨b, off, none⟩) ss.length cap) := (Hbel.out.cell (by show sb < _; omega)).trans Hc.out.1
      have hT := Hc.out.2.below Hbel.out hb hB
      by_cases hlt : j < k
      · obtain ⟨u, hu⟩ : ∃ u, ss[j]? = some u := ⟨ss[j], List.getElem?_eq_getElem (by omega)⟩
        obtain ⟨fa2, c2', hU⟩ := Hss.out j u hu
        have hU := hU.below Hbel.out hb hB
        have d0 := hU.c0
        have c0 := hT.c0
        have HU : Hid (ss[j]? = some u) := hu
        clear hu hU hT
        have hjl : j < ss.length := by omega
        cases he : (u.name.toList == t.name.toList) with
        | true =>
          have HW : Hid (¬ WholeP ss k t) := fun h => h.dup j u hlt HU.out he
          go_wp2
          go_quiet (fail)
          go_wp2
          go_ret
          exact ⟨false, rfl, ⟨fun h => Bool.noConfusion h, fun h => absurd h HW.out⟩, Hbel.out.trans (below_drewN (Below.refl _ _) _)⟩
        | false =>
          have HE : Hid ((u.name.toList == t.name.toList) = false) := he
          go_wp2
          go_quiet (fail)
          go_wp2
          go_roundw
          case rel =>
            refine ⟨j + 1, by omega, by go_num, Hbel.out.trans (below_drewN (Below.refl _ _) _), fun i v hi hv => ?_⟩
            by_cases hij : i < j
            · exact hdup.out i v hij hv
            · obtain rfl : i = j := by omega
              rw [HU.out] at hv
              cases hv
              rw [HE.out]; simp
          case measure => simp [intOf]; omega
      · have hjk : j = k := by omega
        subst hjk
        have c0 := hT.c0
        have c1 := hT.c1
        clear hT
        have hlm := twf.len
        unfold maxLen at hlm
        obtain ⟨i85, hi, hz0, hz1, hz2⟩ := info_parts info85
        go_wp2_with (at_make; go_must (refine wpList_make_full _ rfl _ _ 75 rfl w'.heap.size 85 i85 _ 4 Fafg.underlying75 hi hz0 hz1 .i64 .i64 _ _ t.fs.length rfl rfl rfl rfl (by rw [hz2]; omega) (by unfold maxLen; omega) Hbel.out.size ?_; intro w1 hown hgrow; have Hb1 : Hid (Below w'.heap.size w' w1) := Hbel.out.grown hgrow Hbel.out.size (by simp); have hT1 := Hc.out.2.below Hb1.out hb hB; have e1 := hT1.c1; clear hT1))
        have hblk := Blk.ofOwn hown
        rw [made85 (fun _ => 0), ← tsCells_zero t.fs] at hblk
        have htge : w'.heap.size ≤ wr.heap.size := Hbel.out.size
        generalize wr.heap.size = tb at *
        clear hown hgrow e1 c0 c1 hS Hbel
        go_loopw [81] (fun i wq => ∃ m : Nat, m ≤ t.fs.length ∧ i = .int .i64 m ∧ Below w'.heap.size w' wq ∧ Blk wq tb 85 (tsCells t.fs m t.fs.length) ∧ Hid (FldsTo ss t m)) (fun i _ => t.fs.length - (intOf i).toNat)
        case atStart => exact ⟨0, by omega, rfl, Hb1, hblk, fun j f hj => by omega⟩
        case round =>
          obtain ⟨m, hm, rfl, hbel2, hblk2, hfl⟩ := hrel
          clear hblk
          have Hb2 : Hid (Below w'.heap.size w' wr) := hbel2
          clear hbel2
          have Hk2 : Hid (Blk wr tb 85 (tsCells t.fs m t.fs.length)) := hblk2
          clear hblk2
          have htlt : tb < wr.heap.size := Hk2.out.lt
          have hS : wr.cell? ⟨sb, 0, none⟩ = some (.slice (some ⟨b, off, none⟩) ss.length cap) := (Hb2.out.cell (by show sb < _; omega)).trans Hc.out.1
          have hT := Hc.out.2.below Hb2.out hb hB
          by_cases hlt : m < t.fs.length
          · obtain ⟨f, hf⟩ : ∃ f, t.fs[m]? = some f := ⟨t.fs[m], List.getElem?_eq_getElem hlt⟩
            have fwf := twf.flds f (List.mem_of_getElem? hf)
            obtain ⟨fb, fo, hfa, hfb, hfx⟩ : ∃ fb fo, fa = some ⟨fb, fo, none⟩ ∧ fb < B ∧ ∀ i f, t.fs[i]? = some f → FldAt wr fb (fo + i * 9) f := by
              rcases hT.flds with h0 | h0
              · rw [h0] at hlt; simp at hlt
              · exact h0
            subst hfa
            have hfm := hfx m f hf
            have g0 := hfm 0 _ rfl
            have g1 := hfm 1 _ rfl
            have g2 := hfm 2 _ rfl
            have g3 := hfm 3 _ rfl
            have g4 := hfm 4 _ rfl
            have g5 := hfm 5 _ rfl
            have g6 := hfm 6 _ rfl
            have g7 := hfm 7 _ rfl
            have g8 := hfm 8 _ rfl
            simp only [Nat.add_zero] at g0
            have Hf : Hid (t.fs[m]? = some f) := hf
            have Hfx : Hid (∀ i f, t.fs[i]? = some f → FldAt wr fb (fo + i * 9) f) := hfx
            clear hf hfx hfm
            have Hlen : Hid (ss.length ≤ 4) := hlen
            cases hnm : nameL f.name.data.toList with
            | false =>
              have HNm : Hid (nameL f.name.data.toList = false) := hnm
              clear hnm
              have HW : Hid (¬ WholeP ss j t) := fun h => by have := (h.flds m f Hf.out).1; rw [HNm.out] at this; cases this
              have HN0 : Hid (∀ wx, Calls Fafg.prog 159 #[.string f.name] wx fun e w' => e = .returned (.bool false) ∧ w' = wx) := fun wx => by have := isName_any f.name wx; rw [HNm.out] at this; exact this
              go_wp2_with fail
              go_quiet ((go_at_call 159; exact Calls.quiet_of_same (HN0.out _)))
              go_wp2
              go_ret
              exact ⟨false, rfl, ⟨fun h => Bool.noConfusion h, fun h => absurd h HW.out⟩, (Hb2.out.alloc (by omega) _).trans (below_drewN (Below.refl _ _) _)⟩
            | true =>
              have HNm : Hid (nameL f.name.data.toList = true) := hnm
              clear hnm
              have HN0 : Hid (∀ wx, Calls Fafg.prog 159 #[.string f.name] wx fun e w' => e = .returned (.bool true) ∧ w' = wx) := fun wx => by have := isName_any f.name wx; rw [HNm.out] at this; exact this
              cases hty : typeB f.t ss.length with
              | false =>
                have HTy : Hid (typeB f.t ss.length = false) := hty
                clear hty
                have HT0 : Hid (∀ wx, Calls Fafg.prog 162 #[.agg #[.int .u8 f.t.kind, .int .u8 f.t.elem, .int .u8 f.t.ref, .int .u8 f.t.nest], .int .i64 ss.length] wx fun e w' => e = .returned (.bool false) ∧ ∃ O, w' = wx.alloc O) := fun wx => by have := isType_any f.t ss.length wx (by omega) fwf.kind fwf.elem fwf.ref fwf.nest; rw [HTy.out] at this; exact this
                have HW : Hid (¬ WholeP ss j t) := fun h => by have := (h.flds m f Hf.out).2.1; rw [HTy.out] at this; cases this
                go_wp2_with fail
                clear hS g0 g1 g2 g3 g4 g5 g6 g7 g8
                have Hnew : Hid (Blk (wr.alloc (.cells (fldCells f).toArray 150)) wr.heap.size 150 (fldCells f)) := Blk.new _ _ _
                have HbX : Hid (Below w'.heap.size w' (wr.alloc (.cells (fldCells f).toArray 150))) := Hb2.out.alloc (by omega) _
                have eWX : wr.alloc (.cells #[.string f.name, .int .u8 f.t.kind, .int .u8 f.t.elem, .int .u8 f.t.ref, .int .u8 f.t.nest, .int .u8 f.p.bits, .int .u16 f.p.off, .int .u8 f.p.slot, .bool f.p.isPtr] 150) = wr.alloc (.cells (fldCells f).toArray 150) := rfl
                rw [eWX]
                clear eWX
                generalize wr.alloc (.cells (fldCells f).toArray 150) = WX at *
                generalize wr.heap.size = fk at *
                have x0 : ∀ l, (grow WX l).cell? ⟨fk, 0, none⟩ = some (.string f.name) := fun l => grow_cell _ _ _ _ (Hnew.out.cell 0)
                have x1 : ∀ l, (grow WX l).cell? ⟨fk, 1, none⟩ = some (.int .u8 f.t.kind) := fun l => grow_cell _ _ _ _ (Hnew.out.cell 1)
                have x2 : ∀ l, (grow WX l).cell? ⟨fk, 2, none⟩ = some (.int .u8 f.t.elem) := fun l => grow_cell _ _ _ _ (Hnew.out.cell 2)
                have x3 : ∀ l, (grow WX l).cell? ⟨fk, 3, none⟩ = some (.int .u8 f.t.ref) := fun l => grow_cell _ _ _ _ (Hnew.out.cell 3)
                have x4 : ∀ l, (grow WX l).cell? ⟨fk, 4, none⟩ = some (.int .u8 f.t.nest) := fun l => grow_cell _ _ _ _ (Hnew.out.cell 4)
                have xs : ∀ l, (grow WX l).cell? ⟨sb, 0, none⟩ = some (.slice (some ⟨b, off, none⟩) ss.length cap) := fun l => grow_cell _ _ _ _ ((HbX.out.cell (by show sb < _; omega)).trans Hc.out.1)
                refine wp_region_quiet_C (C := fun wx => ∃ q, wx = grow WX q) (by kernel_rfl) (by kernel_rfl) ⟨[none], rfl⟩ ?_
                repeat (first | go_big_quiet_skip | (go_big_quiet_want; go_big_quiet_op; first | go_big_quiet_on | (apply Exists.intro; refine ⟨?_, ?_⟩; (first | (intro q; go_at_call 159; refine (HN0.out _).mono ?_; rintro e w' ⟨rfl, rfl⟩; exact ⟨rfl, q, rfl⟩) | (intro q; go_at_call 162; refine (HT0.out _).mono ?_; rintro e w' ⟨rfl, O, rfl⟩; exact ⟨rfl, q ++ [some O], (grow_alloc _ _ _).symm⟩)); go_big_quiet_on)))
                refine wpQuiet_nil ?_
                rintro _ ⟨q, rfl⟩
                go_wp2
                go_ret
                exact ⟨false, rfl, ⟨fun h => Bool.noConfusion h, fun h => absurd h HW.out⟩, HbX.out.trans ((grow_below _ _).mono HbX.out.size)⟩
              | true =>
                have HTy : Hid (typeB f.t ss.length = true) := hty
                clear hty
                have HT0 : Hid (∀ wx, Calls Fafg.prog 162 #[.agg #[.int .u8 f.t.kind, .int .u8 f.t.elem, .int .u8 f.t.ref, .int .u8 f.t.nest], .int .i64 ss.length] wx fun e w' => e = .returned (.bool true) ∧ ∃ O, w' = wx.alloc O) := fun wx => by have := isType_any f.t ss.length wx (by omega) fwf.kind fwf.elem fwf.ref fwf.nest; rw [HTy.out] at this; exact this
                go_wp2_with fail
                clear hS g0 g1 g2 g3 g4 g5 g6 g7 g8
                have HtX : Hid (Blk (wr.alloc (.cells (fldCells f).toArray 150)) tb 85 (tsCells t.fs m t.fs.length)) := Hk2.out.alloc _
                have HfX : Hid (∀ i g, t.fs[i]? = some g → FldAt (wr.alloc (.cells (fldCells f).toArray 150)) fb (fo + i * 9) g) := fun i g hg => (Hfx.out i g hg).below ((Below.refl _ _).alloc (Nat.le_refl _) _) (by have := Hb2.out.size; omega)
                have Hnew : Hid (Blk (wr.alloc (.cells (fldCells f).toArray 150)) wr.heap.size 150 (fldCells f)) := Blk.new _ _ _
                have HbX : Hid (Below w'.heap.size w' (wr.alloc (.cells (fldCells f).toArray 150))) := Hb2.out.alloc (by omega) _
                have eWX : wr.alloc (.cells #[.string f.name, .int .u8 f.t.kind, .int .u8 f.t.elem, .int .u8 f.t.ref, .int .u8 f.t.nest, .int .u8 f.p.bits, .int .u16 f.p.off, .int .u8 f.p.slot, .bool f.p.isPtr] 150) = wr.alloc (.cells (fldCells f).toArray 150) := rfl
                rw [eWX]
                clear eWX Hk2 Hfx
                generalize wr.alloc (.cells (fldCells f).toArray 150) = WX at *
                generalize wr.heap.size = fk at *
                have x0 : ∀ l, (grow WX l).cell? ⟨fk, 0, none⟩ = some (.string f.name) := fun l => grow_cell _ _ _ _ (Hnew.out.cell 0)
                have x1 : ∀ l, (grow WX l).cell? ⟨fk, 1, none⟩ = some (.int .u8 f.t.kind) := fun l => grow_cell _ _ _ _ (Hnew.out.cell 1)
                have x2 : ∀ l, (grow WX l).cell? ⟨fk, 2, none⟩ = some (.int .u8 f.t.elem) := fun l => grow_cell _ _ _ _ (Hnew.out.cell 2)
                have x3 : ∀ l, (grow WX l).cell? ⟨fk, 3, none⟩ = some (.int .u8 f.t.ref) := fun l => grow_cell _ _ _ _ (Hnew.out.cell 3)
                have x4 : ∀ l, (grow WX l).cell? ⟨fk, 4, none⟩ = some (.int .u8 f.t.nest) := fun l => grow_cell _ _ _ _ (Hnew.out.cell 4)
                have xs : ∀ l, (grow WX l).cell? ⟨sb, 0, none⟩ = some (.slice (some ⟨b, off, none⟩) ss.length cap) := fun l => grow_cell _ _ _ _ ((HbX.out.cell (by show sb < _; omega)).trans Hc.out.1)
                refine wp_region_quiet_C (C := fun wx => ∃ q, wx = grow WX q) (by kernel_rfl) (by kernel_rfl) ⟨[none], rfl⟩ ?_
                repeat (first | go_big_quiet_skip | (go_big_quiet_want; go_big_quiet_op; first | go_big_quiet_on | (apply Exists.intro; refine ⟨?_, ?_⟩; (first | (intro q; go_at_call 159; refine (HN0.out _).mono ?_; rintro e w' ⟨rfl, rfl⟩; exact ⟨rfl, q, rfl⟩) | (intro q; go_at_call 162; refine (HT0.out _).mono ?_; rintro e w' ⟨rfl, O, rfl⟩; exact ⟨rfl, q ++ [some O], (grow_alloc _ _ _).symm⟩)); go_big_quiet_on)))
                refine wpQuiet_nil ?_
                rintro _ ⟨q, rfl⟩
                have HbG : Hid (Below w'.heap.size w' (grow WX q)) := HbX.out.trans ((grow_below _ _).mono HbX.out.size)
                have HtG : Hid (Blk (grow WX q) tb 85 (tsCells t.fs m t.fs.length)) := HtX.out.below (grow_below _ _) HtX.out.lt
                have HnG : Hid (Blk (grow WX q) fk 150 (fldCells f)) := Hnew.out.below (grow_below _ _) Hnew.out.lt
                have HfG : Hid (∀ i g, t.fs[i]? = some g → FldAt (grow WX q) fb (fo + i * 9) g) := fun i g hg => (HfX.out i g hg).below (grow_below _ _) (by have := HbX.out.size; omega)
                clear x0 x1 x2 x3 x4 xs HbX HtX HfX Hnew
                generalize grow WX q = WG at *
                go_wp2
                go_loopw [102] (fun x wq => ∃ y : Nat, y ≤ m ∧ x = .int .i64 y ∧ Below WG.heap.size WG wq ∧ Hid (∀ (i : Nat) (g : Fld), i < y → t.fs[i]? = some g → ¬ (g.name.toList == f.name.toList) = true)) (fun x _ => m - (intOf x).toNat)
                case atStart => exact ⟨0, by omega, rfl, Below.refl _ _, fun i u hi => by omega⟩
                case round =>
                  obtain ⟨y, hy, rfl, hbq, hnd⟩ := hrel
                  have Hbq : Hid (Below WG.heap.size WG wr) := hbq
                  clear hbq
                  have HbT : Hid (Below w'.heap.size w' wr) := HbG.out.trans (Hbq.out.mono HbG.out.size)
                  have hT2 := Hc.out.2.below HbT.out hb hB
                  have d1 := hT2.c1
                  have hn0 : wr.cell? ⟨fk, 0, none⟩ = some (.string f.name) := ((HnG.out.below Hbq.out HnG.out.lt).cell 0)
                  clear hT2
                  by_cases hym : y < m
                  · obtain ⟨g, hg⟩ : ∃ g, t.fs[y]? = some g := ⟨t.fs[y], List.getElem?_eq_getElem (by omega)⟩
                    have hgn := ((HfG.out y g hg).below Hbq.out (by have := HbG.out.size; omega)) 0 _ rfl
                    simp only [Nat.add_zero] at hgn
                    have Hg : Hid (t.fs[y]? = some g) := hg
                    clear hg
                    have hyl : y < t.fs.length := by omega
                    cases he : (g.name.toList == f.name.toList) with
                    | true =>
                      have HW : Hid (¬ WholeP ss j t) := fun h => (h.flds m f Hf.out).2.2 y g hym Hg.out he
                      go_wp2
                      go_quiet (fail)
                      go_wp2
                      go_ret
                      exact ⟨false, rfl, ⟨fun h => Bool.noConfusion h, fun h => absurd h HW.out⟩, HbT.out.trans (below_drewN (Below.refl _ _) _)⟩
                    | false =>
                      have HE : Hid ((g.name.toList == f.name.toList) = false) := he
                      go_wp2
                      go_quiet (fail)
                      go_wp2
                      go_roundw
                      case rel =>
                        refine ⟨y + 1, by omega, by go_num, Hbq.out.trans (below_drewN (Below.refl _ _) _), fun i v hi hv => ?_⟩
                        by_cases hij : i < y
                        · exact hnd.out i v hij hv
                        · obtain rfl : i = y := by omega
                          rw [Hg.out] at hv
                          cases hv
                          rw [HE.out]; simp
                      case measure => simp [intOf]; omega
                  · have hym' : y = m := by omega
                    subst hym'
                    have HkW : Hid (Blk wr tb 85 (tsCells t.fs y t.fs.length)) := HtG.out.below Hbq.out HtG.out.lt
                    have hnb := HnG.out.below Hbq.out HnG.out.lt
                    have n1 : wr.cell? ⟨fk, 1, none⟩ = some (.int .u8 f.t.kind) := hnb.cell 1
                    have n2 : wr.cell? ⟨fk, 2, none⟩ = some (.int .u8 f.t.elem) := hnb.cell 2
                    have n3 : wr.cell? ⟨fk, 3, none⟩ = some (.int .u8 f.t.ref) := hnb.cell 3
                    have n4 : wr.cell? ⟨fk, 4, none⟩ = some (.int .u8 f.t.nest) := hnb.cell 4
                    have s0 := (HkW.out.cell (y * 4)).trans (tsCells_get _ _ _ _ (by omega))
                    have s1 := (HkW.out.cell (y * 4 + 1)).trans (tsCells_get _ _ _ _ (by omega))
                    have s2 := (HkW.out.cell (y * 4 + 2)).trans (tsCells_get _ _ _ _ (by omega))
                    have s3 := (HkW.out.cell (y * 4 + 3)).trans (tsCells_get _ _ _ _ (by omega))
                    have z0 := HkW.out.frozen (y * 4)
                    have z1 := HkW.out.frozen (y * 4 + 1)
                    have z2 := HkW.out.frozen (y * 4 + 2)
                    have z3 := HkW.out.frozen (y * 4 + 3)
                    rw [if_neg (by omega)] at s0 s1 s2 s3
                    clear hnb hn0 d1
                    go_wp2
                    go_roundw
                    case rel =>
                      refine ⟨y + 1, by omega, by go_num, ?_, ?_, ?_⟩
                      · exact (((HbT.out.setCell (by exact htge) _).setCell (by exact htge) _).setCell (by exact htge) _).setCell (by exact htge) _
                      · have h := (((HkW.out.set (y * 4) (.int .u8 f.t.kind)).set (y * 4 + 1) (.int .u8 f.t.elem)).set (y * 4 + 2) (.int .u8 f.t.ref)).set (y * 4 + 3) (.int .u8 f.t.nest)
                        rw [tsCells_step t.fs y t.fs.length f (by omega) Hf.out] at h
                        exact h
                      · intro j1 f1 hj1 hf1
                        by_cases hjy : j1 < y
                        · exact hfl.out j1 f1 hjy hf1
                        · obtain rfl : j1 = y := by omega
                          rw [Hf.out] at hf1
                          cases hf1
                          exact ⟨HNm.out, HTy.out, fun j' g hj' hg => hnd.out j' g hj' hg⟩
                    case measure => simp [intOf]; omega
          · have hml : m = t.fs.length := by omega
            subst hml
            have hty : ∀ i, i < t.fs.length → wr.cell? ⟨tb, 0 + i * 4, none⟩ = some (.int .u8 (kindsOf t i)) ∧ wr.cell? ⟨tb, 0 + i * 4 + 1, none⟩ = some (.int .u8 (elemsOf t i)) ∧ wr.cell? ⟨tb, 0 + i * 4 + 2, none⟩ = some (.int .u8 (refsOf t i)) ∧ wr.cell? ⟨tb, 0 + i * 4 + 3, none⟩ = some (.int .u8 (nestsOf t i)) := ts_cells Hk2.out
            have HL : Hid (Calls Fafg.prog 27 #[.slice (some ⟨tb, 0, none⟩) t.fs.length t.fs.length] wr (LayEnd wr (kindsOf t) t.fs.length)) := layout_all tb 0 t.fs.length t.fs.length (kindsOf t) (elemsOf t) (refsOf t) (nestsOf t) wr (by unfold maxLen; omega) htlt (kinds_ok twf) hty
            clear hty hS hT
            go_wp2_with fail
            refine HL.out.mono ?_
            rintro e w2 ⟨hb2, hcase⟩
            have Hbw : Hid (Below w'.heap.size w' w2) := Hb2.out.trans (hb2.mono Hb2.out.size)
            have hT2 := Hc.out.2.below Hbw.out hb hB
            have d1 := hT2.c1
            have d2 := hT2.c2
            have d3 := hT2.c3
            have hdl : t.data ≤ 255 := twf.data
            have hpl : t.ptrs ≤ 255 := twf.ptrs
            clear hb2 hT2
            have elay : lay (kindsOf t) t.fs.length = layTo (kindsOf t) t.fs.length := by unfold lay; rw [if_neg (by omega)]
            rw [elay] at hcase
            clear elay HL Hk2
            rcases hcase with ⟨hl, rfl⟩ | ⟨st, v, hl, rfl, hown⟩
            · have HW : Hid (¬ WholeP ss j t) := fun h => by obtain ⟨st, h1, _⟩ := h.lay; rw [hl] at h1; cases h1
              clear hl
              go_wp2
              go_ret
              exact ⟨false, rfl, ⟨fun h => Bool.noConfusion h, fun h => absurd h HW.out⟩, Hbw.out⟩
            · have Hl : Hid (layTo (kindsOf t) t.fs.length = some st) := hl
              clear hl
              have hok := layTo_ok _ _ _ Hl.out
              by_cases hd : st.data = t.data
              · by_cases hp : st.ptrs = t.ptrs
                · have hdb : ((st.data : Int) != (t.data : Int)) = false := by simp [hd]
                  have hpb : ((st.ptrs : Int) != (t.ptrs : Int)) = false := by simp [hp]
                  have Hd : Hid (st.data = t.data) := hd
                  have Hp : Hid (st.ptrs = t.ptrs) := hp
                  clear hd hp
                  have Hrow : Hid (∀ i p, i < t.fs.length → st.ps[i]? = some p → ∃ gb cap0, v = .slice (some ⟨gb, 0, none⟩) t.fs.length cap0 ∧ gb < w2.heap.size ∧ ∀ j u, (plcCells p)[j]? = some u → w2.cell? ⟨gb, i * 4 + j, none⟩ = some u) := ps_row4 hown
                  clear hown
                  have hpl := hok.len
                  go_wp2
                  go_loopw [153] (fun x wq => ∃ y : Nat, y ≤ t.fs.length ∧ x = .int .i64 y ∧ Below w2.heap.size w2 wq ∧ Hid (∀ (i : Nat) (g : Fld) (p : Plc), i < y → t.fs[i]? = some g → st.ps[i]? = some p → p = g.p)) (fun x _ => t.fs.length - (intOf x).toNat)
                  case atStart => exact ⟨0, by omega, rfl, Below.refl _ _, fun i g p hi => by omega⟩
                  case round =>
                    obtain ⟨y, hy, rfl, hbq, hsame⟩ := hrel
                    have Hbq : Hid (Below w2.heap.size w2 wr) := hbq
                    clear hbq
                    have HbT : Hid (Below w'.heap.size w' wr) := Hbw.out.trans (Hbq.out.mono Hbw.out.size)
                    have hT3 := Hc.out.2.below HbT.out hb hB
                    by_cases hyl : y < t.fs.length
                    · obtain ⟨g, hg⟩ : ∃ g, t.fs[y]? = some g := ⟨t.fs[y], List.getElem?_eq_getElem hyl⟩
                      obtain ⟨p, hp⟩ : ∃ p, st.ps[y]? = some p := ⟨st.ps[y]'(by omega), List.getElem?_eq_getElem (by omega)⟩
                      obtain ⟨fb, fo, hfa, hfb, hfx⟩ : ∃ fb fo, fa = some ⟨fb, fo, none⟩ ∧ fb < B ∧ ∀ i f, t.fs[i]? = some f → FldAt wr fb (fo + i * 9) f := by
                        rcases hT3.flds with h0 | h0
                        · rw [h0] at hyl; simp at hyl
                        · exact h0
                      subst hfa
                      have hfm := hfx y g hg
                      have g0 := hfm 0 _ rfl
                      have g1 := hfm 1 _ rfl
                      have g2 := hfm 2 _ rfl
                      have g3 := hfm 3 _ rfl
                      have g4 := hfm 4 _ rfl
                      have g5 := hfm 5 _ rfl
                      have g6 := hfm 6 _ rfl
                      have g7 := hfm 7 _ rfl
                      have g8 := hfm 8 _ rfl
                      simp only [Nat.add_zero] at g0
                      obtain ⟨gb, cap0, hv, hgb, hpc⟩ := Hrow.out y p hyl hp
                      subst hv
                      have p0 := (Hbq.out.cell (p := ⟨gb, y * 4, none⟩) hgb).trans (hpc 0 _ rfl)
                      have p1 := (Hbq.out.cell (p := ⟨gb, y * 4 + 1, none⟩) hgb).trans (hpc 1 _ rfl)
                      have p2 := (Hbq.out.cell (p := ⟨gb, y * 4 + 2, none⟩) hgb).trans (hpc 2 _ rfl)
                      have p3 := (Hbq.out.cell (p := ⟨gb, y * 4 + 3, none⟩) hgb).trans (hpc 3 _ rfl)
                      clear hpc hfx hfm hT3
                      have Hg : Hid (t.fs[y]? = some g) := hg
                      have Hp2 : Hid (st.ps[y]? = some p) := hp
                      clear hg hp
                      have hgw : gb < wr.heap.size := Nat.lt_of_lt_of_le hgb Hbq.out.size
                      by_cases hpe : p = g.p
                      · subst hpe
                        go_wp2
                        go_quiet (fail)
                        go_wp2
                        go_roundw
                        case rel =>
                          refine ⟨y + 1, by omega, by go_num, (Hbq.out.alloc Hbq.out.size _).trans (below_drewN (Below.refl _ _) _), fun i g' p' hi hg' hp' => ?_⟩
                          by_cases hiy : i < y
                          · exact hsame.out i g' p' hiy hg' hp'
                          · obtain rfl : i = y := by omega
                            rw [Hg.out] at hg'
                            rw [Hp2.out] at hp'
                            cases hg'
                            cases hp'
                            rfl
                        case measure => simp [intOf]; omega
                      · have HW : Hid (¬ WholeP ss j t) := fun h => by
                          obtain ⟨st', h1, h2, h3, h4⟩ := h.lay
                          rw [Hl.out] at h1
                          cases h1
                          have h5 := Hp2.out
                          rw [h4, List.getElem?_map, Hg.out] at h5
                          simp at h5
                          exact hpe h5.symm
                        have hcases : (((g.p.bits : Int) == (p.bits : Int)) = false) ∨ (((g.p.bits : Int) == (p.bits : Int)) = true ∧ ((g.p.off : Int) == (p.off : Int)) = false) ∨ (((g.p.bits : Int) == (p.bits : Int)) = true ∧ ((g.p.off : Int) == (p.off : Int)) = true ∧ ((g.p.slot : Int) == (p.slot : Int)) = false) ∨ (((g.p.bits : Int) == (p.bits : Int)) = true ∧ ((g.p.off : Int) == (p.off : Int)) = true ∧ ((g.p.slot : Int) == (p.slot : Int)) = true ∧ (g.p.isPtr == p.isPtr) = false) := plc_ne hpe
                        clear hpe
                        rcases hcases with e1 | ⟨e1, e2⟩ | ⟨e1, e2, e3⟩ | ⟨e1, e2, e3, e4⟩
                        all_goals
                          go_wp2
                          go_quiet (fail)
                          go_wp2
                          go_ret
                          exact ⟨false, rfl, ⟨fun h => Bool.noConfusion h, fun h => absurd h HW.out⟩, (HbT.out.alloc HbT.out.size _).trans (below_drewN (Below.refl _ _) _)⟩
                    · have hyn : y = t.fs.length := by omega
                      subst hyn
                      clear hT3
                      have HW : Hid (WholeP ss j t) := ⟨HN.out, HC.out, HBu.out, h16, fun i u hi hu => hdup.out i u hi hu, fun i f hf => hfl.out i f (List.getElem?_eq_some_iff.1 hf).1 hf, st, Hl.out, Hd.out, Hp.out, ps_same hpl hsame.out⟩
                      go_wp2
                      go_ret
                      exact ⟨true, rfl, ⟨fun _ => HW.out, fun _ => rfl⟩, HbT.out⟩
                · have HW : Hid (¬ WholeP ss j t) := fun h => by obtain ⟨st', h1, h2, h3, h4⟩ := h.lay; rw [Hl.out] at h1; cases h1; exact hp h3
                  have hdb : ((st.data : Int) != (t.data : Int)) = false := by simp [hd]
                  have hpb : ((st.ptrs : Int) != (t.ptrs : Int)) = true := by simp; omega
                  clear hd hp
                  go_wp2
                  go_ret
                  exact ⟨false, rfl, ⟨fun h => Bool.noConfusion h, fun h => absurd h HW.out⟩, Hbw.out⟩
              · have HW : Hid (¬ WholeP ss j t) := fun h => by obtain ⟨st', h1, h2, h3, h4⟩ := h.lay; rw [Hl.out] at h1; cases h1; exact hd h2
                have hdb : ((st.data : Int) != (t.data : Int)) = true := by simp; omega
                clear hd
                go_wp2
                go_ret
                exact ⟨false, rfl, ⟨fun h => Bool.noConfusion h, fun h => absurd h HW.out⟩, Hbw.out⟩
  · have h16b : decide ((16 : Int) < (t.fs.length : Int)) = true := by simp; omega
    have HN : Hid (nameL t.name.data.toList = true) := hn
    have HC : Hid (capL t.name.data.toList = true) := hc
    have HBu : Hid (builtL t.name.data.toList = false) := hbu
    have hlm := twf.len
    unfold maxLen at hlm
    clear hn hc hbu hss hk
    have HW : Hid (¬ WholeP ss k t) := fun h => h16 h.len
    go_enter Fafg.func100, Fafg.ntmps100
    go_wp2_with (first | (go_at_call 159; go_must (refine (isName_any _ _).mono ?_; rintro e w' ⟨rfl, rfl⟩; rw [HN.out])) | (go_at_call 160; go_must (refine (isCapital_any _ _).mono ?_; rintro e w' ⟨rfl, rfl⟩; rw [HC.out])) | (go_at_call 161; go_must (refine (isBuiltIn_any _ _).mono ?_; rintro e w' ⟨rfl, rfl⟩; rw [HBu.out])))
    go_ret
    exact ⟨false, rfl, ⟨fun h => Bool.noConfusion h, fun h => absurd h HW.out⟩, Below.refl _ _⟩
end Go.Proofs.Ygcfaf
