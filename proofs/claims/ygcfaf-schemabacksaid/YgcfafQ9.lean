import Derived.Test.YgcfafRows
import Derived.WalkKit
import Derived.ProofKit
import Derived.ShutString
import Derived.ChangeOld
import Derived.Below
import Derived.Deep.Slices
import Derived.Test.YgcfafQ8
namespace Go.Proofs.Ygcfaf
open Go.ChangeShapes Go.WideShapes Go.ChangeAt Go.RowKit
set_option linter.unusedVariables false

theorem cells4 : Fafg.prog.cellsOf 4 = 1 := by kernel_rfl
theorem cells5 : Fafg.prog.cellsOf 5 = 1 := by kernel_rfl
theorem cells9 : Fafg.prog.cellsOf 9 = 1 := by kernel_rfl
theorem cells72 : Fafg.prog.cellsOf 72 = 1 := by kernel_rfl
theorem cells82 : Fafg.prog.cellsOf 82 = 4 := by kernel_rfl
theorem cells85 : Fafg.prog.cellsOf 85 = 4 := by kernel_rfl
theorem cells91 : Fafg.prog.cellsOf 91 = 1 := by kernel_rfl
theorem cells93 : Fafg.prog.cellsOf 93 = 1 := by kernel_rfl
theorem cells146 : Fafg.prog.cellsOf 146 = 1 := by kernel_rfl
theorem cells148 : Fafg.prog.cellsOf 148 = 4 := by kernel_rfl
theorem cells150 : Fafg.prog.cellsOf 150 = 9 := by kernel_rfl

section
variable {H : Type} {enc : TypeId × Value → H} {W : World} {base : Nat} {spare : Nat → Bool} {held : Bool}

theorem len1 {l : List Value} (h : l.length = 1) : ∃ a, l = [a] := by
  match l, h with
  | [a], _ => exact ⟨a, rfl⟩
theorem len4 {l : List Value} (h : l.length = 4) : ∃ a b c d, l = [a, b, c, d] := by
  match l, h with
  | [a, b, c, d], _ => exact ⟨a, b, c, d, rfl⟩
theorem len9 {l : List Value} (h : l.length = 9) : ∃ a b c d e f g i j, l = [a, b, c, d, e, f, g, i, j] := by
  match l, h with
  | [a, b, c, d, e, f, g, i, j], _ => exact ⟨a, b, c, d, e, f, g, i, j, rfl⟩

theorem some_at {α : Type} {xs : List α} {n i : Nat} (h : xs.length = n) (hi : i < n) : ∃ y, xs[i]? = some y := ⟨xs[i]'(by omega), List.getElem?_eq_getElem (by omega)⟩

theorem u8_nat {n : Int} (h : (Lit.int .u8 n).wf = true) : ∃ m : Nat, n = (m : Int) ∧ m ≤ 255 := by
  simp [Lit.wf, IntKind.min, IntKind.max, IntKind.signed, IntKind.bits] at h
  exact ⟨n.toNat, by omega, by omega⟩
theorem u16_nat {n : Int} (h : (Lit.int .u16 n).wf = true) : ∃ m : Nat, n = (m : Int) ∧ m ≤ 65535 := by
  simp [Lit.wf, IntKind.min, IntKind.max, IntKind.signed, IntKind.bits] at h
  exact ⟨n.toNat, by omega, by omega⟩

theorem open_u8 {fuel : Nat} {cs : List Value} {x : DataW H × List MemPlace} (h : DataW.trod enc Fafg.prog W base spare held fuel 5 cs = some x) : ∃ m : Nat, cs = [.int .u8 (m : Int)] ∧ m ≤ 255 := by
  obtain ⟨n, rfl, _, hw⟩ := DataW.trod_int Fafg.underlying5 h
  obtain ⟨m, rfl, hm⟩ := u8_nat hw
  exact ⟨m, rfl, hm⟩
theorem open_u16 {fuel : Nat} {cs : List Value} {x : DataW H × List MemPlace} (h : DataW.trod enc Fafg.prog W base spare held fuel 72 cs = some x) : ∃ m : Nat, cs = [.int .u16 (m : Int)] ∧ m ≤ 65535 := by
  obtain ⟨n, rfl, _, hw⟩ := DataW.trod_int Fafg.underlying72 h
  obtain ⟨m, rfl, hm⟩ := u16_nat hw
  exact ⟨m, rfl, hm⟩

theorem open_typ {fuel : Nat} {cs : List Value} {x : DataW H × List MemPlace} (h : DataW.trod enc Fafg.prog W base spare held fuel 85 cs = some x) : ∃ t : Typ, cs = t.cells ∧ t.kind ≤ 255 ∧ t.elem ≤ 255 ∧ t.ref ≤ 255 ∧ t.nest ≤ 255 := by
  obtain ⟨xs, n, _, _, hl, hx, hf⟩ := DataW.trod_struct Fafg.underlying85 h
  rw [cells85] at hl
  have hx4 : xs.length = 4 := hx
  obtain ⟨c0, c1, c2, c3, rfl⟩ := len4 hl
  all_goals
    obtain ⟨y0, e0⟩ := some_at hx4 (i := 0) (by decide)
    obtain ⟨y1, e1⟩ := some_at hx4 (i := 1) (by decide)
    obtain ⟨y2, e2⟩ := some_at hx4 (i := 2) (by decide)
    obtain ⟨y3, e3⟩ := some_at hx4 (i := 3) (by decide)
    have f0 : DataW.trod enc Fafg.prog W base spare held n 5 (([c0, c1, c2, c3].drop 0).take (Fafg.prog.cellsOf 5)) = xs[0]? := hf 0 _ rfl
    have f1 : DataW.trod enc Fafg.prog W base spare held n 5 (([c0, c1, c2, c3].drop 1).take (Fafg.prog.cellsOf 5)) = xs[1]? := hf 1 _ rfl
    have f2 : DataW.trod enc Fafg.prog W base spare held n 5 (([c0, c1, c2, c3].drop 2).take (Fafg.prog.cellsOf 5)) = xs[2]? := hf 2 _ rfl
    have f3 : DataW.trod enc Fafg.prog W base spare held n 5 (([c0, c1, c2, c3].drop 3).take (Fafg.prog.cellsOf 5)) = xs[3]? := hf 3 _ rfl
    rw [e0, cells5] at f0
    rw [e1, cells5] at f1
    rw [e2, cells5] at f2
    rw [e3, cells5] at f3
    obtain ⟨m0, g0, b0⟩ := open_u8 f0
    obtain ⟨m1, g1, b1⟩ := open_u8 f1
    obtain ⟨m2, g2, b2⟩ := open_u8 f2
    obtain ⟨m3, g3, b3⟩ := open_u8 f3
    simp at g0 g1 g2 g3
    subst g0 g1 g2 g3
    exact ⟨⟨m0, m1, m2, m3⟩, rfl, b0, b1, b2, b3⟩

theorem open_plc {fuel : Nat} {cs : List Value} {x : DataW H × List MemPlace} (h : DataW.trod enc Fafg.prog W base spare held fuel 82 cs = some x) : ∃ p : Plc, cs = plcCells p ∧ p.bits ≤ 255 ∧ p.off ≤ 65535 ∧ p.slot ≤ 255 := by
  obtain ⟨xs, n, _, _, hl, hx, hf⟩ := DataW.trod_struct Fafg.underlying82 h
  rw [cells82] at hl
  have hx4 : xs.length = 4 := hx
  obtain ⟨c0, c1, c2, c3, rfl⟩ := len4 hl
  all_goals
    obtain ⟨y0, e0⟩ := some_at hx4 (i := 0) (by decide)
    obtain ⟨y1, e1⟩ := some_at hx4 (i := 1) (by decide)
    obtain ⟨y2, e2⟩ := some_at hx4 (i := 2) (by decide)
    obtain ⟨y3, e3⟩ := some_at hx4 (i := 3) (by decide)
    have f0 : DataW.trod enc Fafg.prog W base spare held n 5 (([c0, c1, c2, c3].drop 0).take (Fafg.prog.cellsOf 5)) = xs[0]? := hf 0 _ rfl
    have f1 : DataW.trod enc Fafg.prog W base spare held n 72 (([c0, c1, c2, c3].drop 1).take (Fafg.prog.cellsOf 72)) = xs[1]? := hf 1 _ rfl
    have f2 : DataW.trod enc Fafg.prog W base spare held n 5 (([c0, c1, c2, c3].drop 2).take (Fafg.prog.cellsOf 5)) = xs[2]? := hf 2 _ rfl
    have f3 : DataW.trod enc Fafg.prog W base spare held n 4 (([c0, c1, c2, c3].drop 3).take (Fafg.prog.cellsOf 4)) = xs[3]? := hf 3 _ rfl
    rw [e0, cells5] at f0
    rw [e1, cells72] at f1
    rw [e2, cells5] at f2
    rw [e3, cells4] at f3
    obtain ⟨m0, g0, b0⟩ := open_u8 f0
    obtain ⟨m1, g1, b1⟩ := open_u16 f1
    obtain ⟨m2, g2, b2⟩ := open_u8 f2
    obtain ⟨m3, g3, _⟩ := DataW.trod_bool Fafg.underlying4 f3
    simp at g0 g1 g2 g3
    subst g0 g1 g2 g3
    exact ⟨⟨m0, m1, m2, m3⟩, rfl, b0, b1, b2⟩

theorem open_fld {fuel : Nat} {cs : List Value} {x : DataW H × List MemPlace} (h : DataW.trod enc Fafg.prog W base spare held fuel 150 cs = some x) : ∃ f : Fld, cs = fldCells f ∧ FldWf f := by
  obtain ⟨xs, n, _, _, hl, hx, hf⟩ := DataW.trod_struct Fafg.underlying150 h
  rw [cells150] at hl
  have hx3 : xs.length = 3 := hx
  obtain ⟨c0, c1, c2, c3, c4, c5, c6, c7, c8, rfl⟩ := len9 hl
  all_goals
    obtain ⟨y0, e0⟩ := some_at hx3 (i := 0) (by decide)
    obtain ⟨y1, e1⟩ := some_at hx3 (i := 1) (by decide)
    obtain ⟨y2, e2⟩ := some_at hx3 (i := 2) (by decide)
    have f0 : DataW.trod enc Fafg.prog W base spare held n 9 (([c0, c1, c2, c3, c4, c5, c6, c7, c8].drop 0).take (Fafg.prog.cellsOf 9)) = xs[0]? := hf 0 _ rfl
    have f1 : DataW.trod enc Fafg.prog W base spare held n 85 (([c0, c1, c2, c3, c4, c5, c6, c7, c8].drop 1).take (Fafg.prog.cellsOf 85)) = xs[1]? := hf 1 _ rfl
    have f2 : DataW.trod enc Fafg.prog W base spare held n 82 (([c0, c1, c2, c3, c4, c5, c6, c7, c8].drop 5).take (Fafg.prog.cellsOf 82)) = xs[2]? := hf 2 _ rfl
    rw [e0, cells9] at f0
    rw [e1, cells85] at f1
    rw [e2, cells82] at f2
    obtain ⟨s, g0, _, hs⟩ := DataW.trod_string Fafg.underlying9 f0
    obtain ⟨t, g1, b1, b2, b3, b4⟩ := open_typ f1
    obtain ⟨p, g2, b5, b6, b7⟩ := open_plc f2
    refine ⟨⟨s, t, p⟩, ?_, ⟨b1, b2, b3, b4, b5, b6, b7, hs⟩⟩
    simp at g0 g1 g2
    show _ = .string s :: (t.cells ++ plcCells p)
    rw [← g1, ← g2, g0]
    rfl

instance : Inhabited Fld := ⟨fld0⟩
instance : Inhabited Str := ⟨⟨⟨#[]⟩, [], 0, 0⟩⟩

theorem cells_at {a : Addr} {n : Nat} {cs : List Value} {b off : Nat} (ha : a = ⟨b, off, none⟩) (k : Nat) (h : W.cells? base (a.add k) n = some cs) : ∀ j u, cs[j]? = some u → W.cell? ⟨b, off + k + j, none⟩ = some u := by
  intro j u hj
  obtain ⟨_, hl, hc⟩ := World.cells?_some h
  have hjn : j < n := by rw [← hl]; exact (List.getElem?_eq_some_iff.1 hj).1
  have := hc j hjn
  rw [ha, Addr.add_lit, Addr.add_lit, hj] at this
  exact this

theorem spot_none {a : Addr} {n : Nat} {cs : List Value} (hn : 0 < n) (h : W.cells? base (a.add 0) n = some cs) : a.spot = none := by
  obtain ⟨_, hl, hc⟩ := World.cells?_some h
  have h0 := hc 0 hn
  rw [List.getElem?_eq_getElem (by omega)] at h0
  have := World.cell?_spot h0
  simpa [Addr.add] using this

theorem open_str {fuel : Nat} {cs : List Value} {x : DataW H × List MemPlace} (h : DataW.trod enc Fafg.prog W base spare held fuel 148 cs = some x) :
    ∃ (s : Str) (fa : Option Addr) (cap : Nat), cs = [.string s.name, .slice fa s.fs.length cap, .int .u8 s.data, .int .u8 s.ptrs] ∧ StrWf s ∧ (s.fs = [] ∨ ∃ fb fo, fa = some ⟨fb, fo, none⟩ ∧ fb < W.heap.size ∧ ∀ i f, s.fs[i]? = some f → FldAt W fb (fo + i * 9) f) := by
  obtain ⟨xs, n, _, _, hl, hx, hf⟩ := DataW.trod_struct Fafg.underlying148 h
  rw [cells148] at hl
  have hx4 : xs.length = 4 := hx
  obtain ⟨c0, c1, c2, c3, rfl⟩ := len4 hl
  obtain ⟨y0, e0⟩ := some_at hx4 (i := 0) (by decide)
  obtain ⟨y1, e1⟩ := some_at hx4 (i := 1) (by decide)
  obtain ⟨y2, e2⟩ := some_at hx4 (i := 2) (by decide)
  obtain ⟨y3, e3⟩ := some_at hx4 (i := 3) (by decide)
  have f0 : DataW.trod enc Fafg.prog W base spare held n 9 (([c0, c1, c2, c3].drop 0).take (Fafg.prog.cellsOf 9)) = xs[0]? := hf 0 _ rfl
  have f1 : DataW.trod enc Fafg.prog W base spare held n 146 (([c0, c1, c2, c3].drop 1).take (Fafg.prog.cellsOf 146)) = xs[1]? := hf 1 _ rfl
  have f2 : DataW.trod enc Fafg.prog W base spare held n 5 (([c0, c1, c2, c3].drop 2).take (Fafg.prog.cellsOf 5)) = xs[2]? := hf 2 _ rfl
  have f3 : DataW.trod enc Fafg.prog W base spare held n 5 (([c0, c1, c2, c3].drop 3).take (Fafg.prog.cellsOf 5)) = xs[3]? := hf 3 _ rfl
  rw [e0, cells9] at f0
  rw [e1, cells146] at f1
  rw [e2, cells5] at f2
  rw [e3, cells5] at f3
  obtain ⟨nm, g0, _, hnm⟩ := DataW.trod_string Fafg.underlying9 f0
  obtain ⟨d, g2, b2⟩ := open_u8 f2
  obtain ⟨p, g3, b3⟩ := open_u8 f3
  simp at g0 g2 g3
  subst g0 g2 g3
  rcases Deep.open_slice Fafg.underlying146 f1 with ⟨g1, _⟩ | ⟨a, len, cap, m, n', D, Pl, g1, _, hlc, hcm, hm, _, hel⟩
  · simp at g1
    subst g1
    exact ⟨⟨nm, [], d, p⟩, none, 0, rfl, ⟨b2, b3, by simp, hnm, fun f hf => by cases hf⟩, .inl rfl⟩
  · simp at g1
    subst g1
    have hlm : len ≤ m := by rw [hm]; split <;> omega
    rw [cells150] at hel
    by_cases h0 : len = 0
    · subst h0
      exact ⟨⟨nm, [], d, p⟩, some a, cap, rfl, ⟨b2, b3, by simp, hnm, fun f hf => by cases hf⟩, .inl rfl⟩
    · obtain ⟨cs0, hc0, _⟩ := hel 0 (by omega)
      rw [Nat.zero_mul] at hc0
      have hsp := spot_none (by decide) hc0
      obtain ⟨fb, fo, spot⟩ := a
      simp only at hsp
      subst hsp
      have hfb : fb < W.heap.size := by
        obtain ⟨_, hl9, hc⟩ := World.cells?_some hc0
        have h1 := hc 0 (by decide)
        rw [List.getElem?_eq_getElem (by omega)] at h1
        have h2 := cell_lt h1
        simpa [Addr.add] using h2
      obtain ⟨F, hF⟩ := Deep.choose_lt (α := Fld) (p := fun i f => FldAt W fb (fo + i * 9) f ∧ FldWf f) (n := len) (fun i hi => by
        obtain ⟨cs', h1, h2⟩ := hel i (by omega)
        obtain ⟨f, rfl, hw⟩ := open_fld h2
        exact ⟨f, fun j u hj => cells_at rfl (i * 9) h1 j u hj, hw⟩)
      have hget : ∀ i f, ((List.range len).map F)[i]? = some f → i < len ∧ f = F i := by
        intro i f hif
        by_cases hi : i < len
        · simp [hi] at hif; exact ⟨hi, hif.symm⟩
        · rw [List.getElem?_eq_none (by simp; omega)] at hif; cases hif
      refine ⟨⟨nm, (List.range len).map F, d, p⟩, some ⟨fb, fo, none⟩, cap, by simp, ⟨b2, b3, by simp; omega, hnm, fun f hf => ?_⟩, .inr ⟨fb, fo, rfl, hfb, fun i f hif => ?_⟩⟩
      · obtain ⟨i, hi⟩ := List.getElem?_of_mem hf
        obtain ⟨h1, rfl⟩ := hget i f hi
        exact (hF i h1).2
      · obtain ⟨h1, rfl⟩ := hget i f hif
        exact (hF i h1).1

/-- What the walk is told of the schema that came in. -/
theorem open_sch {fuel : Nat} {cs : Array Value} {x : DataW H × List MemPlace} (h : DataW.trod enc Fafg.prog W base spare held fuel 93 cs.toList = some x) :
    ∃ (ss : List Str) (a : Option Addr) (cap : Nat), cs = #[.slice a ss.length cap] ∧ In (W.alloc (.cells #[.slice a ss.length cap] 93)) (W.heap.size + 1) W.heap.size ss a cap := by
  obtain ⟨xs, n, _, _, hl, hx, hf⟩ := DataW.trod_struct Fafg.underlying93 h
  rw [cells93] at hl
  have hx1 : xs.length = 1 := hx
  obtain ⟨c0, hc⟩ := len1 hl
  rw [hc] at hf
  obtain ⟨y0, e0⟩ := some_at hx1 (i := 0) (by decide)
  have f0 : DataW.trod enc Fafg.prog W base spare held n 91 (([c0].drop 0).take (Fafg.prog.cellsOf 91)) = xs[0]? := hf 0 _ rfl
  rw [e0, cells91] at f0
  have hcs : cs = #[c0] := by cases cs; simp_all
  subst hcs
  have hal : ∀ (v : Value), W.heap.size + 1 ≤ (W.alloc (.cells #[v] 93)).heap.size := fun v => by simp
  have hnew : ∀ (v : Value), (W.alloc (.cells #[v] 93)).cell? ⟨W.heap.size, 0, none⟩ = some v := fun v => by
    have h := heap_alloc_new W (.cells #[v] 93)
    unfold World.cell?
    rw [h]
    rfl
  have hbel : ∀ (v : Value), Below W.heap.size W (W.alloc (.cells #[v] 93)) := fun v => (Below.refl _ _).alloc (Nat.le_refl _) _
  rcases Deep.open_slice Fafg.underlying91 f0 with ⟨g1, _⟩ | ⟨a, len, cap, m, n', D, Pl, g1, _, hlc, hcm, hm, _, hel⟩
  · simp at g1
    subst g1
    exact ⟨[], none, 0, rfl, hal _, ⟨by omega, hnew _, .inl rfl⟩, (fun s hs => by cases hs), by simp⟩
  · simp at g1
    subst g1
    have hlm : len ≤ m := by rw [hm]; split <;> omega
    rw [cells148] at hel
    by_cases h0 : len = 0
    · subst h0
      exact ⟨[], some a, cap, rfl, hal _, ⟨by omega, hnew _, .inl rfl⟩, (fun s hs => by cases hs), by simp⟩
    · obtain ⟨cs0, hc0, _⟩ := hel 0 (by omega)
      rw [Nat.zero_mul] at hc0
      have hsp := spot_none (by decide) hc0
      obtain ⟨b, off, spot⟩ := a
      simp only at hsp
      subst hsp
      have hb : b < W.heap.size := by
        obtain ⟨_, hl4, hc⟩ := World.cells?_some hc0
        have h1 := hc 0 (by decide)
        rw [List.getElem?_eq_getElem (by omega)] at h1
        have h2 := cell_lt h1
        simpa [Addr.add] using h2
      obtain ⟨F, hF⟩ := Deep.choose_lt (α := Str) (p := fun i s => (∃ fa c, StrAt W W.heap.size b (off + i * 4) s fa c) ∧ StrWf s) (n := len) (fun i hi => by
        obtain ⟨cs', h1, h2⟩ := hel i (by omega)
        obtain ⟨s, fa, c, rfl, hw, hfl⟩ := open_str h2
        have hc := cells_at rfl (i * 4) h1
        exact ⟨s, ⟨fa, c, hc 0 _ rfl, hc 1 _ rfl, hc 2 _ rfl, hc 3 _ rfl, hfl⟩, hw⟩)
      have hget : ∀ i f, ((List.range len).map F)[i]? = some f → i < len ∧ f = F i := by
        intro i f hif
        by_cases hi : i < len
        · simp [hi] at hif; exact ⟨hi, hif.symm⟩
        · rw [List.getElem?_eq_none (by simp; omega)] at hif; cases hif
      refine ⟨(List.range len).map F, some ⟨b, off, none⟩, cap, by simp, hal _, ⟨by omega, hnew _, .inr ⟨b, off, rfl, by omega, fun k s hks => ?_⟩⟩, fun s hs => ?_, by simp; omega⟩
      · obtain ⟨h1, rfl⟩ := hget k s hks
        obtain ⟨⟨fa, c, hS⟩, _⟩ := hF k h1
        have hS' := hS.below (hbel (.slice (some ⟨b, off, none⟩) ((List.range len).map F).length cap)) hb (Nat.le_refl _)
        exact ⟨fa, c, hS'.c0, hS'.c1, hS'.c2, hS'.c3, by
          rcases hS'.flds with h0 | ⟨fb, fo, h1, h2, h3⟩
          · exact .inl h0
          · exact .inr ⟨fb, fo, h1, by omega, h3⟩⟩
      · obtain ⟨i, hi⟩ := List.getElem?_of_mem hs
        obtain ⟨h1, rfl⟩ := hget i s hi
        exact (hF i h1).2
end
end Go.Proofs.Ygcfaf
