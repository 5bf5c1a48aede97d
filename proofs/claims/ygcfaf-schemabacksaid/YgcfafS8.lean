import Derived.Test.YgcfafS7
import Derived.Laws.BytesArg
namespace Go.Proofs.Ygcfaf
open Go.RowKit
set_option linter.unusedVariables false

def structL : List UInt8 := [115, 116, 114, 117, 99, 116, 32]
def numText (i : Nat) : List UInt8 := (if 10 ≤ i then [UInt8.ofNat (48 + i / 10)] else []) ++ [UInt8.ofNat (48 + i % 10)]
def fieldText (ss : List Str) (i : Nat) (f : Fld) : List UInt8 := f.name.data.toList ++ [64] ++ numText i ++ [58] ++ typeText ss f.t ++ [59]
def fieldsTo (ss : List Str) (fs : List Fld) : Nat → List UInt8
  | 0 => []
  | n + 1 => fieldsTo ss fs n ++ (match fs[n]? with | some f => fieldText ss n f | none => [])
def structText (ss : List Str) (t : Str) : List UInt8 := structL ++ t.name.data.toList ++ [123] ++ fieldsTo ss t.fs t.fs.length ++ [125]
def printTo (ss : List Str) : Nat → List UInt8
  | 0 => []
  | n + 1 => printTo ss n ++ (match ss[n]? with | some t => structText ss t | none => [])
def printText (ss : List Str) : List UInt8 := printTo ss ss.length

theorem name_le {l : List UInt8} (h : nameL l = true) : l.length ≤ 8 := by
  cases l with
  | nil => simp
  | cons c r =>
    simp only [nameL, Bool.and_eq_true, decide_eq_true_eq] at h
    simp; omega

theorem nameAt_le {ss : List Str} (h : ∀ s ∈ ss, s.name.size ≤ 8) (k : Nat) : (nameAt ss k).length ≤ 8 := by
  unfold nameAt
  cases hs : ss[k]? with
  | none => simp
  | some s => simp only; rw [← Lib.size_eq]; exact h s (List.mem_of_getElem? hs)

theorem typeText_le {ss : List Str} (h : ∀ s ∈ ss, s.name.size ≤ 8) {t : Typ} (hn : t.nest ≤ 2) : (typeText ss t).length ≤ 20 := by
  unfold typeText
  simp only [List.length_append, repL_len]
  have h1 : (coreText ss t).length ≤ 8 := by
    unfold coreText
    split
    · exact nameAt_le h _
    · have := tnL_len t.core; omega
  have h2 : lopL.length = 5 := rfl
  have h3 : ([41] : List UInt8).length = 1 := rfl
  rw [h2, h3]
  omega

theorem numText_le (i : Nat) : (numText i).length ≤ 2 := by
  unfold numText
  split <;> simp

theorem fieldText_le {ss : List Str} (h : ∀ s ∈ ss, s.name.size ≤ 8) {f : Fld} (hn : f.t.nest ≤ 2) (hf : f.name.size ≤ 8) (i : Nat) : (fieldText ss i f).length ≤ 40 := by
  unfold fieldText
  have h1 := typeText_le h hn
  have h2 := numText_le i
  rw [Lib.size_eq] at hf
  simp only [List.length_append, List.length_cons, List.length_nil]
  omega

/-- What the sizes want of a schema. -/
structure Small (ss : List Str) : Prop where
  len : ss.length ≤ 4
  name : ∀ s ∈ ss, s.name.size ≤ 8
  flen : ∀ s ∈ ss, s.fs.length ≤ 16
  fname : ∀ s ∈ ss, ∀ f ∈ s.fs, f.name.size ≤ 8 ∧ f.t.nest ≤ 2 ∧ typeB f.t ss.length = true

theorem ShapedP.small {ss : List Str} (h : ShapedP ss) : Small ss := by
  refine ⟨h.len, fun s hs => ?_, fun s hs => ?_, fun s hs f hf => ?_⟩
  · obtain ⟨k, hk⟩ := List.getElem?_of_mem hs
    rw [Lib.size_eq]; exact name_le (h.whole k s hk).name
  · obtain ⟨k, hk⟩ := List.getElem?_of_mem hs
    exact (h.whole k s hk).len
  · obtain ⟨k, hk⟩ := List.getElem?_of_mem hs
    obtain ⟨i, hi⟩ := List.getElem?_of_mem hf
    obtain ⟨h1, h2, _⟩ := (h.whole k s hk).flds i f hi
    exact ⟨by rw [Lib.size_eq]; exact name_le h1, (core_of h2).2.2.1, h2⟩

theorem fieldsTo_le {ss : List Str} (h : Small ss) {t : Str} (ht : t ∈ ss) (n : Nat) (hn : n ≤ t.fs.length) : (fieldsTo ss t.fs n).length ≤ n * 40 := by
  induction n with
  | zero => simp [fieldsTo]
  | succ n ih =>
    have h1 := ih (by omega)
    simp only [fieldsTo, List.length_append]
    have hf : t.fs[n]? = some t.fs[n] := List.getElem?_eq_getElem (by omega)
    rw [hf]
    obtain ⟨a1, a2, _⟩ := h.fname t ht t.fs[n] (List.getElem_mem _)
    have := fieldText_le h.name a2 a1 n
    simp only
    omega

theorem printTo_le {ss : List Str} (h : Small ss) (n : Nat) (hn : n ≤ ss.length) : (printTo ss n).length ≤ n * 700 := by
  induction n with
  | zero => simp [printTo]
  | succ n ih =>
    have h1 := ih (by omega)
    simp only [printTo, List.length_append]
    have hf : ss[n]? = some ss[n] := List.getElem?_eq_getElem (by omega)
    rw [hf]
    have hm : ss[n] ∈ ss := List.getElem_mem _
    have a1 := h.name ss[n] hm
    have a2 := fieldsTo_le h hm _ (Nat.le_refl _)
    have a3 := h.flen ss[n] hm
    rw [Lib.size_eq] at a1
    unfold structText
    simp only [List.length_append, List.length_cons, List.length_nil]
    have : structL.length = 7 := rfl
    omega
theorem run_buf_string {w : World} {base : Nat} {v : Value} {l : List UInt8} (h : Buf w base v l) : (convert 41 9 v).run Fafg.prog w = .ok (.string ⟨l.toArray⟩) w := by
  rcases h.2 with ⟨rfl, h0⟩ | ⟨g, cap, cur, hv, hb, hh, hnc, hcm, hcs, ht⟩
  · have : l = [] := List.eq_nil_of_length_eq_zero h0
    subst this
    have h9 := run_convert_bytes_nil (P := Fafg.prog) w 41 5 Fafg.underlying41 Fafg.underlying5 0 0 9 Fafg.underlying9
    rw [h9]
    exact congrArg (fun s => Result.ok (Value.string s) w) (rfl : ByteArray.empty = ⟨#[]⟩)
  · have hc := h.cells (g := g) (by rw [hv]; rfl)
    subst hv
    have := run_convert_bytes_arg (P := Fafg.prog) w 41 5 Fafg.underlying41 Fafg.underlying5 g 0 l.length cap (l.map fun c => (c.toNat : Int)) (by simp) (fun i hi => by
      have h1 := hc i (.int .u8 (l[i].toNat : Int)) (by simp [byteCells, hi])
      rw [Addr.add_lit] at h1
      rw [h1]
      simp [List.getD, hi]) 9 Fafg.underlying9
    have h2 : (l.map fun c => (c.toNat : Int)).map (fun n => UInt8.ofNat n.toNat) = l := by
      rw [List.map_map]
      conv => rhs; rw [← List.map_id l]
      refine List.map_congr_left fun c _ => ?_
      simp
    rw [this]
    unfold strOfNums
    rw [h2]

theorem cells_bytes (w : World) (vals : List Value) (m : List UInt8) (h : vals = byteCells m) (g : Nat) (hg : g = w.heap.size) : ∀ (j : Nat) (u : Value), (byteCells m)[j]? = some u → (w.alloc (.cells vals.toArray 5)).cell? ((⟨g, 0, none⟩ : Addr).add j) = some u := by
  subst h
  exact cells_new w (byteCells m) 5 g hg

theorem structText_snoc (ss : List Str) (y : Nat) (t : Str) (h : ss[y]? = some t) : printTo ss (y + 1) = printTo ss y ++ structL ++ t.name.data.toList ++ [123] ++ fieldsTo ss t.fs t.fs.length ++ [125] := by
  simp only [printTo, h, structText, List.append_assoc]

theorem fieldText_snoc (ss : List Str) (fs : List Fld) (z : Nat) (f : Fld) (h : fs[z]? = some f) : fieldsTo ss fs (z + 1) = fieldsTo ss fs z ++ f.name.data.toList ++ [64] ++ numText z ++ [58] ++ typeText ss f.t ++ [59] := by
  simp only [fieldsTo, h, fieldText, List.append_assoc]

theorem num_hi (z : Nat) (h : 10 ≤ z) (h2 : z ≤ 16) : numText z = [UInt8.ofNat (48 + z / 10)] ++ [UInt8.ofNat (48 + z % 10)] := by unfold numText; rw [if_pos h]
theorem num_lo (z : Nat) (h : z < 10) : numText z = [UInt8.ofNat (48 + z % 10)] := by unfold numText; rw [if_neg (by omega)]; rfl

theorem byte_val (n : Nat) (h : n ≤ 255) : ((UInt8.ofNat n).toNat : Int) = (n : Int) := by
  rw [UInt8.toNat_ofNat']; omega

/-- The cells of a struct's copy. -/
def strCellsOf (t : Str) (fa : Option Addr) (cap : Nat) : List Value := [.string t.name, .slice fa t.fs.length cap, .int .u8 t.data, .int .u8 t.ptrs]

set_option maxHeartbeats 8000000 in
set_option maxRecDepth 100000 in
theorem print_any (w : World) (B sb cap : Nat) (ss : List Str) (a : Option Addr) (hI : In w B sb ss a cap) :
    Calls Fafg.prog 32 #[.pointer (some ⟨sb, 0, none⟩)] w fun e w' => ∃ s : ByteArray, e = .returned (.string s) ∧ Below w.heap.size w w' ∧ ((¬ ShapedP ss ∧ s = ByteArray.empty) ∨ (ShapedP ss ∧ s = ⟨(printText ss).toArray⟩)) := by
  have HS : Hid (Calls Fafg.prog 57 #[.pointer (some ⟨sb, 0, none⟩)] w fun e w' => ∃ r : Bool, e = .returned (.bool r) ∧ (r = true ↔ ShapedP ss) ∧ Below w.heap.size w w') := shaped_any w B sb cap ss a hI
  go_enter Fafg.func32, Fafg.ntmps32
  go_wp2_with fail
  refine HS.out.mono ?_
  rintro e w1 ⟨r, rfl, hr, hb1⟩
  cases r with
  | false =>
    have HW : Hid (¬ ShapedP ss) := fun h => by have := hr.2 h; cases this
    clear hr
    go_wp2
    go_ret
    exact ⟨ByteArray.empty, rfl, hb1, .inl ⟨HW.out, rfl⟩⟩
  | true =>
    have HW : Hid (ShapedP ss) := hr.1 rfl
    clear hr HS
    have hsm := HW.out.small
    have hI1 := hI.below hb1
    have hS := hI1.sch.cell
    have hlm := hI.len
    unfold maxLen at hlm
    have hss4 := hsm.len
    have hK1 : Kp w1.heap.size w1 w1 := Kp.refl _ _
    go_wp2_with fail
    go_loopw [3, 16] (fun b i wr => ∃ y : Nat, y ≤ ss.length ∧ i = .int .i64 y ∧ Buf wr w1.heap.size b (printTo ss y) ∧ Kp w1.heap.size w1 wr) (fun _ i _ => ss.length - (intOf i).toNat)
    case atStart => exact ⟨0, by omega, rfl, Buf.nil _ _, hK1⟩
    case round =>
      obtain ⟨y, hy, rfl, HB, hkr⟩ := hrel
      have HK : Hid (Kp w1.heap.size w1 wr) := hkr
      clear hkr hK1
      have hpl := printTo_le hsm y hy
      by_cases hlt : y < ss.length
      · obtain ⟨t, ht⟩ : ∃ t, ss[y]? = some t := ⟨ss[y], List.getElem?_eq_getElem hlt⟩
        have htm := List.mem_of_getElem? ht
        have hn8 := hsm.name t htm
        have hn8' : t.name.data.toList.length ≤ 8 := by rw [← Lib.size_eq]; exact hn8
        have hf16 := hsm.flen t htm
        obtain ⟨b, off, ha, hbl, hst⟩ : ∃ b off, a = some ⟨b, off, none⟩ ∧ b < B ∧ ∀ k s, ss[k]? = some s → ∃ fa c, StrAt w1 B b (off + k * 4) s fa c := by
          rcases hI1.sch.strs with h0 | h0
          · rw [h0] at hlt; simp at hlt
          · exact h0
        subst ha
        obtain ⟨fa, c, hTw⟩ := hst y t ht
        have hT := hTw.below HK.out.below hbl hI1.le
        have hSr : wr.cell? ⟨sb, 0, none⟩ = some (.slice (some ⟨b, off, none⟩) ss.length cap) := (HK.out.below.cell (by have := hI1.le; have := hI1.sch.lt; show sb < _; omega)).trans hI1.sch.cell
        have hT0 := hT.c0
        have hT1 := hT.c1
        have hT2 := hT.c2
        have hT3 := hT.c3
        have Ht : Hid (ss[y]? = some t) := ht
        have HTf : Hid (t.fs = [] ∨ ∃ fb fo, fa = some ⟨fb, fo, none⟩ ∧ fb < B ∧ ∀ i f, t.fs[i]? = some f → FldAt w1 fb (fo + i * 9) f) := hTw.flds
        clear ht hst hT hTw
        have HO : Hid (Blk (wr.alloc (.cells (strCellsOf t fa c).toArray 148)) wr.heap.size 148 (strCellsOf t fa c)) := Blk.new _ _ _
        have hwr : w1.heap.size ≤ wr.heap.size := HK.out.below.size
        have HKt : Hid (Kp w1.heap.size wr (wr.alloc (.cells (strCellsOf t fa c).toArray 148))) := (Kp.refl _ _).alloc hwr _
        have HK2 : Hid (Kp w1.heap.size w1 (wr.alloc (.cells (strCellsOf t fa c).toArray 148))) := HK.out.trans HKt.out
        have HB2 := HB.alloc (.cells (strCellsOf t fa c).toArray 148)
        have HKr0 : Hid (Kp w1.heap.size w1 wr) := HK
        clear HK HB
        go_wp2_with (first
          | (at_builtin; refine wpList_buf_str rfl (.tmp 20) _ rfl w1.heap.size u3 _ rfl HB2 ⟨#[115, 116, 114, 117, 99, 116, 32]⟩ rfl ?hb (by simp; omega) ?_; (case hb => show _ + 7 ≤ _; omega); intro v3 w3 HB3 hg3; have HK3 : Hid (Kp w1.heap.size w1 w3) := HK2.out.buf HB2 hg3 (by simp; omega); have HO3 : Hid (Blk w3 wr.heap.size 148 (strCellsOf t fa c)) := (Kp.buf (Kp.refl _ _) HB2 hg3 (by simp; omega)).blk HO.out (by decide); have c30 : w3.cell? ⟨wr.heap.size, 0, none⟩ = some (.string t.name) := HO3.out.cell 0; have hz3 : w1.heap.size ≤ w3.heap.size := HK3.out.below.size)
          | (at_builtin; refine wpList_buf_str rfl (.tmp 22) _ rfl w1.heap.size v3 _ rfl HB3 t.name rfl ?hb hz3 ?_; (case hb => rw [List.length_append]; show _ + 7 + _ ≤ _; omega); intro v4 w4 HB4 hg4; have HK4 : Hid (Kp w1.heap.size w1 w4) := HK3.out.buf HB3 hg4 hz3; have HO4 : Hid (Blk w4 wr.heap.size 148 (strCellsOf t fa c)) := (Kp.buf (Kp.refl _ _) HB3 hg4 hz3).blk HO3.out (by decide); have hz4 : w1.heap.size ≤ w4.heap.size := HK4.out.below.size)
          | (at_builtin; refine wpList_buf_bytes rfl (.tmp 26) _ rfl w1.heap.size v4 _ rfl (HB4.alloc _) ⟨w4.heap.size, 0, none⟩ 1 [123] rfl (cells_new _ _ _ _ rfl) ?hb (by simp; omega) ?_; (case hb => rw [List.length_append, List.length_append]; show _ + 7 + _ + 1 ≤ _; omega); intro v5 w5 HB5 hg5; have HK5 : Hid (Kp w1.heap.size w1 w5) := (HK4.out.alloc hz4 _).buf (HB4.alloc _) hg5 (by simp; omega); have HO5 : Hid (Blk w5 wr.heap.size 148 (strCellsOf t fa c)) := (Kp.buf (Kp.refl _ _) (HB4.alloc _) hg5 (by simp; omega)).blk (HO4.out.alloc _) (by decide); have c51 : w5.cell? ⟨wr.heap.size, 1, none⟩ = some (.slice fa t.fs.length c) := HO5.out.cell 1; have hz5 : w1.heap.size ≤ w5.heap.size := HK5.out.below.size))
        clear HB2 HB3 HB4 HK2 HK3 HK4 HO HO3 HO4 hg3 hg4 hg5 c30 c51 hz3 hz4 hT0 hT1 hT2 hT3
        have hfl := fun n hn => fieldsTo_le hsm htm n hn
        generalize wr.heap.size = tk at *
        go_loopw [3, 32] (fun bv i wq => ∃ z : Nat, z ≤ t.fs.length ∧ i = .int .i64 z ∧ Buf wq w1.heap.size bv (printTo ss y ++ structL ++ t.name.data.toList ++ [123] ++ fieldsTo ss t.fs z) ∧ Kp w1.heap.size w1 wq ∧ Blk wq tk 148 (strCellsOf t fa c)) (fun _ i _ => t.fs.length - (intOf i).toNat)
        case atStart => exact ⟨0, by omega, rfl, by simp only [fieldsTo, List.append_nil]; exact HB5, HK5, HO5⟩
        case round =>
          obtain ⟨z, hz, rfl, HBq, hkq, hoq⟩ := hrel
          have HKq : Hid (Kp w1.heap.size w1 wr) := hkq
          have HOq : Hid (Blk wr tk 148 (strCellsOf t fa c)) := hoq
          have hzq : w1.heap.size ≤ wr.heap.size := hkq.below.size
          have hfz := hfl z hz
          have hbase : (printTo ss y ++ structL ++ t.name.data.toList ++ [123] ++ fieldsTo ss t.fs z).length ≤ 5000 := by
            simp only [List.length_append, List.length_cons, List.length_nil]
            have : structL.length = 7 := rfl
            omega
          clear hkq hoq HB5 HK5 HO5 hfl
          generalize hLZ : printTo ss y ++ structL ++ t.name.data.toList ++ [123] ++ fieldsTo ss t.fs z = LZ at *
          have HLZ : Hid (printTo ss y ++ structL ++ t.name.data.toList ++ [123] ++ fieldsTo ss t.fs z = LZ) := hLZ
          clear hLZ
          by_cases hzl : z < t.fs.length
          · obtain ⟨f, hf⟩ : ∃ f, t.fs[z]? = some f := ⟨t.fs[z], List.getElem?_eq_getElem hzl⟩
            have hfm := List.mem_of_getElem? hf
            obtain ⟨hfn8, hfn2, hfty⟩ := hsm.fname t htm f hfm
            have fwf := (hI.wf t htm).flds f hfm
            obtain ⟨fb, fo, hfa, hfb, hfx⟩ : ∃ fb fo, fa = some ⟨fb, fo, none⟩ ∧ fb < B ∧ ∀ i f, t.fs[i]? = some f → FldAt wr fb (fo + i * 9) f := by
              rcases HTf.out with h0 | ⟨fb, fo, h1, h2, h3⟩
              · rw [h0] at hzl; simp at hzl
              · exact ⟨fb, fo, h1, h2, fun i f hf => (h3 i f hf).below HKq.out.below (by have := hI1.le; omega)⟩
            subst hfa
            have hfz9 := hfx z f hf
            have g0 := hfz9 0 _ rfl
            have g1 := hfz9 1 _ rfl
            have g2 := hfz9 2 _ rfl
            have g3 := hfz9 3 _ rfl
            have g4 := hfz9 4 _ rfl
            have g5 := hfz9 5 _ rfl
            have g6 := hfz9 6 _ rfl
            have g7 := hfz9 7 _ rfl
            have g8 := hfz9 8 _ rfl
            simp only [Nat.add_zero] at g0
            have Hf : Hid (t.fs[z]? = some f) := hf
            have hfnl : f.name.data.toList.length ≤ 8 := by rw [← Lib.size_eq]; exact hfn8
            clear hf hfx hfz9
            have HFx : Hid (Blk (wr.alloc (.cells (fldCells f).toArray 150)) wr.heap.size 150 (fldCells f)) := Blk.new _ _ _
            have HKx : Hid (Kp w1.heap.size w1 (wr.alloc (.cells (fldCells f).toArray 150))) := HKq.out.alloc hzq _
            have HOx : Hid (Blk (wr.alloc (.cells (fldCells f).toArray 150)) tk 148 (strCellsOf t (some ⟨fb, fo, none⟩) c)) := HOq.out.alloc _
            have HBx := HBq.alloc (.cells (fldCells f).toArray 150)
            have hzx : w1.heap.size ≤ (wr.alloc (.cells (fldCells f).toArray 150)).heap.size := HKx.out.below.size
            clear HKq HOq HBq
            generalize hfk : wr.heap.size = fk at *
            by_cases h10 : 10 ≤ z
            · go_wp2_with (first
                | (at_builtin; refine wpList_buf_str rfl (.tmp 37) _ rfl w1.heap.size u3 _ rfl HBx f.name rfl ?hb hzx ?_; (case hb => omega); intro va wa HBa hga; have HKa : Hid (Kp w1.heap.size w1 wa) := HKx.out.buf HBx hga hzx; have HFa : Hid (Blk wa fk 150 (fldCells f)) := (Kp.buf (Kp.refl _ _) HBx hga hzx).blk HFx.out (by decide); have HOa : Hid (Blk wa tk 148 (strCellsOf t (some ⟨fb, fo, none⟩) c)) := (Kp.buf (Kp.refl _ _) HBx hga hzx).blk HOx.out (by decide); have hza : w1.heap.size ≤ wa.heap.size := HKa.out.below.size)
                | (at_builtin; refine wpList_buf_bytes rfl (.tmp 41) _ rfl w1.heap.size va _ rfl (HBa.alloc _) ⟨wa.heap.size, 0, none⟩ _ [64] rfl ?hc ?hb (by simp; omega) ?_; (case hc => exact cells_bytes _ _ _ (by simp [byteCells]; try omega) _ rfl); (case hb => simp only [List.length_append, List.length_cons, List.length_nil]; omega); intro vb wb HBb hgb; have HKb : Hid (Kp w1.heap.size w1 wb) := (HKa.out.alloc hza _).buf (HBa.alloc _) hgb (by simp; omega); have HFb : Hid (Blk wb fk 150 (fldCells f)) := (Kp.buf (Kp.refl _ _) (HBa.alloc _) hgb (by simp; omega)).blk (HFa.out.alloc _) (by decide); have HOb : Hid (Blk wb tk 148 (strCellsOf t (some ⟨fb, fo, none⟩) c)) := (Kp.buf (Kp.refl _ _) (HBa.alloc _) hgb (by simp; omega)).blk (HOa.out.alloc _) (by decide); have hzb : w1.heap.size ≤ wb.heap.size := HKb.out.below.size)
                | (at_builtin; refine wpList_buf_bytes rfl (.tmp 46) _ rfl w1.heap.size vb _ rfl (HBb.alloc _) ⟨wb.heap.size, 0, none⟩ _ [UInt8.ofNat (48 + z / 10)] rfl ?hc ?hb (by simp; omega) ?_; (case hc => exact cells_bytes _ _ _ (by simp [byteCells]; try omega) _ rfl); (case hb => simp only [List.length_append, List.length_cons, List.length_nil]; omega); intro vc wc HBc hgc; have HKc : Hid (Kp w1.heap.size w1 wc) := (HKb.out.alloc hzb _).buf (HBb.alloc _) hgc (by simp; omega); have HFc : Hid (Blk wc fk 150 (fldCells f)) := (Kp.buf (Kp.refl _ _) (HBb.alloc _) hgc (by simp; omega)).blk (HFb.out.alloc _) (by decide); have HOc : Hid (Blk wc tk 148 (strCellsOf t (some ⟨fb, fo, none⟩) c)) := (Kp.buf (Kp.refl _ _) (HBb.alloc _) hgc (by simp; omega)).blk (HOb.out.alloc _) (by decide); have hzc : w1.heap.size ≤ wc.heap.size := HKc.out.below.size)
                | (at_builtin; refine wpList_buf_bytes rfl (.tmp 53) _ rfl w1.heap.size vc _ rfl (HBc.alloc _) ⟨wc.heap.size, 0, none⟩ _ [UInt8.ofNat (48 + z % 10), 58] rfl ?hc ?hb (by simp; omega) ?_; (case hc => exact cells_bytes _ _ _ (by simp [byteCells]; try omega) _ rfl); (case hb => simp only [List.length_append, List.length_cons, List.length_nil]; omega); intro vd wd HBd hgd; have HKd : Hid (Kp w1.heap.size w1 wd) := (HKc.out.alloc hzc _).buf (HBc.alloc _) hgd (by simp; omega); have HFd : Hid (Blk wd fk 150 (fldCells f)) := (Kp.buf (Kp.refl _ _) (HBc.alloc _) hgd (by simp; omega)).blk (HFc.out.alloc _) (by decide); have HOd : Hid (Blk wd tk 148 (strCellsOf t (some ⟨fb, fo, none⟩) c)) := (Kp.buf (Kp.refl _ _) (HBc.alloc _) hgd (by simp; omega)).blk (HOc.out.alloc _) (by decide); have hzd : w1.heap.size ≤ wd.heap.size := HKd.out.below.size; have x1d : wd.cell? ⟨fk, 1, none⟩ = some (.int .u8 f.t.kind) := HFd.out.cell 1; have x2d : wd.cell? ⟨fk, 2, none⟩ = some (.int .u8 f.t.elem) := HFd.out.cell 2; have x3d : wd.cell? ⟨fk, 3, none⟩ = some (.int .u8 f.t.ref) := HFd.out.cell 3; have x4d : wd.cell? ⟨fk, 4, none⟩ = some (.int .u8 f.t.nest) := HFd.out.cell 4))
              have hId := hI1.belowAt HKd.out.below hI1.le
              refine (appendType_any wd B sb cap w1.heap.size ss _ hId hI1.le hzd vd _ HBd f.t hfty (by simp only [List.length_append, List.length_cons, List.length_nil]; omega) hsm.name fwf.kind fwf.elem fwf.ref fwf.nest).mono ?_
              rintro e we ⟨ve, rfl, HBe, hke⟩
              have htt := typeText_le hsm.name hfn2
              have HKe : Hid (Kp w1.heap.size w1 we) := HKd.out.trans hke
              have HOe : Hid (Blk we tk 148 (strCellsOf t (some ⟨fb, fo, none⟩) c)) := hke.blk HOd.out (by decide)
              have hze : w1.heap.size ≤ we.heap.size := HKe.out.below.size
              clear hke hId
              go_wp2_with (at_builtin; refine wpList_buf_bytes rfl (.tmp 65) _ rfl w1.heap.size ve _ rfl (HBe.alloc _) ⟨we.heap.size, 0, none⟩ _ [59] rfl ?hc ?hb (by simp; omega) ?_; (case hc => exact cells_bytes _ _ _ rfl _ rfl); (case hb => simp only [List.length_append, List.length_cons, List.length_nil]; omega); intro vf wf HBf hgf)
              go_roundw
              case rel =>
                refine ⟨z + 1, by omega, by go_num, ?_, (HKe.out.alloc hze _).buf (HBe.alloc _) hgf (by simp; omega), (Kp.buf (Kp.refl _ _) (HBe.alloc _) hgf (by simp; omega)).blk (HOe.out.alloc _) (by decide)⟩
                have e1 : printTo ss y ++ structL ++ t.name.data.toList ++ [123] ++ fieldsTo ss t.fs (z + 1) = LZ ++ f.name.data.toList ++ [64] ++ [UInt8.ofNat (48 + z / 10)] ++ [UInt8.ofNat (48 + z % 10), 58] ++ typeText ss f.t ++ [59] := by
                  rw [fieldText_snoc ss t.fs z f Hf.out, num_hi z h10 (by omega), ← HLZ.out]
                  simp only [List.append_assoc, List.cons_append, List.nil_append]
                rw [e1]
                exact HBf
              case measure => simp [intOf]; omega
            · go_wp2_with (first
                | (at_builtin; refine wpList_buf_str rfl (.tmp 37) _ rfl w1.heap.size u3 _ rfl HBx f.name rfl ?hb hzx ?_; (case hb => omega); intro va wa HBa hga; have HKa : Hid (Kp w1.heap.size w1 wa) := HKx.out.buf HBx hga hzx; have HFa : Hid (Blk wa fk 150 (fldCells f)) := (Kp.buf (Kp.refl _ _) HBx hga hzx).blk HFx.out (by decide); have HOa : Hid (Blk wa tk 148 (strCellsOf t (some ⟨fb, fo, none⟩) c)) := (Kp.buf (Kp.refl _ _) HBx hga hzx).blk HOx.out (by decide); have hza : w1.heap.size ≤ wa.heap.size := HKa.out.below.size)
                | (at_builtin; refine wpList_buf_bytes rfl (.tmp 41) _ rfl w1.heap.size va _ rfl (HBa.alloc _) ⟨wa.heap.size, 0, none⟩ _ [64] rfl ?hc ?hb (by simp; omega) ?_; (case hc => exact cells_bytes _ _ _ (by simp [byteCells]; try omega) _ rfl); (case hb => simp only [List.length_append, List.length_cons, List.length_nil]; omega); intro vb wb HBb hgb; have HKb : Hid (Kp w1.heap.size w1 wb) := (HKa.out.alloc hza _).buf (HBa.alloc _) hgb (by simp; omega); have HFb : Hid (Blk wb fk 150 (fldCells f)) := (Kp.buf (Kp.refl _ _) (HBa.alloc _) hgb (by simp; omega)).blk (HFa.out.alloc _) (by decide); have HOb : Hid (Blk wb tk 148 (strCellsOf t (some ⟨fb, fo, none⟩) c)) := (Kp.buf (Kp.refl _ _) (HBa.alloc _) hgb (by simp; omega)).blk (HOa.out.alloc _) (by decide); have hzb : w1.heap.size ≤ wb.heap.size := HKb.out.below.size)
                | (at_builtin; refine wpList_buf_bytes rfl (.tmp 53) _ rfl w1.heap.size vb _ rfl (HBb.alloc _) ⟨wb.heap.size, 0, none⟩ _ [UInt8.ofNat (48 + z % 10), 58] rfl ?hc ?hb (by simp; omega) ?_; (case hc => exact cells_bytes _ _ _ (by simp [byteCells]; try omega) _ rfl); (case hb => simp only [List.length_append, List.length_cons, List.length_nil]; omega); intro vd wd HBd hgd; have HKd : Hid (Kp w1.heap.size w1 wd) := (HKb.out.alloc hzb _).buf (HBb.alloc _) hgd (by simp; omega); have HFd : Hid (Blk wd fk 150 (fldCells f)) := (Kp.buf (Kp.refl _ _) (HBb.alloc _) hgd (by simp; omega)).blk (HFb.out.alloc _) (by decide); have HOd : Hid (Blk wd tk 148 (strCellsOf t (some ⟨fb, fo, none⟩) c)) := (Kp.buf (Kp.refl _ _) (HBb.alloc _) hgd (by simp; omega)).blk (HOb.out.alloc _) (by decide); have hzd : w1.heap.size ≤ wd.heap.size := HKd.out.below.size; have x1d : wd.cell? ⟨fk, 1, none⟩ = some (.int .u8 f.t.kind) := HFd.out.cell 1; have x2d : wd.cell? ⟨fk, 2, none⟩ = some (.int .u8 f.t.elem) := HFd.out.cell 2; have x3d : wd.cell? ⟨fk, 3, none⟩ = some (.int .u8 f.t.ref) := HFd.out.cell 3; have x4d : wd.cell? ⟨fk, 4, none⟩ = some (.int .u8 f.t.nest) := HFd.out.cell 4))
              have hId := hI1.belowAt HKd.out.below hI1.le
              refine (appendType_any wd B sb cap w1.heap.size ss _ hId hI1.le hzd vd _ HBd f.t hfty (by simp only [List.length_append, List.length_cons, List.length_nil]; omega) hsm.name fwf.kind fwf.elem fwf.ref fwf.nest).mono ?_
              rintro e we ⟨ve, rfl, HBe, hke⟩
              have htt := typeText_le hsm.name hfn2
              have HKe : Hid (Kp w1.heap.size w1 we) := HKd.out.trans hke
              have HOe : Hid (Blk we tk 148 (strCellsOf t (some ⟨fb, fo, none⟩) c)) := hke.blk HOd.out (by decide)
              have hze : w1.heap.size ≤ we.heap.size := HKe.out.below.size
              clear hke hId
              go_wp2_with (at_builtin; refine wpList_buf_bytes rfl (.tmp 65) _ rfl w1.heap.size ve _ rfl (HBe.alloc _) ⟨we.heap.size, 0, none⟩ _ [59] rfl ?hc ?hb (by simp; omega) ?_; (case hc => exact cells_bytes _ _ _ rfl _ rfl); (case hb => simp only [List.length_append, List.length_cons, List.length_nil]; omega); intro vf wf HBf hgf)
              go_roundw
              case rel =>
                refine ⟨z + 1, by omega, by go_num, ?_, (HKe.out.alloc hze _).buf (HBe.alloc _) hgf (by simp; omega), (Kp.buf (Kp.refl _ _) (HBe.alloc _) hgf (by simp; omega)).blk (HOe.out.alloc _) (by decide)⟩
                have e1 : printTo ss y ++ structL ++ t.name.data.toList ++ [123] ++ fieldsTo ss t.fs (z + 1) = LZ ++ f.name.data.toList ++ [64] ++ [UInt8.ofNat (48 + z % 10), 58] ++ typeText ss f.t ++ [59] := by
                  rw [fieldText_snoc ss t.fs z f Hf.out, num_lo z (by omega), ← HLZ.out]
                  simp only [List.append_assoc, List.cons_append, List.nil_append]
                rw [e1]
                exact HBf
              case measure => simp [intOf]; omega
          · obtain rfl : z = t.fs.length := by omega
            go_wp2_with (at_builtin; refine wpList_buf_bytes rfl (.tmp 69) _ rfl w1.heap.size u3 _ rfl (HBq.alloc _) ⟨wr.heap.size, 0, none⟩ _ [125] rfl ?hc ?hb (by simp; omega) ?_; (case hc => exact cells_bytes _ _ _ rfl _ rfl); (case hb => simp only [List.length_cons, List.length_nil]; omega); intro vf wf HBf hgf)
            go_roundw
            case rel =>
              refine ⟨y + 1, by omega, by go_num, ?_, (HKq.out.alloc hzq _).buf (HBq.alloc _) hgf (by simp; omega)⟩
              rw [structText_snoc ss y t Ht.out, HLZ.out]
              exact HBf
            case measure => simp [intOf]; omega
      · obtain rfl : y = ss.length := by omega
        have hcv := run_buf_string HB
        go_wp2
        go_ret
        exact ⟨_, rfl, hb1.trans (HK.out.below.mono hb1.size), .inr ⟨HW.out, rfl⟩⟩
end Go.Proofs.Ygcfaf
