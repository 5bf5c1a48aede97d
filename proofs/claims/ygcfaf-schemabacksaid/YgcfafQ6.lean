import Derived.Test.YgcfafQ5
import Derived.Laws.Tables
import Derived.Great.BuildSlice
namespace Go.Proofs.Ygcfaf
open Go.RowKit
set_option linter.unusedVariables false

def zeros16 : List Int := [0, 0, 0, 0, 0, 0, 0, 0, 0, 0, 0, 0, 0, 0, 0, 0]
def halfG (ss : List Str) : Nat → List Fld := fun k => match ss[k]? with | some t => t.fs.map Fld.half | none => []

/-- Where ParseAt's loop stands. -/
structure ParInv (w wr : World) (p n : Nat) (T : ByteArray) (ss : List Str) (Sv Uv : Value) (nums : List Int) (S : List PStr) (γ : Nat → Nat) : Prop where
  blk : Blk wr p 223 (pCells T (aAt ss n) (eAt ss n) (kAt ss n) (xCells Sv nums Uv))
  nl : nums.length = 16
  row : wr.ownsRow w.heap.size 148 4 Sv n (sRow S)
  uses : wr.ownsRow w.heap.size 295 4 Uv (usesAll T ss n).length (usesRow (usesAll T ss n))
  rows : Rows wr w.heap.size n ss S γ (halfG ss)
  below : Below w.heap.size w wr

theorem ParInv.step {w wr w' : World} {p n : Nat} {T : ByteArray} {ss : List Str} {Sv Uv : Value} {nums : List Int} {S : List PStr} {γ : Nat → Nat} {t : Str} {e : Ending} (h : ParInv w wr p n T ss Sv Uv nums S γ) (ht : ss[n]? = some t)
    (hE : StrEnd wr p w.heap.size (aAt ss n) (aAt ss (n + 1)) (eAt ss (n + 1)) (kAt ss (n + 1)) n T (usesAll T ss n) ss S t e w') : e = .returned (.bool true) ∧ ∃ Sv' Uv' nums' S' γ', ParInv w w' p (n + 1) T ss Sv' Uv' nums' S' γ' := by
  obtain ⟨Sv', Uv', nums', Fv', rfl, hb', hn', hS', hR', hU', hK'⟩ := hE
  have hw0 : w.heap.size ≤ wr.heap.size := h.below.size
  obtain ⟨g, hFv, hg0, hgb⟩ : ∃ g, Fv' = Fval t g ∧ (t.fs ≠ [] → wr.heap.size ≤ g) ∧ (t.fs ≠ [] → Blk w' g 150 (fRow (t.fs.map Fld.half))) := by
    rcases hR' with ⟨h0, h1⟩ | ⟨g, hn, h0, h1, h2⟩
    · exact ⟨0, by unfold Fval; rw [if_pos h0]; exact h1, fun h => absurd h0 h, fun h => absurd h0 h⟩
    · exact ⟨g, by unfold Fval; rw [if_neg hn]; exact h1, fun _ => h0, fun _ => h2⟩
  have hgl : ∀ k t', k < n → ss[k]? = some t' → t'.fs ≠ [] → γ k < wr.heap.size := fun k t' hk hk' hne => (h.rows.blk k t' hk hk' hne).2.lt
  have hlt : ∀ {k : Nat} {q : Str}, ss[k]? = some q → k < n + 1 → k ≠ n → k < n := fun _ h1 h2 => by omega
  refine ⟨rfl, Sv', Uv', nums', S ++ [⟨t.name, Fv', t.data, t.ptrs⟩], fun k => if k = n then g else γ k, hb', hn', hS', ?_, ⟨by simp [h.rows.len], fun k q hk hq => ?_, fun k q hk hq hne => ?_, fun k k' q q' hk hk' hq hq' hne hne' hkk => ?_⟩, h.below.trans hK'.below⟩
  · have e1 : usesAll T ss (n + 1) = usesAll T ss n ++ usesTo T (aAt ss n) ss n t t.fs.length := by simp only [usesAll, ht]
    rw [e1]; exact hU'
  · by_cases hkn : k = n
    · subst hkn
      rw [ht] at hq; cases hq
      rw [List.getElem?_append_right (by rw [h.rows.len]; exact Nat.le_refl _), h.rows.len, hFv]
      simp
    · simp only [if_neg hkn]
      rw [List.getElem?_append_left (by rw [h.rows.len]; omega)]
      exact h.rows.str k q (by omega) hq
  · by_cases hkn : k = n
    · subst hkn
      rw [ht] at hq; cases hq
      simp only [if_true]
      have := hg0 hne
      refine ⟨by omega, ?_⟩
      have e2 : halfG ss k = t.fs.map Fld.half := by unfold halfG; rw [ht]
      rw [e2]
      exact hgb hne
    · simp only [if_neg hkn]
      obtain ⟨h1, h2⟩ := h.rows.blk k q (by omega) hq hne
      exact ⟨h1, hK'.rows _ _ _ h2.lt h2⟩
  · by_cases hkn : k = n
    · have hkn' : k' ≠ n := by omega
      simp only [if_pos hkn, if_neg hkn']
      have h1 := hgl k' q' (by omega) hq' hne'
      have h2 : t = q := by rw [hkn, ht] at hq; cases hq; rfl
      subst h2
      have := hg0 hne
      omega
    · by_cases hkn' : k' = n
      · simp only [if_neg hkn, if_pos hkn']
        have h1 := hgl k q (by omega) hq hne
        have h2 : t = q' := by rw [hkn', ht] at hq'; cases hq'; rfl
        subst h2
        have := hg0 hne'
        omega
      · simp only [if_neg hkn, if_neg hkn']
        exact h.rows.inj k k' q q' (by omega) (by omega) hq hq' hne hne' hkk

theorem ParInv.call {w wr : World} {p n : Nat} {T : ByteArray} {ss : List Str} {Sv Uv : Value} {nums : List Int} {S : List PStr} {γ : Nat → Nat} {t : Str} (h : ParInv w wr p n T ss Sv Uv nums S γ) (hT : T.size ≤ 100000) (hp : w.heap.size ≤ p) (hs : ShapedP ss) (hx : TextP T ss) (hwf : ∀ s ∈ ss, StrWf s) (ht : ss[n]? = some t) :
    Calls Fafg.prog 103 #[.pointer (some ⟨p, 0, none⟩)] wr (fun e w' => e = .returned (.bool true) ∧ ∃ Sv' Uv' nums' S' γ', ParInv w w' p (n + 1) T ss Sv' Uv' nums' S' γ') := by
  have hl : n < ss.length := (List.getElem?_eq_some_iff.1 ht).1
  have h4 := hs.len
  have hb := h.blk
  have e1 : eAt ss n = aAt ss n + 6 := by unfold eAt; rw [ht]
  have e2 : kAt ss n = 97 := by unfold kAt; rw [ht]
  rw [e1, e2] at hb
  have hu := usesAll_len (T := T) hs n
  have hnx := hx.tok (n + 1) (by omega)
  refine (strct_any wr p w.heap.size (aAt ss n) (aAt ss (n + 1)) (eAt ss (n + 1)) (kAt ss (n + 1)) n T Sv Uv nums (usesAll T ss n) ss S t hT hp (by omega) (hx.str n t ht) (by rw [hx.nxt n t ht]; exact hnx) (hs.whole n t ht) (hwf t (List.mem_of_getElem? ht)) hs.names hb h.nl h.row h.rows.len (fun j q hq => ?_) h.uses (by omega) (fun u hu => usesAll_lt hu)).mono fun e w' hE => h.step ht hE
  have hj : j < n := by have := (List.getElem?_eq_some_iff.1 hq).1; rw [h.rows.len] at this; exact this
  have hjt : ss[j]? = some (ss[j]'(by omega)) := List.getElem?_eq_getElem (by omega)
  rw [h.rows.str j _ hj hjt] at hq
  cases hq
  exact names_uniq hs j n _ t (by omega) hjt ht

/-- What ParseAt's road leaves. -/
structure Parsed (w w' : World) (p : Nat) (T : ByteArray) (ss : List Str) (Sv : Value) (S : List PStr) (γ : Nat → Nat) : Prop where
  cell : w'.cell? ⟨p, 6, none⟩ = some Sv
  code : w'.cell? ⟨p, 4, none⟩ = some (.int .u8 0)
  row : w'.ownsRow w.heap.size 148 4 Sv ss.length (sRow S)
  rows : Rows w' w.heap.size ss.length ss S γ (fun k => match ss[k]? with | some t => t.fs | none => [])
  below : Below w.heap.size w w'

theorem ParInv.bind {w wr : World} {p : Nat} {T : ByteArray} {ss : List Str} {Sv Uv : Value} {nums : List Int} {S : List PStr} {γ : Nat → Nat} (h : ParInv w wr p ss.length T ss Sv Uv nums S γ) (hp : w.heap.size ≤ p) (hs : ShapedP ss) (hx : TextP T ss) :
    Calls Fafg.prog 104 #[.pointer (some ⟨p, 0, none⟩)] wr (fun e w' => e = .returned (.tuple #[]) ∧ Parsed w w' p T ss Sv S γ) := by
  have hu := usesAll_len (T := T) hs ss.length
  have h4 := hs.len
  have HB := bind_any wr p w.heap.size ss.length (aAt ss ss.length) (eAt ss ss.length) (kAt ss ss.length) T Sv Uv nums (usesAll T ss ss.length) ss S γ (halfG ss) hp h.nl rfl hs.len (fun t ht => by obtain ⟨k, hk⟩ := List.getElem?_of_mem ht; exact (hs.whole k t hk).len)
    ⟨half_start ss _, h.blk, h.row, h.uses, h.rows, Below.refl _ _⟩ (by omega) (fun u hu => usesAll_ok hs hx hu) (names_uniq hs)
  refine HB.mono ?_
  rintro e w' ⟨rfl, G, hG, hb, hr, hR, hb2⟩
  refine ⟨rfl, hb.cell 6, hb.cell 4, hr, ⟨hR.len, hR.str, fun k t hk ht hne => ?_, hR.inj⟩, h.below.trans hb2⟩
  obtain ⟨h1, h2⟩ := hR.blk k t hk ht hne
  refine ⟨h1, ?_⟩
  have e := half_end hG (fun k t i f hk hf hr => usesAll_has hk hf (ref_core ((hs.whole k t hk).flds i f hf).2.1 hr) ss.length (List.getElem?_eq_some_iff.1 hk).1) k t ht
  simp only [ht]
  rw [← e]
  exact h2

theorem aAt_lt {T : ByteArray} {ss : List Str} (hx : TextP T ss) {n : Nat} {t : Str} (ht : ss[n]? = some t) : aAt ss n + 9 ≤ aAt ss (n + 1) ∧ aAt ss (n + 1) ≤ T.size := by
  have h1 := hx.nxt n t ht
  have h2 := (hx.str n t ht).size
  rw [h1] at h2
  refine ⟨?_, h2⟩
  rw [← h1]
  unfold fAt sB
  omega

/-- What ParseAt answers. -/
def ParseEnd (w : World) (T : ByteArray) (ss : List Str) (e : Ending) (w' : World) : Prop :=
  ∃ Sv S γ, e = .returned (.tuple #[.pointer (some ⟨w.heap.size, 6, none⟩), .int .i64 0, .int .u8 0]) ∧ Parsed w w' w.heap.size T ss Sv S γ

def par0 : Array Value := (pCells ⟨#[]⟩ 0 0 0 (xCells (.slice none 0 0) zeros16 (.slice none 0 0))).toArray
theorem built223 (T : ByteArray) : Fafg.prog.built 223 [(0, .string T)] = some (pCells T 0 0 0 (xCells (.slice none 0 0) zeros16 (.slice none 0 0))).toArray := by kernel_rfl
theorem par_one (T : ByteArray) : (pCells T 0 0 0 (xCells (.slice none 0 0) zeros16 (.slice none 0 0))).toArray.all (·.oneCell') = true := by first | kernel_rfl | simp [pCells, xCells, zeros16, Value.oneCell']
theorem size223 : (Fafg.prog.info? 223).map (·.size) = some 24 := by kernel_rfl

theorem alloc_heap (w : World) (o : Obj) : (w.alloc o).heap[w.heap.size]? = some o := by unfold World.alloc; exact Array.getElem?_push_size

theorem alloc_setRow (w : World) (old cells : Array Value) (t : TypeId) : (w.alloc (.cells old t)).setRow w.heap.size cells = w.alloc (.cells cells t) := by
  have h : ((w.alloc (.cells old t)).setRow w.heap.size cells).heap = (w.alloc (.cells cells t)).heap := by
    apply Array.ext_getElem?
    intro i
    simp only [World.setRow, World.alloc, Array.getElem?_modify, Array.getElem?_push]
    by_cases hi : i = w.heap.size
    · subst hi; simp
    · have hi' : ¬ w.heap.size = i := fun h => hi h.symm
      simp [hi, hi']
  have h2 : (w.alloc (.cells old t)).setRow w.heap.size cells = { w.alloc (.cells cells t) with heap := ((w.alloc (.cells old t)).setRow w.heap.size cells).heap } := rfl
  rw [h2, h]

set_option maxHeartbeats 4000000 in
set_option maxRecDepth 100000 in
theorem parseAt_any (w : World) (T : ByteArray) (ss : List Str) (hT : T.size ≤ 1024) (hs : ShapedP ss) (hx : TextP T ss) (hwf : ∀ s ∈ ss, StrWf s) :
    Calls Fafg.prog 58 #[.string T] w (ParseEnd w T ss) := by
  have hB0 : Blk (w.alloc (.cells (pCells T 0 0 0 (xCells (.slice none 0 0) zeros16 (.slice none 0 0))).toArray 223)) w.heap.size 223 (pCells T 0 0 0 (xCells (.slice none 0 0) zeros16 (.slice none 0 0))) := Blk.new _ _ _
  have hbel : Below w.heap.size w (w.alloc (.cells (pCells T 0 0 0 (xCells (.slice none 0 0) zeros16 (.slice none 0 0))).toArray 223)) := (Below.refl _ _).alloc (Nat.le_refl _) _
  have h1024 : decide ((1024 : Int) < (T.size : Int)) = false := by rw [decide_eq_false_iff_not]; omega
  have HX := next_tok (by omega) hB0 (hx.tok 0 (Nat.zero_le _))
  have Hs : Hid (ShapedP ss) := hs
  have Hx : Hid (TextP T ss) := hx
  have Hwf : Hid (∀ s ∈ ss, StrWf s) := hwf
  clear hs hx hwf
  go_enter Fafg.func58, Fafg.ntmps58
  go_wp2_with (first
    | (refine wpList_buildTo rfl 223 _ rfl (some 7) rfl (pCells T 0 0 0 (xCells (.slice none 0 0) zeros16 (.slice none 0 0))).toArray (by simp [Act.eval]; exact built223 T) ?_; generalize hcc : (pCells T 0 0 0 (xCells (.slice none 0 0) zeros16 (.slice none 0 0))).toArray = CC at *)
    | ((refine wpList_store_row rfl 223 (.tmp 5) (.tmp 7) rfl w.heap.size CC rfl rfl 223 _ (alloc_heap _ _) (by rw [← hcc]; exact size223) (by rw [← hcc]; rfl) (by rw [← hcc]; exact par_one T) ?_); rw [alloc_setRow]))
  refine HX.mono ?_
  rintro e w1 ⟨rfl, hb1, ho1⟩
  clear HX
  have hinv : ParInv w w1 w.heap.size 0 T ss (.slice none 0 0) (.slice none 0 0) zeros16 [] (fun _ => 0) :=
    ⟨hb1, rfl, World.ownsRow_nil _ _ _ _, World.ownsRow_nil _ _ _ _, ⟨rfl, fun k t hk => by omega, fun k t hk => by omega, fun k k' t t' hk => by omega⟩, hbel.trans (ho1.kq hB0 (Nat.le_refl _)).below⟩
  clear hb1 ho1 hB0 hbel
  generalize hpp : w.heap.size = p at *
  have Hpp : Hid (w.heap.size = p) := hpp
  clear hpp
  go_wp2_with fail
  go_loopw [] (fun wr => ∃ (n : Nat) (Sv Uv : Value) (nums : List Int) (S : List PStr) (γ : Nat → Nat), n ≤ ss.length ∧ ParInv w wr p n T ss Sv Uv nums S γ) (fun wr => T.size + 1 - endOf p wr)
  case atStart => exact ⟨0, _, _, _, _, _, Nat.zero_le _, hinv⟩
  case round =>
    obtain ⟨n, Sv, Uv, nums, S, γ, hn, hinv'⟩ := hrel
    clear hinv
    by_cases hlt : n < ss.length
    · obtain ⟨t, ht⟩ : ∃ t, ss[n]? = some t := ⟨ss[n], List.getElem?_eq_getElem hlt⟩
      have c3 : wr.cell? ⟨p, 3, none⟩ = some (.int .u8 97) := by
        have := hinv'.blk.cell 3
        rw [this]
        have ekf : kAt ss n = 97 := by unfold kAt; rw [ht]
        rw [ekf]; rfl
      have HC := hinv'.call (by omega) (by rw [Hpp.out]; exact Nat.le_refl _) Hs.out Hx.out Hwf.out ht
      have he := endOf_blk hinv'.blk
      have he1 : eAt ss n = aAt ss n + 6 := by unfold eAt; rw [ht]
      obtain ⟨ha1, ha2⟩ := aAt_lt Hx.out ht
      have He : Hid (endOf p wr = eAt ss n) := he
      clear he hinv' ht
      go_wp2_with fail
      refine HC.mono ?_
      rintro e w2 ⟨rfl, Sv', Uv', nums', S', γ', hinv2⟩
      clear HC c3
      go_wp2
      go_roundw
      case rel => exact ⟨n + 1, Sv', Uv', nums', S', γ', by omega, hinv2⟩
      case measure =>
        have h1 := endOf_blk hinv2.blk
        have h2 : aAt ss (n + 1) ≤ eAt ss (n + 1) := by unfold eAt; split <;> omega
        have h3 := He.out
        omega
    · obtain rfl : n = ss.length := by omega
      have c3 : wr.cell? ⟨p, 3, none⟩ = some (.int .u8 0) := by
        have := hinv'.blk.cell 3
        rw [this]
        have ekf : kAt ss ss.length = 0 := by unfold kAt; rw [List.getElem?_eq_none (Nat.le_refl _)]
        rw [ekf]; rfl
      have HC := hinv'.bind (by rw [Hpp.out]; exact Nat.le_refl _) Hs.out Hx.out
      clear hinv'
      go_wp2_with fail
      refine HC.mono ?_
      rintro e w2 ⟨rfl, hpar⟩
      clear HC c3
      have c4 := hpar.code
      go_wp2
      go_ret3
      refine ⟨Sv, S, γ, ?_, ?_⟩
      · rw [Hpp.out]; rfl
      · rw [Hpp.out]; exact hpar
end Go.Proofs.Ygcfaf
