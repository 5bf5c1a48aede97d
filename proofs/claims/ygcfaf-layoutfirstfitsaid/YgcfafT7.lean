import Derived.Test.YgcfafT6
namespace Go.Proofs.Ygcfaf
open Go.RowKit
set_option linter.unusedVariables false

def boolCells (g : Nat → Bool) : List Value := (List.range 576).map fun b => .bool (g b)

theorem boolCells_get (g : Nat → Bool) (b : Nat) (h : b < 576) : (boolCells g)[b]? = some (.bool (g b)) := by
  unfold boolCells; simp [h]

theorem alloc87 (w : World) : (Instr.alloc 87 true (.tuple #[])).run Fafg.prog w = .ok (.pointer (some ⟨w.heap.size, 0, none⟩)) (w.alloc (.cells (boolCells (fun _ => false)).toArray 87)) := by kernel_rfl

theorem layStep_ps {st st' : LSt} {k : Int} (h : layStep st k = some st') : ∃ p, st'.ps = st.ps ++ [p] := by
  unfold layStep at h
  split at h
  · cases h
  · split at h
    · unfold ptrStep at h
      split at h
      · cases h
      · cases h; exact ⟨_, rfl⟩
    · unfold scal at h
      split at h
      · cases h; exact ⟨_, rfl⟩
      · split at h
        · cases h
        · cases h; exact ⟨_, rfl⟩

theorem layTo_prefix (K : Nat → Int) (i : Nat) (st : LSt) (hi : layTo K i = some st) : ∀ (n : Nat) (stn : LSt), i ≤ n → layTo K n = some stn → ∃ t, stn.ps = st.ps ++ t := by
  intro n
  induction n with
  | zero =>
    intro stn hle hn
    have : i = 0 := by omega
    subst this
    rw [hi] at hn
    cases hn
    exact ⟨[], by simp⟩
  | succ n ih =>
    intro stn hle hn
    by_cases h : i = n + 1
    · subst h
      rw [hi] at hn
      cases hn
      exact ⟨[], by simp⟩
    · simp only [layTo] at hn
      obtain ⟨st1, h1, h2⟩ := Option.bind_eq_some_iff.1 hn
      obtain ⟨t, ht⟩ := ih st1 (by omega) h1
      obtain ⟨p, hp⟩ := layStep_ps h2
      exact ⟨t ++ [p], by rw [hp, ht, List.append_assoc]⟩

theorem psCells_get (ps : List Plc) (i : Nat) (p : Plc) (h : ps[i]? = some p) : (psCells ps)[i * 4 + 1]? = some (.int .u16 p.off) := by
  induction ps generalizing i with
  | nil => simp at h
  | cons q ps ih =>
    cases i with
    | zero => simp at h; subst h; simp [psCells, plcCells]
    | succ i =>
      simp at h
      have := ih i h
      simp only [psCells, List.flatMap_cons] at this ⊢
      rw [List.getElem?_append_right (by simp [plcCells]; omega)]
      simp only [plcCells, List.length_cons, List.length_nil]
      rw [show (i + 1) * 4 + 1 - (0 + 1 + 1 + 1 + 1) = i * 4 + 1 by omega]
      exact this

theorem zero87 : Fafg.zeroCells87 = (boolCells (fun _ => false)).toArray := by kernel_rfl

theorem mark_zero (g : Nat → Bool) (p : Nat) : mark g p 0 = g := by
  funext b
  unfold mark
  have : (decide (p ≤ b) && decide (b < p + 0)) = false := by
    rw [Bool.eq_false_iff]; simp only [ne_eq, Bool.and_eq_true, decide_eq_true_eq, not_and]; omega
  rw [this, Bool.or_false]

theorem bool_set (g : Nat → Bool) (p r : Nat) : (boolCells (mark g p r)).set (p + r) (.bool true) = boolCells (mark g p (r + 1)) := by
  refine List.ext_getElem? fun b => ?_
  rw [List.getElem?_set]
  by_cases hb : b < 576
  · rw [boolCells_get _ _ hb, boolCells_get _ _ hb]
    by_cases h : p + r = b
    · subst h
      rw [if_pos rfl, if_pos (by simpa [boolCells] using hb)]
      congr 2
      unfold mark
      simp
    · rw [if_neg h]
      congr 2
      unfold mark
      congr 1
      rw [Bool.eq_iff_iff]
      simp only [Bool.and_eq_true, decide_eq_true_eq]
      omega
  · rw [List.getElem?_eq_none (by simp [boolCells]; omega), List.getElem?_eq_none (by simp [boolCells]; omega)]
    split
    · rw [if_neg (by simp [boolCells]; omega)]
    · rfl

/-- The outer loop's relation. -/
structure FRel (K : Nat → Int) (n tb : Nat) (w2 wr : World) (i words slots : Nat) (g : Nat → Bool) : Prop where
  le : i ≤ n
  w8 : words ≤ 8
  sl : slots ≤ i
  below : Below tb w2 wr
  blk : Blk wr tb 87 (boolCells g)
  st : (∃ ps, layTo K i = some ⟨ps, words, slots, g⟩) ∨ (8 < slots ∧ layTo K i = none)

theorem FRel.cell {K : Nat → Int} {n tb : Nat} {w2 wr : World} {i words slots : Nat} {g : Nat → Bool} (h : FRel K n tb w2 wr i words slots g) (O : Obj) :
    ∀ b, b < 576 → (wr.alloc O).cell? ⟨tb, b, none⟩ = some (.bool (g b)) := fun b hb => by
  rw [(h.blk.alloc O).cell]; exact boolCells_get _ _ hb

theorem FRel.ptr {K : Nat → Int} {n tb : Nat} {w2 wr : World} {i words slots : Nat} {g : Nat → Bool} (h : FRel K n tb w2 wr i words slots g) (hlt : i < n) (h13 : K i ≤ 11) (hw0 : widB (K i) = 0) (htb : tb ≤ wr.heap.size) (O : Obj) :
    FRel K n tb w2 (wr.alloc O) (i + 1) words (slots + 1) g := by
  refine ⟨by omega, h.w8, by have := h.sl; omega, h.below.alloc htb _, h.blk.alloc _, ?_⟩
  rcases h.st with ⟨ps, hs⟩ | ⟨h8, hs⟩
  · by_cases h8 : slots = 8
    · exact .inr ⟨by omega, by simp [layTo, hs, layStep, show ¬ 13 < K i by omega, hw0, ptrStep, h8]⟩
    · exact .inl ⟨_, by simp [layTo, hs, layStep, show ¬ 13 < K i by omega, hw0, ptrStep, h8]; rfl⟩
  · exact .inr ⟨by omega, by simp [layTo, hs]⟩

/-- Behind the marking of a place that was found. -/
theorem FRel.hit {K : Nat → Int} {n tb : Nat} {w2 wr wx : World} {i words slots s c j : Nat} {g : Nat → Bool} (h : FRel K n tb w2 wr i words slots g) (hlt : i < n) (h13 : K i ≤ 11) (hw : widB (K i) = (s : Int)) (hs : 1 ≤ s)
    (hdc : 64 / s = c) (hff : ffTo g s (words * c) = some j) (hb : Below tb w2 wx) (hk : Blk wx tb 87 (boolCells (mark g (j * s) s))) : FRel K n tb w2 wx (i + 1) words slots (mark g (j * s) s) := by
  refine ⟨by omega, h.w8, by have := h.sl; omega, hb, hk, ?_⟩
  rcases h.st with ⟨ps, hs'⟩ | ⟨h8, hs'⟩
  · refine .inl ⟨ps ++ [⟨s, j, 0, false⟩], ?_⟩
    rw [layTo_scal hs' (by omega) hw hs]
    unfold scal
    simp only [hdc, hff]
  · exact .inr ⟨by omega, by simp [layTo, hs']⟩

/-- Behind the marking of a new word's head. -/
theorem FRel.new {K : Nat → Int} {n tb : Nat} {w2 wr wx : World} {i words slots s c : Nat} {g : Nat → Bool} (h : FRel K n tb w2 wr i words slots g) (hlt : i < n) (h13 : K i ≤ 11) (hw : widB (K i) = (s : Int)) (hs : 1 ≤ s)
    (hdc : 64 / s = c) (hff : ffTo g s (words * c) = none) (h8 : words < 8) (hb : Below tb w2 wx) (hk : Blk wx tb 87 (boolCells (mark g (words * 64) s))) : FRel K n tb w2 wx (i + 1) (words + 1) slots (mark g (words * 64) s) := by
  refine ⟨by omega, by omega, by have := h.sl; omega, hb, hk, ?_⟩
  rcases h.st with ⟨ps, hs'⟩ | ⟨h8, hs'⟩
  · refine .inl ⟨ps ++ [⟨s, words * 64 / s, 0, false⟩], ?_⟩
    rw [layTo_scal hs' (by omega) hw hs]
    unfold scal
    simp only [hdc, hff]
    rw [if_neg (by omega)]
  · exact .inr ⟨by omega, by simp [layTo, hs']⟩

/-- No word is left. -/
theorem FRel.full {K : Nat → Int} {n tb : Nat} {w2 wr : World} {i words slots s c : Nat} {g : Nat → Bool} (h : FRel K n tb w2 wr i words slots g) (hlt : i < n) (h13 : K i ≤ 11) (hw : widB (K i) = (s : Int)) (hs : 1 ≤ s)
    (hdc : 64 / s = c) (hff : ffTo g s (words * c) = none) (h8 : words = 8) : layTo K n = none := by
  refine layTo_none K (i + 1) n ?_ (by omega)
  rcases h.st with ⟨ps, hs'⟩ | ⟨h8, hs'⟩
  · rw [layTo_scal hs' (by omega) hw hs]
    unfold scal
    simp only [hdc, hff]
    rw [if_pos h8]
  · simp [layTo, hs']

theorem lay_some {K : Nat → Int} {n : Nat} {st : LSt} (h : lay K n = some st) : layTo K n = some st ∧ n ≤ 16 := by
  unfold lay at h
  split at h
  · cases h
  · exact ⟨h, by omega⟩

theorem off_hit {K : Nat → Int} {n tb : Nat} {w2 wr : World} {i words slots s c j : Nat} {g : Nat → Bool} {st : LSt} (h : FRel K n tb w2 wr i words slots g) (hl : lay K n = some st) (hlt : i < n) (h13 : K i ≤ 11) (hw : widB (K i) = (s : Int)) (hs : 1 ≤ s)
    (hdc : 64 / s = c) (hff : ffTo g s (words * c) = some j) : st.ps[i]? = some ⟨s, j, 0, false⟩ := by
  rcases h.st with ⟨ps, hs'⟩ | ⟨h8, hs'⟩
  · have h1 : layTo K (i + 1) = some ⟨ps ++ [⟨s, j, 0, false⟩], words, slots, mark g (j * s) s⟩ := by
      rw [layTo_scal hs' (by omega) hw hs]
      unfold scal
      simp only [hdc, hff]
    have hlen := (layTo_ok K i _ hs').len
    obtain ⟨t, ht⟩ := layTo_prefix K (i + 1) _ h1 n st (by omega) (lay_some hl).1
    simp only at ht hlen
    rw [ht, List.append_assoc, List.getElem?_append_right (by omega), hlen]
    simp
  · have := layTo_none K i n hs' h.le
    rw [(lay_some hl).1] at this
    cases this

theorem off_new {K : Nat → Int} {n tb : Nat} {w2 wr : World} {i words slots s c : Nat} {g : Nat → Bool} {st : LSt} (h : FRel K n tb w2 wr i words slots g) (hl : lay K n = some st) (hlt : i < n) (h13 : K i ≤ 11) (hw : widB (K i) = (s : Int)) (hs : 1 ≤ s)
    (hdc : 64 / s = c) (hff : ffTo g s (words * c) = none) (h8 : words < 8) : st.ps[i]? = some ⟨s, words * 64 / s, 0, false⟩ := by
  rcases h.st with ⟨ps, hs'⟩ | ⟨h8, hs'⟩
  · have h1 : layTo K (i + 1) = some ⟨ps ++ [⟨s, words * 64 / s, 0, false⟩], words + 1, slots, mark g (words * 64) s⟩ := by
      rw [layTo_scal hs' (by omega) hw hs]
      unfold scal
      simp only [hdc, hff]
      rw [if_neg (by omega)]
    have hlen := (layTo_ok K i _ hs').len
    obtain ⟨t, ht⟩ := layTo_prefix K (i + 1) _ h1 n st (by omega) (lay_some hl).1
    simp only at ht hlen
    rw [ht, List.append_assoc, List.getElem?_append_right (by omega), hlen]
    simp
  · have := layTo_none K i n hs' h.le
    rw [(lay_some hl).1] at this
    cases this

theorem fin_ok {K : Nat → Int} {n tb : Nat} {w2 wr : World} {words slots : Nat} {g : Nat → Bool} {st : LSt} (h : FRel K n tb w2 wr n words slots g) (hl : lay K n = some st) : n ≤ 16 ∧ st.data = words ∧ st.ptrs = slots ∧ slots ≤ 8 := by
  obtain ⟨h1, h2⟩ := lay_some hl
  rcases h.st with ⟨ps, hs'⟩ | ⟨h8, hs'⟩
  · rw [h1] at hs'
    cases hs'
    exact ⟨h2, rfl, rfl, (layTo_ok K n _ h1).ptrs⟩
  · rw [h1] at hs'
    cases hs'

theorem word_div (s c W : Nat) (hsc : s * c = 64) : W * 64 / s * s = W * 64 := by
  rw [← hsc]
  refine Nat.div_mul_cancel ⟨W * c, ?_⟩
  rw [Nat.mul_left_comm]

theorem ps_row {w : World} {base n : Nat} {v : Value} {ps : List Plc} (h : w.ownsRow base 82 4 v n (psCells ps)) : ∀ i p, i < n → ps[i]? = some p →
    ∃ gb cap0, v = .slice (some ⟨gb, 0, none⟩) n cap0 ∧ gb < w.heap.size ∧ w.cell? ⟨gb, i * 4 + 1, none⟩ = some (.int .u16 p.off) := by
  intro i p hi hp
  rcases h.2 with ⟨_, h0⟩ | ⟨gb, cap0, cur, hv, hb, hh, _⟩
  · omega
  · refine ⟨gb, cap0, hv, (Array.getElem?_eq_some_iff.1 hh).1, ?_⟩
    have := h.cells (g := gb) (by rw [hv]; rfl) (i * 4 + 1) _ (psCells_get ps i p hp)
    rw [Addr.add_lit, Nat.zero_add] at this
    exact this

set_option maxHeartbeats 4000000 in
set_option maxRecDepth 100000 in
theorem law_core (a0 : Option Addr) (len cap n : Nat) (K : Nat → Int) (w : World)
    (HT : Hid (Calls Fafg.prog 26 #[.slice a0 len cap, .int .u8 12] w fun e w' =>
      e = .returned (.slice (some ⟨w.heap.size, 0, none⟩) n n) ∧ Below w.heap.size w w' ∧ Blk w' w.heap.size 85 (tyCells K n n)))
    (hnm : n ≤ maxLen) (hn17 : n ≤ 17) (hK : ∀ i, 0 ≤ K i ∧ K i ≤ 11) :
    Calls Fafg.prog 11 #[.slice a0 len cap] w fun e w' => e = .returned (.bool true) ∧ Below w.heap.size w w' := by
  have hal := alloc87
  go_enter Fafg.func11, Fafg.ntmps11
  go_wp2_with (first | (go_at_call 26; go_must (refine HT.out.mono ?_; rintro e w1 ⟨rfl, hb1, hk1⟩)) | fail)
  have hty : ∀ i, i < n → w1.cell? ⟨w.heap.size, 0 + i * 4, none⟩ = some (.int .u8 (K i)) ∧ w1.cell? ⟨w.heap.size, 0 + i * 4 + 1, none⟩ = some (.int .u8 0) ∧ w1.cell? ⟨w.heap.size, 0 + i * 4 + 2, none⟩ = some (.int .u8 0) ∧ w1.cell? ⟨w.heap.size, 0 + i * 4 + 3, none⟩ = some (.int .u8 0) := by
    intro i hi
    rw [hk1.cell, hk1.cell, hk1.cell, hk1.cell, tyCells_get _ _ _ _ (by omega), tyCells_get _ _ _ _ (by omega), tyCells_get _ _ _ _ (by omega), tyCells_get _ _ _ _ (by omega)]
    rw [if_pos (by omega), if_neg (by omega), if_neg (by omega), if_neg (by omega), show (0 + i * 4) / 4 = i by omega]
    exact ⟨rfl, rfl, rfl, rfl⟩
  have hlay := layout_all w.heap.size 0 n n K (fun _ => 0) (fun _ => 0) (fun _ => 0) w1 hnm hk1.lt (fun i => by have := hK i; constructor <;> omega) hty
  refine hlay.mono ?_
  clear hlay
  rintro e w2 ⟨hb2, hcase⟩
  have hty2 : ∀ i, i < n → w2.cell? ⟨w.heap.size, i * 4, none⟩ = some (.int .u8 (K i)) ∧ w2.cell? ⟨w.heap.size, i * 4 + 1, none⟩ = some (.int .u8 0) ∧ w2.cell? ⟨w.heap.size, i * 4 + 2, none⟩ = some (.int .u8 0) ∧ w2.cell? ⟨w.heap.size, i * 4 + 3, none⟩ = some (.int .u8 0) := by
    intro i hi
    have h := hty i hi
    simp only [Nat.zero_add] at h
    rw [hb2.cell (by exact hk1.lt), hb2.cell (by exact hk1.lt), hb2.cell (by exact hk1.lt), hb2.cell (by exact hk1.lt)]
    exact h
  have hbw2 : Below w.heap.size w w2 := hb1.trans (hb2.mono hb1.size)
  have hgt : w.heap.size < w2.heap.size := Nat.lt_of_lt_of_le hk1.lt hb2.size
  clear hty hb1 hk1 HT hb2
  rcases hcase with ⟨hl, rfl⟩ | ⟨st, v, hl, rfl, hown⟩
  · have Hl : Hid (lay K n = none) := hl
    clear hl
    go_wp2_with fail
    have hst : FRel K n w2.heap.size w2 (w2.alloc (.cells Fafg.zeroCells87 87)) 0 0 0 (fun _ => false) :=
      ⟨by omega, by omega, by omega, (Below.refl _ _).alloc (Nat.le_refl _) _, by rw [zero87]; exact Blk.new _ _ _, .inl ⟨[], rfl⟩⟩
    generalize htb : w2.heap.size = tb at *
    clear htb
    go_loopw [9, 10, 11, 45] (fun words slots fits i wr => ∃ (k W S : Nat) (g : Nat → Bool), FRel K n tb w2 wr k W S g ∧ i = .int .i64 k ∧ words = .int .i64 W ∧ slots = .int .i64 S ∧ fits = .bool (decide ((n : Int) ≤ 16))) (fun _ _ _ i _ => n - (intOf i).toNat)
    case atStart => exact ⟨0, 0, 0, _, hst, rfl, rfl, rfl, rfl⟩
    case round =>
      obtain ⟨k, W, S, g, hF, rfl, rfl, rfl, rfl⟩ := hrel
      clear hst
      have hW8 := hF.w8
      have hSk := hF.sl
      by_cases hlt : k < n
      · obtain ⟨c0, c1, c2, c3⟩ := hty2 k hlt
        rw [← hF.below.cell (by exact hgt)] at c0 c1 c2 c3
        obtain ⟨hk0, hk1⟩ := hK k
        have htbw : tb < wr.heap.size := hF.blk.lt
        by_cases hw0 : widB (K k) = 0
        · have hw0b : (widB (K k) == 0) = true := by simp [hw0]
          go_wp2_with (go_at_call 28; go_must (refine (ownWidth_any _ _).mono ?_; rintro e w' ⟨rfl, rfl⟩))
          go_roundw
          case rel => exact ⟨k + 1, W, S + 1, g, hF.ptr hlt hk1 hw0 (by omega) _, by go_num, rfl, by go_num, rfl⟩
          case measure => simp [intOf]; omega
        · obtain ⟨s, c, hws, hs1, hs64, hsc, hdc⟩ := wid_parts (K k) hw0
          have hw0b : (widB (K k) == 0) = false := by simp [hw0]
          have hs0 : ((s : Int) == 0) = false := by simp; omega
          have Hsc : Hid (s * c = 64) := hsc
          have Hdc : Hid (64 / s = c) := hdc
          clear hsc hdc hw0
          have HFF : Hid (∀ wx : World, (∀ b, b < 576 → wx.cell? ⟨tb, b, none⟩ = some (.bool (g b))) → Calls Fafg.prog 29 #[.pointer (some ⟨tb, 0, none⟩), .int .i64 W, .int .i64 s] wx fun e w' => e = .returned (.int .i64 (ffInt g s (W * c))) ∧ w' = wx) :=
            fun wx hcx => firstFit_any tb g W s (W * c) hs1 hs64 (by rw [Nat.mul_comm W c, ← Nat.mul_assoc, Hsc.out]) hW8 wx hcx
          cases hff : ffTo g s (W * c) with
          | some j =>
            have hfi : ffInt g s (W * c) = ((j * s : Nat) : Int) := by unfold ffInt; rw [hff]
            have Hff : Hid (ffTo g s (W * c) = some j) := hff
            clear hff
            rw [hfi] at HFF
            clear hfi
            have hroom := end_room s c j W Hsc.out (ffTo_lt Hff.out)
            generalize hat : j * s = at_ at *
            have Hat : Hid (j * s = at_) := hat
            clear hat
            go_wp2_with (first | (go_at_call 28; go_must (refine (ownWidth_any _ _).mono ?_; rintro e w' ⟨rfl, rfl⟩)) | (go_at_call 29; go_must (refine (HFF.out _ (hF.cell _)).mono ?_; rintro e w' ⟨rfl, rfl⟩)))
            go_loopw [16] (fun b wi => ∃ r : Nat, r ≤ s ∧ b = .int .i64 ((at_ + r : Nat) : Int) ∧ Below tb w2 wi ∧ Blk wi tb 87 (boolCells (mark g (at_) r))) (fun b _ => at_ + s - (intOf b).toNat)
            case atStart => exact ⟨0, by omega, by go_num, hF.below.alloc (by omega) _, by rw [mark_zero]; exact hF.blk.alloc _⟩
            case round =>
              obtain ⟨r, hr, rfl, hbi, hki⟩ := hrel
              by_cases hrs : r < s
              · have hcc := (hki.cell (at_ + r)).trans (boolCells_get _ _ (by omega))
                have hfc := hki.frozen (at_ + r)
                go_wp2
                go_roundw
                case rel =>
                  refine ⟨r + 1, by omega, by go_num, hbi.setCell (Nat.le_refl _) _, ?_⟩
                  have h := hki.set (at_ + r) (.bool true)
                  rw [bool_set] at h
                  exact h
                case measure => simp [intOf]; omega
              · have hrs' : r = s := by omega
                subst hrs'
                go_wp2
                go_roundw
                case rel => exact ⟨k + 1, W, S, mark g at_ r, by rw [← Hat.out]; exact hF.hit hlt hk1 hws hs1 Hdc.out Hff.out hbi (by rw [Hat.out]; exact hki), by go_num, rfl, rfl, rfl⟩
                case measure => simp [intOf]; omega
          | none =>
            have hfi : ffInt g s (W * c) = -1 := by unfold ffInt; rw [hff]
            have Hff : Hid (ffTo g s (W * c) = none) := hff
            clear hff
            rw [hfi] at HFF
            clear hfi
            by_cases hw : W = 8
            · have hno : Hid (layTo K n = none) := hF.full hlt hk1 hws hs1 Hdc.out Hff.out hw
              have hw9 : ¬ (W : Int) + 1 ≤ 8 := by omega
              clear hw
              by_cases hS8 : 8 < S
              · have hS8i : decide ((8 : Int) < (S : Int)) = true := by simp; omega
                go_wp2_with (first | (go_at_call 28; go_must (refine (ownWidth_any _ _).mono ?_; rintro e w' ⟨rfl, rfl⟩)) | (go_at_call 29; go_must (refine (HFF.out _ (hF.cell _)).mono ?_; rintro e w' ⟨rfl, rfl⟩)))
                go_ret
                exact ⟨rfl, hbw2.trans ((hF.below.alloc (by omega) _).mono (by omega))⟩
              · have hS8i : decide ((8 : Int) < (S : Int)) = false := by simp; omega
                go_wp2_with (first | (go_at_call 28; go_must (refine (ownWidth_any _ _).mono ?_; rintro e w' ⟨rfl, rfl⟩)) | (go_at_call 29; go_must (refine (HFF.out _ (hF.cell _)).mono ?_; rintro e w' ⟨rfl, rfl⟩)))
                go_ret
                exact ⟨rfl, hbw2.trans ((hF.below.alloc (by omega) _).mono (by omega))⟩
            · have hw7 : W < 8 := by omega
              go_wp2_with (first | (go_at_call 28; go_must (refine (ownWidth_any _ _).mono ?_; rintro e w' ⟨rfl, rfl⟩)) | (go_at_call 29; go_must (refine (HFF.out _ (hF.cell _)).mono ?_; rintro e w' ⟨rfl, rfl⟩)))
              go_loopw [16] (fun b wi => ∃ r : Nat, r ≤ s ∧ b = .int .i64 ((W * 64 + r : Nat) : Int) ∧ Below tb w2 wi ∧ Blk wi tb 87 (boolCells (mark g (W * 64) r))) (fun b _ => W * 64 + s - (intOf b).toNat)
              case atStart => exact ⟨0, by omega, by go_num, hF.below.alloc (by omega) _, by rw [mark_zero]; exact hF.blk.alloc _⟩
              case round =>
                obtain ⟨r, hr, rfl, hbi, hki⟩ := hrel
                by_cases hrs : r < s
                · have hcc := (hki.cell (W * 64 + r)).trans (boolCells_get _ _ (by omega))
                  have hfc := hki.frozen (W * 64 + r)
                  go_wp2
                  go_roundw
                  case rel =>
                    refine ⟨r + 1, by omega, by go_num, hbi.setCell (Nat.le_refl _) _, ?_⟩
                    have h := hki.set (W * 64 + r) (.bool true)
                    rw [bool_set] at h
                    exact h
                  case measure => simp [intOf]; omega
                · have hrs' : r = s := by omega
                  subst hrs'
                  go_wp2
                  go_roundw
                  case rel => exact ⟨k + 1, W + 1, S, mark g (W * 64) r, hF.new hlt hk1 hws hs1 Hdc.out Hff.out hw7 hbi hki, by go_num, by go_num, rfl, rfl⟩
                  case measure => simp [intOf]; omega
      · have hkn : k = n := by have := hF.le; omega
        subst hkn
        have hbf : Below w.heap.size w wr := hbw2.trans (hF.below.mono (by omega))
        by_cases h8 : 8 < S
        · have hS8i : decide ((8 : Int) < (S : Int)) = true := by simp; omega
          go_wp2
          go_ret
          exact ⟨rfl, hbf⟩
        · have hS8i : decide ((8 : Int) < (S : Int)) = false := by simp; omega
          have h16 : 16 < k := by
            by_cases h : 16 < k
            · exact h
            · exfalso
              rcases hF.st with ⟨ps, hs⟩ | ⟨h9, _⟩
              · have := Hl.out
                unfold lay at this
                rw [if_neg h, hs] at this
                cases this
              · exact h8 h9
          have hd16 : decide ((k : Int) ≤ 16) = false := by simp; omega
          go_wp2
          go_ret
          exact ⟨rfl, hbf⟩
  · have Hl : Hid (lay K n = some st) := hl
    clear hl
    go_wp2_with fail
    have hst : FRel K n w2.heap.size w2 (w2.alloc (.cells Fafg.zeroCells87 87)) 0 0 0 (fun _ => false) :=
      ⟨by omega, by omega, by omega, (Below.refl _ _).alloc (Nat.le_refl _) _, by rw [zero87]; exact Blk.new _ _ _, .inl ⟨[], rfl⟩⟩
    have Hrow : Hid (∀ i p, i < n → st.ps[i]? = some p → ∃ gb cap0, v = .slice (some ⟨gb, 0, none⟩) n cap0 ∧ gb < w2.heap.size ∧ w2.cell? ⟨gb, i * 4 + 1, none⟩ = some (.int .u16 p.off)) := ps_row hown
    generalize htb : w2.heap.size = tb at *
    have Htb : Hid (w2.heap.size = tb) := htb
    clear htb hown
    go_loopw [9, 10, 11, 45] (fun words slots fits i wr => ∃ (k W S : Nat) (g : Nat → Bool), FRel K n tb w2 wr k W S g ∧ i = .int .i64 k ∧ words = .int .i64 W ∧ slots = .int .i64 S ∧ fits = .bool (decide ((n : Int) ≤ 16))) (fun _ _ _ i _ => n - (intOf i).toNat)
    case atStart => exact ⟨0, 0, 0, _, hst, rfl, rfl, rfl, rfl⟩
    case round =>
      obtain ⟨k, W, S, g, hF, rfl, rfl, rfl, rfl⟩ := hrel
      clear hst
      have hW8 := hF.w8
      have hSk := hF.sl
      by_cases hlt : k < n
      · obtain ⟨c0, c1, c2, c3⟩ := hty2 k hlt
        rw [← hF.below.cell (by exact hgt)] at c0 c1 c2 c3
        obtain ⟨hk0, hk1⟩ := hK k
        have htbw : tb < wr.heap.size := hF.blk.lt
        by_cases hw0 : widB (K k) = 0
        · have hw0b : (widB (K k) == 0) = true := by simp [hw0]
          go_wp2_with (go_at_call 28; go_must (refine (ownWidth_any _ _).mono ?_; rintro e w' ⟨rfl, rfl⟩))
          go_roundw
          case rel => exact ⟨k + 1, W, S + 1, g, hF.ptr hlt hk1 hw0 (by omega) _, by go_num, rfl, by go_num, rfl⟩
          case measure => simp [intOf]; omega
        · obtain ⟨s, c, hws, hs1, hs64, hsc, hdc⟩ := wid_parts (K k) hw0
          have hw0b : (widB (K k) == 0) = false := by simp [hw0]
          have hs0 : ((s : Int) == 0) = false := by simp; omega
          have Hsc : Hid (s * c = 64) := hsc
          have Hdc : Hid (64 / s = c) := hdc
          clear hsc hdc hw0
          have HFF : Hid (∀ wx : World, (∀ b, b < 576 → wx.cell? ⟨tb, b, none⟩ = some (.bool (g b))) → Calls Fafg.prog 29 #[.pointer (some ⟨tb, 0, none⟩), .int .i64 W, .int .i64 s] wx fun e w' => e = .returned (.int .i64 (ffInt g s (W * c))) ∧ w' = wx) :=
            fun wx hcx => firstFit_any tb g W s (W * c) hs1 hs64 (by rw [Nat.mul_comm W c, ← Nat.mul_assoc, Hsc.out]) hW8 wx hcx
          cases hff : ffTo g s (W * c) with
          | some j =>
            have hfi : ffInt g s (W * c) = ((j * s : Nat) : Int) := by unfold ffInt; rw [hff]
            have Hff : Hid (ffTo g s (W * c) = some j) := hff
            clear hff
            rw [hfi] at HFF
            clear hfi
            have hroom := end_room s c j W Hsc.out (ffTo_lt Hff.out)
            obtain ⟨gb, cap0, hv, hgb, hoff⟩ := Hrow.out k ⟨s, j, 0, false⟩ hlt (off_hit hF Hl.out hlt (by omega) hws hs1 Hdc.out Hff.out)
            rw [hv]
            rw [← hF.below.cell (by exact hgb)] at hoff
            have hoff2 := fun wi (hbi : Below tb w2 wi) => (hbi.cell (p := ⟨gb, k * 4 + 1, none⟩) (by exact hgb)).trans ((hF.below.cell (by exact hgb)).symm.trans hoff)
            have Hoff : Hid (∀ wi, Below tb w2 wi → wi.cell? ⟨gb, k * 4 + 1, none⟩ = some (.int .u16 j)) := hoff2
            clear hv hgb hoff hoff2
            have hjs : (j : Int) * (s : Int) = ((j * s : Nat) : Int) := by simp
            have hj5 : j ≤ 512 := by
              have := Nat.le_mul_of_pos_right j (show 0 < s by omega)
              omega
            generalize hat : j * s = at_ at *
            have Hat : Hid (j * s = at_) := hat
            clear hat
            go_wp2_with (first | (go_at_call 28; go_must (refine (ownWidth_any _ _).mono ?_; rintro e w' ⟨rfl, rfl⟩)) | (go_at_call 29; go_must (refine (HFF.out _ (hF.cell _)).mono ?_; rintro e w' ⟨rfl, rfl⟩)))
            go_loopw [16] (fun b wi => ∃ r : Nat, r ≤ s ∧ b = .int .i64 ((at_ + r : Nat) : Int) ∧ Below tb w2 wi ∧ Blk wi tb 87 (boolCells (mark g (at_) r))) (fun b _ => at_ + s - (intOf b).toNat)
            case atStart => exact ⟨0, by omega, by go_num, hF.below.alloc (by omega) _, by rw [mark_zero]; exact hF.blk.alloc _⟩
            case round =>
              obtain ⟨r, hr, rfl, hbi, hki⟩ := hrel
              by_cases hrs : r < s
              · have hcc := (hki.cell (at_ + r)).trans (boolCells_get _ _ (by omega))
                have hfc := hki.frozen (at_ + r)
                go_wp2
                go_roundw
                case rel =>
                  refine ⟨r + 1, by omega, by go_num, hbi.setCell (Nat.le_refl _) _, ?_⟩
                  have h := hki.set (at_ + r) (.bool true)
                  rw [bool_set] at h
                  exact h
                case measure => simp [intOf]; omega
              · have hrs' : r = s := by omega
                subst hrs'
                have hoffi := Hoff.out _ hbi
                go_wp2
                go_roundw
                case rel => exact ⟨k + 1, W, S, mark g at_ r, by rw [← Hat.out]; exact hF.hit hlt hk1 hws hs1 Hdc.out Hff.out hbi (by rw [Hat.out]; exact hki), by go_num, rfl, rfl, rfl⟩
                case measure => simp [intOf]; omega
          | none =>
            have hfi : ffInt g s (W * c) = -1 := by unfold ffInt; rw [hff]
            have Hff : Hid (ffTo g s (W * c) = none) := hff
            clear hff
            rw [hfi] at HFF
            clear hfi
            by_cases hw : W = 8
            · have hno : Hid (layTo K n = none) := hF.full hlt hk1 hws hs1 Hdc.out Hff.out hw
              exact absurd hno.out (by have := (lay_some Hl.out).1; rw [this]; simp)
            · have hw7 : W < 8 := by omega
              obtain ⟨gb, cap0, hv, hgb, hoff⟩ := Hrow.out k ⟨s, W * 64 / s, 0, false⟩ hlt (off_new hF Hl.out hlt (by omega) hws hs1 Hdc.out Hff.out hw7)
              rw [hv]
              rw [← hF.below.cell (by exact hgb)] at hoff
              have hoff2 := fun wi (hbi : Below tb w2 wi) => (hbi.cell (p := ⟨gb, k * 4 + 1, none⟩) (by exact hgb)).trans ((hF.below.cell (by exact hgb)).symm.trans hoff)
              have Hoff : Hid (∀ wi, Below tb w2 wi → wi.cell? ⟨gb, k * 4 + 1, none⟩ = some (.int .u16 ((W * 64 / s : Nat) : Int))) := hoff2
              clear hv hgb hoff hoff2
              have hdj : W * 64 / s * s = W * 64 := word_div s c W Hsc.out
              generalize hJ : W * 64 / s = J at *
              have hjs : (J : Int) * (s : Int) = 64 * (W : Int) := by rw [← Int.natCast_mul, hdj]; omega
              have hJ5 : J ≤ 512 := by rw [← hJ]; exact Nat.le_trans (Nat.div_le_self _ _) (by omega)
              clear hJ hdj
              go_wp2_with (first | (go_at_call 28; go_must (refine (ownWidth_any _ _).mono ?_; rintro e w' ⟨rfl, rfl⟩)) | (go_at_call 29; go_must (refine (HFF.out _ (hF.cell _)).mono ?_; rintro e w' ⟨rfl, rfl⟩)))
              go_loopw [16] (fun b wi => ∃ r : Nat, r ≤ s ∧ b = .int .i64 ((W * 64 + r : Nat) : Int) ∧ Below tb w2 wi ∧ Blk wi tb 87 (boolCells (mark g (W * 64) r))) (fun b _ => W * 64 + s - (intOf b).toNat)
              case atStart => exact ⟨0, by omega, by go_num, hF.below.alloc (by omega) _, by rw [mark_zero]; exact hF.blk.alloc _⟩
              case round =>
                obtain ⟨r, hr, rfl, hbi, hki⟩ := hrel
                by_cases hrs : r < s
                · have hcc := (hki.cell (W * 64 + r)).trans (boolCells_get _ _ (by omega))
                  have hfc := hki.frozen (W * 64 + r)
                  go_wp2
                  go_roundw
                  case rel =>
                    refine ⟨r + 1, by omega, by go_num, hbi.setCell (Nat.le_refl _) _, ?_⟩
                    have h := hki.set (W * 64 + r) (.bool true)
                    rw [bool_set] at h
                    exact h
                  case measure => simp [intOf]; omega
                · have hrs' : r = s := by omega
                  subst hrs'
                  have hoffi := Hoff.out _ hbi
                  go_wp2
                  go_roundw
                  case rel => exact ⟨k + 1, W + 1, S, mark g (W * 64) r, hF.new hlt hk1 hws hs1 Hdc.out Hff.out hw7 hbi hki, by go_num, by go_num, rfl, rfl⟩
                  case measure => simp [intOf]; omega
      · have hkn : k = n := by have := hF.le; omega
        subst hkn
        have hbf : Below w.heap.size w wr := hbw2.trans (hF.below.mono (by omega))
        obtain ⟨hlt16, hd, hp, hS8⟩ := fin_ok hF Hl.out
        have hS8i : decide ((8 : Int) < (S : Int)) = false := by simp; omega
        have hd16 : decide ((k : Int) ≤ 16) = true := by simp; omega
        have hdb : ((st.data : Int) == (W : Int)) = true := by simp [hd]
        have hpb : ((st.ptrs : Int) == (S : Int)) = true := by simp [hp]
        have hd8 : st.data ≤ 8 := by omega
        have hp8 : st.ptrs ≤ 8 := by omega
        clear hd hp
        go_wp2
        go_ret
        exact ⟨rfl, hbf⟩

theorem law_any (b off len cap n : Nat) (zs : List Int) (w : World) (hlen : len ≤ maxLen) (hlc : len ≤ cap) (hb : b < w.heap.size) (hn : n = if len ≤ 17 then len else 17)
    (hc : ∀ i, i < len → w.cell? ⟨b, off + i, none⟩ = some (.int .u8 (zs.getD i 0))) (hz : ∀ i, 0 ≤ zs.getD i 0 ∧ zs.getD i 0 ≤ 255) :
    Calls Fafg.prog 11 #[.slice (some ⟨b, off, none⟩) len cap] w fun e w' => e = .returned (.bool true) ∧ Below w.heap.size w w' :=
  law_core _ len cap n (fun i => zs.getD i 0 % 12) w (typesOf_any b off len cap n zs w hlen hlc hb hn hc hz) (by rw [hn]; split <;> simp [maxLen] at * <;> omega) (by rw [hn]; split <;> omega)
    (fun i => by have := hz i; constructor <;> omega)

theorem law_nil (w : World) : Calls Fafg.prog 11 #[.slice none 0 0] w fun e w' => e = .returned (.bool true) ∧ Below w.heap.size w w' :=
  law_core none 0 0 0 (fun _ => 0) w (typesOf_nil _ w) (by simp [maxLen]) (by omega) (fun i => by constructor <;> omega)
end Go.Proofs.Ygcfaf
