import Derived.Test.YgcfafT3
namespace Go.Proofs.Ygcfaf
open Go.RowKit
set_option linter.unusedVariables false

theorem info85 : (Fafg.prog.info? 85).map (fun i => (i.zero, i.size, i.bytes)) = some (some (.agg #[.int .u8 0, .int .u8 0, .int .u8 0, .int .u8 0]), 4, 4) := by kernel_rfl
theorem info82 : (Fafg.prog.info? 82).map (fun i => (i.zero, i.size, i.bytes)) = some (some (.agg #[.int .u8 0, .int .u16 0, .int .u8 0, .bool false]), 4, 6) := by kernel_rfl

/-- A block of cells, not frozen. -/
def Blk (w : World) (g : Nat) (e : TypeId) (l : List Value) : Prop := w.heap[g]? = some (.cells l.toArray e (0, 0))

theorem Blk.cell {w : World} {g : Nat} {e : TypeId} {l : List Value} (h : Blk w g e l) (o : Nat) : w.cell? ⟨g, o, none⟩ = l[o]? := by
  unfold Blk at h
  simp [World.cell?, h]
theorem Blk.frozen {w : World} {g : Nat} {e : TypeId} {l : List Value} (h : Blk w g e l) (o : Nat) : w.frozen? ⟨g, o, none⟩ = false := by
  unfold Blk at h
  simp [World.frozen?, h]
theorem Blk.lt {w : World} {g : Nat} {e : TypeId} {l : List Value} (h : Blk w g e l) : g < w.heap.size := (Array.getElem?_eq_some_iff.1 h).1
theorem Blk.set {w : World} {g : Nat} {e : TypeId} {l : List Value} (h : Blk w g e l) (o : Nat) (v : Value) : Blk (w.setCell ⟨g, o, none⟩ v) g e (l.set o v) := by
  unfold Blk at *
  simp [World.setCell, Array.getElem?_modify, h]
theorem Blk.setOther {w : World} {g : Nat} {e : TypeId} {l : List Value} (h : Blk w g e l) (a : Addr) (v : Value) (hne : g ≠ a.block) : Blk (w.setCell a v) g e l := by
  unfold Blk at *
  rw [Below.heap_setCell _ _ _ _ hne]; exact h
theorem Blk.alloc {w : World} {g : Nat} {e : TypeId} {l : List Value} (h : Blk w g e l) (o : Obj) : Blk (w.alloc o) g e l := by
  have := h.lt
  unfold Blk at *
  rw [Below.heap_alloc _ _ _ this]; exact h
theorem Blk.new (w : World) (e : TypeId) (l : List Value) : Blk (w.alloc (.cells l.toArray e)) w.heap.size e l := by
  unfold Blk
  show (w.heap.push _)[w.heap.size]? = _
  simp
theorem Blk.below {B : Nat} {w w' : World} {g : Nat} {e : TypeId} {l : List Value} (h : Blk w g e l) (hb : Below B w w') (hg : g < B) : Blk w' g e l := by
  unfold Blk at *
  rw [hb.block g hg]; exact h

/-- The cells of n types of which the first k have got their kinds. -/
def tyCells (K : Nat → Int) (k n : Nat) : List Value := (List.range (4 * n)).map fun q => .int .u8 (if q % 4 = 0 ∧ q / 4 < k then K (q / 4) else 0)

theorem tyCells_get (K : Nat → Int) (k n q : Nat) (h : q < 4 * n) : (tyCells K k n)[q]? = some (.int .u8 (if q % 4 = 0 ∧ q / 4 < k then K (q / 4) else 0)) := by
  unfold tyCells
  simp [h]

theorem tyCells_step (K : Nat → Int) (k n : Nat) (h : k < n) : (tyCells K k n).set (4 * k) (.int .u8 (K k)) = tyCells K (k + 1) n := by
  refine List.ext_getElem? fun q => ?_
  by_cases hq : q < 4 * n
  · rw [tyCells_get _ _ _ _ hq, List.getElem?_set, tyCells_get _ _ _ _ hq]
    by_cases he : 4 * k = q
    · subst he
      rw [if_pos rfl, if_pos (by simp [tyCells]; omega), if_pos (by omega), show 4 * k / 4 = k by omega]
    · rw [if_neg he]
      congr 2
      by_cases h4 : q % 4 = 0
      · by_cases h5 : q / 4 < k
        · rw [if_pos ⟨h4, h5⟩, if_pos ⟨h4, by omega⟩]
        · rw [if_neg (by omega), if_neg (by omega)]
      · rw [if_neg (by omega), if_neg (by omega)]
  · rw [List.getElem?_eq_none (by simp [tyCells]; omega), List.getElem?_eq_none (by simp [tyCells]; omega)]

theorem made85 (K : Nat → Int) (n : Nat) : (madeCells (Value.agg #[.int .u8 0, .int .u8 0, .int .u8 0, .int .u8 0]).cells (n * 4)).toList = tyCells K 0 n := by
  unfold madeCells tyCells
  rw [Array.toList_map, Array.toList_range, Nat.mul_comm n 4]
  refine List.map_congr_left fun q _ => ?_
  have h4 : q % 4 = 0 ∨ q % 4 = 1 ∨ q % 4 = 2 ∨ q % 4 = 3 := by omega
  rw [if_neg (by omega)]
  show (#[Value.int .u8 0, .int .u8 0, .int .u8 0, .int .u8 0])[q % 4]! = _
  rcases h4 with h | h | h | h <;> rw [h] <;> rfl

theorem Blk.ofOwn {w : World} {base g n : Nat} {e : TypeId} {size : Nat} {xs : List Value} (h : w.ownsRow base e size (.slice (some ⟨g, 0, none⟩) n n) n xs) : Blk w g e xs := by
  obtain ⟨h1, h2⟩ := h
  rcases h2 with ⟨h2, _⟩ | ⟨g', cap, cur, hv, hb, hh, hnc, hcm, hcs, ht⟩
  · cases h2
  · cases hv
    unfold Blk
    rw [hh, ← ht, List.take_of_length_le (by simp [hcs])]

set_option maxHeartbeats 1000000 in
set_option maxRecDepth 100000 in
theorem typesOf_any (b off len cap n : Nat) (zs : List Int) (w : World) (hlen : len ≤ maxLen) (hlc : len ≤ cap) (hb : b < w.heap.size) (hn : n = if len ≤ 17 then len else 17)
    (hc : ∀ i, i < len → w.cell? ⟨b, off + i, none⟩ = some (.int .u8 (zs.getD i 0))) (hz : ∀ i, 0 ≤ zs.getD i 0 ∧ zs.getD i 0 ≤ 255) :
    Calls Fafg.prog 26 #[.slice (some ⟨b, off, none⟩) len cap, .int .u8 12] w fun e w' =>
      e = .returned (.slice (some ⟨w.heap.size, 0, none⟩) n n) ∧ Below w.heap.size w w' ∧ Blk w' w.heap.size 85 (tyCells (fun i => zs.getD i 0 % 12) n n) := by
  obtain ⟨i85, hi, hz0, hz1, hz2⟩ := info_parts info85
  have hn17 : n ≤ 17 := by rw [hn]; split <;> omega
  have hnl : n ≤ len := by rw [hn]; split <;> omega
  have hnm : n ≤ maxLen := Nat.le_trans hnl hlen
  unfold maxLen at hlen
  have hcase : (len ≤ 17 ∧ len = n) ∨ (17 < len ∧ n = 17) := by
    by_cases h : len ≤ 17
    · rw [if_pos h] at hn; exact .inl ⟨h, hn.symm⟩
    · rw [if_neg h] at hn; exact .inr ⟨by omega, hn⟩
  clear hn
  rcases hcase with ⟨h17, rfl⟩ | ⟨h17, rfl⟩
  all_goals
    go_enter Fafg.func26, Fafg.ntmps26
    go_wp2_with (at_make; refine wpList_make_full _ rfl _ _ 75 rfl w.heap.size 85 i85 _ 4 Fafg.underlying75 hi hz0 hz1 .i64 .i64 _ _ _ rfl rfl (by first | rfl | omega) (by first | rfl | omega) (by rw [hz2]; omega) hnm (Nat.le_refl _) ?_; intro w1 hown hgrow)
    have hblk := Blk.ofOwn hown
    rw [made85 (fun i => zs.getD i 0 % 12)] at hblk
    have hbel : Below w.heap.size w w1 := (Below.refl _ _).grown hgrow (Nat.le_refl _) (by simp)
    clear hown hgrow
  · go_loopw [18] (fun i wr => ∃ k : Nat, k ≤ len ∧ i = .int .i64 k ∧ Below w.heap.size w wr ∧ Blk wr w.heap.size 85 (tyCells (fun i => zs.getD i 0 % 12) k len)) (fun i _ => len - (intOf i).toNat)
    case atStart => exact ⟨0, by omega, rfl, hbel, hblk⟩
    case round =>
      obtain ⟨k, hk, rfl, hbr, hbk⟩ := hrel
      by_cases hlt : k < len
      · have hcx : wr.cell? ⟨b, off + k, none⟩ = some (.int .u8 (zs.getD k 0)) := (hbr.cell (by exact hb)).trans (hc k (by omega))
        have hcy := (hbk.cell (k * 4)).trans (tyCells_get _ _ _ _ (by omega))
        have hfy := hbk.frozen (k * 4)
        have hzk := (hz k).1
        go_wp2
        go_roundw
        case rel =>
          refine ⟨k + 1, by omega, by go_num, hbr.setCell (Nat.le_refl _) _, ?_⟩
          have h := hbk.set (k * 4) (.int .u8 (zs.getD k 0 % 12))
          rw [← Int.tmod_eq_emod_of_nonneg hzk] at h
          rw [Nat.mul_comm k 4, Int.tmod_eq_emod_of_nonneg hzk, tyCells_step (fun i => zs.getD i 0 % 12) k len hlt, ← Int.tmod_eq_emod_of_nonneg hzk, Nat.mul_comm 4 k, List.getD_eq_getElem?_getD] at h
          exact h
        case measure => simp [intOf]; omega
      · have hkn : k = len := by omega
        subst hkn
        go_wp2
        go_ret
        exact ⟨rfl, hbr, hbk⟩
  · go_loopw [18] (fun i wr => ∃ k : Nat, k ≤ 17 ∧ i = .int .i64 k ∧ Below w.heap.size w wr ∧ Blk wr w.heap.size 85 (tyCells (fun i => zs.getD i 0 % 12) k 17)) (fun i _ => 17 - (intOf i).toNat)
    case atStart => exact ⟨0, by omega, rfl, hbel, hblk⟩
    case round =>
      obtain ⟨k, hk, rfl, hbr, hbk⟩ := hrel
      by_cases hlt : k < 17
      · have hcx : wr.cell? ⟨b, off + k, none⟩ = some (.int .u8 (zs.getD k 0)) := (hbr.cell (by exact hb)).trans (hc k (by omega))
        have hcy := (hbk.cell (k * 4)).trans (tyCells_get _ _ _ _ (by omega))
        have hfy := hbk.frozen (k * 4)
        have hzk := (hz k).1
        go_wp2
        go_roundw
        case rel =>
          refine ⟨k + 1, by omega, by go_num, hbr.setCell (Nat.le_refl _) _, ?_⟩
          have h := hbk.set (k * 4) (.int .u8 (zs.getD k 0 % 12))
          rw [← Int.tmod_eq_emod_of_nonneg hzk] at h
          rw [Nat.mul_comm k 4, Int.tmod_eq_emod_of_nonneg hzk, tyCells_step (fun i => zs.getD i 0 % 12) k 17 hlt, ← Int.tmod_eq_emod_of_nonneg hzk, Nat.mul_comm 4 k, List.getD_eq_getElem?_getD] at h
          exact h
        case measure => simp [intOf]; omega
      · have hkn : k = 17 := by omega
        subst hkn
        go_wp2
        go_ret
        exact ⟨rfl, hbr, hbk⟩

set_option maxHeartbeats 1000000 in
set_option maxRecDepth 100000 in
theorem typesOf_nil (K : Nat → Int) (w : World) :
    Calls Fafg.prog 26 #[.slice none 0 0, .int .u8 12] w fun e w' =>
      e = .returned (.slice (some ⟨w.heap.size, 0, none⟩) 0 0) ∧ Below w.heap.size w w' ∧ Blk w' w.heap.size 85 (tyCells K 0 0) := by
  obtain ⟨i85, hi, hz0, hz1, hz2⟩ := info_parts info85
  go_enter Fafg.func26, Fafg.ntmps26
  go_wp2_with (at_make; refine wpList_make_full _ rfl _ _ 75 rfl w.heap.size 85 i85 _ 4 Fafg.underlying75 hi hz0 hz1 .i64 .i64 _ _ 0 rfl rfl rfl rfl (by omega) (by decide) (Nat.le_refl _) ?_; intro w1 hown hgrow)
  have hblk := Blk.ofOwn hown
  rw [made85 K] at hblk
  have hbel : Below w.heap.size w w1 := (Below.refl _ _).grown hgrow (Nat.le_refl _) (by simp)
  clear hown hgrow
  refine wp_loop_once ?_
  go_wp2
  go_ret
  exact ⟨rfl, hbel, hblk⟩

set_option maxHeartbeats 1000000 in
set_option maxRecDepth 100000 in
theorem typesOf_empty (x : Addr) (cap : Nat) (K : Nat → Int) (w : World) :
    Calls Fafg.prog 26 #[.slice (some x) 0 cap, .int .u8 12] w fun e w' =>
      e = .returned (.slice (some ⟨w.heap.size, 0, none⟩) 0 0) ∧ Below w.heap.size w w' ∧ Blk w' w.heap.size 85 (tyCells K 0 0) := by
  obtain ⟨i85, hi, hz0, hz1, hz2⟩ := info_parts info85
  go_enter Fafg.func26, Fafg.ntmps26
  go_wp2_with (at_make; refine wpList_make_full _ rfl _ _ 75 rfl w.heap.size 85 i85 _ 4 Fafg.underlying75 hi hz0 hz1 .i64 .i64 _ _ 0 rfl rfl rfl rfl (by omega) (by decide) (Nat.le_refl _) ?_; intro w1 hown hgrow)
  have hblk := Blk.ofOwn hown
  rw [made85 K] at hblk
  have hbel : Below w.heap.size w w1 := (Below.refl _ _).grown hgrow (Nat.le_refl _) (by simp)
  clear hown hgrow
  refine wp_loop_once ?_
  go_wp2
  go_ret
  exact ⟨rfl, hbel, hblk⟩
end Go.Proofs.Ygcfaf
