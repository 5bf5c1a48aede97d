import Derived.Test.YgcfafT4
import Derived.WalkSpells
import Derived.Test.YgcfafLay
namespace Go.Proofs.Ygcfaf
open Go.RowKit
set_option linter.unusedVariables false

/-- The cells of a place. -/
def plcCells (p : Plc) : List Value := [.int .u8 p.bits, .int .u16 p.off, .int .u8 p.slot, .bool p.isPtr]
def psCells (ps : List Plc) : List Value := ps.flatMap plcCells

theorem psCells_snoc (ps : List Plc) (p : Plc) : psCells (ps ++ [p]) = psCells ps ++ plcCells p := by simp [psCells]

def updU (U : Nat → Nat) (at_ s : Nat) : Nat → Nat := fun i => if i = at_ / 64 then U i ||| ((2 ^ s - 1) * 2 ^ (at_ % 64)) else U i

theorem bitOf_upd (U : Nat → Nat) (at_ s : Nat) (h : at_ % 64 + s ≤ 64) : bitOf (updU U at_ s) = mark (bitOf U) at_ s := by
  funext b
  unfold bitOf updU mark
  by_cases hb : b / 64 = at_ / 64
  · rw [if_pos hb, Nat.testBit_or]
    congr 1
    rw [Nat.mul_comm, Nat.testBit_two_pow_mul, Nat.testBit_two_pow_sub_one, Bool.eq_iff_iff]
    simp only [Bool.and_eq_true, decide_eq_true_eq]
    omega
  · rw [if_neg hb]
    have : (decide (at_ ≤ b) && decide (b < at_ + s)) = false := by
      rw [Bool.eq_false_iff]
      simp only [ne_eq, Bool.and_eq_true, decide_eq_true_eq, not_and]
      omega
    rw [this, Bool.or_false]

def usedCells (U : Nat → Nat) : List Value := (List.range 8).map fun i => .int .u64 (U i)


/-- The loop's relation: behind k types. -/
structure LRel (w wr : World) (K : Nat → Int) (n ub k : Nat) (st : LSt) (U : Nat → Nat) : Prop where
  kn : k ≤ n
  run : layTo K k = some st
  bits : bitOf U = st.f
  words : ∀ i, U i < 18446744073709551616
  own : wr.ownsRow w.heap.size 82 4 (.slice (some ⟨w.heap.size, 0, none⟩) k n) k (psCells st.ps)
  used : Blk wr ub 56 (usedCells U)
  below : Below w.heap.size w wr
  ub : w.heap.size < ub

theorem LRel.cell {w wr : World} {K : Nat → Int} {n ub k : Nat} {st : LSt} {U : Nat → Nat} (h : LRel w wr K n ub k st U) (i : Nat) (hi : i < 8) : wr.cell? ⟨ub, i, none⟩ = some (.int .u64 (U i)) := by
  rw [h.used.cell]; simp [usedCells, hi]

theorem LRel.cellA {w wr : World} {K : Nat → Int} {n ub k : Nat} {st : LSt} {U : Nat → Nat} (h : LRel w wr K n ub k st U) (O : Obj) (i : Nat) (hi : i < 8) : (wr.alloc O).cell? ⟨ub, i, none⟩ = some (.int .u64 (U i)) := by
  rw [(h.used.alloc O).cell]; simp [usedCells, hi]

/-- What Layout leaves. -/
def LEnd (w : World) (K : Nat → Int) (n : Nat) (e : Ending) (w' : World) : Prop := Below w.heap.size w w' ∧
      ((layTo K n = none ∧ e = .returned (.tuple #[.slice none 0 0, .int .u8 0, .int .u8 0, .bool false])) ∨
       ∃ st v, layTo K n = some st ∧ e = .returned (.tuple #[v, .int .u8 st.data, .int .u8 st.ptrs, .bool true]) ∧ w'.ownsRow w.heap.size 82 4 v n (psCells st.ps))

theorem results_tmp4 {fn : Func} {t u v x : Tmp} (h : fn.results = #[.tmp t, .tmp u, .tmp v, .tmp x]) (tmps : Array Value) (P : Program) (w : World) :
    (results fn tmps).run P w = .ok (.tuple #[tmps.getD t undef, tmps.getD u undef, tmps.getD v undef, tmps.getD x undef]) w := by
  simp [results, h]

theorem cells_new (w : World) (l : List Value) (t : TypeId) (g : Nat) (hg : g = w.heap.size) : ∀ (j : Nat) (u : Value), l[j]? = some u → (w.alloc (.cells l.toArray t)).cell? ((⟨g, 0, none⟩ : Addr).add j) = some u := by
  intro j u hj
  subst hg
  have := (Blk.new w t l).cell j
  rw [hj] at this
  rw [Addr.add_lit, Nat.zero_add]
  exact this

theorem Blk.grown {w w' : World} {g : Nat} {e : TypeId} {l : List Value} {row : Option Nat} (h : Blk w g e l) (hg : w.grownBy w' row) (hne : some g ≠ row) : Blk w' g e l := by
  have := h.lt
  unfold Blk at *
  rw [hg.block g this hne]; exact h

theorem Below.growns {B : Nat} {a w w' : World} {g : Nat} (h : Below B a w) (hg : w.grownBy w' (some g)) (hB : B ≤ w.heap.size) (hr : B ≤ g) : Below B a w' :=
  h.grown hg hB (fun k hk => by cases hk; exact hr)

theorem plc_one (p : Plc) : ∀ u ∈ plcCells p, u.oneCell' = true := by
  intro u hu
  simp [plcCells] at hu
  rcases hu with rfl | rfl | rfl | rfl <;> rfl

theorem LRel.ptr {w wr : World} {K : Nat → Int} {n ub k : Nat} {st : LSt} {U : Nat → Nat} (h : LRel w wr K n ub k st U) (hlt : k < n) (h13 : ¬ 13 < K k) (hw0 : widB (K k) = 0) (hp : ¬ st.ptrs = 8)
    {O1 O2 : Obj} {w1 : World} (hown : w1.ownsRow w.heap.size 82 4 (.slice (some ⟨w.heap.size, 0, none⟩) (k + 1) n) (k + 1) (psCells st.ps ++ plcCells ⟨0, 0, st.ptrs, true⟩))
    (hg : ((wr.alloc O1).alloc O2).grownBy w1 (some w.heap.size)) : LRel w w1 K n ub (k + 1) { st with ps := st.ps ++ [⟨0, 0, st.ptrs, true⟩], ptrs := st.ptrs + 1 } U := by
  have hle := h.below.size
  refine ⟨by omega, ?_, h.bits, h.words, ?_, ((h.used.alloc O1).alloc O2).grown hg (by have := h.ub; simp; omega), ?_, h.ub⟩
  · simp [layTo, h.run, layStep, h13, hw0, ptrStep, hp]
  · rw [psCells_snoc]; exact hown
  · exact Below.growns ((h.below.alloc hle O1).alloc (by simp; omega) O2) hg (by simp; omega) (Nat.le_refl _)

theorem wid_parts (k : Int) (h : ¬ widB k = 0) : ∃ s c : Nat, widB k = (s : Int) ∧ 1 ≤ s ∧ s ≤ 64 ∧ s * c = 64 ∧ 64 / s = c := by
  rcases widB_cases k with h0 | h0 | h0 | h0 | h0 | h0
  · exact absurd h0 h
  · exact ⟨1, 64, by rw [h0]; rfl, by omega, by omega, rfl, rfl⟩
  · exact ⟨8, 8, by rw [h0]; rfl, by omega, by omega, rfl, rfl⟩
  · exact ⟨16, 4, by rw [h0]; rfl, by omega, by omega, rfl, rfl⟩
  · exact ⟨32, 2, by rw [h0]; rfl, by omega, by omega, rfl, rfl⟩
  · exact ⟨64, 1, by rw [h0]; rfl, by omega, by omega, rfl, rfl⟩

theorem or_val (u s r : Nat) (hu : u < 18446744073709551616) (h : r + s ≤ 64) :
    bits .or .u64 ↑u (IntKind.u64.wrap (18446744073709551615 / 2 ^ (64 - s) * 2 ^ r)) = ((u ||| ((2 ^ s - 1) * 2 ^ r) : Nat) : Int) := by
  have hq : 0 < (2 : Nat) ^ s := Nat.pow_pos (by omega)
  have hp : 0 < (2 : Nat) ^ r := Nat.pow_pos (by omega)
  have e1 : (2 : Nat) ^ s * 2 ^ r ≤ 18446744073709551616 := by
    rw [← Nat.pow_add]
    exact Nat.pow_le_pow_right (j := 64) (by omega) (by omega)
  have e2 : (2 ^ s - 1) * 2 ^ r < 18446744073709551616 := by
    rw [Nat.sub_mul, Nat.one_mul]; omega
  have e3 : (18446744073709551615 / 2 ^ (64 - s) * 2 ^ r : Int) = (((2 ^ s - 1) * 2 ^ r : Nat) : Int) := by
    rw [mask_int s (by omega)]; simp
  rw [e3, IntKind.wrap_u64]
  have e4 : ((((2 ^ s - 1) * 2 ^ r : Nat) : Int) % 18446744073709551616) = (((2 ^ s - 1) * 2 ^ r : Nat) : Int) := by
    generalize (2 ^ s - 1) * 2 ^ r = m at *
    omega
  rw [e4, u64_or_nat _ _ hu e2]

theorem updU_lt (U : Nat → Nat) (at_ s : Nat) (hU : ∀ i, U i < 18446744073709551616) (h : at_ % 64 + s ≤ 64) : ∀ i, updU U at_ s i < 18446744073709551616 := by
  intro i
  unfold updU
  split
  · have hq : 0 < (2 : Nat) ^ s := Nat.pow_pos (by omega)
    have hp : 0 < (2 : Nat) ^ (at_ % 64) := Nat.pow_pos (by omega)
    have e1 : (2 : Nat) ^ s * 2 ^ (at_ % 64) ≤ 18446744073709551616 := by
      rw [← Nat.pow_add]
      exact Nat.pow_le_pow_right (j := 64) (by omega) (by omega)
    refine Nat.or_lt_two_pow (n := 64) (hU i) ?_
    rw [Nat.sub_mul, Nat.one_mul]
    show _ < 18446744073709551616
    omega
  · exact hU i

theorem used_set (U : Nat → Nat) (at_ s q : Nat) (hq : at_ / 64 = q) (hq8 : q < 8) : (usedCells U).set q (.int .u64 (updU U at_ s q)) = usedCells (updU U at_ s) := by
  refine List.ext_getElem? fun i => ?_
  unfold usedCells
  rw [List.getElem?_set]
  by_cases h : q = i
  · subst h
    rw [if_pos rfl, if_pos (by simpa using hq8)]
    simp [hq8]
  · rw [if_neg h]
    by_cases hi : i < 8
    · simp [hi, updU, hq, Ne.symm h]
    · simp [hi]

theorem LRel.sc {w wr : World} {K : Nat → Int} {n ub k at_ s q : Nat} {st st' : LSt} {U : Nat → Nat} {p : Plc} (h : LRel w wr K n ub k st U) (hlt : k < n) (hrun : layTo K (k + 1) = some st')
    (hps : st'.ps = st.ps ++ [p]) (hf : st'.f = mark st.f at_ s) (hm : at_ % 64 + s ≤ 64) (hq : at_ / 64 = q) (hq8 : q < 8)
    {O1 O2 : Obj} {w1 : World} (hown : w1.ownsRow w.heap.size 82 4 (.slice (some ⟨w.heap.size, 0, none⟩) (k + 1) n) (k + 1) (psCells st.ps ++ plcCells p))
    (hg : (((wr.setCell ⟨ub, q, none⟩ (.int .u64 (updU U at_ s q))).alloc O1).alloc O2).grownBy w1 (some w.heap.size)) : LRel w w1 K n ub (k + 1) st' (updU U at_ s) := by
  have hle := h.below.size
  have hub := h.ub
  have hz : (wr.setCell ⟨ub, q, none⟩ (.int .u64 (updU U at_ s q))).heap.size = wr.heap.size := by simp [World.setCell]
  have hu := h.used.set q (.int .u64 (updU U at_ s q))
  rw [used_set U at_ s q hq hq8] at hu
  refine ⟨by omega, hrun, ?_, updU_lt U at_ s h.words hm, ?_, ((hu.alloc O1).alloc O2).grown hg (by simp; omega), ?_, h.ub⟩
  · rw [bitOf_upd U at_ s hm, h.bits, hf]
  · rw [hps, psCells_snoc]; exact hown
  · refine Below.growns (((h.below.setCell (by show _ ≤ ub; omega) _).alloc (by omega) O1).alloc (by simp; omega) O2) hg (by simp; omega) (Nat.le_refl _)

theorem LRel.ownA {w wr : World} {K : Nat → Int} {n ub k q : Nat} {v : Value} {st : LSt} {U : Nat → Nat} (h : LRel w wr K n ub k st U) :
    (wr.setCell ⟨ub, q, none⟩ v).ownsRow w.heap.size 82 4 (.slice (some ⟨w.heap.size, 0, none⟩) k n) k (psCells st.ps) := by
  refine h.own.kept (row := some ub) ⟨rfl, rfl, rfl, by simp [World.setCell], fun i hi hne => ?_⟩ (.inr ?_)
  · exact Below.heap_setCell _ _ _ _ (by simpa using hne)
  · have := h.ub
    simp [Value.ownBlock]; omega

theorem ffTo_lt {f : Nat → Bool} {s n j : Nat} (h : ffTo f s n = some j) : j < n := by
  unfold ffTo at h
  exact List.mem_range.1 (List.mem_of_find?_eq_some h)

theorem mod_room (s c j : Nat) (hsc : s * c = 64) (hs : 1 ≤ s) : j * s % 64 + s ≤ 64 := by
  have hc : 0 < c := by
    rcases Nat.eq_zero_or_pos c with h | h
    · subst h; simp at hsc
    · exact h
  have e : j * s % 64 = j % c * s := by rw [← hsc, Nat.mul_comm s c, Nat.mul_mod_mul_right]
  rw [e]
  exact add_c s c _ hsc (Nat.mod_lt _ hc)

theorem end_room (s c j d : Nat) (hsc : s * c = 64) (hj : j < d * c) : j * s + s ≤ 64 * d := by
  have h1 : (j + 1) * s ≤ d * c * s := Nat.mul_le_mul_right s hj
  rw [Nat.succ_mul, Nat.mul_assoc, Nat.mul_comm c s, hsc] at h1
  omega

theorem layTo_scal {K : Nat → Int} {k s : Nat} {st : LSt} (h : layTo K k = some st) (h13 : K k ≤ 13) (hw : widB (K k) = (s : Int)) (hs : 1 ≤ s) :
    layTo K (k + 1) = scal st s := by
  simp only [layTo, h, Option.bind_some, layStep]
  rw [if_neg (by omega), if_neg (by rw [hw]; omega), hw, Int.toNat_natCast]

theorem slu0 (ub : Nat) (wx : World) : (Instr.sliceAt 56 (.pointer (some ⟨ub, 0, none⟩)) none (some (.int .u8 0)) (some (.int .u8 0))).run Fafg.prog wx = .ok (.slice (some ⟨ub, 0, none⟩) 0 0) wx := by kernel_rfl
theorem slu1 (ub : Nat) (wx : World) : (Instr.sliceAt 56 (.pointer (some ⟨ub, 0, none⟩)) none (some (.int .u8 1)) (some (.int .u8 1))).run Fafg.prog wx = .ok (.slice (some ⟨ub, 0, none⟩) 1 1) wx := by kernel_rfl
theorem slu2 (ub : Nat) (wx : World) : (Instr.sliceAt 56 (.pointer (some ⟨ub, 0, none⟩)) none (some (.int .u8 2)) (some (.int .u8 2))).run Fafg.prog wx = .ok (.slice (some ⟨ub, 0, none⟩) 2 2) wx := by kernel_rfl
theorem slu3 (ub : Nat) (wx : World) : (Instr.sliceAt 56 (.pointer (some ⟨ub, 0, none⟩)) none (some (.int .u8 3)) (some (.int .u8 3))).run Fafg.prog wx = .ok (.slice (some ⟨ub, 0, none⟩) 3 3) wx := by kernel_rfl
theorem slu4 (ub : Nat) (wx : World) : (Instr.sliceAt 56 (.pointer (some ⟨ub, 0, none⟩)) none (some (.int .u8 4)) (some (.int .u8 4))).run Fafg.prog wx = .ok (.slice (some ⟨ub, 0, none⟩) 4 4) wx := by kernel_rfl
theorem slu5 (ub : Nat) (wx : World) : (Instr.sliceAt 56 (.pointer (some ⟨ub, 0, none⟩)) none (some (.int .u8 5)) (some (.int .u8 5))).run Fafg.prog wx = .ok (.slice (some ⟨ub, 0, none⟩) 5 5) wx := by kernel_rfl
theorem slu6 (ub : Nat) (wx : World) : (Instr.sliceAt 56 (.pointer (some ⟨ub, 0, none⟩)) none (some (.int .u8 6)) (some (.int .u8 6))).run Fafg.prog wx = .ok (.slice (some ⟨ub, 0, none⟩) 6 6) wx := by kernel_rfl
theorem slu7 (ub : Nat) (wx : World) : (Instr.sliceAt 56 (.pointer (some ⟨ub, 0, none⟩)) none (some (.int .u8 7)) (some (.int .u8 7))).run Fafg.prog wx = .ok (.slice (some ⟨ub, 0, none⟩) 7 7) wx := by kernel_rfl
theorem slu8 (ub : Nat) (wx : World) : (Instr.sliceAt 56 (.pointer (some ⟨ub, 0, none⟩)) none (some (.int .u8 8)) (some (.int .u8 8))).run Fafg.prog wx = .ok (.slice (some ⟨ub, 0, none⟩) 8 8) wx := by kernel_rfl
theorem slu (d : Nat) (h : d ≤ 8) (ub : Nat) (wx : World) : (Instr.sliceAt 56 (.pointer (some ⟨ub, 0, none⟩)) none (some (.int .u8 d)) (some (.int .u8 d))).run Fafg.prog wx = .ok (.slice (some ⟨ub, 0, none⟩) d d) wx := by
  have hc : d = 0 ∨ d = 1 ∨ d = 2 ∨ d = 3 ∨ d = 4 ∨ d = 5 ∨ d = 6 ∨ d = 7 ∨ d = 8 := by omega
  rcases hc with rfl | rfl | rfl | rfl | rfl | rfl | rfl | rfl | rfl
  · exact slu0 ub wx
  · exact slu1 ub wx
  · exact slu2 ub wx
  · exact slu3 ub wx
  · exact slu4 ub wx
  · exact slu5 ub wx
  · exact slu6 ub wx
  · exact slu7 ub wx
  · exact slu8 ub wx

theorem LRel.le {w wr : World} {K : Nat → Int} {n ub k : Nat} {st : LSt} {U : Nat → Nat} (h : LRel w wr K n ub k st U) : w.heap.size ≤ wr.heap.size := h.below.size

set_option maxHeartbeats 1000000 in
set_option maxRecDepth 100000 in
theorem layout_any (b off n cap : Nat) (K E F G : Nat → Int) (w : World) (hn : n ≤ 16) (hn0 : 0 < n) (hb : b < w.heap.size) (hK : ∀ i, 0 ≤ K i ∧ K i ≤ 255)
    (hc : ∀ i, i < n → w.cell? ⟨b, off + i * 4, none⟩ = some (.int .u8 (K i)) ∧ w.cell? ⟨b, off + i * 4 + 1, none⟩ = some (.int .u8 (E i)) ∧ w.cell? ⟨b, off + i * 4 + 2, none⟩ = some (.int .u8 (F i)) ∧ w.cell? ⟨b, off + i * 4 + 3, none⟩ = some (.int .u8 (G i))) :
    Calls Fafg.prog 27 #[.slice (some ⟨b, off, none⟩) n cap] w (LEnd w K n) := by
  obtain ⟨i82, hi, hz0, hz1, hz2⟩ := info_parts info82
  have h16 : decide ((16 : Int) < (n : Int)) = false := by simp; omega
  go_enter Fafg.func27, Fafg.ntmps27
  go_wp2_with (at_make; refine wpList_make_own _ rfl _ _ 77 rfl w.heap.size 82 i82 _ 4 Fafg.underlying77 hi hz0 hz1 .i64 .i64 _ n rfl rfl (by omega) (by rw [hz2]; omega) (by unfold maxLen; omega) (Nat.le_refl _) ?_; intro w1 hown hgrow)
  have hgt : w.heap.size < w1.heap.size := (hown.lt w.heap.size rfl).2
  have hst : LRel w (w1.alloc (.cells #[.int .u64 0, .int .u64 0, .int .u64 0, .int .u64 0, .int .u64 0, .int .u64 0, .int .u64 0, .int .u64 0] 56)) K n w1.heap.size 0 lay0 (fun _ => 0) :=
    ⟨by omega, rfl, by funext b; simp [bitOf, lay0], by intro i; decide, hown.alloc _, Blk.new _ _ _, ((Below.refl _ _).grown hgrow (Nat.le_refl _) (by simp)).alloc (by omega) _, hgt⟩
  clear hown hgrow hgt
  generalize w1.heap.size = ub at *
  go_loopw [2, 3, 4, 23] (fun ps data ptrs i wr => ∃ (k : Nat) (st : LSt) (U : Nat → Nat), LRel w wr K n ub k st U ∧ i = .int .i64 k ∧ data = .int .u8 st.data ∧ ptrs = .int .u8 st.ptrs ∧ ps = .slice (some ⟨w.heap.size, 0, none⟩) k n) (fun _ _ _ i _ => n - (intOf i).toNat)
  case atStart => exact ⟨0, lay0, _, hst, rfl, rfl, rfl, rfl⟩
  case round =>
    obtain ⟨k, st, U, hR, rfl, rfl, rfl, rfl⟩ := hrel
    clear hst
    have hkn := hR.kn
    have hok := layTo_ok K k st hR.run
    have hd8 := hok.data
    have hp8 := hok.ptrs
    by_cases hlt : k < n
    · obtain ⟨c0, c1, c2, c3⟩ := hc k hlt
      rw [← hR.below.cell (by exact hb)] at c0 c1 c2 c3
      clear hc
      obtain ⟨hk0, hk1⟩ := hK k
      by_cases h13 : 13 < K k
      · have hno : Hid (layTo K n = none) := layTo_none K (k + 1) n (by simp [layTo, hR.run, layStep, h13]) (by omega)
        go_wp2_with (go_at_call 55; refine (widthOf_any _ _ (by omega) (by omega)).mono ?_; rintro e w' ⟨rfl, rfl⟩)
        refine bodyPost_ret (results_tmp4 rfl _ _ _) rfl ⟨hR.below.alloc hR.le _, .inl ⟨hno, rfl⟩⟩
      · by_cases hw0 : widB (K k) = 0
        · have hw0b : (widB (K k) == 0) = true := by simp [hw0]
          by_cases hp : st.ptrs = 8
          · have hno : Hid (layTo K n = none) := layTo_none K (k + 1) n (by simp [layTo, hR.run, layStep, h13, hw0, ptrStep, hp]) (by omega)
            have hpb : ((st.ptrs : Int) == 8) = true := by simp [hp]
            clear hp
            go_wp2_with (go_at_call 55; refine (widthOf_any _ _ (by omega) (by omega)).mono ?_; rintro e w' ⟨rfl, rfl⟩)
            refine bodyPost_ret (results_tmp4 rfl _ _ _) rfl ⟨hR.below.alloc hR.le _, .inl ⟨hno, rfl⟩⟩
          · have hpb : ((st.ptrs : Int) == 8) = false := by simp; omega
            go_wp2_with (first | (go_at_call 55; refine (widthOf_any _ _ (by omega) (by omega)).mono ?_; rintro e w' ⟨rfl, rfl⟩) | (at_builtin; go_must (refine wpList_append_fits _ rfl _ _ 77 rfl w.heap.size 82 i82 4 Fafg.underlying77 hi hz1 w.heap.size k n (psCells st.ps) rfl ((hR.own.alloc _).alloc _) ⟨wr.heap.size + 1, 0, none⟩ 1 1 (plcCells ⟨0, 0, st.ptrs, true⟩) rfl rfl (cells_new _ _ _ _ (by simp)) (plc_one _) (by omega) ?_); intro w2 hown2 hgrow2))
            go_roundw
            case rel => exact ⟨k + 1, _, U, hR.ptr hlt (by omega) hw0 hp hown2 hgrow2, by go_num, rfl, by go_num, rfl⟩
            case measure => simp [intOf]; omega
        · obtain ⟨s, c, hws, hs1, hs64, hsc, hdc⟩ := wid_parts (K k) hw0
          have hw0b : (widB (K k) == 0) = false := by simp [hw0]
          have hs0 : ((s : Int) == 0) = false := by simp; omega
          have Hsc : Hid (s * c = 64) := hsc
          have Hdc : Hid (64 / s = c) := hdc
          have Hw0 : Hid (¬ widB (K k) = 0) := hw0
          clear hsc hdc hw0
          have Hbits : Hid (bitOf U = st.f) := hR.bits
          have hub : ub < wr.heap.size := hR.used.lt
          have Hwords : Hid (∀ i, U i < 18446744073709551616) := hR.words
          cases hff : ffTo st.f s (st.data * c) with
          | some j =>
            have hfa : fitAt (bitOf U) s (st.data * c) = ((j * s : Nat) : Int) := by unfold fitAt; rw [Hbits.out, hff]
            have hfo : fitOk (bitOf U) s (st.data * c) = true := by unfold fitOk; rw [Hbits.out, hff]
            have Hff : Hid (ffTo st.f s (st.data * c) = some j) := hff
            clear hff
            have hfit := fun wx hcx => fit_any ub U s st.data c hs1 hs64 Hsc.out hd8 wx Hwords.out hcx
            rw [hfa, hfo] at hfit
            have Hfit := hfit
            have HF : Hid (∀ (wx : World), (∀ (i : Nat), i < st.data → wx.cell? ⟨ub, i, none⟩ = some (Value.int IntKind.u64 ↑(U i))) → Calls Fafg.prog 56 #[Value.slice (some ⟨ub, 0, none⟩) st.data st.data, Value.int IntKind.u8 ↑s] wx fun e w' => e = Ending.returned (Value.tuple #[Value.int IntKind.u16 ↑(j * s), Value.bool true]) ∧ w' = wx) := Hfit
            clear hfit Hfit hfa hfo
            generalize hat : j * s = at_ at *
            have hat512 : at_ + s ≤ 512 := by have := end_room s c j st.data Hsc.out (ffTo_lt Hff.out); omega
            have hatm : at_ % 64 + s ≤ 64 := by have := mod_room s c j Hsc.out hs1; omega
            generalize hq : at_ / 64 = q at *
            generalize hr : at_ % 64 = r at *
            have hqi : (at_ : Int) / 64 = (q : Int) := by omega
            have hri : (at_ : Int) % 64 = (r : Int) := by omega
            have hq8 : q < 8 := by omega
            have hcq := fun O => hR.cellA O q hq8
            have hfq := fun O => (hR.used.alloc O).frozen q
            have Hq : Hid (at_ / 64 = q) := hq
            have Hr : Hid (at_ % 64 = r) := hr
            have Hat : Hid (j * s = at_) := hat
            clear hq hr hat
            have hX := or_val (U q) s r (Hwords.out q) hatm
            have eX : (U q ||| ((2 ^ s - 1) * 2 ^ r)) = updU U at_ s q := by unfold updU; rw [Hq.out, Hr.out, if_pos rfl]
            rw [eX] at hX
            clear eX
            have hjs : (at_ : Int) / (s : Int) = (j : Int) := by
              rw [← Hat.out, Int.natCast_mul]; exact Int.mul_ediv_cancel _ (by omega)
            have hj5 : j ≤ 512 := by
              have := Nat.le_mul_of_pos_right j (show 0 < s by omega)
              have := Hat.out
              omega
            have hsl := slu st.data hd8 ub
            go_wp2_with (first | (go_at_call 55; refine (widthOf_any _ _ (by omega) (by omega)).mono ?_; rintro e w' ⟨rfl, rfl⟩) | (go_at_call 56; go_must (refine (HF.out _ ?hcx).mono ?_; (case hcx => intro i hi; exact hR.cellA _ i (by omega)); rintro e w' ⟨rfl, rfl⟩)) | (at_builtin; go_must (refine wpList_append_fits _ rfl _ _ 77 rfl w.heap.size 82 i82 4 Fafg.underlying77 hi hz1 w.heap.size k n (psCells st.ps) rfl ((hR.ownA.alloc _).alloc _) ⟨wr.heap.size + 1, 0, none⟩ 1 1 (plcCells ⟨s, j, 0, false⟩) rfl rfl (cells_new _ _ _ _ (by simp [World.setCell])) (plc_one _) (by omega) ?_); intro w2 hown2 hgrow2))
            go_roundw
            case rel => exact ⟨k + 1, { st with ps := st.ps ++ [⟨s, j, 0, false⟩], f := mark st.f (j * s) s }, updU U at_ s, hR.sc hlt (by rw [layTo_scal hR.run (by omega) hws hs1]; simp [scal, Hdc.out, Hff.out]) rfl (by rw [Hat.out]) (by rw [Hr.out]; exact hatm) Hq.out hq8 hown2 hgrow2, by go_num, rfl, rfl, rfl⟩
            case measure => simp [intOf]; omega
          | none =>
            have hfa : fitAt (bitOf U) s (st.data * c) = 0 := by unfold fitAt; rw [Hbits.out, hff]
            have hfo : fitOk (bitOf U) s (st.data * c) = false := by unfold fitOk; rw [Hbits.out, hff]
            have Hff : Hid (ffTo st.f s (st.data * c) = none) := hff
            clear hff
            have hfit := fun wx hcx => fit_any ub U s st.data c hs1 hs64 Hsc.out hd8 wx Hwords.out hcx
            rw [hfa, hfo] at hfit
            have HF : Hid (∀ (wx : World), (∀ (i : Nat), i < st.data → wx.cell? ⟨ub, i, none⟩ = some (Value.int IntKind.u64 ↑(U i))) → Calls Fafg.prog 56 #[Value.slice (some ⟨ub, 0, none⟩) st.data st.data, Value.int IntKind.u8 ↑s] wx fun e w' => e = Ending.returned (Value.tuple #[Value.int IntKind.u16 0, Value.bool false]) ∧ w' = wx) := hfit
            clear hfit hfa hfo
            have hsl := slu st.data hd8 ub
            by_cases hd : st.data = 8
            · have hdb : ((st.data : Int) == 8) = true := by simp [hd]
              have hno : Hid (layTo K n = none) := layTo_none K (k + 1) n (by rw [layTo_scal hR.run (by omega) hws hs1]; unfold scal; rw [Hdc.out, Hff.out]; simp [hd]) (by omega)
              clear hd
              go_wp2_with (first | (go_at_call 55; refine (widthOf_any _ _ (by omega) (by omega)).mono ?_; rintro e w' ⟨rfl, rfl⟩) | (go_at_call 56; go_must (refine (HF.out _ ?hcx).mono ?_; (case hcx => intro i hi; exact hR.cellA _ i (by omega)); rintro e w' ⟨rfl, rfl⟩)))
              refine bodyPost_ret (results_tmp4 rfl _ _ _) rfl ⟨hR.below.alloc hR.le _, .inl ⟨hno, rfl⟩⟩
            · have hdb : ((st.data : Int) == 8) = false := by simp; omega
              have hqi : ((st.data : Int) * 64) / 64 = (st.data : Int) := by omega
              have hri : ((st.data : Int) * 64) % 64 = 0 := by omega
              have hji : ((st.data : Int) * 64).tdiv (s : Int) = ((st.data * 64 / s : Nat) : Int) := by rw [Int.tdiv_eq_ediv_of_nonneg (by omega)]; simp
              have hj5 : st.data * 64 / s ≤ 512 := Nat.le_trans (Nat.div_le_self _ _) (by omega)
              have hq8 : st.data < 8 := by omega
              have hcq := fun O => hR.cellA O st.data hq8
              have hfq := fun O => (hR.used.alloc O).frozen st.data
              have hX := or_val (U st.data) s 0 (Hwords.out _) (by omega)
              have eX : (U st.data ||| ((2 ^ s - 1) * 2 ^ 0)) = updU U (st.data * 64) s st.data := by unfold updU; rw [if_pos (by omega), show st.data * 64 % 64 = 0 by omega]
              rw [eX] at hX
              simp only [Int.pow_zero, Int.mul_one] at hX
              clear eX
              generalize hJ : st.data * 64 / s = J at *
              have HJ : Hid (st.data * 64 / s = J) := hJ
              clear hJ
              go_wp2_with (first | (go_at_call 55; refine (widthOf_any _ _ (by omega) (by omega)).mono ?_; rintro e w' ⟨rfl, rfl⟩) | (go_at_call 56; go_must (refine (HF.out _ ?hcx).mono ?_; (case hcx => intro i hi; exact hR.cellA _ i (by omega)); rintro e w' ⟨rfl, rfl⟩)) | (at_builtin; go_must (refine wpList_append_fits _ rfl _ _ 77 rfl w.heap.size 82 i82 4 Fafg.underlying77 hi hz1 w.heap.size k n (psCells st.ps) rfl ((hR.ownA.alloc _).alloc _) ⟨wr.heap.size + 1, 0, none⟩ 1 1 (plcCells ⟨s, J, 0, false⟩) rfl rfl (cells_new _ _ _ _ (by simp [World.setCell])) (plc_one _) (by omega) ?_); intro w2 hown2 hgrow2))
              go_roundw
              case rel => exact ⟨k + 1, { st with ps := st.ps ++ [⟨s, J, 0, false⟩], data := st.data + 1, f := mark st.f (st.data * 64) s }, updU U (st.data * 64) s, hR.sc hlt (by rw [layTo_scal hR.run (by omega) hws hs1]; simp only [scal, Hdc.out, Hff.out, HJ.out]; rw [if_neg hd]) rfl rfl (by omega) (by omega) hq8 hown2 hgrow2, by go_num, by go_num, rfl, rfl⟩
              case measure => simp [intOf]; omega
    · have hkn2 : k = n := by omega
      subst hkn2
      go_wp2
      refine bodyPost_ret (results_tmp4 rfl _ _ _) rfl ⟨hR.below, .inr ⟨st, _, hR.run, rfl, hR.own⟩⟩
end Go.Proofs.Ygcfaf
