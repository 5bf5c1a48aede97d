import Derived.Test.YgcfafS5
import Derived.Lib.AppendStr
import Derived.Deep.RegionLaw
namespace Go.Proofs.Ygcfaf
open Go.RowKit
set_option linter.unusedVariables false

theorem info5 : (Fafg.prog.info? 5).map (fun i => (i.zero, i.size, i.bytes)) = some (some (.int .u8 0), 1, 1) := by kernel_rfl

def byteCells (l : List UInt8) : List Value := l.map fun c => .int .u8 c.toNat

theorem byteCells_app (a b : List UInt8) : byteCells (a ++ b) = byteCells a ++ byteCells b := by simp [byteCells]
theorem byteCells_len (l : List UInt8) : (byteCells l).length = l.length := by simp [byteCells]
theorem byteCells_one (l : List UInt8) : ∀ u ∈ byteCells l, u.oneCell' = true := by
  intro u hu
  simp only [byteCells, List.mem_map] at hu
  obtain ⟨c, _, rfl⟩ := hu
  rfl

/-- A buffer of bytes that the call owns: its blocks from 'base' on. -/
def Buf (w : World) (base : Nat) (v : Value) (l : List UInt8) : Prop := w.ownsRow base 5 1 v l.length (byteCells l)

/-- Old memory, and all blocks but those of bytes, are as they were. -/
structure Kp (B : Nat) (w w' : World) : Prop where
  below : Below B w w'
  other : ∀ (g : Nat) (cur : Array Value) (e : TypeId) (fz : Nat × Nat), w.heap[g]? = some (Obj.cells cur e fz) → e ≠ 5 → w'.heap[g]? = some (Obj.cells cur e fz)

theorem Kp.refl (B : Nat) (w : World) : Kp B w w := ⟨Below.refl _ _, fun _ _ _ _ h _ => h⟩
theorem Kp.trans {B : Nat} {a b c : World} (h : Kp B a b) (k : Kp B b c) : Kp B a c := ⟨h.below.trans k.below, fun g cur e fz hg he => k.other g cur e fz (h.other g cur e fz hg he) he⟩
theorem heap_lt {w : World} {g : Nat} {o : Obj} (h : w.heap[g]? = some o) : g < w.heap.size := (Array.getElem?_eq_some_iff.1 h).1
theorem Kp.alloc {B : Nat} {a w : World} (h : Kp B a w) (hB : B ≤ w.heap.size) (o : Obj) : Kp B a (w.alloc o) :=
  ⟨h.below.alloc hB o, fun g cur e fz hg he => by have := h.other g cur e fz hg he; rw [Below.heap_alloc _ _ _ (heap_lt this)]; exact this⟩
theorem Kp.drewN {B : Nat} {a w : World} (h : Kp B a w) (n : Nat) : Kp B a (w.drewN n) := ⟨below_drewN h.below n, h.other⟩
theorem Kp.drew {B : Nat} {a w : World} (h : Kp B a w) : Kp B a w.drew := ⟨h.below.drew, h.other⟩
theorem Kp.blk {B : Nat} {w w' : World} (h : Kp B w w') {g : Nat} {e : TypeId} {l : List Value} (hb : Blk w g e l) (he : e ≠ 5) : Blk w' g e l := h.other g _ e _ hb he
theorem Kp.mono {B B' : Nat} {w w' : World} (h : Kp B w w') (hB : B' ≤ B) : Kp B' w w' := ⟨h.below.mono hB, h.other⟩

theorem Kp.buf {B : Nat} {a w w' : World} {v : Value} {l : List UInt8} (h : Kp B a w) (hb : Buf w B v l) (hg : w.grownBy w' v.ownBlock) (hB : B ≤ w.heap.size) : Kp B a w' := by
  refine h.trans ⟨(Below.refl _ _).grown hg hB (fun k hk => (hb.lt k hk).1), fun g cur e fz hgg he => ?_⟩
  rw [hg.block g (heap_lt hgg) ?_]
  · exact hgg
  · intro hk
    rcases hb.2 with ⟨rfl, _⟩ | ⟨g', cap, cur', hv, _, hh, _⟩
    · simp [Value.ownBlock] at hk
    · rw [hv] at hk
      simp [Value.ownBlock] at hk
      subst hk
      rw [hgg] at hh
      simp at hh
      exact he hh.2.1

theorem Buf.nil (w : World) (base : Nat) : Buf w base (.slice none 0 0) [] := World.ownsRow_nil _ _ _ _
theorem Buf.alloc {w : World} {base : Nat} {v : Value} {l : List UInt8} (h : Buf w base v l) (o : Obj) : Buf (w.alloc o) base v l := World.ownsRow.alloc h o
theorem Buf.drewN {w : World} {base : Nat} {v : Value} {l : List UInt8} (h : Buf w base v l) (n : Nat) : Buf (w.drewN n) base v l := h

section
variable {w : World} {ops : Array Oper} {rest : List Oper} {o : Oper} {a : Act} {Q : Exit → Act → World → Prop} {K : Act → World → Prop}

theorem run_buf_str (ty : TypeId) (base : Nat) (v : Value) (l : List UInt8) (hown : Buf w base v l) (s : ByteArray)
    (hbytes : l.length + s.size ≤ 1000000) (hbase : base ≤ w.heap.size) :
    ∃ v' w', (Builtin.append_ #[41, 9] ty #[v, .string s]).run Fafg.prog w = .ok v' w' ∧ Buf w' base v' (l ++ s.data.toList) ∧ w.grownBy w' v.ownBlock := by
  obtain ⟨i, hi, hz0, hz1, hz2⟩ := info_parts info5
  obtain ⟨v', w', h1, h2, h3, _⟩ := Lib.run_append_own_string (P := Fafg.prog) w base 41 9 ty 5 i Fafg.underlying41 Fafg.underlying9 hi hz0 hz1 hz2 v l.length (byteCells l) hown s (by unfold maxLen; omega) (by omega) hbase
  refine ⟨v', w', h1, ?_, h3⟩
  unfold Buf
  rw [byteCells_app, List.length_append, ← Lib.size_eq]
  exact h2

theorem run_buf_bytes (ty : TypeId) (base : Nat) (v : Value) (l : List UInt8) (hown : Buf w base v l) (ad : Addr) (c : Nat) (m : List UInt8) (hc : ∀ j u, (byteCells m)[j]? = some u → w.cell? (ad.add j) = some u)
    (hbytes : l.length + m.length ≤ 1000000) (hbase : base ≤ w.heap.size) :
    ∃ v' w', (Builtin.append_ #[41, 41] ty #[v, .slice (some ad) m.length c]).run Fafg.prog w = .ok v' w' ∧ Buf w' base v' (l ++ m) ∧ w.grownBy w' v.ownBlock := by
  obtain ⟨i, hi, hz0, hz1, hz2⟩ := info_parts info5
  obtain ⟨v', w', h1, h2, h3, _⟩ := run_append_own (P := Fafg.prog) w base 41 ty 5 i (.int .u8 0) 1 1 Fafg.underlying41 hi hz0 hz1 hz2 rfl (by decide) v l.length (byteCells l) hown ad m.length c (byteCells m) (by rw [byteCells_len]; omega) hc (byteCells_one m) (by unfold maxLen; omega) (by omega) hbase
  refine ⟨v', w', h1, ?_, h3⟩
  unfold Buf
  rw [byteCells_app, List.length_append]
  exact h2

theorem wp_buf_str (s x : Operand) (ho : o.op = .call { callee := .builtin .append, args := #[s, x], argTypes := #[41, 9] })
    (base : Nat) (v : Value) (l : List UInt8) (hs : a.eval s = v) (hown : Buf w base v l) (t : ByteArray) (hx : a.eval x = .string t)
    (hbytes : l.length + t.size ≤ 1000000) (hbase : base ≤ w.heap.size)
    (h : ∀ v' w', Buf w' base v' (l ++ t.data.toList) → w.grownBy w' v.ownBlock → K (a.put o.dst v') w') : o.wp Fafg.prog a w K Q := by
  obtain ⟨v', w', hr, h2, h3⟩ := run_buf_str (w := w) o.type base v l hown t hbytes hbase
  unfold Oper.wp execOp
  simp only [ho, resolve, invoke, builtin, Sem.run_bind, Sem.run_pure, Result.andThen_ok, List.map_toArray, List.map_cons, List.map_nil, hs, hx, hr]
  exact h v' w' h2 h3

theorem wpList_buf_str (hgd : o.guard = none) (s x : Operand) (ho : o.op = .call { callee := .builtin .append, args := #[s, x], argTypes := #[41, 9] })
    (base : Nat) (v : Value) (l : List UInt8) (hs : a.eval s = v) (hown : Buf w base v l) (t : ByteArray) (hx : a.eval x = .string t)
    (hbytes : l.length + t.size ≤ 1000000) (hbase : base ≤ w.heap.size)
    (h : ∀ v' w', Buf w' base v' (l ++ t.data.toList) → w.grownBy w' v.ownBlock → wpList Fafg.prog ops Q rest (a.put o.dst v') w') : wpList Fafg.prog ops Q (o :: rest) a w :=
  wpList_plain hgd fun _ hK => wp_buf_str s x ho base v l hs hown t hx hbytes hbase fun v' w' h2 h3 => hK _ _ (h v' w' h2 h3)

theorem step_buf_str {E : Prop} (hgd : o.guard = none) (s x : Operand) (ho : o.op = .call { callee := .builtin .append, args := #[s, x], argTypes := #[41, 9] })
    (base : Nat) (v : Value) (l : List UInt8) (hs : a.eval s = v) (hown : Buf w base v l) (t : ByteArray) (hx : a.eval x = .string t)
    (hbytes : l.length + t.size ≤ 1000000) (hbase : base ≤ w.heap.size)
    (h : ∀ v' w', Buf w' base v' (l ++ t.data.toList) → w.grownBy w' v.ownBlock → K (a.put o.dst v') w') : if Region.wanted o (yielded ops a.tmps) = true then Oper.wp Fafg.prog o a w K Q else E := by
  rw [if_pos (by simp [Region.wanted, hgd])]
  exact wp_buf_str s x ho base v l hs hown t hx hbytes hbase h

theorem wpList_buf_bytes (hgd : o.guard = none) (s x : Operand) (ho : o.op = .call { callee := .builtin .append, args := #[s, x], argTypes := #[41, 41] })
    (base : Nat) (v : Value) (l : List UInt8) (hs : a.eval s = v) (hown : Buf w base v l) (ad : Addr) (c : Nat) (m : List UInt8) (hx : a.eval x = .slice (some ad) m.length c)
    (hc : ∀ j u, (byteCells m)[j]? = some u → w.cell? (ad.add j) = some u)
    (hbytes : l.length + m.length ≤ 1000000) (hbase : base ≤ w.heap.size)
    (h : ∀ v' w', Buf w' base v' (l ++ m) → w.grownBy w' v.ownBlock → wpList Fafg.prog ops Q rest (a.put o.dst v') w') : wpList Fafg.prog ops Q (o :: rest) a w := by
  refine wpList_plain hgd fun K hK => ?_
  obtain ⟨v', w', hr, h2, h3⟩ := run_buf_bytes (w := w) o.type base v l hown ad c m hc hbytes hbase
  unfold Oper.wp execOp
  simp only [ho, resolve, invoke, builtin, Sem.run_bind, Sem.run_pure, Result.andThen_ok, List.map_toArray, List.map_cons, List.map_nil, hs, hx, hr]
  exact hK _ _ (h v' w' h2 h3)
end
end Go.Proofs.Ygcfaf
