import Derived.Test.YgcfafP3
namespace Go.Proofs.Ygcfaf
open Go.RowKit
set_option linter.unusedVariables false

structure Use where
  at_ : Nat
  strct : Nat
  field : Nat
  name : ByteArray

def useCells (u : Use) : List Value := [.int .i64 u.at_, .int .i64 u.strct, .int .i64 u.field, .string u.name]
def usesRow (us : List Use) : List Value := us.flatMap useCells
theorem usesRow_snoc (us : List Use) (u : Use) : usesRow (us ++ [u]) = usesRow us ++ useCells u := by simp [usesRow]
theorem useCells_one (u : Use) : ∀ x ∈ useCells u, x.oneCell' = true := by
  intro x hx
  simp [useCells] at hx
  rcases hx with rfl | rfl | rfl | rfl <;> rfl

theorem info295 : (Fafg.prog.info? 295).map (fun i => (i.zero, i.size, i.bytes)) = some (some (.agg #[.int .i64 0, .int .i64 0, .int .i64 0, .string ⟨#[]⟩]), 4, 40) := by kernel_rfl

/-- The parser's cells from 'code' on. -/
def xCells (Sv : Value) (nums : List Int) (Uv : Value) : List Value := .int .u8 0 :: .int .i64 0 :: Sv :: (nums.map (Value.int .i64) ++ [Uv])

/-- Old memory, and all blocks but the parser and the rows of uses, are as they were. -/
structure Kq (b0 : Nat) (w w' : World) : Prop where
  below : Below b0 w w'
  other : ∀ (g : Nat) (cur : Array Value) (e : TypeId) (fz : Nat × Nat), w.heap[g]? = some (Obj.cells cur e fz) → e ≠ 223 → e ≠ 295 → w'.heap[g]? = some (Obj.cells cur e fz)

theorem Kq.refl (B : Nat) (w : World) : Kq B w w := ⟨Below.refl _ _, fun _ _ _ _ h _ _ => h⟩
theorem Kq.trans {B : Nat} {a b c : World} (h : Kq B a b) (k : Kq B b c) : Kq B a c := ⟨h.below.trans k.below, fun g cur e fz hg h1 h2 => k.other g cur e fz (h.other g cur e fz hg h1 h2) h1 h2⟩
theorem Kq.alloc {B : Nat} {a w : World} (h : Kq B a w) (hB : B ≤ w.heap.size) (o : Obj) : Kq B a (w.alloc o) :=
  ⟨h.below.alloc hB o, fun g cur e fz hg h1 h2 => by have := h.other g cur e fz hg h1 h2; rw [Below.heap_alloc _ _ _ (heap_lt this)]; exact this⟩
theorem Kq.drewN {B : Nat} {a w : World} (h : Kq B a w) (n : Nat) : Kq B a (w.drewN n) := ⟨below_drewN h.below n, h.other⟩
theorem Kq.blk {B : Nat} {w w' : World} (h : Kq B w w') {g : Nat} {e : TypeId} {l : List Value} (hb : Blk w g e l) (h1 : e ≠ 223) (h2 : e ≠ 295) : Blk w' g e l := h.other g _ e _ hb h1 h2
theorem Only.kq {p B : Nat} {w w' : World} {l : List Value} (h : Only p w w') (hp : Blk w p 223 l) (hB : B ≤ p) : Kq B w w' := by
  refine ⟨⟨h.os, h.tape, h.output, by rw [h.size]; exact Nat.le_refl _, fun g hg => h.block g (by omega)⟩, fun g cur e fz hg h1 _ => ?_⟩
  rw [h.block g ?_]
  · exact hg
  · intro hgp
    subst hgp
    unfold Blk at hp
    rw [hg] at hp
    simp at hp
    exact h1 hp.2.1

/-- A row of the call's own of another element type than the one block that has turned. -/
theorem Only.row {p base : Nat} {w w' : World} {l : List Value} {e : TypeId} {size n : Nat} {v : Value} {xs : List Value} (h : Only p w w') (hp : Blk w p 223 l) (he : e ≠ 223) (hr : w.ownsRow base e size v n xs) : w'.ownsRow base e size v n xs := by
  refine ⟨hr.1, ?_⟩
  rcases hr.2 with hn | ⟨g, cap, cur, hv, hb, hh, rest⟩
  · exact .inl hn
  · refine .inr ⟨g, cap, cur, hv, hb, ?_, rest⟩
    rw [h.block g ?_]
    · exact hh
    · intro hgp
      subst hgp
      unfold Blk at hp
      rw [hh] at hp
      simp at hp
      exact he hp.2

theorem tn_facts (k : Nat) (h : k ≤ 11) : nameL (tnL k) = true ∧ kindL (tnL k) = some k ∧ (tnL k == listL) = false := by
  have hc : k = 0 ∨ k = 1 ∨ k = 2 ∨ k = 3 ∨ k = 4 ∨ k = 5 ∨ k = 6 ∨ k = 7 ∨ k = 8 ∨ k = 9 ∨ k = 10 ∨ k = 11 := by omega
  rcases hc with rfl | rfl | rfl | rfl | rfl | rfl | rfl | rfl | rfl | rfl | rfl | rfl <;> decide

theorem repL_cons (n : Nat) (x : List UInt8) : repL (n + 1) x = x ++ repL n x := by simp [repL, List.replicate_succ]

/-- The names of the structs are such. -/
structure Names (ss : List Str) : Prop where
  name : ∀ s ∈ ss, nameL s.name.data.toList = true
  cap : ∀ s ∈ ss, capL s.name.data.toList = true
  nb : ∀ s ∈ ss, builtL s.name.data.toList = false

theorem ShapedP.names {ss : List Str} (h : ShapedP ss) : Names ss := by
  refine ⟨fun s hs => ?_, fun s hs => ?_, fun s hs => ?_⟩ <;> obtain ⟨k, hk⟩ := List.getElem?_of_mem hs
  · exact (h.whole k s hk).name
  · exact (h.whole k s hk).cap
  · exact (h.whole k s hk).nb

/-- What the heart of a type reads as. -/
structure CoreP (ss : List Str) (t : Typ) : Prop where
  name : nameL (coreText ss t) = true
  notList : (coreText ss t == listL) = false
  kind : t.core ≠ 13 → kindL (coreText ss t) = some t.core
  named : t.core = 13 → kindL (coreText ss t) = none ∧ capL (coreText ss t) = true

theorem core_p {ss : List Str} (hn : Names ss) {t : Typ} (ht : typeB t ss.length = true) : CoreP ss t := by
  obtain ⟨hc12, hc13, hn2, hcr⟩ := core_of ht
  by_cases h13 : t.core = 13
  · have hrl := hcr h13
    have hm : ss[t.ref] ∈ ss := List.getElem_mem _
    have e : coreText ss t = ss[t.ref].name.data.toList := by
      unfold coreText nameAt
      rw [if_pos h13, List.getElem?_eq_getElem hrl]
    have hb := hn.nb _ hm
    unfold builtL kindOk at hb
    rw [Bool.or_eq_false_iff] at hb
    rw [← e] at hb
    refine ⟨by rw [e]; exact hn.name _ hm, hb.2, fun h => absurd h13 h, fun _ => ⟨by simpa using hb.1, by rw [e]; exact hn.cap _ hm⟩⟩
  · have e : coreText ss t = tnL t.core := by unfold coreText; rw [if_neg h13]
    obtain ⟨h1, h2, h3⟩ := tn_facts t.core (by omega)
    exact ⟨by rw [e]; exact h1, by rw [e]; exact h3, fun _ => by rw [e]; exact h2, fun h => absurd h h13⟩
end Go.Proofs.Ygcfaf
