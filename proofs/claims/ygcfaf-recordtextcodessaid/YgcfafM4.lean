/- The relation between the machine's state and the model's. -/
import Derived.Test.YgcfafM2
namespace Go.Proofs.Ygcfaf.Mach
open Go
set_option linter.unusedVariables false

/-- A block's number in the machine: the model's block, and the capacity of the row. -/
abbrev Mp := Nat → Option (Nat × Nat)

inductive CR (m : Mp) : Value → Value → Prop where
  | gr {v : Value} : gr1 v = true → CR m v v
  | ptr {b o cb cap : Nat} : m b = some (cb, cap) → CR m (.pointer (some ⟨b, o, none⟩)) (.pointer (some ⟨cb, o, none⟩))
  | slc {b n cb cap : Nat} : m b = some (cb, cap) → CR m (.slice (some ⟨b, 0, none⟩) n 0) (.slice (some ⟨cb, 0, none⟩) n cap)
  | slk {b n c cb cap : Nat} : m b = some (cb, cap) → CR m (.slice (some ⟨b, 0, none⟩) n (c + 1)) (.slice (some ⟨cb, 0, none⟩) n c)
inductive V1 (m : Mp) : Value → Value → Prop where
  | cell {v v' : Value} : CR m v v' → V1 m v v'
  | agg {x y : List Value} : L2 (CR m) x y → V1 m (.agg ⟨x⟩) (.agg ⟨y⟩)
inductive VR (m : Mp) : Value → Value → Prop where
  | one {v v' : Value} : V1 m v v' → VR m v v'
  | tup {x y : List Value} : L2 (V1 m) x y → VR m (.tuple ⟨x⟩) (.tuple ⟨y⟩)
def EV (m : Mp) (v v' : Value) : Prop := v = .nilIface ∨ VR m v v'

theorem VR.grd {m : Mp} {v : Value} (h : gr1 v = true) : VR m v v := .one (.cell (.gr h))
theorem VR.undef (m : Mp) : VR m undef undef := .tup .nil
theorem VR.aggGr {m : Mp} {x : List Value} (h : x.all gr1 = true) : VR m (.agg ⟨x⟩) (.agg ⟨x⟩) := by
  refine .one (.agg ?_)
  induction x with
  | nil => exact .nil
  | cons a t ih => simp at h; exact .cons (.gr h.1) (ih (by simpa using h.2))
theorem L2.grs {m : Mp} {x : List Value} (h : x.all gr1 = true) : L2 (CR m) x x := by
  induction x with
  | nil => exact .nil
  | cons a t ih => simp at h; exact .cons (.gr h.1) (ih (by simpa using h.2))
theorem VR.grAll {m : Mp} {v : Value} (h : gr v = true) : VR m v v := by
  unfold gr at h
  split at h
  · exact .aggGr h
  · exact .grd h

section inv
variable {m : Mp} {v' : Value}
theorem CR.one {v : Value} (h : CR m v v') : v'.oneCell' = true := by
  cases h with
  | gr h => cases v' <;> first | rfl | simp [gr1] at h
  | ptr _ => rfl
  | slc _ => rfl
  | slk _ => rfl
theorem V1.okC {v : Value} (h : V1 m v v') : okC v = true := by
  cases h with
  | cell h => cases h with
    | gr h => cases v' <;> first | rfl | simp [gr1] at h
    | ptr _ => rfl
    | slc _ => rfl
    | slk _ => rfl
  | agg _ => rfl
theorem VR.v1 {v : Value} (h : VR m v v') (hc : okC v = true) : V1 m v v' := by
  cases h with
  | one h => exact h
  | tup _ => simp [okC] at hc
theorem VR.int {k : IntKind} {n : Int} (h : VR m (.int k n) v') : v' = .int k n := by
  cases h with | one h => cases h with | cell h => cases h with | gr h => rfl
theorem VR.bool {b : Bool} (h : VR m (.bool b) v') : v' = .bool b := by
  cases h with | one h => cases h with | cell h => cases h with | gr h => rfl
theorem VR.string {s : ByteArray} (h : VR m (.string s) v') : v' = .string s := by
  cases h with | one h => cases h with | cell h => cases h with | gr h => rfl
theorem VR.nilPtr (h : VR m (.pointer none) v') : v' = .pointer none := by
  cases h with | one h => cases h with | cell h => cases h with | gr h => rfl
theorem VR.nilSlice {n c : Nat} (h : VR m (.slice none n c) v') : v' = .slice none n c := by
  cases h with | one h => cases h with | cell h => cases h with | gr h => rfl
theorem VR.ptr {b o : Nat} (h : VR m (.pointer (some ⟨b, o, none⟩)) v') : ∃ cb cap, m b = some (cb, cap) ∧ v' = .pointer (some ⟨cb, o, none⟩) := by
  cases h with | one h => cases h with | cell h => cases h with
    | gr h => simp [gr1] at h
    | ptr h => exact ⟨_, _, h, rfl⟩
theorem VR.ptrAny {a : Addr} (h : VR m (.pointer (some a)) v') : ∃ cb cap, m a.block = some (cb, cap) ∧ v' = .pointer (some ⟨cb, a.off, none⟩) := by
  cases h with | one h => cases h with | cell h => cases h with
    | gr h => simp [gr1] at h
    | ptr h => exact ⟨_, _, h, rfl⟩
theorem VR.slice0 {a : Addr} {n : Nat} (h : VR m (.slice (some a) n 0) v') : ∃ cb cap, m a.block = some (cb, cap) ∧ v' = .slice (some ⟨cb, 0, none⟩) n cap := by
  cases h with | one h => cases h with | cell h => cases h with
    | gr h => simp [gr1] at h
    | slc h => exact ⟨_, _, h, rfl⟩
theorem VR.slice {a : Addr} {n c : Nat} (h : VR m (.slice (some a) n c) v') : ∃ cb cap cap', m a.block = some (cb, cap) ∧ v' = .slice (some ⟨cb, 0, none⟩) n cap' := by
  cases h with | one h => cases h with | cell h => cases h with
    | gr h => simp [gr1] at h
    | slc h => exact ⟨_, _, _, h, rfl⟩
    | slk h => exact ⟨_, _, _, h, rfl⟩
theorem VR.sliceLen {a : Option Addr} {n c : Nat} (h : VR m (.slice a n c) v') : ∃ a' cap', v' = .slice a' n cap' := by
  cases h with | one h => cases h with | cell h => cases h with
    | gr h => exact ⟨_, _, rfl⟩
    | slc h => exact ⟨_, _, rfl⟩
    | slk h => exact ⟨_, _, rfl⟩
theorem VR.agg {x : List Value} (h : VR m (.agg ⟨x⟩) v') : ∃ y, L2 (CR m) x y ∧ v' = .agg ⟨y⟩ := by
  cases h with | one h => cases h with
    | cell h => cases h with | gr h => simp [gr1] at h
    | agg h => exact ⟨_, h, rfl⟩
theorem VR.tuple {x : List Value} (h : VR m (.tuple ⟨x⟩) v') : ∃ y, L2 (V1 m) x y ∧ v' = .tuple ⟨y⟩ := by
  cases h with
  | one h => cases h with | cell h => cases h with | gr h => simp [gr1] at h
  | tup h => exact ⟨_, h, rfl⟩
theorem VR.ofGr {v : Value} (h : VR m v v') (hg : Mach.gr v = true) : v' = v := by
  have h2 : VR m v v := .grAll hg
  cases h with
  | one h => cases h with
    | cell h => cases h with
      | gr h => rfl
      | ptr h => simp [Mach.gr, gr1] at hg
      | slc h => simp [Mach.gr, gr1] at hg
      | slk h => simp [Mach.gr, gr1] at hg
    | agg h =>
      congr 2
      simp only [Mach.gr] at hg
      clear h2
      induction h with
      | nil => rfl
      | cons hab _ ih =>
        simp at hg
        rw [ih (by simpa using hg.2)]
        cases hab with
        | gr _ => rfl
        | ptr h => simp [gr1] at hg
        | slc h => simp [gr1] at hg
        | slk h => simp [gr1] at hg
  | tup h => simp [Mach.gr, gr1] at hg
theorem VR.isBool {v : Value} {b : Bool} (h : VR m v (.bool b)) : v = .bool b := by
  cases h with | one h => cases h with | cell h => cases h with | gr h => rfl
theorem V1.cells {v : Value} (h : V1 m v v') : L2 (CR m) (cellsL v) v'.cells.toList := by
  cases h with
  | cell h =>
    have h1 : cellsL v = [v] := by cases h with
      | gr h => cases v' <;> first | rfl | simp [gr1] at h
      | ptr _ => rfl
      | slc _ => rfl
      | slk _ => rfl
    have h2 : v'.cells.toList = [v'] := by
      have := CR.one h
      cases v' <;> first | rfl | simp [Value.oneCell'] at this
    rw [h1, h2]
    exact .cons h .nil
  | agg h => exact h
end inv

theorem CR.det {m : Mp} {v a b : Value} (h : CR m v a) (h' : CR m v b) : a = b := by
  cases h with
  | gr hg => cases h' with
    | gr _ => rfl
    | ptr h => simp [gr1] at hg
    | slc h => simp [gr1] at hg
    | slk h => simp [gr1] at hg
  | ptr h1 => cases h' with
    | gr hg => simp [gr1] at hg
    | ptr h2 => rw [h1] at h2; cases h2; rfl
  | slc h1 => cases h' with
    | gr hg => simp [gr1] at hg
    | slc h2 => rw [h1] at h2; cases h2; rfl
  | slk h1 => cases h' with
    | gr hg => simp [gr1] at hg
    | slk h2 => rw [h1] at h2; cases h2; rfl
theorem V1.det {m : Mp} {v a b : Value} (h : V1 m v a) (h' : V1 m v b) : a = b := by
  cases h with
  | cell h1 => cases h' with
    | cell h2 => exact CR.det h1 h2
    | agg h2 => cases h1 with | gr h => simp [gr1] at h
  | agg h1 => cases h' with
    | cell h2 => cases h2 with | gr h => simp [gr1] at h
    | agg h2 => rw [L2.det (R := CR m) (fun _ _ _ h h' => CR.det h h') h1 h2]
theorem VR.det {m : Mp} {v a b : Value} (h : VR m v a) (h' : VR m v b) : a = b := by
  cases h with
  | one h1 => cases h' with
    | one h2 => exact V1.det h1 h2
    | tup h2 => cases h1 with | cell h => cases h with | gr h => simp [gr1] at h
  | tup h1 => cases h' with
    | one h2 => cases h2 with | cell h => cases h with | gr h => simp [gr1] at h
    | tup h2 => rw [L2.det (R := V1 m) (fun _ _ _ h h' => V1.det h h') h1 h2]

theorem CR.ext {m m' : Mp} (hm : ∀ b x, m b = some x → m' b = some x) {v v' : Value} (h : CR m v v') : CR m' v v' := by
  cases h with
  | gr h => exact .gr h
  | ptr h => exact .ptr (hm _ _ h)
  | slc h => exact .slc (hm _ _ h)
  | slk h => exact .slk (hm _ _ h)
theorem V1.ext {m m' : Mp} (hm : ∀ b x, m b = some x → m' b = some x) {v v' : Value} (h : V1 m v v') : V1 m' v v' := by
  cases h with
  | cell h => exact .cell (h.ext hm)
  | agg h => exact .agg (h.mono fun _ _ => CR.ext hm)
theorem VR.ext {m m' : Mp} (hm : ∀ b x, m b = some x → m' b = some x) {v v' : Value} (h : VR m v v') : VR m' v v' := by
  cases h with
  | one h => exact .one (h.ext hm)
  | tup h => exact .tup (h.mono fun _ _ => V1.ext hm)

/-! ### Memory -/
def Lives (P : Program) (m : Mp) (w : World) (b : Nat) : Blk → Prop
  | .row e own cs => ∃ cb cap arr, m b = some (cb, cap) ∧ w.heap[cb]? = some (.cells arr e (0, 0)) ∧ cs.length ≤ arr.size ∧ L2 (CR m) cs (arr.toList.take cs.length) ∧
      (own = true → cap ≤ maxLen ∧ arr.size = cap * P.cellsOf e)
  | .iter s pos => ∃ cb cap, m b = some (cb, cap) ∧ w.heap[cb]? = some (.stringIter s pos)
  | .dead => True

structure Rel (P : Program) (m : Mp) (h : Tr Blk) (nx : Nat) (w : World) : Prop where
  live : ∀ b k, h.get b = some k → Lives P m w b k
  inj : ∀ b b' k k', h.get b = some k → h.get b' = some k' → k ≠ .dead → k' ≠ .dead → b ≠ b' → ∀ x x', m b = some x → m b' = some x' → x.1 ≠ x'.1
  top : ∀ b, nx ≤ b → m b = none
  lt : ∀ b x, m b = some x → x.1 < w.heap.size

/-- What a piece of the program does to all that was there: 'fl': nothing of a lower number is written. -/
structure Stp (fl : Nat) (m : Mp) (w : World) (m' : Mp) (w' : World) : Prop where
  os : w'.os = w.os
  tape : w'.tape = w.tape
  output : w'.output = w.output
  size : w.heap.size ≤ w'.heap.size
  kept : ∀ k, k < w.heap.size → (∀ b x, fl ≤ b → m b = some x → x.1 ≠ k) → w'.heap[k]? = w.heap[k]?
  old : ∀ b x, m b = some x → m' b = some x
  new : ∀ b x, m' b = some x → m b = some x ∨ w.heap.size ≤ x.1 ∨ ∃ b0 y, fl ≤ b0 ∧ m b0 = some y ∧ y.1 = x.1

theorem Stp.refl (fl : Nat) (m : Mp) (w : World) : Stp fl m w m w := ⟨rfl, rfl, rfl, Nat.le_refl _, fun _ _ _ => rfl, fun _ _ h => h, fun _ _ h => .inl h⟩
theorem Stp.drew {fl : Nat} {m m' : Mp} {w w' : World} (n : Nat) (h : Stp fl m { w with drawn := n } m' w') : Stp fl m w m' w' := ⟨h.os, h.tape, h.output, h.size, h.kept, h.old, h.new⟩
theorem Stp.trans {fl : Nat} {m m' m'' : Mp} {w w' w'' : World} (h : Stp fl m w m' w') (h' : Stp fl m' w' m'' w'') : Stp fl m w m'' w'' := by
  refine ⟨h'.os.trans h.os, h'.tape.trans h.tape, h'.output.trans h.output, Nat.le_trans h.size h'.size, fun k hk hn => ?_, fun b x hb => h'.old b x (h.old b x hb), fun b x hb => ?_⟩
  · rw [h'.kept k (Nat.lt_of_lt_of_le hk h.size) (fun b x hb hx => ?_), h.kept k hk hn]
    rcases h.new b x hx with h1 | h1 | ⟨b0, y, h1, h2, h3⟩
    · exact hn b x hb h1
    · omega
    · rw [← h3]; exact hn b0 y h1 h2
  · rcases h'.new b x hb with h1 | h1 | ⟨b0, y, h1, h2, h3⟩
    · exact h.new b x h1
    · exact .inr (.inl (Nat.le_trans h.size h1))
    · rcases h.new b0 y h2 with h4 | h4 | ⟨b1, z, h4, h5, h6⟩
      · exact .inr (.inr ⟨b0, y, h1, h4, h3⟩)
      · exact .inr (.inl (by omega))
      · exact .inr (.inr ⟨b1, z, h4, h5, by rw [h6, h3]⟩)

theorem Lives.same {P : Program} {m m' : Mp} {w w' : World} {b : Nat} {k : Blk} (h : Lives P m w b k) (hm : ∀ b x, m b = some x → m' b = some x)
    (hw : ∀ x, m b = some x → k ≠ .dead → w'.heap[x.1]? = w.heap[x.1]?) : Lives P m' w' b k := by
  cases k with
  | row e own cs =>
    obtain ⟨cb, cap, arr, h1, h2, h3, h4, h5⟩ := h
    exact ⟨cb, cap, arr, hm _ _ h1, by rw [hw _ h1 (by simp)]; exact h2, h3, h4.mono fun _ _ => CR.ext hm, h5⟩
  | iter s pos =>
    obtain ⟨cb, cap, h1, h2⟩ := h
    exact ⟨cb, cap, hm _ _ h1, by rw [hw _ h1 (by simp)]; exact h2⟩
  | dead => trivial

/-- Nothing of what was there is written: all stands. -/
theorem Rel.keep {P : Program} {m : Mp} {h : Tr Blk} {nx : Nat} {w w' : World} (hr : Rel P m h nx w) (hs : w.heap.size ≤ w'.heap.size) (hk : ∀ k, k < w.heap.size → w'.heap[k]? = w.heap[k]?) : Rel P m h nx w' :=
  ⟨fun b k hb => (hr.live b k hb).same (fun _ _ h => h) (fun x hx _ => hk _ (hr.lt _ _ hx)), hr.inj, hr.top, fun b x hx => Nat.lt_of_lt_of_le (hr.lt b x hx) hs⟩
theorem Rel.drew {P : Program} {m : Mp} {h : Tr Blk} {nx : Nat} {w : World} (hr : Rel P m h nx w) (n : Nat) : Rel P m h nx { w with drawn := n } := hr.keep (Nat.le_refl _) (fun _ _ => rfl)
/-- Some of it forgotten. -/
theorem Rel.less {P : Program} {m : Mp} {h h' : Tr Blk} {nx : Nat} {w : World} (hr : Rel P m h nx w) (hs : ∀ b k, h'.get b = some k → h.get b = some k) : Rel P m h' nx w :=
  ⟨fun b k hb => hr.live b k (hs b k hb), fun b b' k k' h1 h2 => hr.inj b b' k k' (hs _ _ h1) (hs _ _ h2), hr.top, hr.lt⟩
theorem Rel.up {P : Program} {m : Mp} {h : Tr Blk} {nx nx' : Nat} {w : World} (hr : Rel P m h nx w) (hle : nx ≤ nx') : Rel P m h nx' w :=
  ⟨hr.live, hr.inj, fun b hb => hr.top b (Nat.le_trans hle hb), hr.lt⟩

/-! ### A frame -/
structure FR (m : Mp) (n : Nat) (t : Tr Value) (a : Act) : Prop where
  defers : a.defers = []
  size : a.tmps.size = n
  val : ∀ i, VR m ((t.get i).getD undef) (a.tmps.getD i undef)

theorem FR.ext {m m' : Mp} (hm : ∀ b x, m b = some x → m' b = some x) {n : Nat} {t : Tr Value} {a : Act} (h : FR m n t a) : FR m' n t a :=
  ⟨h.defers, h.size, fun i => (h.val i).ext hm⟩

theorem FR.ev {m : Mp} {n : Nat} {t : Tr Value} {a : Act} (h : FR m n t a) (x : Operand) : EV m (ev t x) (a.eval x) := by
  cases x with
  | tmp i => exact .inr (h.val i)
  | const v =>
    show EV m (cond (gr v) v .nilIface) v
    cases hg : gr v
    · exact .inl rfl
    · exact .inr (.grAll hg)
  | global g => exact .inl rfl
  | func f => exact .inl rfl

theorem put_sound {R : Type} {m : Mp} {n : Nat} {t : Tr Value} {dst : Option Tmp} {v v' : Value} {k : Tr Value → Option R} {r : R} {a : Act}
    (h : put n t dst v k = some r) (hf : FR m n t a) (hv : EV m v v') : ∃ t', k t' = some r ∧ FR m n t' (a.put dst v') := by
  cases dst with
  | none => exact ⟨t, h, hf⟩
  | some d =>
    unfold put at h
    simp only at h
    cases hc : (Nat.blt d n && okU v)
    · rw [hc] at h; cases h
    · rw [hc] at h
      simp only [cond_true, fVal_eq] at h
      obtain ⟨t', hk, ht⟩ := Tr.setK_some _ _ _ _ _ h
      simp only [Bool.and_eq_true] at hc
      have hd : d < n := by
        have := hc.1
        unfold Nat.blt at this
        exact Nat.le_of_ble_eq_true this
      have hv2 : VR m v v' := hv.resolve_left fun h => by rw [h] at hc; simp [okU] at hc
      refine ⟨t', hk, hf.defers, by simp [Act.put, hf.size], fun i => ?_⟩
      rw [ht i]
      by_cases hi : i = d
      · subst hi
        simp [Act.put, hf.size, hd]
        exact hv2
      · rw [if_neg hi]
        have h1 : (a.put (some d) v').tmps.getD i undef = a.tmps.getD i undef := by
          simp [Act.put, Array.getElem?_setIfInBounds_ne (Ne.symm hi)]
        rw [h1]
        exact hf.val i

theorem wantedL_eq {m : Mp} {n : Nat} {t : Tr Value} {a : Act} (hf : FR m n t a) (ops : Array Oper) (o : Oper) :
    wantedL ops.toList t o = Region.wanted o (yielded ops a.tmps) := by
  unfold wantedL Region.wanted
  cases o.guard with
  | none => rfl
  | some g =>
    obtain ⟨j, want⟩ := g
    have hy : yl ops.toList t j = yielded ops a.tmps j := by
      unfold yl yielded
      rw [nth_eq, Array.getElem?_toList]
      cases ops[j]? with
      | none => rfl
      | some o' =>
        cases hd : o'.dst with
        | none => simp [hd]
        | some d =>
          have hv := hf.val d
          simp only [hd, Option.bind_some]
          by_cases hlt : d < a.tmps.size
          · have h1 : a.tmps.getD d undef = a.tmps[d] := by simp [hlt]
            rw [h1] at hv
            rw [Array.getElem?_eq_getElem hlt]
            cases hb : boolOf ((t.get d).getD undef) with
            | none =>
              split
              · rename_i b hx
                simp at hx
                rw [hx] at hv
                rw [hv.isBool] at hb
                simp [boolOf] at hb
              · rfl
            | some b =>
              have : (t.get d).getD undef = .bool b := by
                unfold boolOf at hb
                split at hb
                · rename_i e; cases hb; exact e
                · cases hb
              rw [this] at hv
              rw [hv.bool]
          · have hge : a.tmps.size ≤ d := Nat.le_of_not_lt hlt
            rw [Array.getElem?_eq_none hge]
            have h1 : a.tmps.getD d undef = undef := by simp [Array.getElem?_eq_none hge]
            rw [h1] at hv
            simp only
            unfold boolOf
            split
            · rename_i b e
              rw [e] at hv
              have := hv.bool
              cases this
            · rfl
    simp only [wantG, hy]
    cases yielded ops a.tmps j with
    | none => rfl
    | some b => cases b <;> cases want <;> rfl
end Go.Proofs.Ygcfaf.Mach
