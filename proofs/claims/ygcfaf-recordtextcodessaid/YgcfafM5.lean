/- The machine's operations that look at no memory do what the model's do. -/
import Derived.Test.YgcfafM4
import Derived.Laws.Strings
import Derived.Laws.Slices
import Derived.Laws.MakeOwn
import Derived.Laws.BytesString
namespace Go.Proofs.Ygcfaf.Mach
open Go
set_option linter.unusedVariables false
set_option linter.unusedSimpArgs false
variable {α β R : Type}

def isAggD : TypeDesc → Bool
  | .struct _ | .array _ _ => true
  | _ => false

/-- What is known of a type that is read: its size. -/
def SizeOk (P : Program) (t : TypeId) (s : Nat) (ag : Bool) : Prop := ∃ inf d, P.info? t = some inf ∧ inf.size = s ∧ P.underlying t = some d ∧ isAggD d = ag
def ZeroOk (P : Program) (t : TypeId) (s : Nat) (zs : List Value) : Prop := ∃ inf z, P.info? t = some inf ∧ inf.size = s ∧ inf.zero = some z ∧ z.cells = ⟨zs⟩ ∧ zs.length = s ∧ zs.all gr1 = true ∧ inf.bytes ≤ 1048576 ∧ s ≤ 4096
def DescOk (P : Program) (d : TypeDesc) : TyD → Prop
  | .other => True
  | .int k => d = .int k
  | .str => d = .string
  | .ptr => ∃ e, d = .pointer e
  | .struct fs => ∃ fields : Array Field, d = .struct fields ∧ L2 (fun (f : Field) (q : Nat × Nat × Bool) => f.offset = q.1 ∧ SizeOk P f.type q.2.1 q.2.2 ∧ 0 < q.2.1) fields.toList fs
  | .array len e es ea => d = .array len e ∧ SizeOk P e es ea ∧ 0 < es
  | .slice e es ez => d = .slice e ∧ ZeroOk P e es ez ∧ 0 < es
structure TyOk (P : Program) (i : Nat) (r : TyR) : Prop where
  zero : ZeroOk P i r.size r.zero
  desc : ∃ d, P.underlying i = some d ∧ isAggD d = r.agg ∧ DescOk P d r.d

section
variable {P : Program} (w : World)
theorem run_sizeOf {t : TypeId} {s : Nat} {ag : Bool} (h : SizeOk P t s ag) : (sizeOf t).run P w = .ok s w := by
  obtain ⟨inf, d, h1, h2, _⟩ := h
  simp [sizeOf, typeInfo, h1, h2]
theorem run_isAgg {t : TypeId} {s : Nat} {ag : Bool} (h : SizeOk P t s ag) : (isAgg t).run P w = .ok ag w := by
  obtain ⟨inf, d, _, _, h3, h4⟩ := h
  subst h4
  simp only [isAgg, Sem.run_bind, run_underlying h3, Result.andThen_ok]
  cases d <;> rfl
theorem run_sizeOf' {t : TypeId} {s : Nat} {zs : List Value} (h : ZeroOk P t s zs) : (sizeOf t).run P w = .ok s w := by
  obtain ⟨inf, z, h1, h2, _⟩ := h
  simp [sizeOf, typeInfo, h1, h2]
theorem run_zero {t : TypeId} {s : Nat} {zs : List Value} (h : ZeroOk P t s zs) : ∃ z, (zeroValue t).run P w = .ok z w ∧ z.cells = ⟨zs⟩ := by
  obtain ⟨inf, z, h1, _, h3, h4, _⟩ := h
  exact ⟨z, by simp [zeroValue, typeInfo, h1, h3], h4⟩
end

theorem pureRun_sound {P : Program} {s : Sem α} {x : α} (h : pureRun P s = some x) : ∀ w, s.run P w = .ok x w := by
  induction s with
  | pure a => intro w; simp [pureRun] at h; subst h; rfl
  | program k ih => intro w; exact ih P h w
  | _ => simp [pureRun] at h

theorem add_none (b o n : Nat) : (⟨b, o, none⟩ : Addr).add n = ⟨b, o + n, none⟩ := by unfold Addr.add; split <;> simp_all

theorem blt_iff {a b : Nat} (h : Nat.blt a b = true) : a < b := by unfold Nat.blt at h; exact Nat.le_of_ble_eq_true h
theorem ble_iff {a b : Nat} (h : Nat.ble a b = true) : a ≤ b := Nat.le_of_ble_eq_true h
theorem beq_iff {a b : Nat} (h : Nat.beq a b = true) : a = b := Nat.eq_of_beq_eq_true h
theorem cond_some {c : Bool} {x : Option α} {y : α} (h : cond c x none = some y) : c = true ∧ x = some y := by
  cases c
  · cases h
  · exact ⟨rfl, h⟩
theorem natOf_some {v : Value} {n : Nat} (h : natOf v = some n) : ∃ k, v = .int k (.ofNat n) := by
  unfold natOf at h
  split at h
  · cases h; exact ⟨_, rfl⟩
  · cases h

section
variable {P : Program} {T : List (Nat × TyR)} {m : Mp} (hT : ∀ i r, tl T i = some r → TyOk P i r)

theorem EV.vr {v v' : Value} (h : EV m v v') (hv : v ≠ .nilIface) : VR m v v' := h.resolve_left hv

theorem pPick_sound {c a b c' a' b' v : Value} (h : pPick c a b = some v) (hc : EV m c c') (ha : EV m a a') (hb : EV m b b') :
    ∃ v', EV m v v' ∧ ∀ w, (do pure (Next.value (if ← asBool c' then a' else b')) : Sem Next).run P w = .ok (.value v') w := by
  unfold pPick at h
  split at h
  · cases h
    rw [(hc.vr (by simp)).bool]
    exact ⟨a', ha, fun w => by simp [asBool]⟩
  · cases h
    rw [(hc.vr (by simp)).bool]
    exact ⟨b', hb, fun w => by simp [asBool]⟩
  · cases h

theorem bEq_sound {op : BinOp} {c : Bool} {v : Value} (h : bEq op c = some v) : (op = .eql ∧ v = .bool c) ∨ (op = .neq ∧ v = .bool (!c)) := by
  unfold bEq at h
  split at h
  · cases h; exact .inl ⟨rfl, rfl⟩
  · cases h; exact .inr ⟨rfl, rfl⟩
  · cases h

theorem bytes_toList (s : ByteArray) : s.toList = s.data.toList := ByteArray.toList_eq s

theorem pR_some {o : Option Value} {v : Value} (h : pR o = some v) : o = some v ∧ gr v = true := by
  unfold pR at h
  split at h
  · obtain ⟨h1, h2⟩ := cond_some h
    cases h2
    exact ⟨rfl, h1⟩
  · cases h

theorem guard_int {op : BinOp} {ty : TypeId} {x y : Operand} (k : IntKind) (n : Int) (b : Value) (w : World) : (eqGuard op ty x y (.int k n) b).run P w = .ok () w := by
  unfold eqGuard
  cases op <;> cases b <;> rfl
theorem guard_ptr {op : BinOp} {ty : TypeId} {x y : Operand} (a : Option Addr) (b : Value) (w : World) : (eqGuard op ty x y (.pointer a) b).run P w = .ok () w := by
  unfold eqGuard
  cases op <;> cases b <;> rfl

theorem equal_nil {ty e : TypeId} (h : P.underlying ty = some (.pointer e)) (a : Option Addr) (w : World) : (Op.equal ty (.pointer a) (.pointer none)).run P w = .ok a.isNone w := by
  unfold Op.equal Op.maxDepth
  rw [show (10000 : Nat) = 9999 + 1 from rfl, Op.equalIn, Sem.run_bind, run_underlying h]
  cases a <;> rfl

include hT in
theorem pBin_sound {op : BinOp} {ty : TypeId} {x y : Operand} {vx vy vx' vy' v : Value} (h : pBin P T op ty x y vx vy = some v) (hx : EV m vx vx') (hy : EV m vy vy') :
    ∃ v', EV m v v' ∧ ∀ w, (do eqGuard op ty x y vx' vy'; binOp op ty vx' vy' : Sem Value).run P w = .ok v' w := by
  unfold pBin at h
  split at h
  · rw [(hx.vr (by simp)).int, (hy.vr (by simp)).int]
    obtain ⟨h1, hg⟩ := pR_some h
    refine ⟨v, .inr (.grAll hg), fun w => ?_⟩
    rw [Sem.run_bind, guard_int]
    exact pureRun_sound h1 w
  · rename_i a b
    rw [(hx.vr (by simp)).string, (hy.vr (by simp)).string]
    rcases bEq_sound h with ⟨rfl, rfl⟩ | ⟨rfl, rfl⟩
    · exact ⟨_, .inr (.grd rfl), fun w => by simp [eqGuard, binOp, Op.stringOp, eqBytes_eq, bytes_toList]⟩
    · exact ⟨_, .inr (.grd rfl), fun w => by simp [eqGuard, binOp, Op.stringOp, eqBytes_eq, bytes_toList]⟩
  · rename_i a
    rw [(hy.vr (by simp)).nilPtr]
    have hx' := hx.vr (by simp)
    obtain ⟨a', ha, hn⟩ : ∃ a', vx' = .pointer a' ∧ a'.isNone = a.isNone := by
      cases a with
      | none => exact ⟨none, hx'.nilPtr, rfl⟩
      | some a =>
        obtain ⟨cb, cap, _, rfl⟩ := hx'.ptrAny
        exact ⟨_, rfl, rfl⟩
    subst ha
    unfold pPtr at h
    split at h
    · rename_i hr
      obtain ⟨d, hd, _, e, he⟩ := (hT _ _ hr).desc
      subst he
      rcases bEq_sound h with ⟨rfl, rfl⟩ | ⟨rfl, rfl⟩
      · refine ⟨_, .inr (.grd rfl), fun w => ?_⟩
        rw [Sem.run_bind, guard_ptr]
        simp [binOp, equal_nil hd, hn]
      · refine ⟨_, .inr (.grd rfl), fun w => ?_⟩
        rw [Sem.run_bind, guard_ptr]
        simp [binOp, equal_nil hd, hn]
    · cases h
  · obtain ⟨hg, h⟩ := cond_some h
    simp only [Bool.and_eq_true] at hg
    have e1 := (hx.vr (fun e => by rw [e] at hg; simp [gr, gr1] at hg)).ofGr hg.1
    have e2 := (hy.vr (fun e => by rw [e] at hg; simp [gr, gr1] at hg)).ofGr hg.2
    rw [e1, e2]
    obtain ⟨h1, hg⟩ := pR_some h
    exact ⟨v, .inr (.grAll hg), fun w => pureRun_sound h1 w⟩

theorem pUn_sound {op : UnOp} {x x' v : Value} (h : pUn P op x = some v) (hx : EV m x x') : ∃ v', EV m v v' ∧ ∀ w, (Op.unary op x').run P w = .ok v' w := by
  obtain ⟨hg, h⟩ := cond_some h
  rw [(hx.vr (fun e => by rw [e] at hg; simp [gr, gr1] at hg)).ofGr hg]
  obtain ⟨h1, hg⟩ := pR_some h
  exact ⟨v, .inr (.grAll hg), fun w => pureRun_sound h1 w⟩

include hT in
theorem pConv_sound {s d : TypeId} {x x' v : Value} (h : pConv (tl T s) (tl T d) x = some v) (hx : EV m x x') : ∃ v', EV m v v' ∧ ∀ w, (convert s d x').run P w = .ok v' w := by
  unfold pConv at h
  split at h
  · rename_i k n _ _ _ _ _ k' hs hr
    cases h
    rw [(hx.vr (by simp)).int]
    obtain ⟨dd, hd, _, he⟩ := (hT _ _ hr).desc
    obtain ⟨ds, hs, _⟩ := (hT _ _ hs).desc
    have he : dd = .int k' := he
    subst he
    refine ⟨_, .inr (.grd rfl), fun w => ?_⟩
    simp only [convert, Sem.run_bind, run_underlying hs, run_underlying hd, Result.andThen_ok]
    cases ds <;> rfl
  · cases h

theorem bndOf_some {t : Tr Value} {n : Nat} {a : Act} (hf : FR m n t a) {d k : Nat} {o : Option Operand} (h : bndOf t d o = some k) :
    (o = none ∧ k = d) ∨ ∃ x ki, o = some x ∧ a.eval x = .int ki ((k : Nat) : Int) := by
  cases o with
  | none => cases h; exact .inl ⟨rfl, rfl⟩
  | some x =>
    obtain ⟨ki, hk⟩ := natOf_some h
    have h2 := hf.ev x
    rw [hk] at h2
    exact .inr ⟨x, ki, rfl, (h2.vr (by simp)).int⟩

theorem run_bound (ki : IntKind) (k y : Nat) (c : BoundsCode) (w : World) (h : k ≤ y) : (Instr.sliceBound (.int ki ((k : Nat) : Int)) y c).run P w = .ok k w := by
  have h1 : (0 : Int) ≤ (k : Int) ∧ (k : Int) ≤ (y : Int) := ⟨Int.natCast_nonneg k, Int.ofNat_le.2 h⟩
  simp only [Instr.sliceBound, asIntOf, Sem.run_bind, Sem.run_pure, Result.andThen_ok, h1, and_self, if_true, Int.toNat_natCast]

include hT in
theorem pSlice_sound {t : Tr Value} {n : Nat} {a : Act} (hf : FR m n t a) {ty : TypeId} {x : Operand} {lo hi mx : Option Operand} {v : Value} (h : pSlice T t ty (ev t x) lo hi mx = some v) :
    ∃ v', EV m v v' ∧ ∀ w, (Instr.sliceAt ty (a.eval x) (lo.map a.eval) (hi.map a.eval) (mx.map a.eval)).run P w = .ok v' w := by
  have hx := hf.ev x
  unfold pSlice at h
  split at h
  · rename_i s he
    rw [he] at hx
    rw [(hx.vr (by simp)).string]
    unfold pSliceS at h
    split at h
    · rename_i l hh _ _ _ _ hl hhi hr
      obtain ⟨dd, hd, _, he⟩ := (hT _ _ hr).desc
      have he : dd = .string := he
      subst he
      unfold pSub at h
      obtain ⟨hc, h⟩ := cond_some h
      cases h
      simp only [Bool.and_eq_true] at hc
      have h1 := ble_iff hc.1
      have h2 := ble_iff hc.2
      rw [lenR_eq] at h2
      have hsz : s.size = s.data.toList.length := by rw [Array.length_toList]; rfl
      refine ⟨_, .inr (.grd rfl), fun w => ?_⟩
      have hstr : (⟨⟨dropR (takeR s.data.toList hh) l⟩⟩ : ByteArray) = s.extract l hh := by
        apply WideShapes.bytes_inj
        simp [dropR_eq, takeR_eq, ByteArray.data_extract, List.drop_take, List.extract_eq_take_drop]
      rw [hstr]
      have h2' : hh ≤ s.size := by rw [hsz]; exact h2
      simp only [Instr.sliceAt, Instr.slice, Sem.run_bind, run_underlying hd, Result.andThen_ok, Option.map_none, Instr.sliceBounds, Option.isSome_none]
      rcases bndOf_some hf hl with ⟨rfl, rfl⟩ | ⟨xl, kl, rfl, el⟩ <;> rcases bndOf_some hf hhi with ⟨rfl, rfl⟩ | ⟨xh, kh, rfl, eh⟩
      · rw [show lenR s.data.toList = s.size by rw [lenR_eq, hsz]]
        simp only [Sem.run_bind, Sem.run_pure, Result.andThen_ok, Option.map_none, Bool.false_eq_true, if_false]
      · simp only [Sem.run_bind, Sem.run_pure, Result.andThen_ok, Option.map_none, Option.map_some, eh, run_bound _ _ _ _ _ h2', Bool.false_eq_true, if_false]
      · rw [show lenR s.data.toList = s.size by rw [lenR_eq, hsz]] at h1 ⊢
        simp only [Sem.run_bind, Sem.run_pure, Result.andThen_ok, Option.map_none, Option.map_some, el, run_bound _ _ _ _ _ h1, Bool.false_eq_true, if_false]
      · simp only [Sem.run_bind, Sem.run_pure, Result.andThen_ok, Option.map_some, el, eh, run_bound _ _ _ _ _ h2', run_bound _ _ _ _ _ h1, Bool.false_eq_true, if_false]
    · cases h
  · rename_i b he
    rw [he] at hx
    obtain ⟨cb, cap, hb, hx⟩ := (hx.vr (by simp)).ptr
    rw [hx]
    unfold pSliceA at h
    split at h
    · rename_i hh mm _ _ _ _ len _ _ _ hhi hmx hr
      obtain ⟨dd, hd, _, he, hs, hpos⟩ := (hT _ _ hr).desc
      subst he
      obtain ⟨hc, h⟩ := cond_some h
      cases h
      simp only [Bool.and_eq_true] at hc
      obtain ⟨hc1, hc2, hc3, hc4⟩ := hc
      have h1 := ble_iff hc3
      have h2 := ble_iff hc4
      rcases bndOf_some hf hhi with ⟨rfl, rfl⟩ | ⟨xh, kh, rfl, eh⟩
      · cases hc1
      rcases bndOf_some hf hmx with ⟨rfl, rfl⟩ | ⟨xm, km, rfl, em⟩
      · cases hc2
      refine ⟨.slice (some ⟨cb, 0, none⟩) hh mm, .inr (.one (.cell (.slk hb))), fun w => ?_⟩
      simp only [Instr.sliceAt, Sem.run_bind, run_underlying hd, Result.andThen_ok, Instr.sureAddr, Sem.run_pure, Instr.sliceBounds, Option.map_none, Option.map_some, eh, em, run_bound _ _ _ _ _ h1, run_bound _ _ _ _ _ h2, run_sizeOf w hs, Nat.sub_zero, Nat.zero_mul]
      simp [Addr.add]
    · cases h
  · cases h

include hT in
theorem pFieldA_sound {s : TypeId} {f : Nat} {x x' v : Value} (h : pFieldA (tl T s) x f = some v) (hx : EV m x x') : ∃ v', EV m v v' ∧ ∀ w, (Instr.fieldAt s x' f).run P w = .ok v' w := by
  unfold pFieldA at h
  split at h
  · rename_i b o _ _ _ _ fs hr
    obtain ⟨cb, cap, hb, hx⟩ := (hx.vr (by simp)).ptr
    rw [hx]
    obtain ⟨dd, hd, _, fields, he, hl⟩ := (hT _ _ hr).desc
    subst he
    split at h
    · rename_i q hq
      cases h
      rw [nth_eq] at hq
      obtain ⟨fl, hfl, ho, hs, hpos⟩ : ∃ fl : Field, fields[f]? = some fl ∧ fl.offset = q.1 ∧ SizeOk P fl.type q.2.1 q.2.2 ∧ 0 < q.2.1 := by
        have hlen := hl.length
        have hlt : f < fs.length := (List.getElem?_eq_some_iff.1 hq).1
        have hlt' : f < fields.toList.length := by omega
        obtain ⟨q', hq', hR⟩ := hl.get f _ (List.getElem?_eq_getElem hlt')
        rw [hq] at hq'
        cases hq'
        refine ⟨fields.toList[f], ?_, hR⟩
        rw [← Array.getElem?_toList]
        exact List.getElem?_eq_getElem hlt'
      refine ⟨.pointer (some ⟨cb, o + q.1, none⟩), .inr (.one (.cell (.ptr hb))), fun w => ?_⟩
      have hne : ¬ q.2.1 = 0 := by omega
      simp only [Instr.fieldAt, Sem.run_bind, run_underlying hd, Result.andThen_ok, hfl, Instr.sureAddr, Sem.run_pure, fieldPlace, run_sizeOf w hs, hne, if_false, ho, add_none]
    · cases h
  · cases h

include hT in
theorem pIndexA_sound {ty : TypeId} {x x' i i' v : Value} (h : pIndexA (tl T ty) x (natOf i) = some v) (hx : EV m x x') (hi : EV m i i') : ∃ v', EV m v v' ∧ ∀ w, (Instr.indexAt ty x' i').run P w = .ok v' w := by
  unfold pIndexA at h
  split at h
  · rename_i _ _ _ _ len e es ea b o k hr hk
    obtain ⟨ki, hki⟩ := natOf_some hk
    rw [hki] at hi
    rw [(hi.vr (by simp)).int]
    obtain ⟨cb, cap, hb, hx⟩ := (hx.vr (by simp)).ptr
    rw [hx]
    obtain ⟨dd, hd, _, he, hs, _⟩ := (hT _ _ hr).desc
    subst he
    obtain ⟨hc, h⟩ := cond_some h
    cases h
    have hlt := blt_iff hc
    refine ⟨.pointer (some ⟨cb, o + k * es, none⟩), .inr (.one (.cell (.ptr hb))), fun w => ?_⟩
    have h1 : (0 : Int) ≤ (k : Int) ∧ (k : Int) < (len : Int) := ⟨Int.natCast_nonneg k, Int.ofNat_lt.2 hlt⟩
    simp only [Instr.indexAt, asIntOf, Sem.run_bind, run_underlying hd, Result.andThen_ok, Instr.sureAddr, Sem.run_pure, h1, and_self, if_true, run_sizeOf w hs, add_none, Int.ofNat_eq_natCast, Int.toNat_natCast]
  · rename_i _ _ _ _ e es ez b len c k hr hk
    obtain ⟨ki, hki⟩ := natOf_some hk
    rw [hki] at hi
    rw [(hi.vr (by simp)).int]
    obtain ⟨cb, cap, cap', hb, hx⟩ := (hx.vr (by simp)).slice
    rw [hx]
    obtain ⟨dd, hd, _, he, hs, _⟩ := (hT _ _ hr).desc
    subst he
    obtain ⟨hc, h⟩ := cond_some h
    cases h
    have hlt := blt_iff hc
    refine ⟨.pointer (some ⟨cb, k * es, none⟩), .inr (.one (.cell (.ptr hb))), fun w => ?_⟩
    have h1 : (0 : Int) ≤ (k : Int) ∧ (k : Int) < (len : Int) := ⟨Int.natCast_nonneg k, Int.ofNat_lt.2 hlt⟩
    simp only [Instr.indexAt, asIntOf, Sem.run_bind, run_underlying hd, Result.andThen_ok, Sem.run_pure, h1, and_self, if_true, run_sizeOf' w hs, add_none, Int.ofNat_eq_natCast, Int.toNat_natCast, Nat.zero_add]
  · cases h

include hT in
theorem pIndex_sound {ty : TypeId} {x x' i i' v : Value} (h : pIndex (tl T ty) x (natOf i) = some v) (hx : EV m x x') (hi : EV m i i') : ∃ v', EV m v v' ∧ ∀ w, (Instr.index ty x' i').run P w = .ok v' w := by
  unfold pIndex at h
  split at h
  · rename_i s k _ _ _ _ hk hr
    obtain ⟨ki, hki⟩ := natOf_some hk
    rw [hki] at hi
    rw [(hi.vr (by simp)).int, (hx.vr (by simp)).string]
    obtain ⟨dd, hd, _, he⟩ := (hT _ _ hr).desc
    have he : dd = .string := he
    subst he
    unfold pByte at h
    split at h
    · rename_i b hb
      cases h
      rw [nth_eq] at hb
      refine ⟨_, .inr (.grd rfl), fun w => ?_⟩
      have h0 : (0 : Int) ≤ (k : Int) := Int.natCast_nonneg k
      have hb' : s[k]? = some b := by
        have hlt : k < s.size := by
          have := (List.getElem?_eq_some_iff.1 hb).1
          rw [Array.length_toList] at this
          exact this
        rw [getElem?_pos s k hlt]
        have h2 := (List.getElem?_eq_some_iff.1 hb).2
        rw [← h2]
        rfl
      simp only [Instr.index, asIntOf, Sem.run_bind, run_underlying hd, Result.andThen_ok, Sem.run_pure, h0, if_true, Int.ofNat_eq_natCast, Int.toNat_natCast, hb']
    · cases h
  · rename_i cs k _ _ _ _ len e hk hr
    obtain ⟨ki, hki⟩ := natOf_some hk
    rw [hki] at hi
    obtain ⟨y, hy, hx⟩ := (hx.vr (by simp)).agg
    rw [(hi.vr (by simp)).int, hx]
    obtain ⟨dd, hd, _, he, hs, _⟩ := (hT _ _ hr).desc
    subst he
    obtain ⟨hc, h⟩ := cond_some h
    have hlt := blt_iff hc
    rw [nth_eq] at h
    obtain ⟨u, hu, hR⟩ := hy.get k v h
    refine ⟨u, .inr (.one (.cell hR)), fun w => ?_⟩
    have h1 : (0 : Int) ≤ (k : Int) ∧ (k : Int) < (len : Int) := ⟨Int.natCast_nonneg k, Int.ofNat_lt.2 hlt⟩
    have hu' : (⟨y⟩ : Array Value)[k]? = some u := by simpa using hu
    simp only [Instr.index, asIntOf, Sem.run_bind, run_underlying hd, Result.andThen_ok, Sem.run_pure, h1, and_self, if_true, run_sizeOf w hs, part, run_isAgg w hs, Bool.false_eq_true, if_false, Int.ofNat_eq_natCast, Int.toNat_natCast, Nat.mul_one, hu']
  · cases h

theorem pExtract_sound {x x' v : Value} {i : Nat} (h : pExtract x i = some v) (hx : EV m x x') : ∃ v', EV m v v' ∧ ∀ w, (Instr.extract x' i).run P w = .ok v' w := by
  unfold pExtract at h
  split at h
  · rename_i vs
    obtain ⟨y, hy, hx⟩ := (hx.vr (by simp)).tuple
    rw [hx]
    rw [nth_eq] at h
    obtain ⟨u, hu, hR⟩ := hy.get i v h
    refine ⟨u, .inr (.one hR), fun w => ?_⟩
    have hu' : (⟨y⟩ : Array Value)[i]? = some u := by simpa using hu
    simp only [Instr.extract, hu', Sem.run_pure]
  · cases h

include hT in
theorem pLen_sound {ty typ : TypeId} {x x' v : Value} (h : pLen x (tl T ty) = some v) (hx : EV m x x') : ∃ v', EV m v v' ∧ ∀ w, (Builtin.len_ #[ty] typ #[x']).run P w = .ok v' w := by
  unfold pLen at h
  split at h
  · rename_i a n c _ _ _ _ _ _ _ hr
    cases h
    obtain ⟨a', c', hx⟩ := (hx.vr (by simp)).sliceLen
    rw [hx]
    obtain ⟨dd, hd, _, he, _⟩ := (hT _ _ hr).desc
    subst he
    exact ⟨_, .inr (.grd rfl), fun w => by simp [Builtin.len_, run_underlying hd, goInt]⟩
  · rename_i s _ _ _ _ hr
    cases h
    rw [(hx.vr (by simp)).string]
    obtain ⟨dd, hd, _, he⟩ := (hT _ _ hr).desc
    have he : dd = .string := he
    subst he
    have hsz : (lenR s.data.toList : Nat) = s.size := by rw [lenR_eq, Array.length_toList]; rfl
    exact ⟨_, .inr (.grd rfl), fun w => by simp [Builtin.len_, run_underlying hd, goInt, hsz]⟩
  · cases h

theorem pMin_sound {tys : Array TypeId} {typ : TypeId} {x x' y y' v : Value} (h : pMin x y = some v) (hx : EV m x x') (hy : EV m y y') : ∃ v', EV m v v' ∧ ∀ w, (Builtin.min_ tys typ #[x', y']).run P w = .ok v' w := by
  unfold pMin at h
  split at h
  · cases h
    rw [(hx.vr (by simp)).int, (hy.vr (by simp)).int]
    exact ⟨_, .inr (.grd rfl), fun w => by simp [Builtin.min_, Builtin.min2]⟩
  · cases h
end
end Go.Proofs.Ygcfaf.Mach
