/- The machine's operations that change memory. -/
import Derived.Test.YgcfafM7
namespace Go.Proofs.Ygcfaf.Mach
open Go
set_option linter.unusedVariables false
set_option linter.unusedSimpArgs false
variable {α β R : Type}

/-- What an operation that changes memory has done. -/
def Did (P : Program) (fl : Nat) (m : Mp) (h' : Tr Blk) (nx id c : Nat) (w : World) (v : Value) (s : Sem Next) : Prop :=
  ∃ m' v' w' nxt, EV m' v v' ∧ s.run P w = .ok nxt w' ∧ (nxt = .value v' ∨ (nxt = .skip ∧ v' = undef)) ∧ Stp fl m w m' w' ∧ (∀ b, b ≠ id → m' b = m b) ∧ (∀ nx', nx ≤ nx' → c ≤ nx' → Rel P m' h' nx' w') ∧ id ≤ c ∧ c ≤ id + 1

theorem cellsOf_eq {P : Program} {e s : Nat} {zs : List Value} (h : ZeroOk P e s zs) : P.cellsOf e = s := by
  obtain ⟨inf, z, h1, h2, _⟩ := h
  simp [Program.cellsOf, h1, h2]

section
variable {P : Program} {T : List (Nat × TyR)} {m : Mp} (hT : ∀ i r, tl T i = some r → TyOk P i r)
variable {h h' : Tr Blk} {nx id c fl : Nat} {w : World}

theorem Did.value {s : Sem Value} {v : Value} (hd : ∃ m' v' w', EV m' v v' ∧ s.run P w = .ok v' w' ∧ Stp fl m w m' w' ∧ (∀ b, b ≠ id → m' b = m b) ∧ (∀ nx', nx ≤ nx' → c ≤ nx' → Rel P m' h' nx' w') ∧ id ≤ c ∧ c ≤ id + 1) :
    Did P fl m h' nx id c w v (do pure (Next.value (← s))) := by
  obtain ⟨m', v', w', h1, h2, h3, h4, h5, h6⟩ := hd
  exact ⟨m', v', w', .value v', h1, by simp [h2], .inl rfl, h3, h4, h5, h6⟩

include hT in
theorem mStore_sound (hr : Rel P m h nx w) {ty : TypeId} {x x' y y' v : Value} (hx : EV m x x') (hy : EV m y y') (hv : mStore fl h id (tl T ty) x y = some (v, h', c)) :
    Did P fl m h' nx id c w v (do Instr.storeAt ty x' y'; pure .skip) := by
  unfold mStore at hv
  split at hv
  · rename_i b o r hty
    obtain ⟨cb, cap, hb, hx⟩ := (hx.vr (by simp)).ptr
    obtain ⟨hok, hv⟩ := cond_some hv
    have hy1 := (hy.vr (fun e => by rw [e] at hok; simp [okC] at hok)).v1 hok
    have hcl := hy1.cells
    unfold mStoreB at hv
    split at hv
    · rename_i e own cs hg
      obtain ⟨hc, hv⟩ := cond_some hv
      simp only [Bool.and_eq_true] at hc
      obtain ⟨hc1, hc2, hc3⟩ := hc
      have e1 := ble_iff hc1
      have e2 := beq_iff hc2
      have e3 := ble_iff hc3
      rw [lenR_eq] at e2 e3
      have e3 : o + r.size ≤ cs.length := e3
      rw [fList_eq] at hv
      obtain ⟨h1, hk, hh⟩ := Tr.setK_some _ _ _ _ _ hv
      simp only [Option.some.injEq, Prod.mk.injEq] at hk
      obtain ⟨rfl, rfl, rfl⟩ := hk
      obtain ⟨cb', cap', arr, g1, g2, g3, g4, g5⟩ := hr.live _ _ hg
      rw [hb] at g1
      cases g1
      have hlen := hcl.length
      have hst := run_storeCells_at P cb o e y'.cells.toList 0 arr w g2 (by rw [← hlen, e2]; omega) (fun u hu => by
        obtain ⟨i, hi⟩ := List.getElem?_of_mem hu
        have hlt : i < (cellsL y).length := by rw [hlen]; exact (List.getElem?_eq_some_iff.1 hi).1
        obtain ⟨u', hu', hR⟩ := hcl.get i _ (List.getElem?_eq_getElem hlt)
        rw [hi] at hu'
        cases hu'
        exact hR.one)
      rw [over_eq _ _ _ (by rw [e2]; exact e3)] at hh
      have hsz' : y'.cells.size = r.size := by rw [← Array.length_toList, ← hlen, e2]
      have hsz : ((arr.toList.take (o + 0) ++ y'.cells.toList ++ arr.toList.drop (o + 0 + y'.cells.toList.length)).toArray).size = arr.size := by
        simp only [List.size_toArray, List.length_append, List.length_take, List.length_drop, Array.length_toList, Nat.add_zero]
        omega
      have hnl : (cs.take o ++ cellsL y ++ cs.drop (o + (cellsL y).length)).length = cs.length := by simp; omega
      refine ⟨m, undef, _, .skip, .inr (.undef m), ?_, .inr ⟨rfl, rfl⟩, Stp.write hb e1 _, fun _ _ => rfl, fun nx' hn _ => (Rel.write hr hg hb g2 hsz (by rw [hsz, hnl]; exact g3) ?_ hh).up hn, Nat.le_refl _, Nat.le_succ _⟩
      · subst hx
        simp only [Instr.storeAt, Instr.sureAddr, Sem.run_bind, Sem.run_pure, Result.andThen_ok, storeVar, run_sizeOf w (SizeOk.of_ty (hT _ _ hty)), hsz', ne_eq, not_true_eq_false, if_false, hst]
      · rw [hnl]
        have g6 : L2 (CR m) (cs.take o ++ cellsL y ++ cs.drop (o + (cellsL y).length)) ((arr.toList.take cs.length).take o ++ y'.cells.toList ++ (arr.toList.take cs.length).drop (o + (cellsL y).length)) :=
          ((g4.take o).append hcl).append (g4.drop _)
        have g7 : ((arr.toList.take cs.length).take o ++ y'.cells.toList ++ (arr.toList.take cs.length).drop (o + (cellsL y).length)) = (arr.toList.take (o + 0) ++ y'.cells.toList ++ arr.toList.drop (o + 0 + y'.cells.toList.length)).toArray.toList.take cs.length := by
          simp only [Nat.add_zero]
          rw [← hlen, List.take_take, Nat.min_eq_left (by omega), List.drop_take]
          rw [List.take_append, List.take_of_length_le (l := arr.toList.take o ++ y'.cells.toList) (by simp; rw [Array.length_toList] at hlen; omega)]
          congr 1
          congr 1
          simp
          rw [Array.length_toList] at hlen
          omega
        rw [← g7]
        exact g6
    · cases hv
  · cases hv

theorem newP_sound (hr : Rel P m h nx w) (hid : m id = none) {k : Blk} {v : Value} {ob : Obj} (hv : newP h id k = some (v, h', c)) (hk : Lives P (upd m id (w.heap.size, 0)) (w.alloc ob) id k) {s : Sem Value} (hs : s.run P w = .ok (.pointer (some ⟨w.heap.size, 0, none⟩)) (w.alloc ob)) :
    Did P fl m h' nx id c w v (do pure (Next.value (← s))) := by
  unfold newP at hv
  obtain ⟨h1, hkk, hh⟩ := Tr.setK_some _ _ _ _ _ hv
  simp only [Option.some.injEq, Prod.mk.injEq] at hkk
  obtain ⟨rfl, rfl, rfl⟩ := hkk
  refine Did.value ⟨upd m id (w.heap.size, 0), _, _, .inr (.one (.cell (.ptr (upd_same _ _ _)))), hs, Stp.alloc hid ob, fun b hb => by unfold upd; rw [if_neg hb], fun nx' hn hc => ?_, Nat.le_succ _, Nat.le_refl _⟩
  exact hr.alloc hid (by have : id + 1 ≤ nx' := hc; omega) hn hh hk

theorem newS_from {w1 : World} (hr : Rel P m h nx w1) (hst : Stp fl m w m w1) (hid : m id = none) {e len cap : Nat} {cs : List Value} {v : Value} {arr : Array Value} (hv : newS h id e len cs = some (v, h', c)) (hle : cs.length ≤ arr.size) (hl : L2 (CR m) cs (arr.toList.take cs.length)) (hcap : cap ≤ maxLen) (hsz : arr.size = cap * P.cellsOf e)
    {s : Sem Value} (hs : s.run P w = .ok (.slice (some ⟨w1.heap.size, 0, none⟩) len cap) (w1.alloc (.cells arr e))) :
    Did P fl m h' nx id c w v (do pure (Next.value (← s))) := by
  unfold newS at hv
  rw [fList_eq] at hv
  obtain ⟨h1, hkk, hh⟩ := Tr.setK_some _ _ _ _ _ hv
  simp only [Option.some.injEq, Prod.mk.injEq] at hkk
  obtain ⟨rfl, rfl, rfl⟩ := hkk
  refine Did.value ⟨upd m id (w1.heap.size, cap), _, _, .inr (.one (.cell (.slc (upd_same _ _ _)))), hs, hst.trans (Stp.alloc hid _), fun b hb => by unfold upd; rw [if_neg hb], fun nx' hn hc => ?_, Nat.le_succ _, Nat.le_refl _⟩
  exact hr.alloc hid (by have : id + 1 ≤ nx' := hc; omega) hn hh ⟨w1.heap.size, cap, arr, upd_same _ _ _, heap_alloc_new w1 _, hle, hl.mono fun _ _ => CR.ext (upd_old _ hid), fun _ => ⟨hcap, hsz⟩⟩
theorem newS_sound (hr : Rel P m h nx w) (hid : m id = none) {e len cap : Nat} {cs : List Value} {v : Value} {arr : Array Value} (hv : newS h id e len cs = some (v, h', c)) (hle : cs.length ≤ arr.size) (hl : L2 (CR m) cs (arr.toList.take cs.length)) (hcap : cap ≤ maxLen) (hsz : arr.size = cap * P.cellsOf e)
    {s : Sem Value} (hs : s.run P w = .ok (.slice (some ⟨w.heap.size, 0, none⟩) len cap) (w.alloc (.cells arr e))) :
    Did P fl m h' nx id c w v (do pure (Next.value (← s))) := newS_from hr (Stp.refl _ _ _) hid hv hle hl hcap hsz hs

include hT in
theorem mAlloc_sound (hr : Rel P m h nx w) (hid : m id = none) {e : TypeId} {v : Value} (hv : mAlloc h id e (tl T e) = some (v, h', c)) :
    Did P fl m h' nx id c w v (do pure (Next.value (← Instr.alloc e true (.tuple #[])))) := by
  unfold mAlloc at hv
  split at hv
  · rename_i r hty
    obtain ⟨z, hz, hzc⟩ := run_zero (P := P) w (hT _ _ hty).zero
    obtain ⟨_, _, _, _, _, _, _, hgr, _⟩ := (hT _ _ hty).zero
    refine newP_sound (ob := .cells z.cells e) hr hid hv ⟨w.heap.size, 0, z.cells, upd_same _ _ _, heap_alloc_new w _, by rw [hzc]; exact Nat.le_refl _, ?_, fun h => by cases h⟩ ?_
    · rw [hzc]
      simp only [List.take_length]
      exact L2.grs hgr
    · simp [Instr.alloc, hz, newVar, newRow]
  · cases hv

theorem mBox_sound (hr : Rel P m h nx w) (hid : m id = none) {e : TypeId} {x x' v : Value} (hx : EV m x x') (hv : cond (okC x) (newP h id (.row e false (cellsL x))) none = some (v, h', c)) :
    Did P fl m h' nx id c w v (do pure (Next.value (← Instr.box e x'))) := by
  obtain ⟨hok, hv⟩ := cond_some hv
  have hx1 := (hx.vr (fun e => by rw [e] at hok; simp [okC] at hok)).v1 hok
  have hcl := hx1.cells
  have hlen := hcl.length
  refine newP_sound (ob := .cells x'.cells e) hr hid hv ⟨w.heap.size, 0, x'.cells, upd_same _ _ _, heap_alloc_new w _, by rw [hlen, Array.length_toList]; exact Nat.le_refl _, ?_, fun h => by cases h⟩ ?_
  · rw [hlen, List.take_length]
    exact hcl.mono fun _ _ => CR.ext (upd_old _ hid)
  · simp [Instr.box, newVar, newRow]

theorem repL_get {zs : List Value} {s : Nat} (hs : zs.length = s) : ∀ (n j : Nat), j < n * s → (repL zs n)[j]? = zs[j % s]? := by
  intro n
  induction n with
  | zero => intro j h; omega
  | succ n ih =>
    intro j hj
    show (appR zs (repL zs n))[j]? = _
    rw [appR_eq, List.getElem?_append]
    by_cases h : j < zs.length
    · rw [if_pos h, Nat.mod_eq_of_lt (by omega)]
    · rw [if_neg h, ih (j - zs.length) (by rw [Nat.succ_mul] at hj; omega), hs, ← Nat.mod_eq_sub_mod (by omega)]
theorem repL_length {zs : List Value} {s : Nat} (hs : zs.length = s) : ∀ n, (repL zs n).length = n * s := by
  intro n
  induction n with
  | zero => show ([] : List Value).length = _; simp
  | succ n ih =>
    show (appR zs (repL zs n)).length = _
    rw [appR_eq, List.length_append, ih, hs, Nat.succ_mul, Nat.add_comm]
theorem madeCells_eq {zs : List Value} {s : Nat} (hs : zs.length = s) (n : Nat) : (madeCells ⟨zs⟩ (n * s)).toList = repL zs n := by
  apply List.ext_getElem?
  intro j
  by_cases hj : j < n * s
  · rw [repL_get hs n j hj]
    have h0 : 0 < s := by
      rcases Nat.eq_zero_or_pos s with h | h
      · subst h; omega
      · exact h
    have hm : j % s < zs.length := by rw [hs]; exact Nat.mod_lt _ h0
    have hm' : j % zs.length < zs.length := by rw [hs] at hm ⊢; exact hm
    simp [madeCells, hj, hs, List.getElem?_eq_getElem hm]
  · rw [List.getElem?_eq_none (by simp [madeCells]; omega), List.getElem?_eq_none (by rw [repL_length hs]; omega)]
theorem repL_gr {zs : List Value} (hg : zs.all gr1 = true) : ∀ n, (repL zs n).all gr1 = true := by
  intro n
  induction n with
  | zero => rfl
  | succ n ih =>
    show (appR zs (repL zs n)).all gr1 = true
    rw [appR_eq, List.all_append, hg, ih]
    rfl

include hT in
theorem mMake_sound (hr : Rel P m h nx w) (hid : m id = none) {ty : TypeId} {x x' y y' v : Value} (hx : EV m x x') (hy : EV m y y') (hv : mMake h id (tl T ty) (natOf x) (natOf y) = some (v, h', c)) :
    Did P fl m h' nx id c w v (do pure (Next.value (← Instr.makeSlice ty x' y'))) := by
  unfold mMake at hv
  split at hv
  · rename_i _ _ _ _ e es ez l k hty hl hk
    obtain ⟨hc, hv⟩ := cond_some hv
    simp only [Bool.and_eq_true] at hc
    have e1 := ble_iff hc.1
    have e2 := ble_iff hc.2
    obtain ⟨k1, h1⟩ := natOf_some hl
    obtain ⟨k2, h2⟩ := natOf_some hk
    rw [h1] at hx
    rw [h2] at hy
    rw [(hx.vr (by simp)).int, (hy.vr (by simp)).int]
    obtain ⟨d, hd, _, he, hz, hpos⟩ := (hT _ _ hty).desc
    subst he
    have hcell := cellsOf_eq hz
    obtain ⟨inf, z, hi, hsz, hz0, hzc, hzl, hgr, hby⟩ := hz
    have hrun := run_make (P := P) w ty e inf z hd hi hz0 k1 k2 (l : Int) (k : Int) (Int.natCast_nonneg l) (Int.ofNat_le.2 e1) (by
      have h1 : inf.bytes * k ≤ 1048576 * 4096 := Nat.mul_le_mul hby.1 e2
      have h2 : ((inf.bytes * k : Nat) : Int) ≤ ((1048576 * 4096 : Nat) : Int) := Int.ofNat_le.2 h1
      have h3 : ((inf.bytes * k : Nat) : Int) = (inf.bytes : Int) * (k : Int) := Int.natCast_mul _ _
      omega) (by omega)
    simp only [Int.toNat_natCast, hzc, hsz] at hrun
    have hlist := madeCells_eq hzl k
    have hlen := repL_length hzl k
    refine newS_sound (cap := k) (arr := madeCells ⟨ez⟩ (k * es)) hr hid hv (by rw [hlen, size_madeCells]; exact Nat.le_refl _) ?_ (by unfold maxLen; omega) (by rw [size_madeCells, hcell]) hrun
    rw [hlist, List.take_length]
    exact L2.grs (repL_gr hgr k)
  · cases hv

theorem fillL_length {pl : Nat → Option (Nat × Nat)} : ∀ (ps : List (Nat × Value)) (z cs : List Value), fillL pl ps z = some cs → cs.length = z.length := by
  intro ps
  induction ps with
  | nil => intro z cs h; cases h; rfl
  | cons p ps ih =>
    intro z cs h
    have h' : (match pl p.1 with
      | none => none
      | some q => cond (okC p.2 && (Nat.beq (lenR (cellsL p.2)) q.2 && Nat.ble (Nat.add q.1 q.2) (lenR z))) (fList (over z q.1 (cellsL p.2)) (fillL pl ps)) none) = some cs := h
    split at h'
    · cases h'
    · rename_i q hq
      obtain ⟨hc, h2⟩ := cond_some h'
      rw [fList_eq] at h2
      simp only [Bool.and_eq_true] at hc
      have e2 := beq_iff hc.2.1
      have e3 := ble_iff hc.2.2
      rw [lenR_eq] at e2 e3
      have e3 : q.1 + q.2 ≤ z.length := e3
      rw [ih _ _ h2, over_eq _ _ _ (by rw [e2]; exact e3)]
      simp
      omega

include hT in
theorem mBuildS_sound (hr : Rel P m h nx w) (hid : m id = none) {t : Tr Value} {n : Nat} {a : Act} (hf : FR m n t a) {ty : TypeId} {len : Nat} {parts : Array (Nat × Operand)} {v : Value} (hv : mBuildS h id t len parts.toList (tl T ty) = some (v, h', c)) :
    Did P fl m h' nx id c w v (do pure (Next.value (← Instr.buildSlice ty len (parts.map fun (i, x) => (i, a.eval x))))) := by
  unfold mBuildS at hv
  split at hv
  · rename_i _ _ _ _ e es ez hty
    obtain ⟨hc, hv⟩ := cond_some hv
    simp only [Bool.and_eq_true] at hc
    have e1 := ble_iff hc.1
    have e2 := blt_iff hc.2
    obtain ⟨d, hd, _, he, hz, hpos⟩ := (hT _ _ hty).desc
    subst he
    have hcell := cellsOf_eq hz
    obtain ⟨inf, z, hi, hsz, hz0, hzc, hzl, hgr, hby⟩ := hz
    unfold mBuilt at hv
    split at hv
    · rename_i cs hcs
      have hlist := madeCells_eq hzl len
      obtain ⟨cs', g1, g2⟩ := fill_sound (m := m) (pl' := fun i => some (i * inf.size, inf.size)) (fun i q hq => by rw [← hq, hsz]; rfl) _ _ (repL ez len) (madeCells ⟨ez⟩ (len * es)) cs (evParts_sound hf parts.toList) (by rw [hlist]; exact L2.grs (repL_gr hgr len)) hcs
      have hlc : cs.length = len * es := by rw [fillL_length _ _ _ hcs, repL_length hzl]
      have hls : cs'.size = len * es := by rw [← Array.length_toList, ← g2.length, hlc]
      have hne : ¬ len * inf.size = 0 := by
        rw [hsz]
        exact Nat.ne_of_gt (Nat.mul_pos e2 hpos)
      have hsm : ¬ len * inf.size > 2 ^ 24 := by
        have h1 : len * inf.size ≤ 4096 * 4096 := Nat.mul_le_mul e1 (by rw [hsz]; exact hby.2)
        omega
      have hrun := run_buildSlice (P := P) w ty e len (parts.map fun (i, x) => (i, a.eval x)) cs' inf z hd hi hz0 hsm hne (by
        rw [parts_list, hzc]
        have : (Array.range (len * inf.size)).map (fun x => (⟨ez⟩ : Array Value)[x % (⟨ez⟩ : Array Value).size]!) = madeCells ⟨ez⟩ (len * es) := by rw [hsz]; rfl
        rw [this]
        exact g1)
      refine newS_sound (cap := len) (arr := cs') hr hid hv (by rw [hls, hlc]; exact Nat.le_refl _) ?_ (by unfold maxLen; omega) (by rw [hls, hcell]) hrun
      rw [show cs.length = cs'.toList.length from g2.length, List.take_length]
      exact g2
    · cases hv
  · cases hv

include hT in
theorem mRange_sound (hr : Rel P m h nx w) (hid : m id = none) {ty : TypeId} {x x' v : Value} (hx : EV m x x') (hv : mRange h id (tl T ty) x = some (v, h', c)) :
    Did P fl m h' nx id c w v (do pure (Next.value (← Instr.range ty x'))) := by
  unfold mRange at hv
  split at hv
  · rename_i s _ _ _ _ hty
    rw [(hx.vr (by simp)).string]
    obtain ⟨d, hd, _, he⟩ := (hT _ _ hty).desc
    have he : d = .string := he
    subst he
    refine newP_sound (ob := .stringIter s 0) hr hid hv ⟨w.heap.size, 0, upd_same _ _ _, heap_alloc_new w _⟩ ?_
    simp [Instr.range, run_underlying hd]
  · cases hv

theorem run_getIter {cb pos : Nat} {s : ByteArray} (g : w.heap[cb]? = some (.stringIter s pos)) : (getObj cb).run P w = .ok (.stringIter s pos) w := by
  simp only [getObj, Sem.run, g]
theorem run_setIter {cb pos : Nat} {s : ByteArray} (g : w.heap[cb]? = some (.stringIter s pos)) (o : Obj) : (setObj cb o).run P w = .ok () { w with heap := w.heap.setIfInBounds cb o } := by
  simp only [setObj, Sem.run, g]
theorem mNext_sound (hr : Rel P m h nx w) {x x' v : Value} {ty : TypeId} (hx : EV m x x') (hv : mNext fl h id x = some (v, h', c)) :
    Did P fl m h' nx id c w v (do pure (Next.value (← Instr.next x' true ty))) := by
  unfold mNext at hv
  split at hv
  · rename_i b
    obtain ⟨cb, cap, hb, hx⟩ := (hx.vr (by simp)).ptr
    subst hx
    unfold mNextB at hv
    split at hv
    · rename_i s pos hg
      obtain ⟨cb', cap', g1, g2⟩ := hr.live _ _ hg
      rw [hb] at g1
      cases g1
      have hsz : lenR s.data.toList = s.size := by rw [lenR_eq, Array.length_toList]; rfl
      rw [hsz] at hv
      cases hlt : Nat.blt pos s.size
      · rw [hlt] at hv
        simp only [cond_false, Option.some.injEq, Prod.mk.injEq] at hv
        obtain ⟨rfl, rfl, rfl⟩ := hv
        have hn : ¬ pos < s.size := fun h => by
          have : Nat.blt pos s.size = true := by unfold Nat.blt; exact Nat.ble_eq_true_of_le h
          rw [hlt] at this
          cases this
        refine Did.value ⟨m, .tuple ⟨[.bool false]⟩, w, .inr (.tup (.cons (.cell (.gr rfl)) .nil)), ?_, Stp.refl _ _ _, fun _ _ => rfl, fun nx' h1 _ => hr.up h1, Nat.le_refl _, Nat.le_succ _⟩
        simp only [Instr.next, Sem.run_bind, run_getIter g2, Result.andThen_ok, hn, if_false, Sem.run_pure]
      · rw [hlt] at hv
        simp only [cond_true, fNat_eq] at hv
        have hlt := blt_iff hlt
        obtain ⟨hfl, hv⟩ := cond_some hv
        have hfl := ble_iff hfl
        obtain ⟨h1, hkk, hh⟩ := Tr.setK_some _ _ _ _ _ hv
        simp only [Option.some.injEq, Prod.mk.injEq] at hkk
        obtain ⟨rfl, rfl, rfl⟩ := hkk
        have hcb : cb < w.heap.size := hr.lt _ _ hb
        have hself : (w.heap.setIfInBounds cb (.stringIter s (pos + (Utf8.decode s pos).2)))[cb]? = some (.stringIter s (pos + (Utf8.decode s pos).2)) := by simp [hcb]
        have hoth : ∀ k, k ≠ cb → (w.heap.setIfInBounds cb (.stringIter s (pos + (Utf8.decode s pos).2)))[k]? = w.heap[k]? := fun k hk => by
          rw [Array.getElem?_setIfInBounds_ne (Ne.symm hk)]
        refine Did.value ⟨m, .tuple ⟨[.bool true, .int .i64 (.ofNat pos), .int .i32 (.ofNat (Utf8.decode s pos).1)]⟩, { w with heap := w.heap.setIfInBounds cb (.stringIter s (pos + (Utf8.decode s pos).2)) }, .inr (.tup (.cons (.cell (.gr rfl)) (.cons (.cell (.gr rfl)) (.cons (.cell (.gr rfl)) .nil)))), ?_,
          ⟨rfl, rfl, rfl, by simp, fun k _ hk => hoth k (fun e => hk b _ hfl hb e.symm), fun _ _ h => h, fun _ _ h => .inl h⟩, fun _ _ => rfl, fun nx' hn _ => ?_, Nat.le_refl _, Nat.le_succ _⟩
        · simp only [Instr.next, Sem.run_bind, run_getIter g2, Result.andThen_ok, hlt, if_true, run_setIter g2, Sem.run_pure, goInt]
          rfl
        · refine Rel.up ⟨fun b1 k1 hb1 => ?_, fun b1 b2 k1 k2 hb1 hb2 hd hd' hne y y' hy hy' => ?_, hr.top, fun b1 y hy => by have := hr.lt b1 y hy; simpa using this⟩ hn
          · rw [hh b1] at hb1
            by_cases hbi : b1 = b
            · rw [if_pos hbi] at hb1
              cases hb1
              subst hbi
              exact ⟨cb, cap, hb, hself⟩
            · rw [if_neg hbi] at hb1
              exact (hr.live b1 k1 hb1).same (fun _ _ h => h) (fun y hy hd => hoth _ (hr.inj b1 b k1 _ hb1 hg hd (by simp) hbi y (cb, cap) hy hb))
          · have key : ∀ b1 k1, h1.get b1 = some k1 → k1 ≠ .dead → ∃ k, h.get b1 = some k ∧ k ≠ .dead := by
              intro b1 k1 h2 h3
              rw [hh b1] at h2
              by_cases hbi : b1 = b
              · subst hbi; exact ⟨_, hg, by simp⟩
              · rw [if_neg hbi] at h2; exact ⟨k1, h2, h3⟩
            obtain ⟨k3, h3, h3'⟩ := key b1 k1 hb1 hd
            obtain ⟨k4, h4, h4'⟩ := key b2 k2 hb2 hd'
            exact hr.inj b1 b2 k3 k4 h3 h4 h3' h4' hne y y' hy hy'
    · cases hv
  · cases hv
end
end Go.Proofs.Ygcfaf.Mach
