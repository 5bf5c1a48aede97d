/- The machine's reads of memory, and its writes. -/
import Derived.Test.YgcfafM6
namespace Go.Proofs.Ygcfaf.Mach
open Go
set_option linter.unusedVariables false
set_option linter.unusedSimpArgs false
variable {α β R : Type}

section
variable {P : Program} {T : List (Nat × TyR)} {m : Mp} (hT : ∀ i r, tl T i = some r → TyOk P i r)

theorem SizeOk.of_ty {i : Nat} {r : TyR} (h : TyOk P i r) : SizeOk P i r.size r.agg := by
  obtain ⟨inf, z, h1, h2, _⟩ := h.zero
  obtain ⟨d, hd, ha, _⟩ := h.desc
  exact ⟨inf, d, h1, h2, hd, ha⟩

theorem cells_of_row {w : World} {cb e : Nat} {arr : Array Value} {fr : Nat × Nat} (hg : w.heap[cb]? = some (.cells arr e fr)) (o : Nat) : w.cell? ⟨cb, o, none⟩ = arr[o]? := by
  simp [World.cell?, hg]

/-- The cells of a block, from 'o' on. -/
theorem row_get {cs : List Value} {arr : Array Value} (h : L2 (CR m) cs (arr.toList.take cs.length)) {o : Nat} {v : Value} (hv : cs[o]? = some v) : ∃ v', arr[o]? = some v' ∧ CR m v v' := by
  obtain ⟨v', h1, h2⟩ := h.get o v hv
  refine ⟨v', ?_, h2⟩
  rw [List.getElem?_take] at h1
  split at h1
  · rw [← Array.getElem?_toList]; exact h1
  · cases h1

theorem loadC_sound {w : World} {i : Nat} {r : TyR} (hr : TyOk P i r) {cb e o : Nat} {arr : Array Value} {cs : List Value} {v : Value} (hg : w.heap[cb]? = some (.cells arr e (0, 0))) (hle : cs.length ≤ arr.size) (hl : L2 (CR m) cs (arr.toList.take cs.length)) (h : loadC r o cs = some v) :
    ∃ v', V1 m v v' ∧ (loadVar i ⟨cb, o, none⟩).run P w = .ok v' w := by
  have hs := SizeOk.of_ty hr
  unfold loadC at h
  cases hag : r.agg
  · rw [hag] at h hs
    simp only [cond_false] at h
    rw [nth_eq] at h
    obtain ⟨v', h1, h2⟩ := row_get hl h
    refine ⟨v', .cell h2, ?_⟩
    simp only [loadVar, Sem.run_bind, run_isAgg w hs, Result.andThen_ok, Bool.false_eq_true, if_false, run_load, cells_of_row hg, h1]
  · rw [hag] at h hs
    simp only [cond_true] at h
    obtain ⟨hc, h⟩ := cond_some h
    cases h
    have hc := ble_iff hc
    rw [lenR_eq] at hc
    have hc : o + r.size ≤ cs.length := hc
    rw [takeR_eq, dropR_eq]
    refine ⟨.agg ⟨(arr.toList.drop o).take r.size⟩, .agg ?_, ?_⟩
    · have h1 := (hl.drop o).take r.size
      have h2 : ((arr.toList.take cs.length).drop o).take r.size = (arr.toList.drop o).take r.size := by
        rw [List.drop_take, List.take_take, Nat.min_eq_left (by omega)]
      rw [h2] at h1
      exact h1
    · have hlen : ((arr.toList.drop o).take r.size).length = r.size := by simp; omega
      have h3 := run_loadCells_list (P := P) w ⟨cb, o, none⟩ ((arr.toList.drop o).take r.size) (fun j u hj => by
        rw [add_none, cells_of_row hg, ← Array.getElem?_toList]
        rw [List.getElem?_take] at hj
        split at hj
        · rw [List.getElem?_drop] at hj; exact hj
        · cases hj)
      rw [hlen] at h3
      simp only [loadVar, Sem.run_bind, run_isAgg w hs, Result.andThen_ok, if_true, run_sizeOf w hs, h3, Sem.run_pure]

theorem loadL_sound {w : World} {h : Tr Blk} {nx : Nat} (hr : Rel P m h nx w) {i : Nat} {r : TyR} (hi : TyOk P i r) {x x' v : Value} (hx : EV m x x') (hl : loadL r h x = some v) :
    ∃ cb o, x' = .pointer (some ⟨cb, o, none⟩) ∧ ∃ v', V1 m v v' ∧ (loadVar i ⟨cb, o, none⟩).run P w = .ok v' w := by
  unfold loadL at hl
  split at hl
  · rename_i b o
    obtain ⟨cb, cap, hb, hx⟩ := (hx.vr (by simp)).ptr
    refine ⟨cb, o, hx, ?_⟩
    unfold loadB at hl
    split at hl
    · rename_i e own cs hg
      obtain ⟨cb', cap', arr, h1, h2, h3, h4, _⟩ := hr.live _ _ hg
      rw [hb] at h1
      cases h1
      exact loadC_sound hi h2 h3 h4 hl
    · cases hl
  · cases hl

theorem u8Of_some {v : Value} {n : Nat} (h : u8Of v = some n) : v = .int .u8 (.ofNat n) := by
  unfold u8Of at h
  split at h
  · cases h; rfl
  · cases h

theorem bytesOf_sound {m : Mp} : ∀ (x y : List Value) (l : List UInt8), L2 (CR m) x y → bytesOf x = some l → ∃ ns : List Int, l = ns.map (fun n => UInt8.ofNat n.toNat) ∧ y = ns.map (Value.int .u8) := by
  intro x
  induction x with
  | nil => intro y l hy h; cases hy; cases h; exact ⟨[], rfl, rfl⟩
  | cons v t ih =>
    intro y l hy h
    cases hy with | cons hab ht =>
    have h' : (match u8Of v, bytesOf t with | some n, some l => some (UInt8.ofNat n :: l) | _, _ => none) = some l := h
    split at h'
    · rename_i n l' hn hl
      cases h'
      have := u8Of_some hn
      subst this
      obtain ⟨ns, h1, h2⟩ := ih _ _ ht hl
      have := (VR.one (.cell hab)).int
      subst this
      exact ⟨Int.ofNat n :: ns, by simp [h1], by simp [h2]⟩
    · cases h'

theorem foldl_push (ns : List Int) : ∀ (r : ByteArray), (ns.foldl (fun r n => r.push (UInt8.ofNat n.toNat)) r).data.toList = r.data.toList ++ ns.map (fun n => UInt8.ofNat n.toNat) := by
  induction ns with
  | nil => intro r; simp
  | cons n t ih => intro r; rw [List.foldl_cons, ih]; simp

include hT in
/-- ████ AN OPERATION THAT READS MEMORY ████ -/
theorem aRead_sound {w : World} {h : Tr Blk} {nx : Nat} (hr : Rel P m h nx w) {t : Tr Value} {n : Nat} {a : Act} (hf : FR m n t a) {o : Oper} {v : Value} (hv : aRead T t h o.op = some v) :
    ∃ v', VR m v v' ∧ (execOp a.eval o).run P w = .ok (.value v') w := by
  unfold execOp
  unfold aRead at hv
  split at hv
  · rename_i ty x e
    rw [e]
    unfold loadT at hv
    split at hv
    · rename_i r hty
      obtain ⟨cb, o', hx, v', h1, h2⟩ := loadL_sound hr (hT _ _ hty) (hf.ev x) hv
      exact ⟨v', .one h1, by simp [Instr.loadAt, Instr.sureAddr, hx, h2]⟩
    · cases hv
  · rename_i s d x e
    rw [e]
    have hx := hf.ev x
    unfold rConv at hv
    split at hv
    · rename_i b k c _ _ _ _ el es ez _ _ _ _ hex hs hd
      rw [hex] at hx
      obtain ⟨cb, cap, cap', hb, hx⟩ := (hx.vr (by simp)).slice
      obtain ⟨ds, hds, _, he, _⟩ := (hT _ _ hs).desc
      subst he
      obtain ⟨dd, hdd, _, he⟩ := (hT _ _ hd).desc
      have he : dd = .string := he
      subst he
      unfold rBytes at hv
      split at hv
      · rename_i e' own cs _ _ _ _ hg hel
        obtain ⟨de, hde, _, he⟩ := (hT _ _ hel).desc
        have he : de = .int .u8 := he
        subst he
        obtain ⟨hc, hv⟩ := cond_some hv
        have hc := ble_iff hc
        rw [lenR_eq] at hc
        unfold rStr at hv
        split at hv
        · rename_i l hl
          cases hv
          rw [takeR_eq] at hl
          obtain ⟨cb', cap'', arr, g1, g2, g3, g4, _⟩ := hr.live _ _ hg
          rw [hb] at g1
          cases g1
          have g5 := g4.take k
          rw [List.take_take, Nat.min_eq_left hc] at g5
          obtain ⟨ns, h1, h2⟩ := bytesOf_sound _ _ _ g5 hl
          have hlen : (ns.map (Value.int .u8)).length = k := by rw [← h2]; simp; omega
          have h3 := run_loadCells_list (P := P) w ⟨cb, 0, none⟩ (ns.map (Value.int .u8)) (fun j u hj => by
            rw [add_none, Nat.zero_add, cells_of_row g2, ← Array.getElem?_toList]
            rw [← h2, List.getElem?_take] at hj
            split at hj
            · exact hj
            · cases hj)
          rw [hlen] at h3
          have h4 := run_bytesToString (P := P) w ⟨cb, 0, none⟩ k cap' ns h3
          have h5 : (ns.foldl (fun r n => r.push (UInt8.ofNat n.toNat)) ByteArray.empty) = ⟨⟨l⟩⟩ := by
            apply WideShapes.bytes_inj
            rw [foldl_push, h1]
            simp
          refine ⟨.string ⟨⟨l⟩⟩, .grd rfl, ?_⟩
          rw [← h5]
          simp [convert, hx, run_underlying hds, run_underlying hdd, run_underlying hde, h4]
        · cases hv
      · cases hv
    · cases hv
  · cases hv
end

/-! ### What is written -/
def upd (m : Mp) (i : Nat) (x : Nat × Nat) : Mp := fun b => if b = i then some x else m b
theorem upd_same (m : Mp) (i : Nat) (x : Nat × Nat) : upd m i x i = some x := by simp [upd]
theorem upd_old {m : Mp} {i : Nat} (x : Nat × Nat) (h : m i = none) : ∀ b y, m b = some y → upd m i x b = some y := by
  intro b y hb
  unfold upd
  split
  · rename_i e; rw [e, h] at hb; cases hb
  · exact hb

section
variable {P : Program} {m : Mp} {h h' : Tr Blk} {nx nx' : Nat} {w : World}
theorem alloc_get (w : World) (ob : Obj) (k : Nat) (hk : k < w.heap.size) : (w.alloc ob).heap[k]? = w.heap[k]? := heap_alloc_old w ob k hk

theorem Rel.alloc (hr : Rel P m h nx w) {id cap : Nat} (hid : m id = none) (hlt : id < nx') (hnx : nx ≤ nx') {ob : Obj} {k : Blk} (hh : ∀ j, h'.get j = if j = id then some k else h.get j)
    (hk : Lives P (upd m id (w.heap.size, cap)) (w.alloc ob) id k) : Rel P (upd m id (w.heap.size, cap)) h' nx' (w.alloc ob) := by
  have hold := upd_old (m := m) (i := id) (w.heap.size, cap) hid
  refine ⟨fun b kb hb => ?_, fun b b' kb kb' hb hb' hd hd' hne x x' hx hx' => ?_, fun b hb => ?_, fun b x hx => ?_⟩
  · rw [hh b] at hb
    by_cases hbi : b = id
    · rw [if_pos hbi] at hb; cases hb; subst hbi; exact hk
    · rw [if_neg hbi] at hb
      exact (hr.live b kb hb).same hold (fun x hx _ => alloc_get w ob _ (hr.lt _ _ hx))
  · have hlt' : ∀ b x, b ≠ id → upd m id (w.heap.size, cap) b = some x → x.1 < w.heap.size := by
      intro b x hb hx
      unfold upd at hx
      rw [if_neg hb] at hx
      exact hr.lt b x hx
    by_cases hbi : b = id
    · subst hbi
      rw [upd_same] at hx
      cases hx
      have := hlt' b' x' (Ne.symm hne) hx'
      simp only
      omega
    · by_cases hbi' : b' = id
      · subst hbi'
        rw [upd_same] at hx'
        cases hx'
        have := hlt' b x hbi hx
        simp only
        omega
      · rw [hh b, if_neg hbi] at hb
        rw [hh b', if_neg hbi'] at hb'
        unfold upd at hx hx'
        rw [if_neg hbi] at hx
        rw [if_neg hbi'] at hx'
        exact hr.inj b b' kb kb' hb hb' hd hd' hne x x' hx hx'
  · unfold upd
    rw [if_neg (by omega)]
    exact hr.top b (by omega)
  · unfold upd at hx
    split at hx
    · cases hx; simp
    · have := hr.lt b x hx
      simp
      omega

theorem Stp.alloc {fl id cap : Nat} (hid : m id = none) (ob : Obj) : Stp fl m w (upd m id (w.heap.size, cap)) (w.alloc ob) := by
  refine ⟨rfl, rfl, rfl, by simp, fun k hk _ => alloc_get w ob k hk, upd_old _ hid, fun b x hx => ?_⟩
  unfold upd at hx
  split at hx
  · cases hx; exact .inr (.inl (Nat.le_refl _))
  · exact .inl hx

/-- A row is written over. -/
theorem Rel.write (hr : Rel P m h nx w) {b cb cap e : Nat} {own : Bool} {cs cs' : List Value} {arr arr' : Array Value} (hg : h.get b = some (.row e own cs)) (hb : m b = some (cb, cap)) (hw : w.heap[cb]? = some (.cells arr e (0, 0)))
    (hsz : arr'.size = arr.size) (hle : cs'.length ≤ arr'.size) (hl : L2 (CR m) cs' (arr'.toList.take cs'.length)) (hh : ∀ j, h'.get j = if j = b then some (.row e own cs') else h.get j) : Rel P m h' nx (w.setRow cb arr') := by
  refine ⟨fun b1 k1 hb1 => ?_, fun b1 b2 k1 k2 hb1 hb2 hd hd' hne x x' hx hx' => ?_, hr.top, fun b1 x hx => by have := hr.lt b1 x hx; simpa [World.setRow] using this⟩
  · rw [hh b1] at hb1
    by_cases hbi : b1 = b
    · rw [if_pos hbi] at hb1
      cases hb1
      subst hbi
      obtain ⟨cb0, cap0, arr0, g1, g2, g3, g4, g5⟩ := hr.live _ _ hg
      rw [hb] at g1
      cases g1
      rw [hw] at g2
      cases g2
      exact ⟨cb, cap, arr', hb, setRow_heap w cb arr arr' e (0, 0) hw, hle, hl, fun ho => by rw [hsz]; exact g5 ho⟩
    · rw [if_neg hbi] at hb1
      refine (hr.live b1 k1 hb1).same (fun _ _ h => h) (fun x hx hd => setRow_other w cb x.1 arr' ?_)
      exact hr.inj b1 b k1 _ hb1 hg hd (by simp) hbi x (cb, cap) hx hb
  · have key : ∀ b1 k1, h'.get b1 = some k1 → k1 ≠ .dead → ∃ k, h.get b1 = some k ∧ k ≠ .dead := by
      intro b1 k1 h1 h2
      rw [hh b1] at h1
      by_cases hbi : b1 = b
      · subst hbi; exact ⟨_, hg, by simp⟩
      · rw [if_neg hbi] at h1; exact ⟨k1, h1, h2⟩
    obtain ⟨k3, h3, h3'⟩ := key b1 k1 hb1 hd
    obtain ⟨k4, h4, h4'⟩ := key b2 k2 hb2 hd'
    exact hr.inj b1 b2 k3 k4 h3 h4 h3' h4' hne x x' hx hx'

theorem Stp.write {fl b cb cap : Nat} (hb : m b = some (cb, cap)) (hfl : fl ≤ b) (arr' : Array Value) : Stp fl m w m (w.setRow cb arr') :=
  ⟨rfl, rfl, rfl, by simp [World.setRow], fun k _ hk => setRow_other w cb k arr' (fun e => hk b _ hfl hb e.symm), fun _ _ h => h, fun _ _ h => .inl h⟩
end
end Go.Proofs.Ygcfaf.Mach
