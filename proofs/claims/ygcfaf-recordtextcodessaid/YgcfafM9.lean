/- The machine's append; every operation that changes memory. -/
import Derived.Test.YgcfafM8
namespace Go.Proofs.Ygcfaf.Mach
open Go
set_option linter.unusedVariables false
set_option linter.unusedSimpArgs false
variable {α β R : Type}

section
variable {P : Program} {T : List (Nat × TyR)} {m : Mp} (hT : ∀ i r, tl T i = some r → TyOk P i r)
variable {h h' : Tr Blk} {nx id c fl : Nat} {w : World}

theorem Rel.kill {h1 : Tr Blk} {b : Nat} (hr : Rel P m h nx w) (hh : ∀ j, h1.get j = if j = b then some .dead else h.get j) : Rel P m h1 nx w := by
  have key : ∀ b1 k1, h1.get b1 = some k1 → k1 = .dead ∨ h.get b1 = some k1 := by
    intro b1 k1 hb
    rw [hh b1] at hb
    split at hb
    · cases hb; exact .inl rfl
    · exact .inr hb
  refine ⟨fun b1 k1 hb => ?_, fun b1 b2 k1 k2 hb1 hb2 hd hd' => ?_, hr.top, hr.lt⟩
  · rcases key b1 k1 hb with rfl | hb
    · trivial
    · exact hr.live b1 k1 hb
  · exact hr.inj b1 b2 k1 k2 ((key _ _ hb1).resolve_left hd) ((key _ _ hb2).resolve_left hd') hd hd'

theorem Stp.drewOne : Stp fl m w m w.drew := ⟨rfl, rfl, rfl, Nat.le_refl _, fun _ _ _ => rfl, fun _ _ h => h, fun _ _ h => .inl h⟩

/-- The cells that are appended. -/
theorem news_of {cb2 e2 n es : Nat} {arr2 : Array Value} {cs2 : List Value} (g2 : w.heap[cb2]? = some (.cells arr2 e2 (0, 0))) (g3 : cs2.length ≤ arr2.size) (g4 : L2 (CR m) cs2 (arr2.toList.take cs2.length)) (hc : n * es ≤ cs2.length) :
    (arr2.toList.take (n * es)).length = n * es ∧ (∀ (j : Nat) (u : Value), (arr2.toList.take (n * es))[j]? = some u → w.cell? ((⟨cb2, 0, none⟩ : Addr).add j) = some u) ∧ (∀ u ∈ arr2.toList.take (n * es), u.oneCell' = true) ∧ L2 (CR m) (cs2.take (n * es)) (arr2.toList.take (n * es)) := by
  have g5 := g4.take (n * es)
  rw [List.take_take, Nat.min_eq_left hc] at g5
  refine ⟨by simp; omega, fun j u hj => ?_, fun u hu => ?_, g5⟩
  · rw [add_none, Nat.zero_add, cells_of_row g2, ← Array.getElem?_toList]
    rw [List.getElem?_take] at hj
    split at hj
    · exact hj
    · cases hj
  · obtain ⟨i, hi⟩ := List.getElem?_of_mem hu
    have hlt : i < (cs2.take (n * es)).length := by rw [g5.length]; exact (List.getElem?_eq_some_iff.1 hi).1
    obtain ⟨u', hu', hR⟩ := g5.get i _ (List.getElem?_eq_getElem hlt)
    rw [hi] at hu'
    cases hu'
    exact hR.one

include hT in
theorem mAppend_sound (hr : Rel P m h nx w) (hid : m id = none) {ty typ : TypeId} {s s' x x' v : Value} (hs : EV m s s') (hx : EV m x x') (hv : mAppend fl h id s x (tl T ty) = some (v, h', c)) :
    Did P fl m h' nx id c w v (do pure (Next.value (← Builtin.append_ #[ty, ty] typ #[s', x']))) := by
  unfold mAppend at hv
  split at hv
  · rename_i b2 n c2 _ _ _ _ e es ez hty
    obtain ⟨cb2, cap2, cap2', hb2, hx⟩ := (hx.vr (by simp)).slice
    subst hx
    obtain ⟨d, hd, _, he, hz, hpos⟩ := (hT _ _ hty).desc
    subst he
    have hcell := cellsOf_eq hz
    obtain ⟨inf, z, hi, hsz, hz0, hzc, hzl, hgr, hby, hs4⟩ := hz
    unfold mAppN at hv
    split at hv
    · rename_i e2 own2 cs2 hg2
      obtain ⟨hc, hv⟩ := cond_some hv
      simp only [Bool.and_eq_true] at hc
      have c1 := ble_iff hc.1
      have c2 := blt_iff hc.2
      rw [lenR_eq] at c1
      have c1 : n * es ≤ cs2.length := c1
      obtain ⟨cb', cap', arr2, g1, g2, g3, g4, _⟩ := hr.live _ _ hg2
      simp only at hb2
      rw [hb2] at g1
      cases g1
      obtain ⟨n1, n2, n3, n4⟩ := news_of g2 g3 g4 c1
      rw [takeR_eq, Nat.mul_eq] at hv
      have hzsz : z.cells.size = es := by rw [hzc]; exact hzl
      unfold mAppS at hv
      split at hv
      · obtain ⟨hc, hv⟩ := cond_some hv
        have c3 := ble_iff hc
        rw [(hs.vr (by simp)).nilSlice]
        have hrun := run_append_nil (P := P) w ty typ e inf z hd hi hz0 ⟨cb2, 0, none⟩ n cap2' (arr2.toList.take (n * es)) (by rw [hsz]; exact n1) n2 c2 (by omega) (by
          have : n * inf.bytes ≤ 4096 * 1048576 := Nat.mul_le_mul c3 hby
          omega)
        have hge := grownCap_ge w n 0 e
        have hle := grownCap_le_maxLen w n 0 e (by unfold maxLen; omega)
        refine newS_from (w1 := w.drew) (cap := grownCap w n 0 e) (hr.drew _) Stp.drewOne hid hv ?_ ?_ hle ?_ hrun
        · have := n4.length
          simp only [Array.size_append, List.size_toArray]
          omega
        · rw [n4.length]
          simp only [Array.toList_append, List.take_left]
          exact n4
        · simp only [Array.size_append, List.size_toArray, size_zeroCells, hzsz, n1, hcell]
          rw [← Nat.add_mul]
          congr 1
          omega
      · rename_i b len _
        obtain ⟨cb, cap, hb, hs⟩ := (hs.vr (by simp)).slice0
        simp only at hb
        subst hs
        unfold mAppB at hv
        split at hv
        · rename_i e1 cs1 hg
          obtain ⟨hc, hv⟩ := cond_some hv
          simp only [Bool.and_eq_true] at hc
          obtain ⟨k1, k2, k3, k4, k5⟩ := hc
          have k1 := beq_iff k1
          have k3 := ble_iff k3
          have k4 := ble_iff k4
          have k5 := ble_iff k5
          rw [lenR_eq] at k4
          have k4 : len * es ≤ cs1.length := k4
          have k5 : len + n ≤ 4096 := k5
          subst k1
          obtain ⟨cb', cap', arr, p1, p2, p3, p4, p5⟩ := hr.live _ _ hg
          rw [hb] at p1
          cases p1
          obtain ⟨p6, p7⟩ := p5 rfl
          rw [hcell] at p7
          obtain ⟨h1, hv, hh1⟩ := Tr.setK_some _ _ _ _ _ hv
          obtain ⟨o1, o2, o3, o4⟩ := news_of p2 p3 p4 k4
          rw [takeR_eq, appR_eq, Nat.mul_eq, Nat.add_eq] at hv
          have hL := o4.append n4
          have hLl := hL.length
          rw [List.length_append, List.length_append, o1, n1] at hLl
          have hLl2 : (cs1.take (len * es) ++ cs2.take (n * es)).length = (len + n) * es := by
            rw [Nat.add_mul]
            rw [List.length_append]
            exact hLl
          by_cases hroom : len + n ≤ cap
          · have hfit : len * inf.size + (arr2.toList.take (n * es)).length ≤ arr.size := by
              rw [n1, hsz, p7, ← Nat.add_mul]
              exact Nat.mul_le_mul_right _ hroom
            have hrun := run_append_room (P := P) w ty typ e1 inf hd hi cb len cap arr p2 ⟨cb2, 0, none⟩ n cap2' (arr2.toList.take (n * es)) (by rw [hsz]; exact n1) n2 n3 hroom hfit
            unfold newS at hv
            rw [fList_eq] at hv
            obtain ⟨h2, hkk, hh2⟩ := Tr.setK_some _ _ _ _ _ hv
            simp only [Option.some.injEq, Prod.mk.injEq] at hkk
            obtain ⟨rfl, rfl, rfl⟩ := hkk
            have hbid : b ≠ id := fun e => by rw [e, hid] at hb; cases hb
            have hold := upd_old (m := m) (i := id) (cb, cap) hid
            have hsize : ((arr.toList.take (len * inf.size) ++ arr2.toList.take (n * es) ++ arr.toList.drop (len * inf.size + (arr2.toList.take (n * es)).length)).toArray).size = arr.size := by
              simp only [List.size_toArray, List.length_append, List.length_take, List.length_drop, Array.length_toList]
              rw [List.length_take, Array.length_toList] at hfit
              omega
            refine Did.value ⟨upd m id (cb, cap), _, _, .inr (.one (.cell (.slc (upd_same _ _ _)))), hrun, ⟨rfl, rfl, rfl, by simp [World.setRow], fun k _ hk => setRow_other w cb k _ (fun e => hk b _ k3 hb e.symm), hold, fun b1 y hy => ?_⟩, fun b1 hb1 => by unfold upd; rw [if_neg hb1], fun nx' hn hc => ?_, Nat.le_succ _, Nat.le_refl _⟩
            · unfold upd at hy
              split at hy
              · cases hy; exact .inr (.inr ⟨b, _, k3, hb, rfl⟩)
              · exact .inl hy
            · have key : ∀ b1 kb, h2.get b1 = some kb → kb ≠ .dead → b1 ≠ id → h.get b1 = some kb ∧ b1 ≠ b := by
                intro b1 kb hb1 hd hne
                rw [hh2 b1, if_neg hne, hh1 b1] at hb1
                split at hb1
                · cases hb1; exact absurd rfl hd
                · rename_i hne'; exact ⟨hb1, hne'⟩
              have far : ∀ b1 kb y, h.get b1 = some kb → kb ≠ .dead → b1 ≠ b → m b1 = some y → y.1 ≠ cb := fun b1 kb y hb1 hd hne hy => hr.inj b1 b kb _ hb1 hg hd (by simp) hne y (cb, cap) hy hb
              refine ⟨fun b1 kb hb1 => ?_, fun b1 b3 kb kb3 hb1 hb3 hd hd' hne y y' hy hy' => ?_, fun b1 hb1 => ?_, fun b1 y hy => ?_⟩
              · by_cases hbi : b1 = id
                · subst hbi
                  rw [hh2 b1, if_pos rfl] at hb1
                  cases hb1
                  refine ⟨cb, cap, _, upd_same _ _ _, setRow_heap w cb arr _ e1 (0, 0) p2, ?_, ?_, fun _ => ⟨p6, by rw [hsize, p7, hcell]⟩⟩
                  · rw [hsize, hLl2, p7]
                    exact Nat.mul_le_mul_right _ hroom
                  · rw [hLl2, hsz]
                    have e5 : (arr.toList.take (len * es) ++ arr2.toList.take (n * es) ++ arr.toList.drop (len * es + (arr2.toList.take (n * es)).length)).toArray.toList.take ((len + n) * es) = arr.toList.take (len * es) ++ arr2.toList.take (n * es) := by
                      have : (len + n) * es = (arr.toList.take (len * es) ++ arr2.toList.take (n * es)).length := by rw [List.length_append, o1, n1, Nat.add_mul]
                      rw [this]
                      exact List.take_left
                    rw [e5]
                    exact hL.mono fun _ _ => CR.ext hold
                · cases hkd : kb with
                  | dead => trivial
                  | row e' own' cs' =>
                    rw [hkd] at hb1
                    obtain ⟨q1, q2⟩ := key b1 _ hb1 (by simp) hbi
                    exact (hr.live b1 _ q1).same hold (fun y hy _ => setRow_other w cb _ _ (far b1 _ y q1 (by simp) q2 hy))
                  | iter s1 p1 =>
                    rw [hkd] at hb1
                    obtain ⟨q1, q2⟩ := key b1 _ hb1 (by simp) hbi
                    exact (hr.live b1 _ q1).same hold (fun y hy _ => setRow_other w cb _ _ (far b1 _ y q1 (by simp) q2 hy))
              · by_cases hbi : b1 = id
                · subst hbi
                  rw [upd_same] at hy
                  cases hy
                  obtain ⟨q1, q2⟩ := key b3 _ hb3 hd' (Ne.symm hne)
                  unfold upd at hy'
                  rw [if_neg (Ne.symm hne)] at hy'
                  exact Ne.symm (far b3 _ y' q1 hd' q2 hy')
                · obtain ⟨q1, q2⟩ := key b1 _ hb1 hd hbi
                  unfold upd at hy
                  rw [if_neg hbi] at hy
                  by_cases hbi3 : b3 = id
                  · subst hbi3
                    rw [upd_same] at hy'
                    cases hy'
                    exact far b1 _ y q1 hd q2 hy
                  · obtain ⟨r1, r2⟩ := key b3 _ hb3 hd' hbi3
                    unfold upd at hy'
                    rw [if_neg hbi3] at hy'
                    exact hr.inj b1 b3 kb kb3 q1 r1 hd hd' hne y y' hy hy'
              · unfold upd
                have hc : id + 1 ≤ nx' := hc
                rw [if_neg (by omega)]
                exact hr.top b1 (by omega)
              · unfold upd at hy
                have : (w.setRow cb ((arr.toList.take (len * inf.size) ++ arr2.toList.take (n * es) ++ arr.toList.drop (len * inf.size + (arr2.toList.take (n * es)).length)).toArray)).heap.size = w.heap.size := by simp [World.setRow]
                rw [this]
                split at hy
                · cases hy; exact hr.lt _ _ hb
                · exact hr.lt _ _ hy
          · have hrun := run_append_grow (P := P) w ty typ e1 inf z hd hi hz0 ⟨cb, 0, none⟩ len cap (arr.toList.take (len * es)) (by rw [hsz]; exact o1) o2 ⟨cb2, 0, none⟩ n cap2' (arr2.toList.take (n * es)) (by rw [hsz]; exact n1) n2 (by omega) (by omega)
              (growslice_fits (by omega) (by
                have : (len + n) * inf.bytes ≤ 4096 * 1048576 := Nat.mul_le_mul k5 hby
                omega))
            have hge := grownCap_ge w (len + n) cap e1
            have hle := grownCap_le_maxLen w (len + n) cap e1 (by unfold maxLen; omega)
            have hr1 : Rel P m h1 nx w.drew := (hr.kill hh1).drew _
            refine newS_from (w1 := w.drew) (cap := grownCap w (len + n) cap e1) hr1 Stp.drewOne hid hv ?_ ?_ hle ?_ hrun
            · rw [hLl2]
              simp only [Array.size_append, List.size_toArray, o1, n1, Nat.add_mul]
              omega
            · rw [hLl2]
              have e5 : (len + n) * es = (arr.toList.take (len * es) ++ arr2.toList.take (n * es)).length := by rw [List.length_append, o1, n1, Nat.add_mul]
              rw [e5]
              simp only [Array.toList_append]
              rw [List.take_left]
              exact hL
            · simp only [Array.size_append, List.size_toArray, size_zeroCells, hzsz, n1, o1, hcell]
              rw [← Nat.add_mul, ← Nat.add_mul]
              congr 1
              omega
        · cases hv
      · cases hv
    · cases hv
  · cases hv

include hT in
/-- ████ AN OPERATION THAT CHANGES MEMORY ████ -/
theorem aMut_sound (hr : Rel P m h nx w) (hid : m id = none) {t : Tr Value} {n : Nat} {a : Act} (hf : FR m n t a) {o : Oper} {v : Value} (hv : aMut T fl t h id o.op = some (v, h', c)) :
    Did P fl m h' nx id c w v (execOp a.eval o) := by
  unfold execOp
  unfold aMut at hv
  split at hv
  · rename_i ty x y e; rw [e]; exact mStore_sound hT hr (hf.ev x) (hf.ev y) hv
  · rename_i ty e; rw [e]; exact mAlloc_sound hT hr hid hv
  · rename_i ty x e; rw [e]; exact mBox_sound hr hid (hf.ev x) hv
  · rename_i ty len parts e; rw [e]; exact mBuildS_sound hT hr hid hf hv
  · rename_i ty l k e; rw [e]; exact mMake_sound hT hr hid (hf.ev l) (hf.ev k) hv
  · rename_i ty x e; rw [e]; exact mRange_sound hT hr hid (hf.ev x) hv
  · rename_i x e; rw [e]; exact mNext_sound hr (hf.ev x) hv
  · rename_i cl e
    rw [e]
    unfold mCall at hv
    split at hv
    · rename_i b args tys
      unfold mBuiltin at hv
      split at hv
      · rename_i s x ty ty'
        obtain ⟨hc, hv2⟩ := cond_some hv
        have := beq_iff hc
        subst this
        obtain ⟨m', v', w', nxt, h1, h2, h3⟩ := mAppend_sound (typ := o.type) hT hr hid (hf.ev s) (hf.ev x) hv2
        exact ⟨m', v', w', nxt, h1, by simpa [resolve, invoke, builtin] using h2, h3⟩
      · cases hv
    · cases hv
  · cases hv
end
end Go.Proofs.Ygcfaf.Mach
