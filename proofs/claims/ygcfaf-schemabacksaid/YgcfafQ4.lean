import Derived.Test.YgcfafQ3
namespace Go.Proofs.Ygcfaf
open Go.RowKit
set_option linter.unusedVariables false

theorem Rows.alloc {w : World} {b0 n : Nat} {ss : List Str} {S : List PStr} {γ : Nat → Nat} {G : Nat → List Fld} (h : Rows w b0 n ss S γ G) (o : Obj) : Rows (w.alloc o) b0 n ss S γ G :=
  ⟨h.len, h.str, fun k t hk ht hn => ⟨(h.blk k t hk ht hn).1, (h.blk k t hk ht hn).2.alloc o⟩, h.inj⟩

theorem ref_set {g f : Fld} (h : g = f ∨ g = f.half) : (fldCells g).set 3 (.int .u8 f.t.ref) = fldCells f := by
  rcases h with rfl | rfl <;> rfl

theorem Rows.step {w : World} {b0 n : Nat} {ss : List Str} {S : List PStr} {γ : Nat → Nat} {G : Nat → List Fld} (h : Rows w b0 n ss S γ G) {k i : Nat} {t : Str} {f g : Fld} (hk : k < n) (ht : ss[k]? = some t) (hf : t.fs[i]? = some f) (hg : (G k)[i]? = some g) (hgo : g = f ∨ g = f.half) :
    Rows (w.setCell ⟨γ k, i * 9 + 3, none⟩ (.int .u8 f.t.ref)) b0 n ss S γ (fun q => if q = k then (G q).set i f else G q) := by
  have hne : t.fs ≠ [] := by intro h; rw [h] at hf; simp at hf
  refine ⟨h.len, h.str, fun q t' hq ht' hn => ⟨(h.blk q t' hq ht' hn).1, ?_⟩, h.inj⟩
  by_cases hqk : q = k
  · subst hqk
    simp only [if_true]
    have hb := (h.blk q t' hq ht' hn).2.set (i * 9 + 3) (.int .u8 f.t.ref)
    rw [show (fRow (G q)).set (i * 9 + 3) (.int .u8 f.t.ref) = fRow ((G q).set i f) from flat_set fldCells 9 fld_len (G q) i 3 g f _ hg (by decide) (ref_set hgo)] at hb
    exact hb
  · simp only [if_neg hqk]
    exact (h.blk q t' hq ht' hn).2.setOther _ _ (h.inj q k t' t hq hk ht' ht hn hne hqk)

theorem Blk.setBlk {w : World} {g g' : Nat} {e e' : TypeId} {l l' : List Value} (h : Blk w g e l) (h' : Blk w g' e' l') (he : e ≠ e') (o : Nat) (v : Value) : Blk (w.setCell ⟨g', o, none⟩ v) g e l := by
  refine h.setOther _ _ ?_
  rintro rfl
  unfold Blk at h h'
  rw [h] at h'
  simp at h'
  exact he h'.2

/-- What bind leaves. -/
def BindEnd (w : World) (p b0 n at_ en tok : Nat) (T : ByteArray) (Sv Uv : Value) (nums : List Int) (us : List Use) (ss : List Str) (S : List PStr) (γ : Nat → Nat) (e : Ending) (w' : World) : Prop :=
  e = .returned (.tuple #[]) ∧ ∃ G, Half ss us us.length G ∧ Blk w' p 223 (pCells T at_ en tok (xCells Sv nums Uv)) ∧ w'.ownsRow b0 148 4 Sv n (sRow S) ∧ Rows w' b0 n ss S γ G ∧ Below b0 w w'

/-- Where bind's loop stands. -/
structure BindInv (w wr : World) (p b0 n at_ en tok y : Nat) (T : ByteArray) (Sv Uv : Value) (nums : List Int) (us : List Use) (ss : List Str) (S : List PStr) (γ : Nat → Nat) (G : Nat → List Fld) : Prop where
  half : Half ss us y G
  blk : Blk wr p 223 (pCells T at_ en tok (xCells Sv nums Uv))
  row : wr.ownsRow b0 148 4 Sv n (sRow S)
  uses : wr.ownsRow b0 295 4 Uv us.length (usesRow us)
  rows : Rows wr b0 n ss S γ G
  below : Below b0 w wr

set_option maxHeartbeats 8000000 in
set_option maxRecDepth 100000 in
theorem bind_any (w : World) (p b0 n at_ en tok : Nat) (T : ByteArray) (Sv Uv : Value) (nums : List Int) (us : List Use) (ss : List Str) (S : List PStr) (γ : Nat → Nat) (G0 : Nat → List Fld)
    (hp : b0 ≤ p) (hnl : nums.length = 16) (hn : n = ss.length) (hn4 : n ≤ 4) (hln : ∀ t ∈ ss, t.fs.length ≤ 16) (h0 : BindInv w w p b0 n at_ en tok 0 T Sv Uv nums us ss S γ G0) (hul : us.length ≤ 1000)
    (huse : ∀ u ∈ us, ∃ t f r, UseOk ss u t f r) (huq : ∀ (i j : Nat) (a b : Str), i ≠ j → ss[i]? = some a → ss[j]? = some b → (a.name.toList == b.name.toList) = false) :
    Calls Fafg.prog 104 #[.pointer (some ⟨p, 0, none⟩)] w (BindEnd w p b0 n at_ en tok T Sv Uv nums us ss S γ) := by
  obtain ⟨sa, sc, rfl⟩ := own_slice h0.row
  obtain ⟨ua, uc, rfl⟩ := own_slice h0.uses
  have Huse : Hid (∀ u ∈ us, ∃ t f r, UseOk ss u t f r) := huse
  have Huq : Hid (∀ (i j : Nat) (a b : Str), i ≠ j → ss[i]? = some a → ss[j]? = some b → (a.name.toList == b.name.toList) = false) := huq
  have Hln : Hid (∀ t ∈ ss, t.fs.length ≤ 16) := hln
  clear huse huq hln
  have c8 : w.cell? ⟨p, 23, none⟩ = some (.slice ua us.length uc) := (h0.blk.cell 23).trans (x_uses _ _ _ _ _ _ _ hnl)
  go_enter Fafg.func104, Fafg.ntmps104
  go_wp2_with fail
  clear c8
  have Hh0 : Hid (BindInv w w p b0 n at_ en tok 0 T (.slice sa n sc) (.slice ua us.length uc) nums us ss S γ G0) := h0
  clear h0
  go_loopw [11] (fun x wr => ∃ (y : Nat) (G : Nat → List Fld), y ≤ us.length ∧ x = .int .i64 y ∧ BindInv w wr p b0 n at_ en tok y T (.slice sa n sc) (.slice ua us.length uc) nums us ss S γ G) (fun x _ => us.length + 1 - (intOf x).toNat)
  case atStart => exact ⟨0, G0, by omega, rfl, Hh0.out⟩
  case round =>
    obtain ⟨y, G, hy, rfl, hinv⟩ := hrel
    have Hinv : Hid (BindInv w wr p b0 n at_ en tok y T (.slice sa n sc) (.slice ua us.length uc) nums us ss S γ G) := hinv
    clear hinv Hh0
    by_cases hyl : y < us.length
    · obtain ⟨u, hu⟩ : ∃ u, us[y]? = some u := ⟨us[y], List.getElem?_eq_getElem hyl⟩
      obtain ⟨t, f, r, hok⟩ := Huse.out u (List.mem_of_getElem? hu)
      have Hok : Hid (UseOk ss u t f r) := hok
      have Hu : Hid (us[y]? = some u) := hu
      have hks : u.strct < n := by rw [hn]; exact (List.getElem?_eq_some_iff.1 hok.ht).1
      have hrn : f.t.ref < n := by rw [hn]; exact (List.getElem?_eq_some_iff.1 hok.hr).1
      have hfi : u.field < t.fs.length := (List.getElem?_eq_some_iff.1 hok.hf).1
      have htl : t.fs.length ≤ 16 := Hln.out t (List.mem_of_getElem? hok.ht)
      obtain ⟨ug, ucap, huv, _, hugl⟩ := own_head Hinv.out.uses (by omega)
      obtain ⟨rfl, rfl⟩ : ua = some ⟨ug, 0, none⟩ ∧ uc = ucap := by cases huv; exact ⟨rfl, rfl⟩
      obtain ⟨sg, scap, hsv, _, hsgl⟩ := own_head Hinv.out.row (by omega)
      obtain ⟨rfl, rfl⟩ : sa = some ⟨sg, 0, none⟩ ∧ sc = scap := by cases hsv; exact ⟨rfl, rfl⟩
      have u0 : wr.cell? ⟨ug, y * 4, none⟩ = some (.int .i64 u.at_) := own_cell Hinv.out.uses _ _ (flat_at useCells 4 (fun _ => rfl) us y 0 _ _ hu rfl)
      have u1 : wr.cell? ⟨ug, y * 4 + 1, none⟩ = some (.int .i64 u.strct) := own_cell Hinv.out.uses _ _ (flat_at useCells 4 (fun _ => rfl) us y 1 _ _ hu rfl)
      have u2 : wr.cell? ⟨ug, y * 4 + 2, none⟩ = some (.int .i64 u.field) := own_cell Hinv.out.uses _ _ (flat_at useCells 4 (fun _ => rfl) us y 2 _ _ hu rfl)
      have u3 : wr.cell? ⟨ug, y * 4 + 3, none⟩ = some (.string u.name) := own_cell Hinv.out.uses _ _ (flat_at useCells 4 (fun _ => rfl) us y 3 _ _ hu rfl)
      have c6 : wr.cell? ⟨p, 6, none⟩ = some (.slice (some ⟨sg, 0, none⟩) n sc) := Hinv.out.blk.cell 6
      have hpl : p < wr.heap.size := Hinv.out.blk.lt
      clear hok hu huv hsv
      go_wp2_with fail
      clear u0 u1 u2 u3 c6
      have eWX : wr.alloc (.cells #[.int .i64 u.at_, .int .i64 u.strct, .int .i64 u.field, .string u.name] 295) = wr.alloc (.cells (useCells u).toArray 295) := rfl
      rw [eWX]
      clear eWX
      have Hnew : Hid (Blk (wr.alloc (.cells (useCells u).toArray 295)) wr.heap.size 295 (useCells u)) := Blk.new _ _ _
      have HbX : Hid (Blk (wr.alloc (.cells (useCells u).toArray 295)) p 223 (pCells T at_ en tok (xCells (.slice (some ⟨sg, 0, none⟩) n sc) nums (.slice (some ⟨ug, 0, none⟩) us.length uc)))) := Hinv.out.blk.alloc _
      have HsX : Hid ((wr.alloc (.cells (useCells u).toArray 295)).ownsRow b0 148 4 (.slice (some ⟨sg, 0, none⟩) n sc) n (sRow S)) := Hinv.out.row.alloc _
      have HuX : Hid ((wr.alloc (.cells (useCells u).toArray 295)).ownsRow b0 295 4 (.slice (some ⟨ug, 0, none⟩) us.length uc) us.length (usesRow us)) := Hinv.out.uses.alloc _
      have HrX : Hid (Rows (wr.alloc (.cells (useCells u).toArray 295)) b0 n ss S γ G) := Hinv.out.rows.alloc _
      have HeX : Hid (Below b0 w (wr.alloc (.cells (useCells u).toArray 295))) := Hinv.out.below.alloc (by omega) _
      have HhX : Hid (Half ss us y G) := Hinv.out.half
      clear Hinv
      generalize wr.alloc (.cells (useCells u).toArray 295) = WX at *
      generalize wr.heap.size = fk at *
      have c6 : WX.cell? ⟨p, 6, none⟩ = some (.slice (some ⟨sg, 0, none⟩) n sc) := HbX.out.cell 6
      have c4 : WX.cell? ⟨p, 4, none⟩ = some (.int .u8 0) := HbX.out.cell 4
      have k1 : WX.cell? ⟨fk, 1, none⟩ = some (.int .i64 u.strct) := Hnew.out.cell 1
      have k2 : WX.cell? ⟨fk, 2, none⟩ = some (.int .i64 u.field) := Hnew.out.cell 2
      have k3 : WX.cell? ⟨fk, 3, none⟩ = some (.string u.name) := Hnew.out.cell 3
      have hrl : decide ((f.t.ref : Int) < 0) = false := by simp
      go_loopw [21, 4] (fun x fd wq => ∃ j : Nat, j ≤ n ∧ x = .int .i64 j ∧ fd = .int .i64 (if j ≤ f.t.ref then -1 else (f.t.ref : Int)) ∧ ∃ d, wq = WX.drewN d) (fun x _ _ => n + 1 - (intOf x).toNat)
      case atStart => exact ⟨0, by omega, rfl, by simp, 0, rfl⟩
      case round =>
        obtain ⟨j, hj, rfl, rfl, d, rfl⟩ := hrel
        by_cases hlt : j < n
        · obtain ⟨tj, htj⟩ : ∃ tj, ss[j]? = some tj := ⟨ss[j]'(by omega), List.getElem?_eq_getElem (by omega)⟩
          have sN : WX.cell? ⟨sg, j * 4, none⟩ = some (.string tj.name) := own_cell HsX.out _ _ (flat_at pstrCells 4 pstr_len S j 0 _ _ (HrX.out.str j tj hlt htj) rfl)
          by_cases hjr : j ≤ f.t.ref
          · rw [if_pos hjr]
            by_cases hje : j = f.t.ref
            · have heq : (tj.name.toList == u.name.toList) = true := by
                have h1 := Hok.out.hr
                rw [← hje, htj] at h1
                cases h1
                rw [Hok.out.nm]; simp
              have Hje : Hid (j = f.t.ref) := hje
              clear htj hje
              go_wp2_with fail
              go_quiet (fail)
              go_wp2
              go_roundw
              case rel => exact ⟨j + 1, by omega, by go_num, by have h9 := Hje.out; rw [if_neg (by omega), h9], _, rfl⟩
              case measure => simp [intOf]; omega
            · have heq : (tj.name.toList == u.name.toList) = false := by
                rw [Hok.out.nm]
                exact Huq.out j f.t.ref tj r hje htj Hok.out.hr
              clear htj
              go_wp2_with fail
              go_quiet (fail)
              go_wp2
              go_roundw
              case rel => exact ⟨j + 1, by omega, by go_num, by rw [if_pos (by omega)], _, rfl⟩
              case measure => simp [intOf]; omega
          · rw [if_neg hjr]
            clear htj
            go_wp2_with fail
            go_quiet (fail)
            go_wp2
            go_roundw
            case rel => exact ⟨j + 1, by omega, by go_num, by rw [if_neg (by omega)], _, rfl⟩
            case measure => simp [intOf]; omega
        · obtain rfl : j = n := by omega
          rw [if_neg (by omega)]
          have hne : t.fs ≠ [] := by intro h; rw [h] at hfi; simp at hfi
          have hstr := HrX.out.str u.strct t hks Hok.out.ht
          obtain ⟨hγ0, hγb⟩ := HrX.out.blk u.strct t hks Hok.out.ht hne
          rw [show Fval t (γ u.strct) = .slice (some ⟨γ u.strct, 0, none⟩) t.fs.length t.fs.length by unfold Fval; rw [if_neg hne]] at hstr
          have sF : WX.cell? ⟨sg, u.strct * 4 + 1, none⟩ = some (.slice (some ⟨γ u.strct, 0, none⟩) t.fs.length t.fs.length) := own_cell HsX.out _ _ (flat_at pstrCells 4 pstr_len S u.strct 1 _ _ hstr rfl)
          obtain ⟨g, hg, hgo⟩ := HhX.out.fld u.strct t u.field f Hok.out.ht Hok.out.hf
          have y3 : WX.cell? ⟨γ u.strct, u.field * 9 + 3, none⟩ = some (.int .u8 g.t.ref) := (hγb.cell _).trans (flat_at fldCells 9 fld_len _ u.field 3 _ _ hg rfl)
          have z3 : WX.frozen? ⟨γ u.strct, u.field * 9 + 3, none⟩ = false := hγb.frozen _
          have HRn := HrX.out.step hks Hok.out.ht Hok.out.hf hg (by rcases hgo with h | h; exact .inl h; exact .inr h.1)
          have HHn := half_step HhX.out Hu.out Hok.out.ht Hok.out.hf
          have HBn := HbX.out.setBlk hγb (by decide) (u.field * 9 + 3) (.int .u8 f.t.ref)
          have HSn := ownsRow_setOther HsX.out hγb (by decide) (u.field * 9 + 3) (.int .u8 f.t.ref)
          have HUn := ownsRow_setOther HuX.out hγb (by decide) (u.field * 9 + 3) (.int .u8 f.t.ref)
          have HEn := HeX.out.setCell (p := ⟨γ u.strct, u.field * 9 + 3, none⟩) hγ0 (.int .u8 f.t.ref)
          have HInv : Hid (BindInv w (WX.setCell ⟨γ u.strct, u.field * 9 + 3, none⟩ (.int .u8 f.t.ref)) p b0 j at_ en tok (y + 1) T (.slice (some ⟨sg, 0, none⟩) j sc) (.slice (some ⟨ug, 0, none⟩) us.length uc) nums us ss S γ _) := ⟨HHn, HBn, HSn, HUn, HRn, HEn⟩
          clear HRn HHn HBn HSn HUn HEn hgo hg hstr hne hγb HrX HhX HuX HsX HbX HeX Hnew
          generalize γ u.strct = gk at *
          go_wp2_with fail
          go_region
          all_goals
            go_wp2
            go_roundw
            case rel => exact ⟨y + 1, _, by omega, by go_num, ⟨HInv.out.half, HInv.out.blk, HInv.out.row, HInv.out.uses, ⟨HInv.out.rows.len, HInv.out.rows.str, HInv.out.rows.blk, HInv.out.rows.inj⟩, ⟨HInv.out.below.os, HInv.out.below.tape, HInv.out.below.output, HInv.out.below.size, HInv.out.below.block⟩⟩⟩
            case measure => simp [intOf]; omega
    · obtain rfl : y = us.length := by omega
      go_wp2
      refine bodyPost_ret (results_none rfl _ _ _) rfl ?_
      exact ⟨rfl, G, Hinv.out.half, Hinv.out.blk, Hinv.out.row, Hinv.out.rows, Hinv.out.below⟩
end Go.Proofs.Ygcfaf
