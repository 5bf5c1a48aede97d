import Derived.Test.YgcfafP4
namespace Go.Proofs.Ygcfaf
open Go.RowKit
set_option linter.unusedVariables false

/-- The tokens of a type's text. -/
structure TypToks (T : ByteArray) (at_ nest : Nat) (nm : List UInt8) : Prop where
  lst : ∀ y, y < nest → TokAt T (at_ + 5 * y) (at_ + 5 * y) (at_ + 5 * y + 4) 97 ∧ (T.extract (at_ + 5 * y) (at_ + 5 * y + 4)).data.toList = listL
  par : ∀ y, y < nest → TokAt T (at_ + 5 * y + 4) (at_ + 5 * y + 4) (at_ + 5 * y + 5) 40
  core : TokAt T (at_ + 5 * nest) (at_ + 5 * nest) (at_ + 5 * nest + nm.length) 97 ∧ (T.extract (at_ + 5 * nest) (at_ + 5 * nest + nm.length)).data.toList = nm
  clo : ∀ z, z < nest → TokAt T (at_ + 5 * nest + nm.length + z) (at_ + 5 * nest + nm.length + z) (at_ + 5 * nest + nm.length + z + 1) 41
  semi : TokAt T (at_ + 5 * nest + nm.length + nest) (at_ + 5 * nest + nm.length + nest) (at_ + 5 * nest + nm.length + nest + 1) 59
  size : at_ + 5 * nest + nm.length + nest + 1 ≤ T.size

theorem at_lists {T : ByteArray} {at_ : Nat} {rest : List UInt8} : ∀ (y n : Nat), At T at_ (repL (y + n) lopL ++ rest) → At T (at_ + 5 * y) (repL n lopL ++ rest)
  | 0, n, h => by simpa using h
  | y + 1, n, h => by
    have h1 : At T at_ (lopL ++ (repL (y + n) lopL ++ rest)) := by
      rw [show y + 1 + n = (y + n) + 1 by omega, repL_cons, List.append_assoc] at h
      exact h
    have h2 := at_lists y n h1.step
    have e : at_ + lopL.length + 5 * y = at_ + 5 * (y + 1) := by show at_ + 5 + 5 * y = _; omega
    rw [e] at h2
    exact h2

theorem at_clos {T : ByteArray} {c : Nat} {rest : List UInt8} : ∀ (z n : Nat), At T c (repL (z + n) [41] ++ rest) → At T (c + z) (repL n [41] ++ rest)
  | 0, n, h => by simpa using h
  | z + 1, n, h => by
    have h1 : At T c ([41] ++ (repL (z + n) [41] ++ rest)) := by
      rw [show z + 1 + n = (z + n) + 1 by omega, repL_cons, List.append_assoc] at h
      exact h
    have h2 := at_clos z n h1.step
    have e : c + ([41] : List UInt8).length + z = c + (z + 1) := by show c + 1 + z = _; omega
    rw [e] at h2
    exact h2

theorem typ_toks {T : ByteArray} {at_ nest : Nat} {nm rest : List UInt8} (h : At T at_ (repL nest lopL ++ nm ++ repL nest [41] ++ 59 :: rest)) (hn : nameL nm = true) : TypToks T at_ nest nm := by
  have hL : ∀ y, y ≤ nest → At T (at_ + 5 * y) (repL (nest - y) lopL ++ (nm ++ (repL nest [41] ++ 59 :: rest))) := fun y hy => by
    refine at_lists y (nest - y) ?_
    rw [show y + (nest - y) = nest by omega]
    simpa [List.append_assoc] using h
  have hC := hL nest (Nat.le_refl _)
  rw [Nat.sub_self] at hC
  have hC' : At T (at_ + 5 * nest) (nm ++ (repL nest [41] ++ 59 :: rest)) := by simpa [repL] using hC
  have hD := hC'.step
  have hZ : ∀ z, z ≤ nest → At T (at_ + 5 * nest + nm.length + z) (repL (nest - z) [41] ++ 59 :: rest) := fun z hz => by
    refine at_clos z (nest - z) ?_
    rw [show z + (nest - z) = nest by omega]
    exact hD
  have hstop : stop (repL nest [41] ++ 59 :: rest) := by
    cases nest with
    | zero => simpa [repL] using sign_stop (r := rest) (show signB 59 = true by decide)
    | succ n => rw [repL_cons]; exact sign_stop (show signB 41 = true by decide)
  refine ⟨fun y hy => ?_, fun y hy => ?_, ⟨tok_name hC' hn hstop, hC'.extract⟩, fun z hz => ?_, ?_, ?_⟩
  · have h1 := hL y (by omega)
    rw [show nest - y = (nest - y - 1) + 1 by omega, repL_cons, List.append_assoc] at h1
    have h2 : At T (at_ + 5 * y) (listL ++ (40 :: (repL (nest - y - 1) lopL ++ (nm ++ (repL nest [41] ++ 59 :: rest))))) := h1
    exact ⟨tok_name h2 (by decide) (sign_stop (by decide)), h2.extract⟩
  · have h1 := hL y (by omega)
    rw [show nest - y = (nest - y - 1) + 1 by omega, repL_cons, List.append_assoc] at h1
    have h2 : At T (at_ + 5 * y) (listL ++ (40 :: (repL (nest - y - 1) lopL ++ (nm ++ (repL nest [41] ++ 59 :: rest))))) := h1
    exact tok_sign h2.step (by decide)
  · have h1 := hZ z (by omega)
    rw [show nest - z = (nest - z - 1) + 1 by omega, repL_cons] at h1
    exact tok_sign (c := 41) (rest := repL (nest - z - 1) [41] ++ 59 :: rest) (by simpa using h1) (by decide)
  · have h1 := hZ nest (Nat.le_refl _)
    rw [Nat.sub_self] at h1
    exact tok_sign (c := 59) (rest := rest) (by simpa [repL] using h1) (by decide)
  · have h1 := (hZ nest (Nat.le_refl _)).size
    rw [Nat.sub_self] at h1
    simp [repL] at h1
    omega

theorem Kq.setNew {B : Nat} {a w : World} (h : Kq B a w) {x : Addr} (hx : a.heap.size ≤ x.block) (hB : B ≤ a.heap.size) (v : Value) : Kq B a (w.setCell x v) :=
  ⟨h.below.setCell (Nat.le_trans hB hx) v, fun g cur e fz hg h1 h2 => by have := heap_lt hg; rw [Below.heap_setCell _ _ _ _ (by omega)]; exact h.other g cur e fz hg h1 h2⟩

theorem ownsRow_setOther {w : World} {base n size g : Nat} {e e' : TypeId} {l xs : List Value} {v : Value} (hr : w.ownsRow base e size v n xs) (hb : Blk w g e' l) (he : e ≠ e') (o : Nat) (u : Value) : (w.setCell ⟨g, o, none⟩ u).ownsRow base e size v n xs := by
  refine ⟨hr.1, ?_⟩
  rcases hr.2 with hn | ⟨g', cap, cur, hv, hbb, hh, rest⟩
  · exact .inl hn
  · refine .inr ⟨g', cap, cur, hv, hbb, ?_, rest⟩
    rw [Below.heap_setCell _ _ _ _ ?_]
    · exact hh
    · intro hgp
      simp only at hgp
      subst hgp
      unfold Blk at hb
      rw [hh] at hb
      simp at hb
      exact he hb.2

theorem own_slice {w : World} {base n size : Nat} {e : TypeId} {xs : List Value} {v : Value} (h : w.ownsRow base e size v n xs) : ∃ a c, v = .slice a n c := by
  rcases h.2 with ⟨rfl, rfl⟩ | ⟨g, cap, cur, hv, _⟩
  · exact ⟨none, 0, rfl⟩
  · exact ⟨_, _, hv⟩

theorem x_uses (T : ByteArray) (a e k : Nat) (Sv Uv : Value) (nums : List Int) (h : nums.length = 16) : (pCells T a e k (xCells Sv nums Uv))[23]? = some Uv := by
  unfold pCells xCells
  simp only [List.getElem?_cons_succ]
  rw [List.getElem?_append_right (by simp [h])]
  simp [h]

theorem x_setUses (T : ByteArray) (a e k : Nat) (Sv Uv Uv' : Value) (nums : List Int) (h : nums.length = 16) : (pCells T a e k (xCells Sv nums Uv)).set 23 Uv' = pCells T a e k (xCells Sv nums Uv') := by
  unfold pCells xCells
  simp only [List.set_cons_succ]
  rw [List.set_append_right _ _ (by simp [h])]
  simp [h]

theorem Blk.rowGrown {w w' : World} {g base n size : Nat} {e e' : TypeId} {l xs : List Value} {v : Value} (h : Blk w g e l) (hr : w.ownsRow base e' size v n xs) (hg : w.grownBy w' v.ownBlock) (he : e ≠ e') : Blk w' g e l := by
  refine h.grown hg ?_
  intro hk
  rcases hr.2 with ⟨rfl, _⟩ | ⟨g', cap, cur', hv, _, hh, _⟩
  · simp [Value.ownBlock] at hk
  · rw [hv] at hk
    simp [Value.ownBlock] at hk
    subst hk
    unfold Blk at h
    rw [h] at hh
    simp at hh
    exact he hh.2

theorem Kq.grownRow {B : Nat} {a w w' : World} {n size : Nat} {xs : List Value} {v : Value} (h : Kq B a w) (hr : w.ownsRow B 295 size v n xs) (hg : w.grownBy w' v.ownBlock) (hB : B ≤ w.heap.size) : Kq B a w' := by
  refine h.trans ⟨(Below.refl _ _).grown hg hB (fun k hk => (hr.lt k hk).1), fun g cur e fz hgg h1 h2 => ?_⟩
  rw [hg.block g (heap_lt hgg) ?_]
  · exact hgg
  · intro hk
    rcases hr.2 with ⟨rfl, _⟩ | ⟨g', cap, cur', hv, _, hh, _⟩
    · simp [Value.ownBlock] at hk
    · rw [hv] at hk
      simp [Value.ownBlock] at hk
      subst hk
      rw [hgg] at hh
      simp at hh
      exact h2 hh.2.1

/-- The type as the parser makes it: no reference yet. -/
def Typ.bare (t : Typ) : Typ := { t with ref := 0 }

theorem bare_pos {t : Typ} {n : Nat} (h : typeB t n = true) (hn : 0 < t.nest) : t.bare.cells.toArray = #[.int .u8 12, .int .u8 t.core, .int .u8 0, .int .u8 t.nest] := by
  unfold typeB at h
  rw [decide_eq_true_eq] at h
  have hk : t.kind = 12 := by omega
  unfold Typ.cells Typ.bare Typ.core
  simp [hk]

theorem bare_zero {t : Typ} {n : Nat} (h : typeB t n = true) (hn : ¬ 0 < t.nest) : t.bare.cells.toArray = #[.int .u8 t.core, .int .u8 0, .int .u8 0, .int .u8 0] := by
  unfold typeB at h
  rw [decide_eq_true_eq] at h
  have hk : t.kind ≠ 12 := by omega
  have he : t.elem = 0 := by omega
  have hn0 : t.nest = 0 := by omega
  unfold Typ.cells Typ.bare Typ.core
  simp [hk, he, hn0]

/-- What typ leaves. -/
def TypEnd (w : World) (p b0 at_ k i : Nat) (T : ByteArray) (Sv : Value) (nums : List Int) (us : List Use) (ss : List Str) (t : Typ) (e : Ending) (w' : World) : Prop :=
  ∃ Uv' us', e = .returned (.tuple #[.agg t.bare.cells.toArray, .bool true]) ∧
      Blk w' p 223 (pCells T (at_ + (typeText ss t).length) (at_ + (typeText ss t).length + 1) 59 (xCells Sv nums Uv')) ∧ w'.ownsRow b0 295 4 Uv' us'.length (usesRow us') ∧ Kq b0 w w' ∧
      us' = us ++ (if t.core = 13 then [⟨at_ + 5 * t.nest, k, i, T.extract (at_ + 5 * t.nest) (at_ + 5 * t.nest + (coreText ss t).length)⟩] else [])

set_option maxHeartbeats 4000000 in
set_option maxRecDepth 100000 in
theorem typ_any (w : World) (p b0 at_ k i : Nat) (T : ByteArray) (Sv Uv : Value) (nums : List Int) (us : List Use) (ss : List Str) (t : Typ) (hT : T.size ≤ 100000) (hp : b0 ≤ p)
    (ht : typeB t ss.length = true) (hc : CoreP ss t) (hk : TypToks T at_ t.nest (coreText ss t)) (hkk : k ≤ 1000) (hii : i ≤ 1000)
    (hB : Blk w p 223 (pCells T at_ (if 0 < t.nest then at_ + 4 else at_ + (coreText ss t).length) 97 (xCells Sv nums Uv))) (hnl : nums.length = 16) (hU : w.ownsRow b0 295 4 Uv us.length (usesRow us)) (hul : us.length ≤ 1000) :
    Calls Fafg.prog 199 #[.pointer (some ⟨p, 0, none⟩), .int .i64 k, .int .i64 i] w (TypEnd w p b0 at_ k i T Sv nums us ss t) := by
  obtain ⟨hc12, hc13, hn2, hcr⟩ := core_of ht
  have Hcr : Hid (t.core = 13 → t.ref < ss.length) := hcr
  have Ht : Hid (typeB t ss.length = true) := ht
  clear ht hcr
  have hpl : p < w.heap.size := hB.lt
  have hR0 : Blk (w.alloc (.cells #[.int .u8 0, .int .u8 0, .int .u8 0, .int .u8 0] 85)) w.heap.size 85 [.int .u8 0, .int .u8 0, .int .u8 0, .int .u8 0] := Blk.new _ _ _
  have hBa := hB.alloc (.cells #[.int .u8 0, .int .u8 0, .int .u8 0, .int .u8 0] 85)
  have hKa : Kq b0 w (w.alloc (.cells #[.int .u8 0, .int .u8 0, .int .u8 0, .int .u8 0] 85)) := (Kq.refl _ _).alloc (by omega) _
  have hUa := hU.alloc (.cells #[.int .u8 0, .int .u8 0, .int .u8 0, .int .u8 0] 85)
  have c1 : w.cell? ⟨p, 1, none⟩ = some (.int .i64 at_) := hB.cell 1
  go_enter Fafg.func199, Fafg.ntmps199
  go_wp2_with fail
  have hnmne : 1 ≤ (coreText ss t).length := by
    have := hc.name
    cases hl : coreText ss t with
    | nil => rw [hl] at this; simp [nameL] at this
    | cons => simp
  have Hcn : Hid (nameL (coreText ss t) = true) := hc.name
  have Hcl : Hid ((coreText ss t == listL) = false) := hc.notList
  have Hck : Hid (t.core ≠ 13 → kindL (coreText ss t) = some t.core) := hc.kind
  have Hcm : Hid (t.core = 13 → kindL (coreText ss t) = none ∧ capL (coreText ss t) = true) := hc.named
  have Hk : Hid (TypToks T at_ t.nest (coreText ss t)) := hk
  have Htl : Hid ((typeText ss t).length = 5 * t.nest + (coreText ss t).length + t.nest) := by
    show _ = _
    unfold typeText
    simp only [List.length_append, repL_len]
    show t.nest * 5 + _ + t.nest * 1 = _
    omega
  have hsz := hk.size
  clear hc hk
  generalize hNM : coreText ss t = nm at *
  have HNMe : Hid (coreText ss t = nm) := hNM
  clear hNM
  generalize hr0 : w.heap.size = r0 at *
  have Hr0 : Hid (w.heap.size = r0) := hr0
  clear hr0
  go_loopw [9] (fun n wr => ∃ y : Nat, y ≤ t.nest ∧ n = .int .i64 y ∧ Blk wr p 223 (pCells T (at_ + 5 * y) (if y < t.nest then at_ + 5 * y + 4 else at_ + 5 * y + nm.length) 97 (xCells Sv nums Uv)) ∧ wr.ownsRow b0 295 4 Uv us.length (usesRow us) ∧ Kq b0 w wr ∧ Blk wr r0 85 [.int .u8 0, .int .u8 0, .int .u8 0, .int .u8 0]) (fun n _ => t.nest + 1 - (intOf n).toNat)
  case atStart => exact ⟨0, by omega, rfl, hBa, hUa, hKa, hR0⟩
  case round =>
    obtain ⟨y, hy, rfl, hbr, hur, hkr, hrr⟩ := hrel
    have Hur : Hid (wr.ownsRow b0 295 4 Uv us.length (usesRow us)) := hur
    have Hkr : Hid (Kq b0 w wr) := hkr
    have Hrr : Hid (Blk wr r0 85 [.int .u8 0, .int .u8 0, .int .u8 0, .int .u8 0]) := hrr
    clear hur hkr hrr hBa hUa hKa hR0 c1 hU hB
    have c3 : wr.cell? ⟨p, 3, none⟩ = some (.int .u8 97) := hbr.cell 3
    by_cases hlt : y < t.nest
    · rw [if_pos hlt] at hbr
      obtain ⟨_, hext⟩ := Hk.out.lst y hlt
      have hcmp : ((T.extract (at_ + 5 * y) (at_ + 5 * y + 4)).toList == [76, 105, 115, 116]) = true := by rw [Lib.toList_data, hext]; rfl
      have HW := word_any p T (at_ + 5 * y) (at_ + 5 * y + 4) 97 (xCells Sv nums Uv) wr hT hbr (by omega) (by omega)
      generalize T.extract (at_ + 5 * y) (at_ + 5 * y + 4) = s at *
      clear hext
      go_wp2_with fail
      refine HW.mono ?_
      rintro e w2 ⟨rfl, n2, rfl⟩
      have HN := next_tok (w := wr.drewN n2) hT hbr (Hk.out.par y hlt)
      clear HW
      go_wp2_with fail
      refine HN.mono ?_
      rintro e w3 ⟨rfl, hb3, ho3⟩
      have hb3x := hbr
      have htok : TokAt T (at_ + 5 * y + 5) (at_ + 5 * (y + 1)) (if y + 1 < t.nest then at_ + 5 * (y + 1) + 4 else at_ + 5 * (y + 1) + nm.length) 97 := by
        have e5 : at_ + 5 * y + 5 = at_ + 5 * (y + 1) := by omega
        rw [e5]
        by_cases hy1 : y + 1 < t.nest
        · rw [if_pos hy1]; exact (Hk.out.lst (y + 1) hy1).1
        · rw [if_neg hy1]
          have e6 : y + 1 = t.nest := by omega
          rw [e6]; exact Hk.out.core.1
      have HX := expect_any p T (at_ + 5 * y + 4) (at_ + 5 * y + 5) 40 _ _ 97 (xCells Sv nums Uv) w3 hT hb3 htok
      have Ho3 : Hid (Only p (wr.drewN n2) w3) := ho3
      have Hb3 : Hid (Blk w3 p 223 (pCells T (at_ + 5 * y + 4) (at_ + 5 * y + 5) 40 (xCells Sv nums Uv))) := hb3
      clear HN hb3 ho3 htok
      go_wp2_with fail
      refine HX.mono ?_
      rintro e w4 ⟨rfl, hb4, ho4⟩
      clear HX
      go_wp2
      go_roundw
      case rel =>
        have q1 : w3.ownsRow b0 295 4 Uv us.length (usesRow us) := Ho3.out.row (l := pCells T (at_ + 5 * y) (at_ + 5 * y + 4) 97 (xCells Sv nums Uv)) hb3x (by decide) Hur.out
        have q2 : Kq b0 wr w3 := ((Kq.refl b0 wr).drewN n2).trans (Ho3.out.kq (l := pCells T (at_ + 5 * y) (at_ + 5 * y + 4) 97 (xCells Sv nums Uv)) hb3x hp)
        have q3 := ho4.kq Hb3.out hp
        exact ⟨y + 1, by omega, by go_num, hb4, ho4.row Hb3.out (by decide) q1, (Hkr.out.trans q2).trans q3, q3.blk (q2.blk Hrr.out (by decide) (by decide)) (by decide) (by decide)⟩
      case measure => simp [intOf]; omega
    · rw [if_neg hlt] at hbr
      obtain rfl : y = t.nest := by omega
      have hext := Hk.out.core.2
      have hcmp : ((T.extract (at_ + 5 * t.nest) (at_ + 5 * t.nest + nm.length)).toList == [76, 105, 115, 116]) = false := by rw [Lib.toList_data, hext]; exact Hcl.out
      have HW := fun wx hbx => word_any p T (at_ + 5 * t.nest) (at_ + 5 * t.nest + nm.length) 97 (xCells Sv nums Uv) wx hT hbx (by omega) (by omega)
      have hcap13 : t.core = 13 → capL (T.extract (at_ + 5 * t.nest) (at_ + 5 * t.nest + nm.length)).data.toList = true := fun h => by rw [hext]; exact (Hcm.out h).2
      have hsz8 : (T.extract (at_ + 5 * t.nest) (at_ + 5 * t.nest + nm.length)).size ≤ 8 := by rw [Lib.size_eq, hext]; exact name_le Hcn.out
      have Htk : Hid (TokAt T (at_ + 5 * t.nest + nm.length) (at_ + 5 * t.nest + nm.length) (at_ + 5 * t.nest + nm.length + 1) (if 0 < t.nest then 41 else 59)) := by
        show TokAt _ _ _ _ _
        by_cases h0 : 0 < t.nest
        · rw [if_pos h0]; exact Hk.out.clo 0 h0
        · rw [if_neg h0]
          have := Hk.out.semi
          have e0 : t.nest = 0 := by omega
          rw [e0] at this ⊢
          exact this
      have HNM := fun wx hbx hcp => name_any p T (at_ + 5 * t.nest) (at_ + 5 * t.nest + nm.length) _ _ _ true (xCells Sv nums Uv) wx hT hbx Htk.out (by omega) (by omega) (fun _ => hcp) hsz8
      generalize hse : T.extract (at_ + 5 * t.nest) (at_ + 5 * t.nest + nm.length) = s at *
      have Hse : Hid (T.extract (at_ + 5 * t.nest) (at_ + 5 * t.nest + nm.length) = s) := hse
      clear hse
      have HW2 : Hid (∀ (wx : World) (hbx : Blk wx p 223 (pCells T (at_ + 5 * t.nest) (at_ + 5 * t.nest + nm.length) 97 (xCells Sv nums Uv))), Calls Fafg.prog 102 #[.pointer (some ⟨p, 0, none⟩)] wx fun e w' => e = .returned (.string s) ∧ ∃ n, w' = wx.drewN n) := HW
      have HNM2 : Hid (∀ (wx : World) (hbx : Blk wx p 223 (pCells T (at_ + 5 * t.nest) (at_ + 5 * t.nest + nm.length) 97 (xCells Sv nums Uv))) (hcp : capL s.data.toList = true), Calls Fafg.prog 167 #[.pointer (some ⟨p, 0, none⟩), .bool true] wx fun r w' => r = .returned (.tuple #[.string s, .int .i64 ((at_ + 5 * t.nest : Nat) : Int), .bool true]) ∧ Blk w' p 223 (pCells T (at_ + 5 * t.nest + nm.length) (at_ + 5 * t.nest + nm.length + 1) (if 0 < t.nest then 41 else 59) (xCells Sv nums Uv)) ∧ Only p wx w') := HNM
      have Hext : Hid (s.data.toList = nm) := hext
      have Hbr : Hid (Blk wr p 223 (pCells T (at_ + 5 * t.nest) (at_ + 5 * t.nest + nm.length) 97 (xCells Sv nums Uv))) := hbr
      clear hext HW HNM hbr
      go_wp2_with fail
      refine (HW2.out wr Hbr.out).mono ?_
      rintro e w2 ⟨rfl, n2, rfl⟩
      go_wp2_with fail
      refine (HW2.out (wr.drewN n2) Hbr.out).mono ?_
      rintro e w3 ⟨rfl, n3, rfl⟩
      have hbr3 : Blk ((wr.drewN n2).drewN n3) p 223 (pCells T (at_ + 5 * t.nest) (at_ + 5 * t.nest + nm.length) 97 (xCells Sv nums Uv)) := Hbr.out
      have hur3 : ((wr.drewN n2).drewN n3).ownsRow b0 295 4 Uv us.length (usesRow us) := Hur.out
      have hkr3 : Kq b0 w ((wr.drewN n2).drewN n3) := (Hkr.out.drewN n2).drewN n3
      have hrr3 : Blk ((wr.drewN n2).drewN n3) r0 85 [.int .u8 0, .int .u8 0, .int .u8 0, .int .u8 0] := Hrr.out
      generalize ((wr.drewN n2).drewN n3) = wz at *
      have c3z : wz.cell? ⟨p, 3, none⟩ = some (.int .u8 97) := hbr3.cell 3
      have Hur3 : Hid (wz.ownsRow b0 295 4 Uv us.length (usesRow us)) := hur3
      have Hbz : Hid (Blk wz p 223 (pCells T (at_ + 5 * t.nest) (at_ + 5 * t.nest + nm.length) 97 (xCells Sv nums Uv))) := hbr3
      clear hur3 hbr3 c3 HW2
      by_cases h13 : t.core = 13
      · have hko : kindOk s.data.toList = false := by rw [Hext.out]; unfold kindOk; rw [(Hcm.out h13).1]; rfl
        have hcp := hcap13 h13
        go_wp2_with (go_at_call 197; go_must (refine (kindOf_any s _).mono ?_; rintro e w' ⟨rfl, rfl⟩; rw [hko]))
        refine (HNM2.out _ Hbz.out hcp).mono ?_
        rintro e w5 ⟨rfl, hb5, ho5⟩
        have hu5 := ho5.row Hbz.out (by decide) Hur3.out
        have hk5 : Kq b0 w w5 := hkr3.trans (ho5.kq Hbz.out hp)
        have hr5 : Blk w5 r0 85 [.int .u8 0, .int .u8 0, .int .u8 0, .int .u8 0] := (ho5.kq (B := b0) Hbz.out hp).blk hrr3 (by decide) (by decide)
        have h23 : w5.cell? ⟨p, 23, none⟩ = some Uv := (hb5.cell 23).trans (x_uses _ _ _ _ _ _ _ hnl)
        have hw5 : b0 ≤ w5.heap.size := by have := hb5.lt; omega
        obtain ⟨i295, hi, hz0, hz1, hz2⟩ := info_parts info295
        have Hb5 : Hid (Blk w5 p 223 (pCells T (at_ + 5 * t.nest + nm.length) (at_ + 5 * t.nest + nm.length + 1) (if 0 < t.nest then 41 else 59) (xCells Sv nums Uv))) := hb5
        have Hk5 : Hid (Kq b0 w w5) := hk5
        have Hr5 : Hid (Blk w5 r0 85 [.int .u8 0, .int .u8 0, .int .u8 0, .int .u8 0]) := hr5
        clear hk5 hr5 hb5 ho5 hkr3 hrr3 Hbz Hur3 Hbr Hur Hkr Hrr c3z HNM2
        by_cases hn0 : 0 < t.nest
        · have Hbare : Hid (t.bare.cells.toArray = #[.int .u8 12, .int .u8 t.core, .int .u8 0, .int .u8 t.nest]) := bare_pos Ht.out hn0
          have hd2 : decide ((2 : Int) < (t.nest : Int)) = false := by simp; omega
          have hd0 : decide ((0 : Int) < (t.nest : Int)) = true := by simp; omega
          have hnz : ((t.nest : Int) == 0) = false := by simp; omega
          have hc0 : ((t.core : Int) == 0) = false := by
            have h := Ht.out
            unfold typeB at h
            rw [decide_eq_true_eq] at h
            have h5 : t.core ≠ 0 := by unfold Typ.core; split <;> omega
            simp; omega
          go_wp2_with (at_builtin; go_must (refine wpList_append_own _ rfl _ _ 221 rfl b0 295 i295 _ 4 40 Fafg.underlying221 hi hz0 hz1 hz2 rfl (by decide) Uv us.length (usesRow us) rfl (hu5.alloc _) ⟨w5.heap.size, 0, none⟩ 1 1 (useCells ⟨at_ + 5 * t.nest, k, i, s⟩) rfl rfl (cells_new _ _ _ _ rfl) (useCells_one _) (by unfold maxLen; omega) (by omega) (by simp; omega) ?_; intro U6 w6 hown6 hg6 _; obtain ⟨a6, c6, rfl⟩ := own_slice hown6; have hb6 := (Hb5.out.alloc (.cells (useCells ⟨at_ + 5 * t.nest, k, i, s⟩).toArray 295)).rowGrown (hu5.alloc _) hg6 (by decide); have d23 : w6.cell? ⟨p, 23, none⟩ = some Uv := (hb6.cell 23).trans (x_uses _ _ _ _ _ _ _ hnl); have e23 := hb6.frozen 23; have hk6 : Kq b0 w w6 := (Hk5.out.alloc hw5 _).grownRow (hu5.alloc _) hg6 (by simp; omega); have hr6 := (Hr5.out.alloc (.cells (useCells ⟨at_ + 5 * t.nest, k, i, s⟩).toArray 295)).rowGrown (hu5.alloc _) hg6 (by decide)))
          have hbT := hb6.set 23 (.slice a6 (us.length + 1) c6)
          rw [x_setUses _ _ _ _ _ _ _ _ hnl] at hbT
          have hoT : Only p w6 (w6.setCell ⟨p, 23, none⟩ (.slice a6 (us.length + 1) c6)) := (Only.refl p w6).setCell 23 _
          have huT := hoT.row hb6 (by decide) hown6
          have hkT := hk6.trans (hoT.kq hb6 hp)
          have hrT := (hoT.kq (B := b0) hb6 hp).blk hr6 (by decide) (by decide)
          rw [← usesRow_snoc] at huT
          have huT : (w6.setCell ⟨p, 23, none⟩ (.slice a6 (us.length + 1) c6)).ownsRow b0 295 4 (.slice a6 (us.length + 1) c6) (us ++ [(⟨at_ + 5 * t.nest, k, i, s⟩ : Use)]).length (usesRow (us ++ [(⟨at_ + 5 * t.nest, k, i, s⟩ : Use)])) := by simpa using huT
          clear hb6 d23 e23 hk6 hr6 hown6 hg6 hu5 Hb5 Hk5 Hr5 h23
          go_loopw [92] (fun x wr => ∃ z : Nat, z ≤ t.nest ∧ x = .int .i64 z ∧ Blk wr p 223 (pCells T (at_ + 5 * t.nest + nm.length + z) (at_ + 5 * t.nest + nm.length + z + 1) (if z < t.nest then 41 else 59) (xCells Sv nums (.slice a6 (us.length + 1) c6))) ∧ wr.ownsRow b0 295 4 (.slice a6 (us.length + 1) c6) (us ++ [(⟨at_ + 5 * t.nest, k, i, s⟩ : Use)]).length (usesRow (us ++ [(⟨at_ + 5 * t.nest, k, i, s⟩ : Use)])) ∧ Kq b0 w wr ∧ Blk wr r0 85 [.int .u8 0, .int .u8 0, .int .u8 0, .int .u8 0]) (fun x _ => t.nest + 1 - (intOf x).toNat)
          case atStart => exact ⟨0, by omega, rfl, hbT, huT, hkT, hrT⟩
          case round =>
            obtain ⟨z, hz, rfl, hbq, huq, hkq, hrq⟩ := hrel
            clear hbT huT hkT hrT
            have Huq : Hid (wr.ownsRow b0 295 4 (.slice a6 (us.length + 1) c6) (us ++ [(⟨at_ + 5 * t.nest, k, i, s⟩ : Use)]).length (usesRow (us ++ [(⟨at_ + 5 * t.nest, k, i, s⟩ : Use)]))) := huq
            have Hkq : Hid (Kq b0 w wr) := hkq
            have Hrq : Hid (Blk wr r0 85 [.int .u8 0, .int .u8 0, .int .u8 0, .int .u8 0]) := hrq
            clear huq hkq hrq
            by_cases hzl : z < t.nest
            · rw [if_pos hzl] at hbq
              have htz : TokAt T (at_ + 5 * t.nest + nm.length + z + 1) (at_ + 5 * t.nest + nm.length + (z + 1)) (at_ + 5 * t.nest + nm.length + (z + 1) + 1) (if z + 1 < t.nest then 41 else 59) := by
                by_cases hz1 : z + 1 < t.nest
                · rw [if_pos hz1]; exact Hk.out.clo (z + 1) hz1
                · rw [if_neg hz1]
                  have h9 := Hk.out.semi
                  have e9 : t.nest = z + 1 := by omega
                  rw [e9] at h9 ⊢
                  exact h9
              have HX := expect_any p T (at_ + 5 * t.nest + nm.length + z) (at_ + 5 * t.nest + nm.length + z + 1) 41 _ _ _ (xCells Sv nums (.slice a6 (us.length + 1) c6)) wr hT hbq htz
              have Hbq : Hid (Blk wr p 223 (pCells T (at_ + 5 * t.nest + nm.length + z) (at_ + 5 * t.nest + nm.length + z + 1) 41 (xCells Sv nums (.slice a6 (us.length + 1) c6)))) := hbq
              clear htz hbq
              go_wp2_with fail
              refine HX.mono ?_
              rintro e w4 ⟨rfl, hb4, ho4⟩
              clear HX
              go_wp2
              go_roundw
              case rel =>
                have q3 := ho4.kq Hbq.out hp
                exact ⟨z + 1, by omega, by go_num, hb4, ho4.row Hbq.out (by decide) Huq.out, Hkq.out.trans q3, q3.blk Hrq.out (by decide) (by decide)⟩
              case measure => simp [intOf]; omega
            · rw [if_neg hzl] at hbq
              obtain rfl : z = t.nest := by omega
              have r00 : wr.cell? ⟨r0, 0, none⟩ = some (.int .u8 0) := Hrq.out.cell 0
              have r01 : wr.cell? ⟨r0, 1, none⟩ = some (.int .u8 0) := Hrq.out.cell 1
              have r02 : wr.cell? ⟨r0, 2, none⟩ = some (.int .u8 0) := Hrq.out.cell 2
              have r03 : wr.cell? ⟨r0, 3, none⟩ = some (.int .u8 0) := Hrq.out.cell 3
              have f00 := Hrq.out.frozen 0
              have f01 := Hrq.out.frozen 1
              have f02 := Hrq.out.frozen 2
              have f03 := Hrq.out.frozen 3
              go_wp2
              have z1 := ((Hrq.out.set 0 (.int .u8 12)).set 1 (.int .u8 13))
              have z2 := z1.set 2 (.int .u8 0)
              have u1 := ownsRow_setOther Huq.out Hrq.out (by decide) 0 (.int .u8 12)
              have u2 := ownsRow_setOther u1 (Hrq.out.set 0 (.int .u8 12)) (by decide) 1 (.int .u8 13)
              have u3 := ownsRow_setOther u2 z1 (by decide) 2 (.int .u8 0)
              have u4 := ownsRow_setOther u3 z2 (by decide) 3 (.int .u8 t.nest)
              have k4 := (((Hkq.out.setNew (x := ⟨r0, 0, none⟩) (by show _ ≤ r0; rw [Hr0.out]; exact Nat.le_refl _) (by rw [Hr0.out]; omega) (.int .u8 12)).setNew (x := ⟨r0, 1, none⟩) (by show _ ≤ r0; rw [Hr0.out]; exact Nat.le_refl _) (by rw [Hr0.out]; omega) (.int .u8 13)).setNew (x := ⟨r0, 2, none⟩) (by show _ ≤ r0; rw [Hr0.out]; exact Nat.le_refl _) (by rw [Hr0.out]; omega) (.int .u8 0)).setNew (x := ⟨r0, 3, none⟩) (by show _ ≤ r0; rw [Hr0.out]; exact Nat.le_refl _) (by rw [Hr0.out]; omega) (.int .u8 t.nest)
              have b4 := (((hbq.setOther ⟨r0, 0, none⟩ (.int .u8 12) (by show p ≠ r0; omega)).setOther ⟨r0, 1, none⟩ (.int .u8 13) (by show p ≠ r0; omega)).setOther ⟨r0, 2, none⟩ (.int .u8 0) (by show p ≠ r0; omega)).setOther ⟨r0, 3, none⟩ (.int .u8 t.nest) (by show p ≠ r0; omega)
              have z3 := z2.set 3 (.int .u8 t.nest)
              have q0 : ((((wr.setCell ⟨r0, 0, none⟩ (.int .u8 12)).setCell ⟨r0, 1, none⟩ (.int .u8 13)).setCell ⟨r0, 2, none⟩ (.int .u8 0)).setCell ⟨r0, 3, none⟩ (.int .u8 t.nest)).cell? ⟨r0, 0, none⟩ = some (.int .u8 12) := z3.cell 0
              have q1 : ((((wr.setCell ⟨r0, 0, none⟩ (.int .u8 12)).setCell ⟨r0, 1, none⟩ (.int .u8 13)).setCell ⟨r0, 2, none⟩ (.int .u8 0)).setCell ⟨r0, 3, none⟩ (.int .u8 t.nest)).cell? ⟨r0, 1, none⟩ = some (.int .u8 13) := z3.cell 1
              have q2 : ((((wr.setCell ⟨r0, 0, none⟩ (.int .u8 12)).setCell ⟨r0, 1, none⟩ (.int .u8 13)).setCell ⟨r0, 2, none⟩ (.int .u8 0)).setCell ⟨r0, 3, none⟩ (.int .u8 t.nest)).cell? ⟨r0, 2, none⟩ = some (.int .u8 0) := z3.cell 2
              have q3 : ((((wr.setCell ⟨r0, 0, none⟩ (.int .u8 12)).setCell ⟨r0, 1, none⟩ (.int .u8 13)).setCell ⟨r0, 2, none⟩ (.int .u8 0)).setCell ⟨r0, 3, none⟩ (.int .u8 t.nest)).cell? ⟨r0, 3, none⟩ = some (.int .u8 t.nest) := z3.cell 3
              refine bodyPost_ret (v := .tuple #[.agg #[(.int .u8 12), (.int .u8 13), (.int .u8 0), (.int .u8 t.nest)], .bool true]) (by simp [results, Fafg.results199, go_sem, q0, q1, q2, q3]) rfl ⟨(.slice a6 (us.length + 1) c6), (us ++ [(⟨at_ + 5 * t.nest, k, i, s⟩ : Use)]), ?_, ?_, u4, k4, ?_⟩
              · rw [Hbare.out, h13]; rfl
              · have e7 : at_ + (typeText ss t).length = at_ + 5 * t.nest + nm.length + t.nest := by rw [Htl.out]; omega
                rw [e7]
                exact b4
              · rw [if_pos h13, HNMe.out, Hse.out]
        · have Hbare : Hid (t.bare.cells.toArray = #[.int .u8 t.core, .int .u8 0, .int .u8 0, .int .u8 0]) := bare_zero Ht.out hn0
          have hd2 : decide ((2 : Int) < (t.nest : Int)) = false := by simp; omega
          have hd0 : decide ((0 : Int) < (t.nest : Int)) = false := by simp; omega
          have hnz : ((t.nest : Int) == 0) = true := by simp; omega
          go_wp2_with (at_builtin; go_must (refine wpList_append_own _ rfl _ _ 221 rfl b0 295 i295 _ 4 40 Fafg.underlying221 hi hz0 hz1 hz2 rfl (by decide) Uv us.length (usesRow us) rfl (hu5.alloc _) ⟨w5.heap.size, 0, none⟩ 1 1 (useCells ⟨at_ + 5 * t.nest, k, i, s⟩) rfl rfl (cells_new _ _ _ _ rfl) (useCells_one _) (by unfold maxLen; omega) (by omega) (by simp; omega) ?_; intro U6 w6 hown6 hg6 _; obtain ⟨a6, c6, rfl⟩ := own_slice hown6; have hb6 := (Hb5.out.alloc (.cells (useCells ⟨at_ + 5 * t.nest, k, i, s⟩).toArray 295)).rowGrown (hu5.alloc _) hg6 (by decide); have d23 : w6.cell? ⟨p, 23, none⟩ = some Uv := (hb6.cell 23).trans (x_uses _ _ _ _ _ _ _ hnl); have e23 := hb6.frozen 23; have hk6 : Kq b0 w w6 := (Hk5.out.alloc hw5 _).grownRow (hu5.alloc _) hg6 (by simp; omega); have hr6 := (Hr5.out.alloc (.cells (useCells ⟨at_ + 5 * t.nest, k, i, s⟩).toArray 295)).rowGrown (hu5.alloc _) hg6 (by decide)))
          have hbT := hb6.set 23 (.slice a6 (us.length + 1) c6)
          rw [x_setUses _ _ _ _ _ _ _ _ hnl] at hbT
          have hoT : Only p w6 (w6.setCell ⟨p, 23, none⟩ (.slice a6 (us.length + 1) c6)) := (Only.refl p w6).setCell 23 _
          have huT := hoT.row hb6 (by decide) hown6
          have hkT := hk6.trans (hoT.kq hb6 hp)
          have hrT := (hoT.kq (B := b0) hb6 hp).blk hr6 (by decide) (by decide)
          rw [← usesRow_snoc] at huT
          have huT : (w6.setCell ⟨p, 23, none⟩ (.slice a6 (us.length + 1) c6)).ownsRow b0 295 4 (.slice a6 (us.length + 1) c6) (us ++ [(⟨at_ + 5 * t.nest, k, i, s⟩ : Use)]).length (usesRow (us ++ [(⟨at_ + 5 * t.nest, k, i, s⟩ : Use)])) := by simpa using huT
          clear hb6 d23 e23 hk6 hr6 hown6 hg6 hu5 Hb5 Hk5 Hr5 h23
          go_loopw [92] (fun x wr => ∃ z : Nat, z ≤ t.nest ∧ x = .int .i64 z ∧ Blk wr p 223 (pCells T (at_ + 5 * t.nest + nm.length + z) (at_ + 5 * t.nest + nm.length + z + 1) (if z < t.nest then 41 else 59) (xCells Sv nums (.slice a6 (us.length + 1) c6))) ∧ wr.ownsRow b0 295 4 (.slice a6 (us.length + 1) c6) (us ++ [(⟨at_ + 5 * t.nest, k, i, s⟩ : Use)]).length (usesRow (us ++ [(⟨at_ + 5 * t.nest, k, i, s⟩ : Use)])) ∧ Kq b0 w wr ∧ Blk wr r0 85 [.int .u8 0, .int .u8 0, .int .u8 0, .int .u8 0]) (fun x _ => t.nest + 1 - (intOf x).toNat)
          case atStart => exact ⟨0, by omega, rfl, hbT, huT, hkT, hrT⟩
          case round =>
            obtain ⟨z, hz, rfl, hbq, huq, hkq, hrq⟩ := hrel
            clear hbT huT hkT hrT
            have Huq : Hid (wr.ownsRow b0 295 4 (.slice a6 (us.length + 1) c6) (us ++ [(⟨at_ + 5 * t.nest, k, i, s⟩ : Use)]).length (usesRow (us ++ [(⟨at_ + 5 * t.nest, k, i, s⟩ : Use)]))) := huq
            have Hkq : Hid (Kq b0 w wr) := hkq
            have Hrq : Hid (Blk wr r0 85 [.int .u8 0, .int .u8 0, .int .u8 0, .int .u8 0]) := hrq
            clear huq hkq hrq
            by_cases hzl : z < t.nest
            · rw [if_pos hzl] at hbq
              have htz : TokAt T (at_ + 5 * t.nest + nm.length + z + 1) (at_ + 5 * t.nest + nm.length + (z + 1)) (at_ + 5 * t.nest + nm.length + (z + 1) + 1) (if z + 1 < t.nest then 41 else 59) := by
                by_cases hz1 : z + 1 < t.nest
                · rw [if_pos hz1]; exact Hk.out.clo (z + 1) hz1
                · rw [if_neg hz1]
                  have h9 := Hk.out.semi
                  have e9 : t.nest = z + 1 := by omega
                  rw [e9] at h9 ⊢
                  exact h9
              have HX := expect_any p T (at_ + 5 * t.nest + nm.length + z) (at_ + 5 * t.nest + nm.length + z + 1) 41 _ _ _ (xCells Sv nums (.slice a6 (us.length + 1) c6)) wr hT hbq htz
              have Hbq : Hid (Blk wr p 223 (pCells T (at_ + 5 * t.nest + nm.length + z) (at_ + 5 * t.nest + nm.length + z + 1) 41 (xCells Sv nums (.slice a6 (us.length + 1) c6)))) := hbq
              clear htz hbq
              go_wp2_with fail
              refine HX.mono ?_
              rintro e w4 ⟨rfl, hb4, ho4⟩
              clear HX
              go_wp2
              go_roundw
              case rel =>
                have q3 := ho4.kq Hbq.out hp
                exact ⟨z + 1, by omega, by go_num, hb4, ho4.row Hbq.out (by decide) Huq.out, Hkq.out.trans q3, q3.blk Hrq.out (by decide) (by decide)⟩
              case measure => simp [intOf]; omega
            · rw [if_neg hzl] at hbq
              obtain rfl : z = t.nest := by omega
              have r00 : wr.cell? ⟨r0, 0, none⟩ = some (.int .u8 0) := Hrq.out.cell 0
              have r01 : wr.cell? ⟨r0, 1, none⟩ = some (.int .u8 0) := Hrq.out.cell 1
              have r02 : wr.cell? ⟨r0, 2, none⟩ = some (.int .u8 0) := Hrq.out.cell 2
              have r03 : wr.cell? ⟨r0, 3, none⟩ = some (.int .u8 0) := Hrq.out.cell 3
              have f00 := Hrq.out.frozen 0
              have f01 := Hrq.out.frozen 1
              have f02 := Hrq.out.frozen 2
              have f03 := Hrq.out.frozen 3
              go_wp2
              have z1 := ((Hrq.out.set 0 (.int .u8 13)).set 1 (.int .u8 0))
              have z2 := z1.set 2 (.int .u8 0)
              have u1 := ownsRow_setOther Huq.out Hrq.out (by decide) 0 (.int .u8 13)
              have u2 := ownsRow_setOther u1 (Hrq.out.set 0 (.int .u8 13)) (by decide) 1 (.int .u8 0)
              have u3 := ownsRow_setOther u2 z1 (by decide) 2 (.int .u8 0)
              have u4 := ownsRow_setOther u3 z2 (by decide) 3 (.int .u8 0)
              have k4 := (((Hkq.out.setNew (x := ⟨r0, 0, none⟩) (by show _ ≤ r0; rw [Hr0.out]; exact Nat.le_refl _) (by rw [Hr0.out]; omega) (.int .u8 13)).setNew (x := ⟨r0, 1, none⟩) (by show _ ≤ r0; rw [Hr0.out]; exact Nat.le_refl _) (by rw [Hr0.out]; omega) (.int .u8 0)).setNew (x := ⟨r0, 2, none⟩) (by show _ ≤ r0; rw [Hr0.out]; exact Nat.le_refl _) (by rw [Hr0.out]; omega) (.int .u8 0)).setNew (x := ⟨r0, 3, none⟩) (by show _ ≤ r0; rw [Hr0.out]; exact Nat.le_refl _) (by rw [Hr0.out]; omega) (.int .u8 0)
              have b4 := (((hbq.setOther ⟨r0, 0, none⟩ (.int .u8 13) (by show p ≠ r0; omega)).setOther ⟨r0, 1, none⟩ (.int .u8 0) (by show p ≠ r0; omega)).setOther ⟨r0, 2, none⟩ (.int .u8 0) (by show p ≠ r0; omega)).setOther ⟨r0, 3, none⟩ (.int .u8 0) (by show p ≠ r0; omega)
              have z3 := z2.set 3 (.int .u8 0)
              have q0 : ((((wr.setCell ⟨r0, 0, none⟩ (.int .u8 13)).setCell ⟨r0, 1, none⟩ (.int .u8 0)).setCell ⟨r0, 2, none⟩ (.int .u8 0)).setCell ⟨r0, 3, none⟩ (.int .u8 0)).cell? ⟨r0, 0, none⟩ = some (.int .u8 13) := z3.cell 0
              have q1 : ((((wr.setCell ⟨r0, 0, none⟩ (.int .u8 13)).setCell ⟨r0, 1, none⟩ (.int .u8 0)).setCell ⟨r0, 2, none⟩ (.int .u8 0)).setCell ⟨r0, 3, none⟩ (.int .u8 0)).cell? ⟨r0, 1, none⟩ = some (.int .u8 0) := z3.cell 1
              have q2 : ((((wr.setCell ⟨r0, 0, none⟩ (.int .u8 13)).setCell ⟨r0, 1, none⟩ (.int .u8 0)).setCell ⟨r0, 2, none⟩ (.int .u8 0)).setCell ⟨r0, 3, none⟩ (.int .u8 0)).cell? ⟨r0, 2, none⟩ = some (.int .u8 0) := z3.cell 2
              have q3 : ((((wr.setCell ⟨r0, 0, none⟩ (.int .u8 13)).setCell ⟨r0, 1, none⟩ (.int .u8 0)).setCell ⟨r0, 2, none⟩ (.int .u8 0)).setCell ⟨r0, 3, none⟩ (.int .u8 0)).cell? ⟨r0, 3, none⟩ = some (.int .u8 0) := z3.cell 3
              refine bodyPost_ret (v := .tuple #[.agg #[(.int .u8 13), (.int .u8 0), (.int .u8 0), (.int .u8 0)], .bool true]) (by simp [results, Fafg.results199, go_sem, q0, q1, q2, q3]) rfl ⟨(.slice a6 (us.length + 1) c6), (us ++ [(⟨at_ + 5 * t.nest, k, i, s⟩ : Use)]), ?_, ?_, u4, k4, ?_⟩
              · rw [Hbare.out, h13]; rfl
              · have e7 : at_ + (typeText ss t).length = at_ + 5 * t.nest + nm.length + t.nest := by rw [Htl.out]; omega
                rw [e7]
                exact b4
              · rw [if_pos h13, HNMe.out, Hse.out]
      · have hkl := Hck.out h13
        have hko : kindOk s.data.toList = true := by rw [Hext.out]; unfold kindOk; rw [hkl]; rfl
        have hkv : kindV s.data.toList = (t.core : Int) := by rw [Hext.out]; unfold kindV; rw [hkl]
        by_cases hn0 : 0 < t.nest
        · have Hbare : Hid (t.bare.cells.toArray = #[.int .u8 12, .int .u8 t.core, .int .u8 0, .int .u8 t.nest]) := bare_pos Ht.out hn0
          have hd2 : decide ((2 : Int) < (t.nest : Int)) = false := by simp; omega
          have hd0 : decide ((0 : Int) < (t.nest : Int)) = true := by simp; omega
          have hnz : ((t.nest : Int) == 0) = false := by simp; omega
          have hc0 : ((t.core : Int) == 0) = false := by
            have h := Ht.out
            unfold typeB at h
            rw [decide_eq_true_eq] at h
            have h5 : t.core ≠ 0 := by unfold Typ.core; split <;> omega
            simp; omega
          go_wp2_with (go_at_call 197; go_must (refine (kindOf_any s _).mono ?_; rintro e w' ⟨rfl, rfl⟩; rw [hko, hkv]))
          refine (next_tok hT Hbz.out Htk.out).mono ?_
          rintro e w5 ⟨rfl, hbT, ho5⟩
          have huT := ho5.row Hbz.out (by decide) Hur3.out
          have hkT : Kq b0 w w5 := hkr3.trans (ho5.kq Hbz.out hp)
          have hrT : Blk w5 r0 85 [.int .u8 0, .int .u8 0, .int .u8 0, .int .u8 0] := (ho5.kq (B := b0) Hbz.out hp).blk hrr3 (by decide) (by decide)
          clear hkr3 hrr3 Hbz Hur3 Hbr Hur Hkr Hrr c3z HNM2
          go_wp2_with fail
          go_loopw [92] (fun x wr => ∃ z : Nat, z ≤ t.nest ∧ x = .int .i64 z ∧ Blk wr p 223 (pCells T (at_ + 5 * t.nest + nm.length + z) (at_ + 5 * t.nest + nm.length + z + 1) (if z < t.nest then 41 else 59) (xCells Sv nums Uv)) ∧ wr.ownsRow b0 295 4 Uv us.length (usesRow us) ∧ Kq b0 w wr ∧ Blk wr r0 85 [.int .u8 0, .int .u8 0, .int .u8 0, .int .u8 0]) (fun x _ => t.nest + 1 - (intOf x).toNat)
          case atStart => exact ⟨0, by omega, rfl, hbT, huT, hkT, hrT⟩
          case round =>
            obtain ⟨z, hz, rfl, hbq, huq, hkq, hrq⟩ := hrel
            clear hbT huT hkT hrT
            have Huq : Hid (wr.ownsRow b0 295 4 Uv us.length (usesRow us)) := huq
            have Hkq : Hid (Kq b0 w wr) := hkq
            have Hrq : Hid (Blk wr r0 85 [.int .u8 0, .int .u8 0, .int .u8 0, .int .u8 0]) := hrq
            clear huq hkq hrq
            by_cases hzl : z < t.nest
            · rw [if_pos hzl] at hbq
              have htz : TokAt T (at_ + 5 * t.nest + nm.length + z + 1) (at_ + 5 * t.nest + nm.length + (z + 1)) (at_ + 5 * t.nest + nm.length + (z + 1) + 1) (if z + 1 < t.nest then 41 else 59) := by
                by_cases hz1 : z + 1 < t.nest
                · rw [if_pos hz1]; exact Hk.out.clo (z + 1) hz1
                · rw [if_neg hz1]
                  have h9 := Hk.out.semi
                  have e9 : t.nest = z + 1 := by omega
                  rw [e9] at h9 ⊢
                  exact h9
              have HX := expect_any p T (at_ + 5 * t.nest + nm.length + z) (at_ + 5 * t.nest + nm.length + z + 1) 41 _ _ _ (xCells Sv nums Uv) wr hT hbq htz
              have Hbq : Hid (Blk wr p 223 (pCells T (at_ + 5 * t.nest + nm.length + z) (at_ + 5 * t.nest + nm.length + z + 1) 41 (xCells Sv nums Uv))) := hbq
              clear htz hbq
              go_wp2_with fail
              refine HX.mono ?_
              rintro e w4 ⟨rfl, hb4, ho4⟩
              clear HX
              go_wp2
              go_roundw
              case rel =>
                have q3 := ho4.kq Hbq.out hp
                exact ⟨z + 1, by omega, by go_num, hb4, ho4.row Hbq.out (by decide) Huq.out, Hkq.out.trans q3, q3.blk Hrq.out (by decide) (by decide)⟩
              case measure => simp [intOf]; omega
            · rw [if_neg hzl] at hbq
              obtain rfl : z = t.nest := by omega
              have r00 : wr.cell? ⟨r0, 0, none⟩ = some (.int .u8 0) := Hrq.out.cell 0
              have r01 : wr.cell? ⟨r0, 1, none⟩ = some (.int .u8 0) := Hrq.out.cell 1
              have r02 : wr.cell? ⟨r0, 2, none⟩ = some (.int .u8 0) := Hrq.out.cell 2
              have r03 : wr.cell? ⟨r0, 3, none⟩ = some (.int .u8 0) := Hrq.out.cell 3
              have f00 := Hrq.out.frozen 0
              have f01 := Hrq.out.frozen 1
              have f02 := Hrq.out.frozen 2
              have f03 := Hrq.out.frozen 3
              go_wp2
              have z1 := ((Hrq.out.set 0 (.int .u8 12)).set 1 (.int .u8 t.core))
              have z2 := z1.set 2 (.int .u8 0)
              have u1 := ownsRow_setOther Huq.out Hrq.out (by decide) 0 (.int .u8 12)
              have u2 := ownsRow_setOther u1 (Hrq.out.set 0 (.int .u8 12)) (by decide) 1 (.int .u8 t.core)
              have u3 := ownsRow_setOther u2 z1 (by decide) 2 (.int .u8 0)
              have u4 := ownsRow_setOther u3 z2 (by decide) 3 (.int .u8 t.nest)
              have k4 := (((Hkq.out.setNew (x := ⟨r0, 0, none⟩) (by show _ ≤ r0; rw [Hr0.out]; exact Nat.le_refl _) (by rw [Hr0.out]; omega) (.int .u8 12)).setNew (x := ⟨r0, 1, none⟩) (by show _ ≤ r0; rw [Hr0.out]; exact Nat.le_refl _) (by rw [Hr0.out]; omega) (.int .u8 t.core)).setNew (x := ⟨r0, 2, none⟩) (by show _ ≤ r0; rw [Hr0.out]; exact Nat.le_refl _) (by rw [Hr0.out]; omega) (.int .u8 0)).setNew (x := ⟨r0, 3, none⟩) (by show _ ≤ r0; rw [Hr0.out]; exact Nat.le_refl _) (by rw [Hr0.out]; omega) (.int .u8 t.nest)
              have b4 := (((hbq.setOther ⟨r0, 0, none⟩ (.int .u8 12) (by show p ≠ r0; omega)).setOther ⟨r0, 1, none⟩ (.int .u8 t.core) (by show p ≠ r0; omega)).setOther ⟨r0, 2, none⟩ (.int .u8 0) (by show p ≠ r0; omega)).setOther ⟨r0, 3, none⟩ (.int .u8 t.nest) (by show p ≠ r0; omega)
              have z3 := z2.set 3 (.int .u8 t.nest)
              have q0 : ((((wr.setCell ⟨r0, 0, none⟩ (.int .u8 12)).setCell ⟨r0, 1, none⟩ (.int .u8 t.core)).setCell ⟨r0, 2, none⟩ (.int .u8 0)).setCell ⟨r0, 3, none⟩ (.int .u8 t.nest)).cell? ⟨r0, 0, none⟩ = some (.int .u8 12) := z3.cell 0
              have q1 : ((((wr.setCell ⟨r0, 0, none⟩ (.int .u8 12)).setCell ⟨r0, 1, none⟩ (.int .u8 t.core)).setCell ⟨r0, 2, none⟩ (.int .u8 0)).setCell ⟨r0, 3, none⟩ (.int .u8 t.nest)).cell? ⟨r0, 1, none⟩ = some (.int .u8 t.core) := z3.cell 1
              have q2 : ((((wr.setCell ⟨r0, 0, none⟩ (.int .u8 12)).setCell ⟨r0, 1, none⟩ (.int .u8 t.core)).setCell ⟨r0, 2, none⟩ (.int .u8 0)).setCell ⟨r0, 3, none⟩ (.int .u8 t.nest)).cell? ⟨r0, 2, none⟩ = some (.int .u8 0) := z3.cell 2
              have q3 : ((((wr.setCell ⟨r0, 0, none⟩ (.int .u8 12)).setCell ⟨r0, 1, none⟩ (.int .u8 t.core)).setCell ⟨r0, 2, none⟩ (.int .u8 0)).setCell ⟨r0, 3, none⟩ (.int .u8 t.nest)).cell? ⟨r0, 3, none⟩ = some (.int .u8 t.nest) := z3.cell 3
              refine bodyPost_ret (v := .tuple #[.agg #[(.int .u8 12), (.int .u8 t.core), (.int .u8 0), (.int .u8 t.nest)], .bool true]) (by simp [results, Fafg.results199, go_sem, q0, q1, q2, q3]) rfl ⟨Uv, us, ?_, ?_, u4, k4, ?_⟩
              · rw [Hbare.out]
              · have e7 : at_ + (typeText ss t).length = at_ + 5 * t.nest + nm.length + t.nest := by rw [Htl.out]; omega
                rw [e7]
                exact b4
              · rw [if_neg h13]; simp
        · have Hbare : Hid (t.bare.cells.toArray = #[.int .u8 t.core, .int .u8 0, .int .u8 0, .int .u8 0]) := bare_zero Ht.out hn0
          have hd2 : decide ((2 : Int) < (t.nest : Int)) = false := by simp; omega
          have hd0 : decide ((0 : Int) < (t.nest : Int)) = false := by simp; omega
          have hnz : ((t.nest : Int) == 0) = true := by simp; omega
          go_wp2_with (go_at_call 197; go_must (refine (kindOf_any s _).mono ?_; rintro e w' ⟨rfl, rfl⟩; rw [hko, hkv]))
          refine (next_tok hT Hbz.out Htk.out).mono ?_
          rintro e w5 ⟨rfl, hbT, ho5⟩
          have huT := ho5.row Hbz.out (by decide) Hur3.out
          have hkT : Kq b0 w w5 := hkr3.trans (ho5.kq Hbz.out hp)
          have hrT : Blk w5 r0 85 [.int .u8 0, .int .u8 0, .int .u8 0, .int .u8 0] := (ho5.kq (B := b0) Hbz.out hp).blk hrr3 (by decide) (by decide)
          clear hkr3 hrr3 Hbz Hur3 Hbr Hur Hkr Hrr c3z HNM2
          go_wp2_with fail
          go_loopw [92] (fun x wr => ∃ z : Nat, z ≤ t.nest ∧ x = .int .i64 z ∧ Blk wr p 223 (pCells T (at_ + 5 * t.nest + nm.length + z) (at_ + 5 * t.nest + nm.length + z + 1) (if z < t.nest then 41 else 59) (xCells Sv nums Uv)) ∧ wr.ownsRow b0 295 4 Uv us.length (usesRow us) ∧ Kq b0 w wr ∧ Blk wr r0 85 [.int .u8 0, .int .u8 0, .int .u8 0, .int .u8 0]) (fun x _ => t.nest + 1 - (intOf x).toNat)
          case atStart => exact ⟨0, by omega, rfl, hbT, huT, hkT, hrT⟩
          case round =>
            obtain ⟨z, hz, rfl, hbq, huq, hkq, hrq⟩ := hrel
            clear hbT huT hkT hrT
            have Huq : Hid (wr.ownsRow b0 295 4 Uv us.length (usesRow us)) := huq
            have Hkq : Hid (Kq b0 w wr) := hkq
            have Hrq : Hid (Blk wr r0 85 [.int .u8 0, .int .u8 0, .int .u8 0, .int .u8 0]) := hrq
            clear huq hkq hrq
            by_cases hzl : z < t.nest
            · rw [if_pos hzl] at hbq
              have htz : TokAt T (at_ + 5 * t.nest + nm.length + z + 1) (at_ + 5 * t.nest + nm.length + (z + 1)) (at_ + 5 * t.nest + nm.length + (z + 1) + 1) (if z + 1 < t.nest then 41 else 59) := by
                by_cases hz1 : z + 1 < t.nest
                · rw [if_pos hz1]; exact Hk.out.clo (z + 1) hz1
                · rw [if_neg hz1]
                  have h9 := Hk.out.semi
                  have e9 : t.nest = z + 1 := by omega
                  rw [e9] at h9 ⊢
                  exact h9
              have HX := expect_any p T (at_ + 5 * t.nest + nm.length + z) (at_ + 5 * t.nest + nm.length + z + 1) 41 _ _ _ (xCells Sv nums Uv) wr hT hbq htz
              have Hbq : Hid (Blk wr p 223 (pCells T (at_ + 5 * t.nest + nm.length + z) (at_ + 5 * t.nest + nm.length + z + 1) 41 (xCells Sv nums Uv))) := hbq
              clear htz hbq
              go_wp2_with fail
              refine HX.mono ?_
              rintro e w4 ⟨rfl, hb4, ho4⟩
              clear HX
              go_wp2
              go_roundw
              case rel =>
                have q3 := ho4.kq Hbq.out hp
                exact ⟨z + 1, by omega, by go_num, hb4, ho4.row Hbq.out (by decide) Huq.out, Hkq.out.trans q3, q3.blk Hrq.out (by decide) (by decide)⟩
              case measure => simp [intOf]; omega
            · rw [if_neg hzl] at hbq
              obtain rfl : z = t.nest := by omega
              have r00 : wr.cell? ⟨r0, 0, none⟩ = some (.int .u8 0) := Hrq.out.cell 0
              have r01 : wr.cell? ⟨r0, 1, none⟩ = some (.int .u8 0) := Hrq.out.cell 1
              have r02 : wr.cell? ⟨r0, 2, none⟩ = some (.int .u8 0) := Hrq.out.cell 2
              have r03 : wr.cell? ⟨r0, 3, none⟩ = some (.int .u8 0) := Hrq.out.cell 3
              have f00 := Hrq.out.frozen 0
              have f01 := Hrq.out.frozen 1
              have f02 := Hrq.out.frozen 2
              have f03 := Hrq.out.frozen 3
              go_wp2
              have z1 := ((Hrq.out.set 0 (.int .u8 t.core)).set 1 (.int .u8 0))
              have z2 := z1.set 2 (.int .u8 0)
              have u1 := ownsRow_setOther Huq.out Hrq.out (by decide) 0 (.int .u8 t.core)
              have u2 := ownsRow_setOther u1 (Hrq.out.set 0 (.int .u8 t.core)) (by decide) 1 (.int .u8 0)
              have u3 := ownsRow_setOther u2 z1 (by decide) 2 (.int .u8 0)
              have u4 := ownsRow_setOther u3 z2 (by decide) 3 (.int .u8 0)
              have k4 := (((Hkq.out.setNew (x := ⟨r0, 0, none⟩) (by show _ ≤ r0; rw [Hr0.out]; exact Nat.le_refl _) (by rw [Hr0.out]; omega) (.int .u8 t.core)).setNew (x := ⟨r0, 1, none⟩) (by show _ ≤ r0; rw [Hr0.out]; exact Nat.le_refl _) (by rw [Hr0.out]; omega) (.int .u8 0)).setNew (x := ⟨r0, 2, none⟩) (by show _ ≤ r0; rw [Hr0.out]; exact Nat.le_refl _) (by rw [Hr0.out]; omega) (.int .u8 0)).setNew (x := ⟨r0, 3, none⟩) (by show _ ≤ r0; rw [Hr0.out]; exact Nat.le_refl _) (by rw [Hr0.out]; omega) (.int .u8 0)
              have b4 := (((hbq.setOther ⟨r0, 0, none⟩ (.int .u8 t.core) (by show p ≠ r0; omega)).setOther ⟨r0, 1, none⟩ (.int .u8 0) (by show p ≠ r0; omega)).setOther ⟨r0, 2, none⟩ (.int .u8 0) (by show p ≠ r0; omega)).setOther ⟨r0, 3, none⟩ (.int .u8 0) (by show p ≠ r0; omega)
              have z3 := z2.set 3 (.int .u8 0)
              have q0 : ((((wr.setCell ⟨r0, 0, none⟩ (.int .u8 t.core)).setCell ⟨r0, 1, none⟩ (.int .u8 0)).setCell ⟨r0, 2, none⟩ (.int .u8 0)).setCell ⟨r0, 3, none⟩ (.int .u8 0)).cell? ⟨r0, 0, none⟩ = some (.int .u8 t.core) := z3.cell 0
              have q1 : ((((wr.setCell ⟨r0, 0, none⟩ (.int .u8 t.core)).setCell ⟨r0, 1, none⟩ (.int .u8 0)).setCell ⟨r0, 2, none⟩ (.int .u8 0)).setCell ⟨r0, 3, none⟩ (.int .u8 0)).cell? ⟨r0, 1, none⟩ = some (.int .u8 0) := z3.cell 1
              have q2 : ((((wr.setCell ⟨r0, 0, none⟩ (.int .u8 t.core)).setCell ⟨r0, 1, none⟩ (.int .u8 0)).setCell ⟨r0, 2, none⟩ (.int .u8 0)).setCell ⟨r0, 3, none⟩ (.int .u8 0)).cell? ⟨r0, 2, none⟩ = some (.int .u8 0) := z3.cell 2
              have q3 : ((((wr.setCell ⟨r0, 0, none⟩ (.int .u8 t.core)).setCell ⟨r0, 1, none⟩ (.int .u8 0)).setCell ⟨r0, 2, none⟩ (.int .u8 0)).setCell ⟨r0, 3, none⟩ (.int .u8 0)).cell? ⟨r0, 3, none⟩ = some (.int .u8 0) := z3.cell 3
              refine bodyPost_ret (v := .tuple #[.agg #[(.int .u8 t.core), (.int .u8 0), (.int .u8 0), (.int .u8 0)], .bool true]) (by simp [results, Fafg.results199, go_sem, q0, q1, q2, q3]) rfl ⟨Uv, us, ?_, ?_, u4, k4, ?_⟩
              · rw [Hbare.out]
              · have e7 : at_ + (typeText ss t).length = at_ + 5 * t.nest + nm.length + t.nest := by rw [Htl.out]; omega
                rw [e7]
                exact b4
              · rw [if_neg h13]; simp
end Go.Proofs.Ygcfaf
