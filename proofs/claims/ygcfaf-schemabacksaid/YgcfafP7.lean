import Derived.Test.YgcfafP6
namespace Go.Proofs.Ygcfaf
open Go.RowKit
set_option linter.unusedVariables false

/-- Where the pieces of a field's text lie. -/
def pAt (at_ : Nat) (f : Fld) : Nat := at_ + f.name.data.toList.length
def pNum (at_ : Nat) (f : Fld) : Nat := pAt at_ f + 1
def pCol (at_ : Nat) (i : Nat) (f : Fld) : Nat := pNum at_ f + (numText i).length
def pTyp (at_ : Nat) (i : Nat) (f : Fld) : Nat := pCol at_ i f + 1
def pSem (at_ : Nat) (ss : List Str) (i : Nat) (f : Fld) : Nat := pTyp at_ i f + (typeText ss f.t).length

structure FieldToks (T : ByteArray) (at_ : Nat) (ss : List Str) (i : Nat) (f : Fld) : Prop where
  name : T.extract at_ (pAt at_ f) = f.name
  tAt : TokAt T (pAt at_ f) (pAt at_ f) (pNum at_ f) 64
  tNum : TokAt T (pNum at_ f) (pNum at_ f) (pCol at_ i f) 48
  dig : ∀ j, pNum at_ f ≤ j → j < pCol at_ i f → ∀ hj : j < T.size, digB T[j] = true
  num : numTo T (pNum at_ f) (pCol at_ i f - pNum at_ f) = i
  tCol : TokAt T (pCol at_ i f) (pCol at_ i f) (pTyp at_ i f) 58
  tTyp : TokAt T (pTyp at_ i f) (pTyp at_ i f) (if 0 < f.t.nest then pTyp at_ i f + 4 else pTyp at_ i f + (coreText ss f.t).length) 97
  typ : TypToks T (pTyp at_ i f) f.t.nest (coreText ss f.t)
  size : pSem at_ ss i f + 1 ≤ T.size

theorem data_ext {s t : ByteArray} (h : s.data.toList = t.data.toList) : s = t := by
  rw [← Lib.mk_data s, ← Lib.mk_data t, h]

theorem field_toks {T : ByteArray} {at_ : Nat} {ss : List Str} {i : Nat} {f : Fld} {rest : List UInt8} (h : At T at_ (fieldText ss i f ++ rest)) (hn : nameL f.name.data.toList = true) (hc : CoreP ss f.t) (hi : i < 16) : FieldToks T at_ ss i f := by
  have h0 : At T at_ (f.name.data.toList ++ (64 :: (numText i ++ (58 :: (typeText ss f.t ++ 59 :: rest))))) := by
    simpa [fieldText, List.append_assoc] using h
  have h1 := h0.step
  have h1' : At T (pAt at_ f) ([64] ++ (numText i ++ (58 :: (typeText ss f.t ++ 59 :: rest)))) := h1
  have h2 := h1'.step
  have h2' : At T (pNum at_ f) (numText i ++ (58 :: (typeText ss f.t ++ 59 :: rest))) := h2
  have h3 := h2'.step
  have h3' : At T (pCol at_ i f) ([58] ++ (typeText ss f.t ++ 59 :: rest)) := h3
  have h4 := h3'.step
  have h4' : At T (pTyp at_ i f) (repL f.t.nest lopL ++ coreText ss f.t ++ repL f.t.nest [41] ++ 59 :: rest) := by
    have h5 : At T (pTyp at_ i f) (typeText ss f.t ++ 59 :: rest) := h4
    exact h5
  have ht := typ_toks h4' hc.name
  refine ⟨data_ext h0.extract, tok_sign (c := 64) h1 (by decide), tok_num h2' (num_ne i) (dig_num i hi) (by decide), fun j hj1 hj2 hj => ?_, ?_, tok_sign (c := 58) h3 (by decide), ?_, ht, ?_⟩
  · obtain ⟨q, rfl⟩ : ∃ q, j = pNum at_ f + q := ⟨j - pNum at_ f, by omega⟩
    have hq : q < (numText i).length := by unfold pCol at hj2; omega
    obtain ⟨_, hg⟩ := h2'.get q (by simp; omega)
    rw [hg, List.getElem_append_left hq]
    exact dig_num i hi _ (List.getElem_mem _)
  · have e : pCol at_ i f - pNum at_ f = (numText i).length := by unfold pCol; omega
    rw [e]
    exact numTo_at h2' hi
  · by_cases h0n : 0 < f.t.nest
    · rw [if_pos h0n]; exact (ht.lst 0 h0n).1
    · rw [if_neg h0n]
      have h9 := ht.core.1
      have e9 : f.t.nest = 0 := by omega
      rw [e9] at h9
      exact h9
  · have h9 := ht.size
    unfold pSem typeText
    simp only [List.length_append, repL_len]
    show pTyp at_ i f + (f.t.nest * 5 + (coreText ss f.t).length + f.t.nest * 1) + 1 ≤ _
    omega

/-- The field as the parser makes it. -/
def Fld.bare (f : Fld) : Fld := { name := f.name, t := f.t.bare, p := ⟨0, 0, 0, false⟩ }

/-- The use that a field's type makes. -/
def useOf (T : ByteArray) (at_ : Nat) (ss : List Str) (k i : Nat) (t : Typ) : List Use :=
  if t.core = 13 then [⟨at_ + 5 * t.nest, k, i, T.extract (at_ + 5 * t.nest) (at_ + 5 * t.nest + (coreText ss t).length)⟩] else []

/-- What field leaves. -/
def FieldEnd (w : World) (p b0 Bk at_ k i at2 en2 k2 : Nat) (T : ByteArray) (Sv : Value) (nums : List Int) (us : List Use) (ss : List Str) (S : List PStr) (sn : ByteArray) (fs : List Fld) (f : Fld) (e : Ending) (w' : World) : Prop :=
  ∃ Fv' Uv', e = .returned (.bool true) ∧ Blk w' p 223 (pCells T at2 en2 k2 (xCells Sv (nums.set i (i : Int)) Uv')) ∧ w'.ownsRow b0 148 4 Sv S.length (sRow (S.set k ⟨sn, Fv', 0, 0⟩)) ∧
    w'.ownsRow Bk 150 9 Fv' (i + 1) (fRow (fs ++ [f.bare])) ∧ w'.ownsRow b0 295 4 Uv' (us ++ useOf T (pTyp at_ i f) ss k i f.t).length (usesRow (us ++ useOf T (pTyp at_ i f) ss k i f.t)) ∧ Kf b0 Bk w w' ∧ Bk ≤ w'.heap.size

theorem x_num (T : ByteArray) (a e k : Nat) (Sv Uv : Value) (nums : List Int) (h : nums.length = 16) (i : Nat) (hi : i < 16) : ∃ u, (pCells T a e k (xCells Sv nums Uv))[7 + i]? = some u := by
  unfold pCells xCells
  refine ⟨_, List.getElem?_eq_getElem (by simp [h]; omega)⟩

theorem x_setNum (T : ByteArray) (a e k : Nat) (Sv Uv : Value) (nums : List Int) (h : nums.length = 16) (i : Nat) (hi : i < 16) (v : Int) : (pCells T a e k (xCells Sv nums Uv)).set (7 + i) (.int .i64 v) = pCells T a e k (xCells Sv (nums.set i v) Uv) := by
  unfold pCells xCells
  rw [Nat.add_comm 7 i]
  simp only [List.set_cons_succ]
  rw [List.set_append_left _ _ (by simp [h]; omega), List.map_set]

theorem Kq.row {b0 base n size : Nat} {w w' : World} {e : TypeId} {v : Value} {xs : List Value} (h : Kq b0 w w') (h1 : e ≠ 223) (h2 : e ≠ 295) (hr : w.ownsRow base e size v n xs) : w'.ownsRow base e size v n xs := by
  refine ⟨hr.1, ?_⟩
  rcases hr.2 with hn | ⟨g, cap, cur, hv, hb, hh, rest⟩
  · exact .inl hn
  · exact .inr ⟨g, cap, cur, hv, hb, h.other g cur e _ hh h1 h2, rest⟩

theorem Kf.same {b0 Bk : Nat} {w x y : World} (h : Kf b0 Bk w x) (h1 : y.os = x.os) (h2 : y.tape = x.tape) (h3 : y.output = x.output) (h4 : y.heap = x.heap) : Kf b0 Bk w y :=
  ⟨⟨h1.trans h.below.os, h2.trans h.below.tape, h3.trans h.below.output, by rw [h4]; exact h.below.size, fun k hk => by rw [h4]; exact h.below.block k hk⟩, fun g cur fz hg hh => by rw [h4]; exact h.rows g cur fz hg hh⟩

theorem own_setRow {w : World} {base base' n n' size size' g cap o : Nat} {e e' : TypeId} {xs xs' : List Value} {v : Value} (h : w.ownsRow base e size v n xs) (hr : w.ownsRow base' e' size' (.slice (some ⟨g, 0, none⟩) n' cap) n' xs') (he : e ≠ e') (u : Value) : (w.setCell ⟨g, o, none⟩ u).ownsRow base e size v n xs := by
  refine ⟨h.1, ?_⟩
  rcases h.2 with hn | ⟨g1, cap1, cur, hv, hb, hh, rest⟩
  · exact .inl hn
  · refine .inr ⟨g1, cap1, cur, hv, hb, ?_, rest⟩
    rw [Below.heap_setCell _ _ _ _ ?_]
    · exact hh
    · intro hk
      simp only at hk
      subst hk
      rcases hr.2 with ⟨h2, _⟩ | ⟨g2, cap2, cur2, hv2, hb2, hh2, _⟩
      · cases h2
      · cases hv2
        rw [hh] at hh2
        simp at hh2
        exact he hh2.2

theorem Blk.setRow {w : World} {base' n' size' g p cap o : Nat} {e e' : TypeId} {l xs' : List Value} (h : Blk w p e l) (hr : w.ownsRow base' e' size' (.slice (some ⟨g, 0, none⟩) n' cap) n' xs') (he : e ≠ e') (u : Value) : Blk (w.setCell ⟨g, o, none⟩ u) p e l := by
  unfold Blk at h ⊢
  rw [Below.heap_setCell _ _ _ _ ?_]
  · exact h
  · intro hk
    simp only at hk
    subst hk
    rcases hr.2 with ⟨h2, _⟩ | ⟨g2, cap2, cur2, hv2, hb2, hh2, _⟩
    · cases h2
    · cases hv2
      rw [h] at hh2
      simp at hh2
      exact he hh2.2

theorem own_rowGrown {w w' : World} {base base' n n' size size' : Nat} {e e' : TypeId} {xs xs' : List Value} {v v' : Value} (h : w.ownsRow base e size v n xs) (hr : w.ownsRow base' e' size' v' n' xs') (hg : w.grownBy w' v'.ownBlock) (he : e ≠ e') : w'.ownsRow base e size v n xs := by
  refine ⟨h.1, ?_⟩
  rcases h.2 with hn | ⟨g, cap, cur, hv, hb, hh, rest⟩
  · exact .inl hn
  · refine .inr ⟨g, cap, cur, hv, hb, ?_, rest⟩
    rw [hg.block g (heap_lt hh) ?_]
    · exact hh
    · intro hk
      rcases hr.2 with ⟨h2, _⟩ | ⟨g2, cap2, cur2, hv2, hb2, hh2, _⟩
      · rw [h2] at hk; simp [Value.ownBlock] at hk
      · rw [hv2] at hk
        simp [Value.ownBlock] at hk
        subst hk
        rw [hh] at hh2
        simp at hh2
        exact he hh2.2

set_option maxHeartbeats 8000000 in
set_option maxRecDepth 100000 in
theorem field_any (w : World) (p b0 Bk at_ k i at2 en2 k2 : Nat) (T : ByteArray) (Sv Uv Fv : Value) (nums : List Int) (us : List Use) (ss : List Str) (S : List PStr) (sn : ByteArray) (fs : List Fld) (f : Fld)
    (hT : T.size ≤ 100000) (hp : b0 ≤ p) (h0k : b0 ≤ Bk) (hBk : Bk ≤ w.heap.size) (hft : FieldToks T at_ ss i f) (hnx : TokAt T (pSem at_ ss i f + 1) at2 en2 k2)
    (ht : typeB f.t ss.length = true) (hc : CoreP ss f.t) (hnm : nameL f.name.data.toList = true)
    (hB : Blk w p 223 (pCells T at_ (pAt at_ f) 97 (xCells Sv nums Uv))) (hnl : nums.length = 16)
    (hS : w.ownsRow b0 148 4 Sv S.length (sRow S)) (hk : S[k]? = some ⟨sn, Fv, 0, 0⟩) (hS4 : S.length ≤ 4)
    (hF : w.ownsRow Bk 150 9 Fv i (fRow fs)) (hfl : fs.length = i) (hi : i < 16) (hdup : ∀ (j : Nat) (g : Fld), fs[j]? = some g → (g.name.toList == f.name.toList) = false)
    (hU : w.ownsRow b0 295 4 Uv us.length (usesRow us)) (hul : us.length ≤ 900) :
    Calls Fafg.prog 168 #[.pointer (some ⟨p, 0, none⟩), .int .i64 k, .int .i64 i] w (FieldEnd w p b0 Bk at_ k i at2 en2 k2 T Sv nums us ss S sn fs f) := by
  have hkl : k < S.length := (List.getElem?_eq_some_iff.1 hk).1
  have hsz := hft.size
  have hpp : at_ ≤ pAt at_ f ∧ pAt at_ f ≤ pNum at_ f ∧ pNum at_ f ≤ pCol at_ i f ∧ pCol at_ i f ≤ pTyp at_ i f ∧ pTyp at_ i f ≤ pSem at_ ss i f := by
    unfold pSem pTyp pCol pNum pAt; omega
  obtain ⟨q1, q2, q3, q4, q5⟩ := hpp
  have HNM := name_any p T at_ (pAt at_ f) _ _ _ false (xCells Sv nums Uv) w hT hB hft.tAt q1 (by omega) (fun h => by cases h) (by rw [hft.name, Lib.size_eq]; exact name_le hnm)
  rw [hft.name] at HNM
  obtain ⟨sg, scap, hSv, hsg0, hsgl⟩ := own_head hS (by omega)
  subst hSv
  obtain ⟨fa0, fc0, hFv⟩ := own_slice hF
  subst hFv
  have Hft : Hid (FieldToks T at_ ss i f) := hft
  have Hnx : Hid (TokAt T (pSem at_ ss i f + 1) at2 en2 k2) := hnx
  have Hdup : Hid (∀ (j : Nat) (g : Fld), fs[j]? = some g → (g.name.toList == f.name.toList) = false) := hdup
  have Hk : Hid (S[k]? = some ⟨sn, .slice fa0 i fc0, 0, 0⟩) := hk
  clear hft hnx hdup hk
  go_enter Fafg.func168, Fafg.ntmps168
  go_wp2_with fail
  refine HNM.mono ?_
  rintro e w1 ⟨rfl, hb1, ho1⟩
  have hS1 := ho1.row hB (by decide) hS
  have hF1 := ho1.row hB (by decide) hF
  have hU1 := ho1.row hB (by decide) hU
  have hK1 : Kf b0 Bk w w1 := (ho1.kq hB hp).kf
  have hz1 : Bk ≤ w1.heap.size := by rw [ho1.size]; exact hBk
  clear HNM ho1 hB hS hF hU
  have c6 : w1.cell? ⟨p, 6, none⟩ = some (.slice (some ⟨sg, 0, none⟩) S.length scap) := hb1.cell 6
  have cF : w1.cell? ⟨sg, k * 4 + 1, none⟩ = some (.slice fa0 i fc0) := own_cell hS1 _ _ (flat_at pstrCells 4 pstr_len S k 1 _ _ Hk.out rfl)
  have h16 : decide ((16 : Int) ≤ (i : Int)) = false := by simp; omega
  go_wp2_with fail
  have Hn1 : Hid (Blk w1 p 223 (pCells T (pAt at_ f) (pNum at_ f) 64 (xCells (.slice (some ⟨sg, 0, none⟩) S.length scap) nums Uv))) := hb1
  have HS1 : Hid (w1.ownsRow b0 148 4 (.slice (some ⟨sg, 0, none⟩) S.length scap) S.length (sRow S)) := hS1
  have HF1 : Hid (w1.ownsRow Bk 150 9 (.slice fa0 i fc0) i (fRow fs)) := hF1
  have HU1 : Hid (w1.ownsRow b0 295 4 Uv us.length (usesRow us)) := hU1
  have HK1 : Hid (Kf b0 Bk w w1) := hK1
  clear hb1 hS1 hF1 hU1 hK1
  go_loop [39] (fun n => ∃ j : Nat, j ≤ i ∧ n = .int .i64 j) (fun n => i + 1 - (intOf n).toNat)
  case atStart => exact ⟨0, by omega, rfl⟩
  case round =>
    obtain ⟨j, hj, rfl⟩ := hrel
    by_cases hlt : j < i
    · have hjg : fs[j]? = some (fs[j]'(by omega)) := List.getElem?_eq_getElem (by omega)
      have hne := Hdup.out j _ hjg
      obtain ⟨fg, fcap, hfv, _, _⟩ := own_head HF1.out (by omega)
      obtain ⟨rfl, rfl⟩ : fa0 = some ⟨fg, 0, none⟩ ∧ fc0 = fcap := by cases hfv; exact ⟨rfl, rfl⟩
      have cN : w1.cell? ⟨fg, j * 9, none⟩ = some (.string (fs[j]'(by omega)).name) := own_cell HF1.out _ _ (flat_at fldCells 9 fld_len fs j 0 _ _ hjg rfl)
      generalize fs[j]'(by omega) = g at *
      clear hjg
      go_wp2
      go_round
      case rel => exact ⟨j + 1, by omega, by go_num⟩
      case measure => simp [intOf]; omega
    · obtain rfl : j = i := by omega
      have HX := expect_any p T _ _ 64 _ _ _ _ w1 hT Hn1.out Hft.out.tNum
      go_wp2_with fail
      refine HX.mono ?_
      rintro e w2 ⟨rfl, hb2, ho2⟩
      have hS2 := ho2.row Hn1.out (by decide) HS1.out
      have hF2 := ho2.row Hn1.out (by decide) HF1.out
      have hU2 := ho2.row Hn1.out (by decide) HU1.out
      have hK2 : Kf b0 Bk w w2 := HK1.out.trans (ho2.kq Hn1.out hp).kf
      have hz2 : Bk ≤ w2.heap.size := by rw [ho2.size]; exact hz1
      clear HX ho2 Hn1 HS1 HF1 HU1 HK1 c6 cF
      have HV := value_any p T _ _ 48 _ w2 hT hb2 (by omega) (by omega) Hft.out.dig
      rw [Hft.out.num] at HV
      go_wp2_with fail
      refine HV.mono ?_
      rintro e w2 ⟨rfl, rfl⟩
      clear HV
      have HX := expect_any p T _ _ 48 _ _ _ _ w2 hT hb2 Hft.out.tCol
      go_wp2_with fail
      refine HX.mono ?_
      rintro e w3 ⟨rfl, hb3, ho3⟩
      have hS3 := ho3.row hb2 (by decide) hS2
      have hF3 := ho3.row hb2 (by decide) hF2
      have hU3 := ho3.row hb2 (by decide) hU2
      have hK3 : Kf b0 Bk w w3 := hK2.trans (ho3.kq hb2 hp).kf
      have hz3 : Bk ≤ w3.heap.size := by rw [ho3.size]; exact hz2
      clear HX ho3 hb2 hS2 hF2 hU2 hK2 hz2
      have HX := expect_any p T _ _ 58 _ _ _ _ w3 hT hb3 Hft.out.tTyp
      go_wp2_with fail
      refine HX.mono ?_
      rintro e w4 ⟨rfl, hb4, ho4⟩
      have hS4' := ho4.row hb3 (by decide) hS3
      have hF4 := ho4.row hb3 (by decide) hF3
      have hU4 := ho4.row hb3 (by decide) hU3
      have hK4 : Kf b0 Bk w w4 := hK3.trans (ho4.kq hb3 hp).kf
      have hz4 : Bk ≤ w4.heap.size := by rw [ho4.size]; exact hz3
      clear HX ho4 hb3 hS3 hF3 hU3 hK3 hz3
      have HT := typ_any w4 p b0 _ k j T _ _ nums us ss f.t hT hp ht hc Hft.out.typ (by omega) (by omega) hb4 hnl hU4 (by omega)
      go_wp2_with fail
      refine HT.mono ?_
      rintro e w5 ⟨Uv', us', he, hb5, hU5, hk5, hus⟩
      rw [show f.t.bare.cells.toArray = #[.int .u8 f.t.kind, .int .u8 f.t.elem, .int .u8 0, .int .u8 f.t.nest] from rfl] at he
      subst he
      clear HT
      have hS5 := hk5.row (by decide) (by decide) hS4'
      have hF5 := hk5.row (by decide) (by decide) hF4
      have hK5 : Kf b0 Bk w w5 := hK4.trans hk5.kf
      have hz5 : Bk ≤ w5.heap.size := by have := hk5.below.size; omega
      have HU5 : Hid (us' = us ++ useOf T (pTyp at_ j f) ss k j f.t) := hus
      clear hS4' hF4 hU4 hK4 hz4 hb4 hk5 hus
      go_wp2_with fail
      generalize hWA : w5.alloc (.cells #[.int .u8 f.t.kind, .int .u8 f.t.elem, .int .u8 0, .int .u8 f.t.nest] 85) = WA at *
      have hbA := hb5.alloc (.cells #[.int .u8 f.t.kind, .int .u8 f.t.elem, .int .u8 0, .int .u8 f.t.nest] 85)
      have hSA := hS5.alloc (.cells #[.int .u8 f.t.kind, .int .u8 f.t.elem, .int .u8 0, .int .u8 f.t.nest] 85)
      have hFA := hF5.alloc (.cells #[.int .u8 f.t.kind, .int .u8 f.t.elem, .int .u8 0, .int .u8 f.t.nest] 85)
      have hUA := hU5.alloc (.cells #[.int .u8 f.t.kind, .int .u8 f.t.elem, .int .u8 0, .int .u8 f.t.nest] 85)
      have hKA := hK5.alloc (by omega) (.cells #[.int .u8 f.t.kind, .int .u8 f.t.elem, .int .u8 0, .int .u8 f.t.nest] 85)
      have hzA : Bk ≤ WA.heap.size := by rw [← hWA]; unfold World.alloc; simp only [Array.size_push]; omega
      have hRA : Blk WA w5.heap.size 85 [.int .u8 f.t.kind, .int .u8 f.t.elem, .int .u8 0, .int .u8 f.t.nest] := by rw [← hWA]; exact Blk.new _ _ _
      rw [hWA] at hSA hFA hUA hKA hbA
      clear hWA hb5 hS5 hF5 hU5 hK5 hz5
      generalize w5.heap.size = rA at *
      have cF : WA.cell? ⟨sg, k * 4 + 1, none⟩ = some (.slice fa0 j fc0) := own_cell hSA _ _ (flat_at pstrCells 4 pstr_len S k 1 _ _ Hk.out rfl)
      have r0 : WA.cell? ⟨rA, 0, none⟩ = some (.int .u8 f.t.kind) := hRA.cell 0
      have r1 : WA.cell? ⟨rA, 1, none⟩ = some (.int .u8 f.t.elem) := hRA.cell 1
      have r2 : WA.cell? ⟨rA, 2, none⟩ = some (.int .u8 0) := hRA.cell 2
      have r3 : WA.cell? ⟨rA, 3, none⟩ = some (.int .u8 f.t.nest) := hRA.cell 3
      obtain ⟨i0, hi0, hz0, hz1, hz2⟩ := info_parts info150
      have Hi0 : Hid (Fafg.prog.info? 150 = some i0) := hi0
      clear hi0
      have hFB := hFA.alloc (.cells (fldCells f.bare).toArray 150)
      have hSB := hSA.alloc (.cells (fldCells f.bare).toArray 150)
      have hUB := hUA.alloc (.cells (fldCells f.bare).toArray 150)
      have hbB := hbA.alloc (.cells (fldCells f.bare).toArray 150)
      have hKB := hKA.alloc (by omega) (.cells (fldCells f.bare).toArray 150)
      have hWp : ∀ x : World, x.heap = (WA.alloc (.cells (fldCells f.bare).toArray 150)).heap → Bk ≤ x.heap.size := fun x hx => by rw [hx]; unfold World.alloc; simp only [Array.size_push]; omega
      have HAP : ∀ x w6 : World, x.grownBy w6 (Value.slice fa0 j fc0).ownBlock → x.heap = (WA.alloc (.cells (fldCells f.bare).toArray 150)).heap → x.os = (WA.alloc (.cells (fldCells f.bare).toArray 150)).os → x.tape = (WA.alloc (.cells (fldCells f.bare).toArray 150)).tape → x.output = (WA.alloc (.cells (fldCells f.bare).toArray 150)).output →
          w6.ownsRow b0 148 4 (.slice (some ⟨sg, 0, none⟩) S.length scap) S.length (sRow S) ∧ w6.ownsRow b0 295 4 Uv' us'.length (usesRow us') ∧ Blk w6 p 223 (pCells T (pTyp at_ j f + (typeText ss f.t).length) (pTyp at_ j f + (typeText ss f.t).length + 1) 59 (xCells (.slice (some ⟨sg, 0, none⟩) S.length scap) nums Uv')) ∧ Kf b0 Bk w w6 ∧ Bk ≤ w6.heap.size := by
        intro x w6 hg6 h1 h2 h3 h4
        have hzx := hWp x h1
        generalize WA.alloc (.cells (fldCells f.bare).toArray 150) = WB at *
        have hFx : x.ownsRow Bk 150 9 (.slice fa0 j fc0) j (fRow fs) := by unfold World.ownsRow at hFB ⊢; rw [h1]; exact hFB
        have hSx : x.ownsRow b0 148 4 (.slice (some ⟨sg, 0, none⟩) S.length scap) S.length (sRow S) := by unfold World.ownsRow at hSB ⊢; rw [h1]; exact hSB
        have hUx : x.ownsRow b0 295 4 Uv' us'.length (usesRow us') := by unfold World.ownsRow at hUB ⊢; rw [h1]; exact hUB
        have hbx : Blk x p 223 (pCells T (pTyp at_ j f + (typeText ss f.t).length) (pTyp at_ j f + (typeText ss f.t).length + 1) 59 (xCells (.slice (some ⟨sg, 0, none⟩) S.length scap) nums Uv')) := by unfold Blk at hbB ⊢; rw [h1]; exact hbB
        have hKx : Kf b0 Bk w x := hKB.same h2 h3 h4 h1
        exact ⟨own_rowGrown hSx hFx hg6 (by decide), own_rowGrown hUx hFx hg6 (by decide), hbx.rowGrown hFx hg6 (by decide), hKx.grown hFx hg6 h0k hzx, Nat.le_trans hzx hg6.size⟩
      have hsgA' : sg < WA.heap.size := (hSA.lt sg rfl).2
      clear hbB hSB hUB hKB hbA hSA hUA hKA
      have hsgA : sg < WA.heap.size := by have := hFA; exact hsgA'
      have hsgn : ¬ sg = WA.heap.size := by omega
      have hd4 : k * 4 + 1 < S.length * 4 := by omega
      go_region_law (refine step_append_own rfl (.tmp 82) (.tmp 86) 146 rfl Bk 150 i0 _ 9 32 Fafg.underlying146 Hi0.out hz0 hz1 hz2 rfl (by decide) (.slice fa0 j fc0) j (fRow fs) rfl (hFA.alloc _) _ 1 1 (fldCells f.bare) rfl rfl (cells_new _ _ _ _ rfl) (fld_one _) (by unfold maxLen; omega) (by omega) (hWp _ rfl) ?_; intro F6 w6 hown6 hg6; obtain ⟨a6, c6, rfl⟩ := own_slice hown6; obtain ⟨hS6, hU6, hb6, hK6, hz6⟩ := HAP _ _ hg6 rfl rfl rfl rfl; have c81 : w6.cell? ⟨sg, k * 4 + 1, none⟩ = some (.slice fa0 j fc0) := own_cell hS6 _ _ (flat_at pstrCells 4 pstr_len S k 1 _ _ Hk.out rfl); have z81 : w6.frozen? ⟨sg, k * 4 + 1, none⟩ = false := own_frozen hS6 (k * 4 + 1))
      all_goals
        have hS7 := own_set hS6 (k * 4 + 1) hd4 (.slice a6 (j + 1) c6)
        rw [show (sRow S).set (k * 4 + 1) (.slice a6 (j + 1) c6) = sRow (S.set k ⟨sn, .slice a6 (j + 1) c6, 0, 0⟩) from flat_set pstrCells 4 pstr_len S k 1 _ ⟨sn, .slice a6 (j + 1) c6, 0, 0⟩ _ Hk.out (by decide) rfl] at hS7
        have hF7 := own_setRow (o := k * 4 + 1) hown6 hS6 (by decide) (.slice a6 (j + 1) c6)
        have hU7 := own_setRow (o := k * 4 + 1) hU6 hS6 (by decide) (.slice a6 (j + 1) c6)
        have hb7 := hb6.setRow (o := k * 4 + 1) hS6 (by decide) (.slice a6 (j + 1) c6)
        have hK7 := hK6.setOther hS6 (by decide) (Nat.le_refl _) (k * 4 + 1) (.slice a6 (j + 1) c6)
        have hz7 : Bk ≤ (w6.setCell ⟨sg, k * 4 + 1, none⟩ (.slice a6 (j + 1) c6)).heap.size := by simp; omega
        clear c81 z81 hS6 hU6 hb6 hK6 hown6 hg6 hFA hFB cF r0 r1 r2 r3 hWp HAP hsgA' hsgA hsgn hzA hRA
        generalize w6.setCell ⟨sg, k * 4 + 1, none⟩ (.slice a6 (j + 1) c6) = w7 at *
        obtain ⟨u7, hu7⟩ := x_num T (pTyp at_ j f + (typeText ss f.t).length) (pTyp at_ j f + (typeText ss f.t).length + 1) 59 (.slice (some ⟨sg, 0, none⟩) S.length scap) Uv' nums hnl j hi
        have d7 : w7.cell? ⟨p, 7 + j, none⟩ = some u7 := (hb7.cell (7 + j)).trans hu7
        have e7 := hb7.frozen (7 + j)
        have hj16 : decide ((j : Int) < 16) = true := by simp; omega
        go_wp2_with fail
        have hb8 := hb7.set (7 + j) (.int .i64 j)
        rw [x_setNum _ _ _ _ _ _ _ hnl j hi] at hb8
        have ho8 : Only p w7 (w7.setCell ⟨p, 7 + j, none⟩ (.int .i64 j)) := (Only.refl p w7).setCell (7 + j) _
        have hS8 := ho8.row hb7 (by decide) hS7
        have hF8 := ho8.row hb7 (by decide) hF7
        have hU8 := ho8.row hb7 (by decide) hU7
        have hK8 : Kf b0 Bk w _ := hK7.trans (ho8.kq hb7 hp).kf
        have hz8 : Bk ≤ (w7.setCell ⟨p, 7 + j, none⟩ (.int .i64 j)).heap.size := by simp; omega
        have HX := expect_any p T _ _ 59 _ _ _ _ _ hT hb8 Hnx.out
        refine HX.mono ?_
        rintro e w9 ⟨rfl, hb9, ho9⟩
        have hS9 := ho9.row hb8 (by decide) hS8
        have hF9 := ho9.row hb8 (by decide) hF8
        have hU9 := ho9.row hb8 (by decide) hU8
        have hK9 : Kf b0 Bk w _ := hK8.trans (ho9.kq hb8 hp).kf
        have hz9 : Bk ≤ w9.heap.size := by rw [ho9.size]; exact hz8
        clear HX ho9 hb8 hS8 hF8 hU8 hK8 hz8 ho8 hS7 hF7 hU7 hK7 hb7 d7 e7 hu7
        go_wp2
        go_ret
        refine ⟨.slice a6 (j + 1) c6, Uv', rfl, hb9, ?_, ?_, ?_, hK9, hz9⟩
        · simpa only [List.length_set] using hS9
        · rw [show fRow (fs ++ [f.bare]) = fRow fs ++ fldCells f.bare by simp [fRow]]; exact hF9
        · rw [← HU5.out]; exact hU9
end Go.Proofs.Ygcfaf
