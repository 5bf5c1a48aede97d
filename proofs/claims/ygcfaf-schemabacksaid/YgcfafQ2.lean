import Derived.Test.YgcfafQ1
namespace Go.Proofs.Ygcfaf
open Go.RowKit
set_option linter.unusedVariables false

/-- The row of fields of struct s, held in Fv. -/
def RowAt (w : World) (B : Nat) (s : Str) (Fv : Value) (fs : List Fld) : Prop :=
  (s.fs = [] ∧ Fv = .slice none 0 0) ∨ ∃ g, s.fs ≠ [] ∧ B ≤ g ∧ Fv = .slice (some ⟨g, 0, none⟩) s.fs.length s.fs.length ∧ Blk w g 150 (fRow fs)

/-- What strct leaves. -/
def StrEnd (w : World) (p b0 a at2 en2 k2 k : Nat) (T : ByteArray) (us : List Use) (ss : List Str) (S : List PStr) (t : Str) (e : Ending) (w' : World) : Prop :=
  ∃ Sv' Uv' nums' Fv', e = .returned (.bool true) ∧ Blk w' p 223 (pCells T at2 en2 k2 (xCells Sv' nums' Uv')) ∧ nums'.length = 16 ∧
    w'.ownsRow b0 148 4 Sv' (k + 1) (sRow (S ++ [⟨t.name, Fv', t.data, t.ptrs⟩])) ∧ RowAt w' w.heap.size t Fv' (t.fs.map Fld.half) ∧
    w'.ownsRow b0 295 4 Uv' (us ++ usesTo T a ss k t t.fs.length).length (usesRow (us ++ usesTo T a ss k t t.fs.length)) ∧ Kf b0 w.heap.size w w'

theorem Kf.grownOther {b0 Bk base : Nat} {a w w' : World} {e : TypeId} {n size : Nat} {xs : List Value} {v : Value} (h : Kf b0 Bk a w) (hr : w.ownsRow base e size v n xs) (hg : w.grownBy w' v.ownBlock) (he : e ≠ 150) (h0 : b0 ≤ base) (hB : b0 ≤ w.heap.size) : Kf b0 Bk a w' := by
  refine h.trans ⟨(Below.refl _ _).grown hg hB (fun k hk => by have := (hr.lt k hk).1; omega), fun g cur fz hgb hh => ?_⟩
  rw [hg.block g (heap_lt hh) ?_]
  · exact hh
  · intro hk
    rcases hr.2 with ⟨h2, _⟩ | ⟨g2, cap2, cur2, hv2, hb2, hh2, _⟩
    · rw [h2] at hk; simp [Value.ownBlock] at hk
    · rw [hv2] at hk
      simp [Value.ownBlock] at hk
      subst hk
      rw [hh] at hh2
      simp at hh2
      exact he hh2.2.1.symm

/-- Where the loop over a struct's fields stands. -/
structure FldInv (w wr : World) (p b0 a k i : Nat) (T : ByteArray) (sg scap : Nat) (us : List Use) (ss : List Str) (S : List PStr) (t : Str) (Fv Uv : Value) (nums : List Int) : Prop where
  blk : Blk wr p 223 (pCells T (fAt a ss t i) (enF a ss t i) (kF t i) (xCells (.slice (some ⟨sg, 0, none⟩) (k + 1) scap) nums Uv))
  nl : nums.length = 16
  num : ∀ j, j < i → nums[j]? = some (j : Int)
  row : wr.ownsRow b0 148 4 (.slice (some ⟨sg, 0, none⟩) (k + 1) scap) (k + 1) (sRow (S ++ [⟨t.name, Fv, 0, 0⟩]))
  flds : wr.ownsRow w.heap.size 150 9 Fv i (fRow ((t.fs.take i).map Fld.bare))
  uses : wr.ownsRow b0 295 4 Uv (us ++ usesTo T a ss k t i).length (usesRow (us ++ usesTo T a ss k t i))
  keep : Kf b0 w.heap.size w wr
  size : w.heap.size ≤ wr.heap.size

theorem FldInv.call {w wr : World} {p b0 a k i : Nat} {T : ByteArray} {sg scap : Nat} {us : List Use} {ss : List Str} {S : List PStr} {t : Str} {Fv Uv : Value} {nums : List Int} (h : FldInv w wr p b0 a k i T sg scap us ss S t Fv Uv nums)
    (hT : T.size ≤ 100000) (hp : b0 ≤ p) (h0 : b0 ≤ w.heap.size) (hSl : S.length = k) (hk4 : k < 4) (htk : StrToks T a ss t) (hW : WholeP ss k t) (hN : Names ss) (hul : us.length ≤ 800) (f : Fld) (hf : t.fs[i]? = some f) :
    Calls Fafg.prog 168 #[.pointer (some ⟨p, 0, none⟩), .int .i64 k, .int .i64 i] wr (fun e w' => e = .returned (.bool true) ∧ ∃ Fv' Uv' nums', FldInv w w' p b0 a k (i + 1) T sg scap us ss S t Fv' Uv' nums') := by
  have hl : i < t.fs.length := (List.getElem?_eq_some_iff.1 hf).1
  have hln := hW.len
  obtain ⟨hfn, hft, hfd⟩ := hW.flds i f hf
  have e1 : (S ++ [(⟨t.name, Fv, 0, 0⟩ : PStr)]).length = k + 1 := by simp [hSl]
  have een : enF a ss t i = pAt (fAt a ss t i) f := by unfold enF; rw [hf]
  have ekf : kF t i = 97 := by unfold kF; rw [hf]
  have hb := h.blk
  rw [een, ekf] at hb
  have hrow := h.row
  rw [← e1] at hrow
  rw [← e1] at hb
  have hkk : (S ++ [(⟨t.name, Fv, 0, 0⟩ : PStr)])[k]? = some ⟨t.name, Fv, 0, 0⟩ := by rw [List.getElem?_append_right (by omega), hSl]; simp
  have hut := usesTo_len T a ss k t i
  have hnx := htk.tF (i + 1) (by omega)
  have hnx' : TokAt T (pSem (fAt a ss t i) ss i f + 1) (fAt a ss t (i + 1)) (enF a ss t (i + 1)) (kF t (i + 1)) := by rw [← fAt_succ a ss t i f hf]; exact hnx
  have HFa := field_any wr p b0 w.heap.size (fAt a ss t i) k i (fAt a ss t (i + 1)) (enF a ss t (i + 1)) (kF t (i + 1)) T (.slice (some ⟨sg, 0, none⟩) (S ++ [(⟨t.name, Fv, 0, 0⟩ : PStr)]).length scap) Uv Fv nums (us ++ usesTo T a ss k t i) ss (S ++ [⟨t.name, Fv, 0, 0⟩]) t.name ((t.fs.take i).map Fld.bare) f
    hT hp h0 h.size (htk.fld i f hf) hnx' hft (core_p hN hft) hfn hb h.nl hrow hkk (by omega) h.flds (by simp; omega) (by omega) (fun q g hg => ?_) h.uses (by simp; omega)
  · refine HFa.mono ?_
    rintro e w' ⟨Fv', Uv', rfl, hb', hS', hF', hU', hK', hz'⟩
    refine ⟨rfl, Fv', Uv', nums.set i (i : Int), ?_, by simp [h.nl], fun q hq => ?_, ?_, ?_, ?_, h.keep.trans hK', hz'⟩
    · rw [e1] at hb'; exact hb'
    · by_cases hqi : i = q
      · subst hqi; rw [List.getElem?_set]; simp [h.nl]; omega
      · rw [List.getElem?_set, if_neg hqi]; exact h.num q (by omega)
    · rw [e1] at hS'
      have e2 : (S ++ [(⟨t.name, Fv, 0, 0⟩ : PStr)]).set k ⟨t.name, Fv', 0, 0⟩ = S ++ [⟨t.name, Fv', 0, 0⟩] := by rw [List.set_append_right _ _ (by omega), hSl]; simp
      rw [e2] at hS'
      exact hS'
    · have e3 : (t.fs.take i).map Fld.bare ++ [f.bare] = (t.fs.take (i + 1)).map Fld.bare := by rw [List.take_add_one, hf]; simp
      rw [e3] at hF'
      exact hF'
    · have e4 : us ++ usesTo T a ss k t (i + 1) = us ++ usesTo T a ss k t i ++ useOf T (pTyp (fAt a ss t i) i f) ss k i f.t := by simp only [usesTo, hf, List.append_assoc]
      rw [e4]
      exact hU'
  · obtain ⟨g', hg', rfl⟩ := List.getElem?_map .. ▸ hg |> Option.map_eq_some_iff.1
    have hqi : q < i := by
      have := (List.getElem?_eq_some_iff.1 hg').1
      simp at this; omega
    rw [List.getElem?_take, if_pos hqi] at hg'
    have := hfd q g' hqi hg'
    show (g'.name.toList == f.name.toList) = false
    simpa using this

theorem FldInv.ord {w wr : World} {p b0 a k : Nat} {T : ByteArray} {sg scap : Nat} {us : List Use} {ss : List Str} {S : List PStr} {t : Str} {Fv Uv : Value} {nums : List Int} (h : FldInv w wr p b0 a k t.fs.length T sg scap us ss S t Fv Uv nums)
    (hp : b0 ≤ p) (h0 : b0 ≤ w.heap.size) (hSl : S.length = k) (hk4 : k < 4) (hW : WholeP ss k t) (htw : StrWf t) (hul : us.length ≤ 800) (huk : ∀ u ∈ us, u.strct < k) :
    Calls Fafg.prog 169 #[.pointer (some ⟨p, 0, none⟩), .int .i64 k, .int .i64 (fAt a ss t t.fs.length)] wr (fun e w' => e = .returned (.tuple #[]) ∧ ∃ Fv',
      Blk w' p 223 (pCells T (fAt a ss t t.fs.length) (fAt a ss t t.fs.length + 1) 125 (xCells (.slice (some ⟨sg, 0, none⟩) (k + 1) scap) nums Uv)) ∧ nums.length = 16 ∧
      w'.ownsRow b0 148 4 (.slice (some ⟨sg, 0, none⟩) (k + 1) scap) (k + 1) (sRow (S ++ [⟨t.name, Fv', t.data, t.ptrs⟩])) ∧ RowAt w' w.heap.size t Fv' (t.fs.map Fld.half) ∧
      w'.ownsRow b0 295 4 Uv (us ++ usesTo T a ss k t t.fs.length).length (usesRow (us ++ usesTo T a ss k t t.fs.length)) ∧ Kf b0 w.heap.size w w') := by
  have hln := hW.len
  obtain ⟨fa0, fc0, rfl⟩ := own_slice h.flds
  have e1 : (S ++ [(⟨t.name, .slice fa0 t.fs.length fc0, 0, 0⟩ : PStr)]).length = k + 1 := by simp [hSl]
  have hno : t.fs[t.fs.length]? = none := List.getElem?_eq_none (Nat.le_refl _)
  have een : enF a ss t t.fs.length = fAt a ss t t.fs.length + 1 := by unfold enF; rw [hno]
  have ekf : kF t t.fs.length = 125 := by unfold kF; rw [hno]
  have hb := h.blk
  rw [een, ekf, ← e1] at hb
  have hrow := h.row
  rw [← e1] at hrow
  have hkk : (S ++ [(⟨t.name, .slice fa0 t.fs.length fc0, 0, 0⟩ : PStr)])[k]? = some ⟨t.name, .slice fa0 t.fs.length fc0, 0, 0⟩ := by rw [List.getElem?_append_right (by omega), hSl]; simp
  have hut := usesTo_len T a ss k t t.fs.length
  have hfl := h.flds
  rw [List.take_length] at hfl
  have HO := order_any wr p b0 w.heap.size (fAt a ss t t.fs.length) (fAt a ss t t.fs.length + 1) 125 k (fAt a ss t t.fs.length) T sg scap Uv fa0 fc0 nums (us ++ usesTo T a ss k t t.fs.length) ss (S ++ [⟨t.name, .slice fa0 t.fs.length fc0, 0, 0⟩]) t t.name
    hp h0 h.size rfl hb h.nl h.num hrow hkk (by omega) hfl hW htw h.uses (by simp; omega) (fun u hu hs => ?_)
  · refine HO.mono ?_
    rintro e w' ⟨Fv', rfl, hb', hS', hF', hU', hK', hz'⟩
    rw [e1] at hb' hS'
    have e2 : (S ++ [(⟨t.name, .slice fa0 t.fs.length fc0, 0, 0⟩ : PStr)]).set k ⟨t.name, Fv', t.data, t.ptrs⟩ = S ++ [⟨t.name, Fv', t.data, t.ptrs⟩] := by rw [List.set_append_right _ _ (by omega), hSl]; simp
    rw [e2] at hS'
    exact ⟨rfl, Fv', hb', h.nl, hS', hF', hU', h.keep.trans hK'⟩
  · rcases List.mem_append.1 hu with hu | hu
    · have := huk u hu; omega
    · exact (usesTo_mem hu).2

set_option maxHeartbeats 8000000 in
set_option maxRecDepth 100000 in
theorem strct_any (w : World) (p b0 a at2 en2 k2 k : Nat) (T : ByteArray) (Sv Uv : Value) (nums : List Int) (us : List Use) (ss : List Str) (S : List PStr) (t : Str)
    (hT : T.size ≤ 100000) (hp : b0 ≤ p) (hk4 : k < 4) (htk : StrToks T a ss t) (hnx : TokAt T (fAt a ss t t.fs.length + 1) at2 en2 k2) (hW : WholeP ss k t) (htw : StrWf t) (hN : Names ss)
    (hB : Blk w p 223 (pCells T a (a + 6) 97 (xCells Sv nums Uv))) (hnl : nums.length = 16)
    (hS : w.ownsRow b0 148 4 Sv k (sRow S)) (hSl : S.length = k) (hdup : ∀ (j : Nat) (q : PStr), S[j]? = some q → (q.name.toList == t.name.toList) = false)
    (hU : w.ownsRow b0 295 4 Uv us.length (usesRow us)) (hul : us.length ≤ 800) (huk : ∀ u ∈ us, u.strct < k) :
    Calls Fafg.prog 103 #[.pointer (some ⟨p, 0, none⟩)] w (StrEnd w p b0 a at2 en2 k2 k T us ss S t) := by
  have hpl : p < w.heap.size := hB.lt
  have hsz := htk.size
  have hln := hW.len
  have hle : a + 7 ≤ sB a t ∧ sB a t + 1 ≤ fAt a ss t t.fs.length := by unfold fAt sB; omega
  obtain ⟨hl1, hl2⟩ := hle
  have hcmp : ((T.extract a (a + 6)).toList == [115, 116, 114, 117, 99, 116]) = true := by rw [Lib.toList_data, htk.ext]; rfl
  have HWd := word_any p T a (a + 6) 97 (xCells Sv nums Uv) w hT hB (by omega) (by omega)
  generalize hsx : T.extract a (a + 6) = sx at *
  clear hsx
  obtain ⟨sa, sc, rfl⟩ := own_slice hS
  have c3 : w.cell? ⟨p, 3, none⟩ = some (.int .u8 97) := hB.cell 3
  have Htk : Hid (StrToks T a ss t) := htk
  have Hnx : Hid (TokAt T (fAt a ss t t.fs.length + 1) at2 en2 k2) := hnx
  have Hdup : Hid (∀ (j : Nat) (q : PStr), S[j]? = some q → (q.name.toList == t.name.toList) = false) := hdup
  have Huk : Hid (∀ u ∈ us, u.strct < k) := huk
  have HW : Hid (WholeP ss k t) := hW
  have Htw : Hid (StrWf t) := htw
  have HN : Hid (Names ss) := hN
  clear htk hnx hdup huk hW htw hN
  go_enter Fafg.func103, Fafg.ntmps103
  go_wp2_with fail
  refine HWd.mono ?_
  rintro e w0 ⟨rfl, n0, rfl⟩
  clear HWd
  have HX := expect_any p T _ _ 97 _ _ _ _ (w.drewN n0) hT hB Htk.out.tNm
  go_wp2_with fail
  refine HX.mono ?_
  rintro e w1 ⟨rfl, hb1, ho1⟩
  clear HX
  have hS1 := ho1.row (w := w.drewN n0) hB (by decide) hS
  have hU1 := ho1.row (w := w.drewN n0) hB (by decide) hU
  have hK1 : Kf b0 w.heap.size w w1 := ((Kq.refl b0 w).drewN n0 |>.trans (ho1.kq (w := w.drewN n0) hB hp)).kf
  have hz1 : w.heap.size ≤ w1.heap.size := by rw [ho1.size]; exact Nat.le_refl _
  have HNm := name_any p T (a + 7) (sB a t) _ _ _ true _ w1 hT hb1 Htk.out.tB (by omega) (by omega) (fun _ => by rw [Htk.out.nm]; exact HW.out.cap) (by rw [Htk.out.nm, Lib.size_eq]; exact name_le HW.out.name)
  rw [Htk.out.nm] at HNm
  clear ho1 c3 hB hS hU
  go_wp2_with fail
  refine HNm.mono ?_
  rintro e w2 ⟨rfl, hb2, ho2⟩
  clear HNm
  have hS2 := ho2.row hb1 (by decide) hS1
  have hU2 := ho2.row hb1 (by decide) hU1
  have hK2 : Kf b0 w.heap.size w w2 := hK1.trans (ho2.kq hb1 hp).kf
  have hz2 : w.heap.size ≤ w2.heap.size := by rw [ho2.size]; exact hz1
  clear ho2 hb1 hS1 hU1 hK1 hz1
  have c6 : w2.cell? ⟨p, 6, none⟩ = some (.slice sa k sc) := hb2.cell 6
  have hk4' : decide ((4 : Int) ≤ (k : Int)) = false := by simp; omega
  have HBI := isBuiltIn_any t.name
  rw [HW.out.nb] at HBI
  have HBI' : Hid (∀ wx, Calls Fafg.prog 161 #[.string t.name] wx fun e w' => e = .returned (.bool false) ∧ w' = wx) := HBI
  clear HBI
  go_wp2_with (go_at_call 161; go_must (refine (HBI'.out _).mono ?_; rintro e w2 ⟨rfl, rfl⟩))
  have Hb2 : Hid (Blk w2 p 223 (pCells T (sB a t) (sB a t + 1) 123 (xCells (.slice sa k sc) nums Uv))) := hb2
  have HS2 : Hid (w2.ownsRow b0 148 4 (.slice sa k sc) k (sRow S)) := hS2
  have HU2 : Hid (w2.ownsRow b0 295 4 Uv us.length (usesRow us)) := hU2
  have HK2 : Hid (Kf b0 w.heap.size w w2) := hK2
  clear hb2 hS2 hU2 hK2
  obtain ⟨i148, hi, iz0, iz1, iz2⟩ := info_parts info148
  have Hi : Hid (Fafg.prog.info? 148 = some i148) := hi
  clear hi
  go_loop [56, 7] (fun x b => ∃ j : Nat, j ≤ k ∧ x = .int .i64 j ∧ b = .bool false) (fun x _ => k + 1 - (intOf x).toNat)
  case atStart => exact ⟨0, by omega, rfl, rfl⟩
  case round =>
    obtain ⟨j, hj, rfl, rfl⟩ := hrel
    by_cases hlt : j < k
    · have hjg : S[j]? = some (S[j]'(by omega)) := List.getElem?_eq_getElem (by omega)
      have hne := Hdup.out j _ hjg
      obtain ⟨sg, scap, hsv, _, _⟩ := own_head HS2.out (by omega)
      obtain ⟨rfl, rfl⟩ : sa = some ⟨sg, 0, none⟩ ∧ sc = scap := by cases hsv; exact ⟨rfl, rfl⟩
      have cN : w2.cell? ⟨sg, j * 4, none⟩ = some (.string (S[j]'(by omega)).name) := own_cell HS2.out _ _ (flat_at pstrCells 4 pstr_len S j 0 _ _ hjg rfl)
      generalize S[j]'(by omega) = g at *
      clear hjg
      go_wp2
      go_round
      case rel => exact ⟨j + 1, by omega, by go_num, rfl⟩
      case measure => simp [intOf]; omega
    · obtain rfl : j = k := by omega
      have e6 := Hb2.out.frozen 6
      go_wp2_with (at_builtin; go_must (refine wpList_append_own _ rfl (.tmp 83) (.tmp 86) 91 rfl b0 148 i148 _ 4 48 Fafg.underlying91 Hi.out iz0 iz1 iz2 rfl (by decide) (.slice sa j sc) j (sRow S) rfl (HS2.out.alloc _) ⟨w2.heap.size, 0, none⟩ 1 1 (pstrCells ⟨t.name, .slice none 0 0, 0, 0⟩) rfl rfl (cells_new _ _ _ _ rfl) (fun u hu => by simp [pstrCells] at hu; rcases hu with rfl | rfl | rfl | rfl <;> rfl) (by unfold maxLen; omega) (by omega) (by simp; omega) ?_; intro S6 w6 hown6 hg6 _; obtain ⟨a6, cc6, rfl⟩ := own_slice hown6; have hb6 := (Hb2.out.alloc (.cells (pstrCells ⟨t.name, .slice none 0 0, 0, 0⟩).toArray 148)).rowGrown (HS2.out.alloc _) hg6 (by decide); have d6 : w6.cell? ⟨p, 6, none⟩ = some (.slice sa j sc) := hb6.cell 6; have f6 := hb6.frozen 6))
      have hb7 := hb6.set 6 (.slice a6 (j + 1) cc6)
      have ho7 : Only p w6 (w6.setCell ⟨p, 6, none⟩ (.slice a6 (j + 1) cc6)) := (Only.refl p w6).setCell 6 _
      have hS7 := ho7.row hb6 (by decide) hown6
      have hU7 := ho7.row hb6 (by decide) (own_rowGrown (HU2.out.alloc (.cells (pstrCells ⟨t.name, .slice none 0 0, 0, 0⟩).toArray 148)) (HS2.out.alloc _) hg6 (by decide))
      have hK7 : Kf b0 w.heap.size w (w6.setCell ⟨p, 6, none⟩ (.slice a6 (j + 1) cc6)) := ((HK2.out.alloc (by omega) (.cells (pstrCells ⟨t.name, .slice none 0 0, 0, 0⟩).toArray 148)).grownOther (HS2.out.alloc _) hg6 (by decide) (Nat.le_refl _) (by simp; omega)).trans (ho7.kq hb6 hp).kf
      have hz7 : w.heap.size ≤ (w6.setCell ⟨p, 6, none⟩ (.slice a6 (j + 1) cc6)).heap.size := by
        have := hg6.size
        simp at this ⊢
        omega
      have hb7' : Blk (w6.setCell ⟨p, 6, none⟩ (.slice a6 (j + 1) cc6)) p 223 (pCells T (sB a t) (sB a t + 1) 123 (xCells (.slice a6 (j + 1) cc6) nums Uv)) := hb7
      clear hb6 hown6 hg6 d6 f6 hb7 ho7 e6 Hb2 HS2 HU2 HK2 c6
      generalize w6.setCell ⟨p, 6, none⟩ (.slice a6 (j + 1) cc6) = w7 at *
      obtain ⟨sg, scap, hsv, _, _⟩ := own_head hS7 (by omega)
      obtain ⟨rfl, rfl⟩ : a6 = some ⟨sg, 0, none⟩ ∧ cc6 = scap := by cases hsv; exact ⟨rfl, rfl⟩
      have htF := Htk.out.tF 0 (by omega)
      have HX := expect_any p T _ _ 123 _ _ _ _ w7 hT hb7' htF
      refine HX.mono ?_
      rintro e w8 ⟨rfl, hb8, ho8⟩
      clear HX htF
      have hinv : FldInv w w8 p b0 a j 0 T sg cc6 us ss S t (.slice none 0 0) Uv nums := by
        refine ⟨hb8, hnl, fun j h => by omega, ?_, World.ownsRow_nil _ _ _ _, ?_, hK7.trans (ho8.kq hb7' hp).kf, by rw [ho8.size]; exact hz7⟩
        · rw [show sRow (S ++ [⟨t.name, .slice none 0 0, 0, 0⟩]) = sRow S ++ pstrCells ⟨t.name, .slice none 0 0, 0, 0⟩ by simp [sRow]]
          exact ho8.row hb7' (by decide) hS7
        · simp only [usesTo, List.append_nil]
          exact ho8.row hb7' (by decide) hU7
      clear hb8 ho8 hb7' hS7 hU7 hK7 hz7 hsv
      go_wp2_with fail
      have h0w : b0 ≤ w.heap.size := by omega
      go_loopw [9] (fun x wr => ∃ (i : Nat) (Fv Uv : Value) (nums : List Int), i ≤ t.fs.length ∧ x = .int .i64 i ∧ FldInv w wr p b0 a j i T sg cc6 us ss S t Fv Uv nums) (fun x _ => t.fs.length + 1 - (intOf x).toNat)
      case atStart => exact ⟨0, _, _, _, by omega, rfl, hinv⟩
      case round =>
        obtain ⟨i, Fv, Uv, nums, hi, rfl, hinv⟩ := hrel
        by_cases hlt : i < t.fs.length
        · obtain ⟨f, hf⟩ : ∃ f, t.fs[i]? = some f := ⟨t.fs[i], List.getElem?_eq_getElem hlt⟩
          have c3 : wr.cell? ⟨p, 3, none⟩ = some (.int .u8 97) := by
            have := hinv.blk.cell 3
            rw [this]
            have ekf : kF t i = 97 := by unfold kF; rw [hf]
            rw [ekf]; rfl
          have HC := hinv.call hT hp h0w hSl hk4 Htk.out HW.out HN.out hul f hf
          clear hinv hf
          go_wp2_with fail
          refine HC.mono ?_
          rintro e w9 ⟨rfl, Fv', Uv', nums', hinv'⟩
          clear HC c3
          go_wp2
          go_roundw
          case rel => exact ⟨i + 1, Fv', Uv', nums', by omega, by go_num, hinv'⟩
          case measure => simp [intOf]; omega
        · obtain rfl : i = t.fs.length := by omega
          have c3 : wr.cell? ⟨p, 3, none⟩ = some (.int .u8 125) := by
            have := hinv.blk.cell 3
            rw [this]
            have ekf : kF t t.fs.length = 125 := by unfold kF; rw [List.getElem?_eq_none (Nat.le_refl _)]
            rw [ekf]; rfl
          have c1 : wr.cell? ⟨p, 1, none⟩ = some (.int .i64 (fAt a ss t t.fs.length)) := hinv.blk.cell 1
          have HC := hinv.ord hp h0w hSl hk4 HW.out Htw.out hul Huk.out
          clear hinv
          go_wp2_with fail
          refine HC.mono ?_
          rintro e w9 ⟨rfl, Fv', hb9, hn9, hS9, hF9, hU9, hK9⟩
          clear HC c3 c1
          have HX := expect_any p T _ _ 125 _ _ _ _ w9 hT hb9 Hnx.out
          go_wp2_with fail
          refine HX.mono ?_
          rintro e w10 ⟨rfl, hb10, ho10⟩
          clear HX
          go_wp2
          go_ret
          have hq := ho10.kq (B := b0) hb9 hp
          refine ⟨_, Uv, nums, Fv', rfl, hb10, hn9, ho10.row hb9 (by decide) hS9, ?_, ho10.row hb9 (by decide) hU9, hK9.trans hq.kf⟩
          rcases hF9 with h | ⟨g, h0, h1, h2, h3⟩
          · exact .inl h
          · exact .inr ⟨g, h0, h1, h2, hq.blk h3 (by decide) (by decide)⟩
end Go.Proofs.Ygcfaf
