import Derived.Test.YgcfafQ6
namespace Go.Proofs.Ygcfaf
open Go.RowKit
set_option linter.unusedVariables false

set_option maxHeartbeats 8000000 in
set_option maxRecDepth 100000 in
theorem same_any (w0 W : World) (B sb cap p : Nat) (T : ByteArray) (ss : List Str) (a : Option Addr) (Sv : Value) (S : List PStr) (γ : Nat → Nat) (hI : In W B sb ss a cap) (hP : Parsed w0 W p T ss Sv S γ) (h4 : ss.length ≤ 4) (h16 : ∀ t ∈ ss, t.fs.length ≤ 16) :
    Calls Fafg.prog 33 #[.pointer (some ⟨sb, 0, none⟩), .pointer (some ⟨p, 6, none⟩)] W fun e w' => e = .returned (.bool true) ∧ ∃ d, w' = W.drewN d := by
  obtain ⟨sa, sc, rfl⟩ := own_slice hP.row
  have c0 : W.cell? ⟨sb, 0, none⟩ = some (.slice a ss.length cap) := hI.sch.cell
  have c6 : W.cell? ⟨p, 6, none⟩ = some (.slice sa ss.length sc) := hP.cell
  have HI : Hid (In W B sb ss a cap) := hI
  have HP : Hid (Parsed w0 W p T ss (.slice sa ss.length sc) S γ) := hP
  have H16 : Hid (∀ t ∈ ss, t.fs.length ≤ 16) := h16
  clear hI hP h16
  go_enter Fafg.func33, Fafg.ntmps33
  go_wp2_with fail
  go_quiet (fail)
  go_wp2_with fail
  go_loopw [33] (fun x wq => ∃ y : Nat, y ≤ ss.length ∧ x = .int .i64 y ∧ ∃ d, wq = W.drewN d) (fun x _ => ss.length + 1 - (intOf x).toNat)
  case atStart => exact ⟨0, by omega, rfl, _, rfl⟩
  case round =>
    obtain ⟨y, hy, rfl, d, rfl⟩ := hrel
    by_cases hlt : y < ss.length
    · obtain ⟨t, ht⟩ : ∃ t, ss[y]? = some t := ⟨ss[y], List.getElem?_eq_getElem hlt⟩
      obtain ⟨b, off, hab, hbB, hstr⟩ : ∃ b off, a = some ⟨b, off, none⟩ ∧ b < B ∧ ∀ k s, ss[k]? = some s → ∃ fa c, StrAt W B b (off + k * 4) s fa c := by
        rcases HI.out.sch.strs with h0 | h0
        · rw [h0] at hlt; simp at hlt
        · exact h0
      subst hab
      obtain ⟨fa, fc, hS⟩ := hstr y t ht
      obtain ⟨sg, scap, hsv, _, hsgl⟩ := own_head HP.out.row (by omega)
      obtain ⟨rfl, rfl⟩ : sa = some ⟨sg, 0, none⟩ ∧ sc = scap := by cases hsv; exact ⟨rfl, rfl⟩
      have hSk := HP.out.rows.str y t hlt ht
      have a0 := hS.c0
      have a1 := hS.c1
      have a2 := hS.c2
      have a3 := hS.c3
      have b0 : W.cell? ⟨sg, y * 4, none⟩ = some (.string t.name) := own_cell HP.out.row _ _ (flat_at pstrCells 4 pstr_len S y 0 _ _ hSk rfl)
      have b2 : W.cell? ⟨sg, y * 4 + 2, none⟩ = some (.int .u8 t.data) := own_cell HP.out.row _ _ (flat_at pstrCells 4 pstr_len S y 2 _ _ hSk rfl)
      have b3 : W.cell? ⟨sg, y * 4 + 3, none⟩ = some (.int .u8 t.ptrs) := own_cell HP.out.row _ _ (flat_at pstrCells 4 pstr_len S y 3 _ _ hSk rfl)
      obtain ⟨xa, xc, hFv⟩ : ∃ xa xc, Fval t (γ y) = .slice xa t.fs.length xc := by
        unfold Fval
        by_cases h : t.fs = []
        · rw [if_pos h, h]; exact ⟨_, _, rfl⟩
        · rw [if_neg h]; exact ⟨_, _, rfl⟩
      rw [hFv] at hSk
      have b1 : W.cell? ⟨sg, y * 4 + 1, none⟩ = some (.slice xa t.fs.length xc) := own_cell HP.out.row _ _ (flat_at pstrCells 4 pstr_len S y 1 _ _ hSk rfl)
      have htl := H16.out t (List.mem_of_getElem? ht)
      have HFv : Hid (Fval t (γ y) = .slice xa t.fs.length xc) := hFv
      have HS : Hid (StrAt W B b (off + y * 4) t fa fc) := hS
      have Ht : Hid (ss[y]? = some t) := ht
      clear hFv hS ht hSk hsv hstr
      go_wp2_with fail
      go_quiet (fail)
      go_wp2_with fail
      go_quiet (fail)
      go_wp2_with fail
      clear a0 a2 a3 b0 b2 b3 c0 c6
      go_loopw [97] (fun x wq => ∃ m : Nat, m ≤ t.fs.length ∧ x = .int .i64 m ∧ ∃ d, wq = W.drewN d) (fun x _ => t.fs.length + 1 - (intOf x).toNat)
      case atStart => exact ⟨0, by omega, rfl, _, rfl⟩
      case round =>
        obtain ⟨m, hm, rfl, d2, rfl⟩ := hrel
        by_cases hmt : m < t.fs.length
        · obtain ⟨f, hf⟩ : ∃ f, t.fs[m]? = some f := ⟨t.fs[m], List.getElem?_eq_getElem hmt⟩
          have hne : t.fs ≠ [] := by intro h; rw [h] at hmt; simp at hmt
          obtain ⟨fb, fo, hfa, hfb, hfx⟩ : ∃ fb fo, fa = some ⟨fb, fo, none⟩ ∧ fb < B ∧ ∀ i f, t.fs[i]? = some f → FldAt W fb (fo + i * 9) f := by
            rcases HS.out.flds with h0 | h0
            · exact absurd h0 hne
            · exact h0
          subst hfa
          obtain ⟨rfl, rfl⟩ : xa = some ⟨γ y, 0, none⟩ ∧ xc = t.fs.length := by
            have h := HFv.out
            unfold Fval at h
            rw [if_neg hne] at h
            cases h
            exact ⟨rfl, rfl⟩
          have hfm := hfx m f hf
          have hgb := (HP.out.rows.blk y t hlt Ht.out hne).2
          simp only [Ht.out] at hgb
          have g0 := hfm 0 _ rfl
          have g1 := hfm 1 _ rfl
          have g2 := hfm 2 _ rfl
          have g3 := hfm 3 _ rfl
          have g4 := hfm 4 _ rfl
          have g5 := hfm 5 _ rfl
          have g6 := hfm 6 _ rfl
          have g7 := hfm 7 _ rfl
          have g8 := hfm 8 _ rfl
          simp only [Nat.add_zero] at g0
          have hcc : ∀ o u, (fldCells f)[o]? = some u → W.cell? ⟨γ y, m * 9 + o, none⟩ = some u := fun o u ho => (hgb.cell _).trans (flat_at fldCells 9 fld_len _ m o _ _ hf ho)
          have k0 : W.cell? ⟨γ y, m * 9, none⟩ = some (.string f.name) := hcc 0 _ rfl
          have k1 := hcc 1 _ rfl
          have k2 := hcc 2 _ rfl
          have k3 := hcc 3 _ rfl
          have k4 := hcc 4 _ rfl
          have k5 := hcc 5 _ rfl
          have k6 := hcc 6 _ rfl
          have k7 := hcc 7 _ rfl
          have k8 := hcc 8 _ rfl
          clear hcc hfm hfx hf hgb
          generalize γ y = gy at *
          go_wp2_with fail
          go_quiet (fail)
          go_wp2
          go_roundw
          case rel => exact ⟨m + 1, by omega, by go_num, _, rfl⟩
          case measure => simp [intOf]; omega
        · go_wp2
          go_roundw
          case rel => exact ⟨y + 1, by omega, by go_num, _, rfl⟩
          case measure => simp [intOf]; omega
    · go_wp2
      go_ret
      exact ⟨rfl, _, rfl⟩
end Go.Proofs.Ygcfaf
