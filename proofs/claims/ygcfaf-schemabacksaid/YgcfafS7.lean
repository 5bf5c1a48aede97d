import Derived.Test.YgcfafS6
namespace Go.Proofs.Ygcfaf
open Go.RowKit
set_option linter.unusedVariables false

def repL (n : Nat) (x : List UInt8) : List UInt8 := (List.replicate n x).flatten
theorem repL_snoc (n : Nat) (x : List UInt8) : repL (n + 1) x = repL n x ++ x := by
  unfold repL
  rw [List.replicate_succ', List.flatten_append]
  simp
theorem repL_len (n : Nat) (x : List UInt8) : (repL n x).length = n * x.length := by simp [repL]

def lopL : List UInt8 := [76, 105, 115, 116, 40]

/-- The kind at a type's heart. -/
def Typ.core (t : Typ) : Nat := if t.kind = 12 then t.elem else t.kind
def nameAt (ss : List Str) (k : Nat) : List UInt8 := match ss[k]? with | some s => s.name.data.toList | none => []
def coreText (ss : List Str) (t : Typ) : List UInt8 := if t.core = 13 then nameAt ss t.ref else tnL t.core
def typeText (ss : List Str) (t : Typ) : List UInt8 := repL t.nest lopL ++ coreText ss t ++ repL t.nest [41]

theorem In.belowAt {w w' : World} {B B' sb : Nat} {ss : List Str} {a : Option Addr} {cap : Nat} (h : In w B sb ss a cap) (hb : Below B' w w') (hB : B ≤ B') : In w' B sb ss a cap :=
  ⟨Nat.le_trans h.le hb.size, h.sch.below hb hB, h.wf, h.len⟩

theorem core_of {t : Typ} {n : Nat} (h : typeB t n = true) : t.core ≠ 12 ∧ t.core ≤ 13 ∧ t.nest ≤ 2 ∧ (t.core = 13 → t.ref < n) := by
  unfold typeB at h
  rw [decide_eq_true_eq] at h
  unfold Typ.core
  split <;> omega

theorem tnL_len (k : Nat) : (tnL k).length ≤ 7 := by
  unfold tnL
  by_cases h : k < 12
  · have hc : k = 0 ∨ k = 1 ∨ k = 2 ∨ k = 3 ∨ k = 4 ∨ k = 5 ∨ k = 6 ∨ k = 7 ∨ k = 8 ∨ k = 9 ∨ k = 10 ∨ k = 11 := by omega
    rcases hc with rfl | rfl | rfl | rfl | rfl | rfl | rfl | rfl | rfl | rfl | rfl | rfl <;> decide
  · rw [List.getD_eq_getElem?_getD, List.getElem?_eq_none (by simp [typeNames]; omega)]; decide

theorem tnB_size (k : Nat) : (tnB k).size ≤ 7 := by
  rw [Lib.size_eq]; exact tnL_len k

set_option maxHeartbeats 4000000 in
theorem appendType_any (w : World) (B sb cap base : Nat) (ss : List Str) (a : Option Addr) (hI : In w B sb ss a cap) (hBb : B ≤ base) (hbs : base ≤ w.heap.size) (v : Value) (l : List UInt8) (hbuf : Buf w base v l) (t : Typ)
    (ht : typeB t ss.length = true) (hl : l.length ≤ 100000) (hn8 : ∀ s ∈ ss, s.name.size ≤ 8) (h0 : t.kind ≤ 255) (h1 : t.elem ≤ 255) (h2 : t.ref ≤ 255) (h3 : t.nest ≤ 255) :
    Calls Fafg.prog 59 #[.pointer (some ⟨sb, 0, none⟩), v, .agg #[.int .u8 t.kind, .int .u8 t.elem, .int .u8 t.ref, .int .u8 t.nest]] w fun e w' => ∃ v', e = .returned v' ∧ Buf w' base v' (l ++ typeText ss t) ∧ Kp base w w' := by
  obtain ⟨hc12, hc13, hn2, hcr⟩ := core_of ht
  have HT : Hid (typeB t ss.length = true) := ht
  have Hcr : Hid (t.core = 13 → t.ref < ss.length) := hcr
  clear ht hcr
  have hOb : Blk (w.alloc (.cells #[.int .u8 t.kind, .int .u8 t.elem, .int .u8 t.ref, .int .u8 t.nest] 85)) w.heap.size 85 [.int .u8 t.kind, .int .u8 t.elem, .int .u8 t.ref, .int .u8 t.nest] := Blk.new _ _ _
  have hKo : Kp base w (w.alloc (.cells #[.int .u8 t.kind, .int .u8 t.elem, .int .u8 t.ref, .int .u8 t.nest] 85)) := (Kp.refl _ _).alloc hbs _
  have hBo := hbuf.alloc (.cells #[.int .u8 t.kind, .int .u8 t.elem, .int .u8 t.ref, .int .u8 t.nest] 85)
  have Hkind : Hid (t.core = if t.kind = 12 then t.elem else t.kind) := rfl
  have hcore : (((t.kind : Int) == 12) = true ∧ t.elem = t.core) ∨ (((t.kind : Int) == 12) = false ∧ t.kind = t.core) := by
    by_cases hk : t.kind = 12
    · exact .inl ⟨by simp [hk], by rw [Hkind.out, if_pos hk]⟩
    · exact .inr ⟨by simp; omega, by rw [Hkind.out, if_neg hk]⟩
  have hcb : t.core ≤ 255 := by omega
  clear Hkind
  rcases hcore with ⟨hkb, he⟩ | ⟨hkb, he⟩
  · have He : Hid (t.elem = t.core) := he
    clear he
    go_enter Fafg.func59, Fafg.ntmps59
    go_wp2_with fail
    go_loopw [1, 16] (fun b i wr => ∃ y : Nat, y ≤ t.nest ∧ i = .int .u8 y ∧ Buf wr base b (l ++ repL y lopL) ∧ Kp base w wr ∧ Blk wr w.heap.size 85 [.int .u8 t.kind, .int .u8 t.elem, .int .u8 t.ref, .int .u8 t.nest]) (fun _ i _ => t.nest - (intOf i).toNat)
    case atStart => exact ⟨0, by omega, rfl, by simpa [repL] using hBo, hKo, hOb⟩
    case round =>
      obtain ⟨y, hy, rfl, hbr, hkr, hor⟩ := hrel
      have Hkr : Hid (Kp base w wr) := hkr
      have hbsr : base ≤ wr.heap.size := Nat.le_trans hbs hkr.below.size
      have Hor : Hid (Blk wr w.heap.size 85 [.int .u8 t.kind, .int .u8 t.elem, .int .u8 t.ref, .int .u8 t.nest]) := hor
      have o2 : wr.cell? ⟨w.heap.size, 2, none⟩ = some (.int .u8 t.ref) := hor.cell 2
      have o3 : wr.cell? ⟨w.heap.size, 3, none⟩ = some (.int .u8 t.nest) := hor.cell 3
      clear hkr hor
      by_cases hlt : y < t.nest
      · go_wp2_with (at_builtin; go_must (refine wpList_buf_str rfl _ _ rfl base _ _ rfl hbr ⟨#[76, 105, 115, 116, 40]⟩ rfl ?hb hbsr ?_; (case hb => rw [List.length_append, repL_len]; show l.length + y * 5 + 5 ≤ 1000000; omega); intro v' w' hb' hg'))
        go_roundw
        case rel =>
          refine ⟨y + 1, by omega, by go_num, ?_, Hkr.out.buf hbr hg' hbsr, ?_⟩
          · rw [repL_snoc, ← List.append_assoc]; exact hb'
          · exact (Kp.buf (Kp.refl _ _) hbr hg' hbsr).blk Hor.out (by decide)
        case measure => simp [intOf]; omega
      · obtain rfl : y = t.nest := by omega
        have hlr : (l ++ repL t.nest lopL).length ≤ 100010 := by rw [List.length_append, repL_len]; show l.length + t.nest * 5 ≤ _; omega
        by_cases h13 : t.core = 13
        · have hb13 : ((t.elem : Int) == 13) = true := by rw [He.out]; simp [h13]
          have hIr := hI.belowAt Hkr.out.below hBb
          have hrl := Hcr.out h13
          obtain ⟨u, hu⟩ : ∃ u, ss[t.ref]? = some u := ⟨ss[t.ref], List.getElem?_eq_getElem hrl⟩
          have hu8 := hn8 u (List.mem_of_getElem? hu)
          obtain ⟨b, off, ha, hbl, hst⟩ : ∃ b off, a = some ⟨b, off, none⟩ ∧ b < B ∧ ∀ k s, ss[k]? = some s → ∃ fa c, StrAt wr B b (off + k * 4) s fa c := by
            rcases hIr.sch.strs with h0 | h0
            · rw [h0] at hrl; simp at hrl
            · exact h0
          subst ha
          obtain ⟨fa, c, hU⟩ := hst t.ref u hu
          have hS := hIr.sch.cell
          have hc0 := hU.c0
          have Htx : Hid (coreText ss t = u.name.data.toList) := by show _ = _; unfold coreText nameAt; rw [if_pos h13, hu]
          clear h13 hst hU hIr hu
          go_wp2_with fail
          go_region_law (refine step_buf_str rfl _ _ rfl base u1 _ rfl hbr u.name rfl (by omega) hbsr ?_; intro v' w' hb' hg')
          all_goals
            have hk2 : Kp base w w' := (Hkr.out.drew).buf (l := l ++ repL t.nest lopL) hbr hg' hbsr
            have hor2 : Blk w' w.heap.size 85 [.int .u8 t.kind, .int .u8 t.elem, .int .u8 t.ref, .int .u8 t.nest] := (Kp.buf (l := l ++ repL t.nest lopL) (Kp.refl base wr).drew hbr hg' hbsr).blk Hor.out (by decide)
            have o3' : w'.cell? ⟨w.heap.size, 3, none⟩ = some (.int .u8 t.nest) := hor2.cell 3
            have hl2 : (l ++ repL t.nest lopL ++ u.name.data.toList).length ≤ 100018 := by rw [List.length_append]; rw [← Lib.size_eq]; omega
            rw [← Htx.out] at hb' hl2
            clear hbr hg' hor2 o2 o3
            go_wp2_with fail
            go_loopw [1, 40] (fun b i wx => ∃ z : Nat, z ≤ t.nest ∧ i = .int .u8 z ∧ Buf wx base b (l ++ repL t.nest lopL ++ coreText ss t ++ repL z [41]) ∧ Kp base w wx) (fun _ i _ => t.nest - (intOf i).toNat)
            case atStart => exact ⟨0, by omega, rfl, by simpa [repL] using hb', hk2⟩
            case round =>
              obtain ⟨z, hz, rfl, hbz, hkz⟩ := hrel
              have Hkz : Hid (Kp base w wr) := hkz
              have hbz2 : base ≤ wr.heap.size := Nat.le_trans hbs hkz.below.size
              clear hkz hk2
              by_cases hlz : z < t.nest
              · go_wp2_with (at_builtin; go_must (refine wpList_buf_bytes rfl _ _ rfl base _ _ rfl (hbz.alloc _) ⟨wr.heap.size, 0, none⟩ 1 [41] rfl (cells_new _ _ _ _ rfl) ?hb (by simp; omega) ?_; (case hb => rw [List.length_append, repL_len]; show (l ++ repL t.nest lopL ++ coreText ss t).length + z * 1 + 1 ≤ 1000000; omega); intro v3 w3 hb3 hg3))
                go_roundw
                case rel =>
                  refine ⟨z + 1, by omega, by go_num, ?_, (Hkz.out.alloc hbz2 _).buf (hbz.alloc _) hg3 (by simp; omega)⟩
                  rw [repL_snoc, ← List.append_assoc]; exact hb3
                case measure => simp [intOf]; omega
              · obtain rfl : z = t.nest := by omega
                go_wp2
                go_ret
                exact ⟨_, rfl, by unfold typeText; rw [← List.append_assoc, ← List.append_assoc]; exact hbz, Hkz.out⟩
        · have hb13 : ((t.elem : Int) == 13) = false := by rw [He.out]; simp; omega
          have Htx : Hid (coreText ss t = tnL t.elem) := by show _ = _; unfold coreText; rw [if_neg h13, He.out]
          clear h13
          have hkx : t.elem ≤ 255 := by rw [He.out]; omega
          have htn := tnB_size t.elem
          go_wp2_with (first | (go_at_call 105; go_must (refine (typeName_any t.elem _ hkx).mono ?_; rintro e w' ⟨rfl, rfl⟩)) | (at_builtin; go_must (refine wpList_buf_str rfl _ _ rfl base u1 _ rfl hbr (tnB t.elem) rfl (by omega) hbsr ?_; intro v' w' hb' hg'; have hor2 : Blk w' w.heap.size 85 [.int .u8 t.kind, .int .u8 t.elem, .int .u8 t.ref, .int .u8 t.nest] := (Kp.buf (l := l ++ repL t.nest lopL) (Kp.refl base _) hbr hg' hbsr).blk Hor.out (by decide); have o3' : w'.cell? ⟨w.heap.size, 3, none⟩ = some (.int .u8 t.nest) := hor2.cell 3)))
          have hk2 : Kp base w w' := (Hkr.out).buf (l := l ++ repL t.nest lopL) hbr hg' hbsr
          have hl2 : (l ++ repL t.nest lopL ++ tnL t.elem).length ≤ 100018 := by rw [List.length_append]; have := tnL_len t.elem; omega
          change Buf _ base _ (l ++ repL t.nest lopL ++ tnL t.elem) at hb'
          rw [← Htx.out] at hb' hl2
          clear hbr hg' hor2 o2 o3
          go_wp2_with fail
          go_loopw [1, 40] (fun b i wx => ∃ z : Nat, z ≤ t.nest ∧ i = .int .u8 z ∧ Buf wx base b (l ++ repL t.nest lopL ++ coreText ss t ++ repL z [41]) ∧ Kp base w wx) (fun _ i _ => t.nest - (intOf i).toNat)
          case atStart => exact ⟨0, by omega, rfl, by simpa [repL] using hb', hk2⟩
          case round =>
            obtain ⟨z, hz, rfl, hbz, hkz⟩ := hrel
            have Hkz : Hid (Kp base w wr) := hkz
            have hbz2 : base ≤ wr.heap.size := Nat.le_trans hbs hkz.below.size
            clear hkz hk2
            by_cases hlz : z < t.nest
            · go_wp2_with (at_builtin; go_must (refine wpList_buf_bytes rfl _ _ rfl base _ _ rfl (hbz.alloc _) ⟨wr.heap.size, 0, none⟩ 1 [41] rfl (cells_new _ _ _ _ rfl) ?hb (by simp; omega) ?_; (case hb => rw [List.length_append, repL_len]; show (l ++ repL t.nest lopL ++ coreText ss t).length + z * 1 + 1 ≤ 1000000; omega); intro v3 w3 hb3 hg3))
              go_roundw
              case rel =>
                refine ⟨z + 1, by omega, by go_num, ?_, (Hkz.out.alloc hbz2 _).buf (hbz.alloc _) hg3 (by simp; omega)⟩
                rw [repL_snoc, ← List.append_assoc]; exact hb3
              case measure => simp [intOf]; omega
            · obtain rfl : z = t.nest := by omega
              go_wp2
              go_ret
              exact ⟨_, rfl, by unfold typeText; rw [← List.append_assoc, ← List.append_assoc]; exact hbz, Hkz.out⟩
  · have He : Hid (t.kind = t.core) := he
    clear he
    go_enter Fafg.func59, Fafg.ntmps59
    go_wp2_with fail
    go_loopw [1, 16] (fun b i wr => ∃ y : Nat, y ≤ t.nest ∧ i = .int .u8 y ∧ Buf wr base b (l ++ repL y lopL) ∧ Kp base w wr ∧ Blk wr w.heap.size 85 [.int .u8 t.kind, .int .u8 t.elem, .int .u8 t.ref, .int .u8 t.nest]) (fun _ i _ => t.nest - (intOf i).toNat)
    case atStart => exact ⟨0, by omega, rfl, by simpa [repL] using hBo, hKo, hOb⟩
    case round =>
      obtain ⟨y, hy, rfl, hbr, hkr, hor⟩ := hrel
      have Hkr : Hid (Kp base w wr) := hkr
      have hbsr : base ≤ wr.heap.size := Nat.le_trans hbs hkr.below.size
      have Hor : Hid (Blk wr w.heap.size 85 [.int .u8 t.kind, .int .u8 t.elem, .int .u8 t.ref, .int .u8 t.nest]) := hor
      have o2 : wr.cell? ⟨w.heap.size, 2, none⟩ = some (.int .u8 t.ref) := hor.cell 2
      have o3 : wr.cell? ⟨w.heap.size, 3, none⟩ = some (.int .u8 t.nest) := hor.cell 3
      clear hkr hor
      by_cases hlt : y < t.nest
      · go_wp2_with (at_builtin; go_must (refine wpList_buf_str rfl _ _ rfl base _ _ rfl hbr ⟨#[76, 105, 115, 116, 40]⟩ rfl ?hb hbsr ?_; (case hb => rw [List.length_append, repL_len]; show l.length + y * 5 + 5 ≤ 1000000; omega); intro v' w' hb' hg'))
        go_roundw
        case rel =>
          refine ⟨y + 1, by omega, by go_num, ?_, Hkr.out.buf hbr hg' hbsr, ?_⟩
          · rw [repL_snoc, ← List.append_assoc]; exact hb'
          · exact (Kp.buf (Kp.refl _ _) hbr hg' hbsr).blk Hor.out (by decide)
        case measure => simp [intOf]; omega
      · obtain rfl : y = t.nest := by omega
        have hlr : (l ++ repL t.nest lopL).length ≤ 100010 := by rw [List.length_append, repL_len]; show l.length + t.nest * 5 ≤ _; omega
        by_cases h13 : t.core = 13
        · have hb13 : ((t.kind : Int) == 13) = true := by rw [He.out]; simp [h13]
          have hIr := hI.belowAt Hkr.out.below hBb
          have hrl := Hcr.out h13
          obtain ⟨u, hu⟩ : ∃ u, ss[t.ref]? = some u := ⟨ss[t.ref], List.getElem?_eq_getElem hrl⟩
          have hu8 := hn8 u (List.mem_of_getElem? hu)
          obtain ⟨b, off, ha, hbl, hst⟩ : ∃ b off, a = some ⟨b, off, none⟩ ∧ b < B ∧ ∀ k s, ss[k]? = some s → ∃ fa c, StrAt wr B b (off + k * 4) s fa c := by
            rcases hIr.sch.strs with h0 | h0
            · rw [h0] at hrl; simp at hrl
            · exact h0
          subst ha
          obtain ⟨fa, c, hU⟩ := hst t.ref u hu
          have hS := hIr.sch.cell
          have hc0 := hU.c0
          have Htx : Hid (coreText ss t = u.name.data.toList) := by show _ = _; unfold coreText nameAt; rw [if_pos h13, hu]
          clear h13 hst hU hIr hu
          go_wp2_with fail
          go_region_law (refine step_buf_str rfl _ _ rfl base u1 _ rfl hbr u.name rfl (by omega) hbsr ?_; intro v' w' hb' hg')
          all_goals
            have hk2 : Kp base w w' := (Hkr.out.drew).buf (l := l ++ repL t.nest lopL) hbr hg' hbsr
            have hor2 : Blk w' w.heap.size 85 [.int .u8 t.kind, .int .u8 t.elem, .int .u8 t.ref, .int .u8 t.nest] := (Kp.buf (l := l ++ repL t.nest lopL) (Kp.refl base wr).drew hbr hg' hbsr).blk Hor.out (by decide)
            have o3' : w'.cell? ⟨w.heap.size, 3, none⟩ = some (.int .u8 t.nest) := hor2.cell 3
            have hl2 : (l ++ repL t.nest lopL ++ u.name.data.toList).length ≤ 100018 := by rw [List.length_append]; rw [← Lib.size_eq]; omega
            rw [← Htx.out] at hb' hl2
            clear hbr hg' hor2 o2 o3
            go_wp2_with fail
            go_loopw [1, 40] (fun b i wx => ∃ z : Nat, z ≤ t.nest ∧ i = .int .u8 z ∧ Buf wx base b (l ++ repL t.nest lopL ++ coreText ss t ++ repL z [41]) ∧ Kp base w wx) (fun _ i _ => t.nest - (intOf i).toNat)
            case atStart => exact ⟨0, by omega, rfl, by simpa [repL] using hb', hk2⟩
            case round =>
              obtain ⟨z, hz, rfl, hbz, hkz⟩ := hrel
              have Hkz : Hid (Kp base w wr) := hkz
              have hbz2 : base ≤ wr.heap.size := Nat.le_trans hbs hkz.below.size
              clear hkz hk2
              by_cases hlz : z < t.nest
              · go_wp2_with (at_builtin; go_must (refine wpList_buf_bytes rfl _ _ rfl base _ _ rfl (hbz.alloc _) ⟨wr.heap.size, 0, none⟩ 1 [41] rfl (cells_new _ _ _ _ rfl) ?hb (by simp; omega) ?_; (case hb => rw [List.length_append, repL_len]; show (l ++ repL t.nest lopL ++ coreText ss t).length + z * 1 + 1 ≤ 1000000; omega); intro v3 w3 hb3 hg3))
                go_roundw
                case rel =>
                  refine ⟨z + 1, by omega, by go_num, ?_, (Hkz.out.alloc hbz2 _).buf (hbz.alloc _) hg3 (by simp; omega)⟩
                  rw [repL_snoc, ← List.append_assoc]; exact hb3
                case measure => simp [intOf]; omega
              · obtain rfl : z = t.nest := by omega
                go_wp2
                go_ret
                exact ⟨_, rfl, by unfold typeText; rw [← List.append_assoc, ← List.append_assoc]; exact hbz, Hkz.out⟩
        · have hb13 : ((t.kind : Int) == 13) = false := by rw [He.out]; simp; omega
          have Htx : Hid (coreText ss t = tnL t.kind) := by show _ = _; unfold coreText; rw [if_neg h13, He.out]
          clear h13
          have hkx : t.kind ≤ 255 := by rw [He.out]; omega
          have htn := tnB_size t.kind
          go_wp2_with (first | (go_at_call 105; go_must (refine (typeName_any t.kind _ hkx).mono ?_; rintro e w' ⟨rfl, rfl⟩)) | (at_builtin; go_must (refine wpList_buf_str rfl _ _ rfl base u1 _ rfl hbr (tnB t.kind) rfl (by omega) hbsr ?_; intro v' w' hb' hg'; have hor2 : Blk w' w.heap.size 85 [.int .u8 t.kind, .int .u8 t.elem, .int .u8 t.ref, .int .u8 t.nest] := (Kp.buf (l := l ++ repL t.nest lopL) (Kp.refl base _) hbr hg' hbsr).blk Hor.out (by decide); have o3' : w'.cell? ⟨w.heap.size, 3, none⟩ = some (.int .u8 t.nest) := hor2.cell 3)))
          have hk2 : Kp base w w' := (Hkr.out).buf (l := l ++ repL t.nest lopL) hbr hg' hbsr
          have hl2 : (l ++ repL t.nest lopL ++ tnL t.kind).length ≤ 100018 := by rw [List.length_append]; have := tnL_len t.kind; omega
          change Buf _ base _ (l ++ repL t.nest lopL ++ tnL t.kind) at hb'
          rw [← Htx.out] at hb' hl2
          clear hbr hg' hor2 o2 o3
          go_wp2_with fail
          go_loopw [1, 40] (fun b i wx => ∃ z : Nat, z ≤ t.nest ∧ i = .int .u8 z ∧ Buf wx base b (l ++ repL t.nest lopL ++ coreText ss t ++ repL z [41]) ∧ Kp base w wx) (fun _ i _ => t.nest - (intOf i).toNat)
          case atStart => exact ⟨0, by omega, rfl, by simpa [repL] using hb', hk2⟩
          case round =>
            obtain ⟨z, hz, rfl, hbz, hkz⟩ := hrel
            have Hkz : Hid (Kp base w wr) := hkz
            have hbz2 : base ≤ wr.heap.size := Nat.le_trans hbs hkz.below.size
            clear hkz hk2
            by_cases hlz : z < t.nest
            · go_wp2_with (at_builtin; go_must (refine wpList_buf_bytes rfl _ _ rfl base _ _ rfl (hbz.alloc _) ⟨wr.heap.size, 0, none⟩ 1 [41] rfl (cells_new _ _ _ _ rfl) ?hb (by simp; omega) ?_; (case hb => rw [List.length_append, repL_len]; show (l ++ repL t.nest lopL ++ coreText ss t).length + z * 1 + 1 ≤ 1000000; omega); intro v3 w3 hb3 hg3))
              go_roundw
              case rel =>
                refine ⟨z + 1, by omega, by go_num, ?_, (Hkz.out.alloc hbz2 _).buf (hbz.alloc _) hg3 (by simp; omega)⟩
                rw [repL_snoc, ← List.append_assoc]; exact hb3
              case measure => simp [intOf]; omega
            · obtain rfl : z = t.nest := by omega
              go_wp2
              go_ret
              exact ⟨_, rfl, by unfold typeText; rw [← List.append_assoc, ← List.append_assoc]; exact hbz, Hkz.out⟩
end Go.Proofs.Ygcfaf
