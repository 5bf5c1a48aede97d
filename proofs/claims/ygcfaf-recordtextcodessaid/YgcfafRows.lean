/-
  No cell of these rows narrows 'for every input' (looked for: loops, veiled, ifaces, maps, wideKeys, modest, calm, conditions, laid).
  DERIVED. THE GIVEN ROWS OF THIS SEAT. 11 by the template 'for every input the law returns true; each argument reads behind the call as it read before'; 0 by the template 'total and deterministic' (their statements: YgcfafTotals.lean).
  GIVEN WITH THE SEED: the statements are not yours to turn. If you find one false, say at which input.
  Laid BY PROGRAM, IN A SANDBOX (cutbox-rows.mjs): the forced cells as the released guide's own fill.sh prints them over the translation de3d98d97288f34a… (all of the seat's roots in one cut). By AI agents, Wed Nov 11 2026. No macro, syntax, notation, axiom, sorry.
-/
import Derived.Test.YgcfafChecked
import GoSem.Claim
import GoSem.ClaimJoined
import GoSem.ClaimMapViews
import Derived.JoinedTies
import Derived.KernelRfl
namespace Go.Proofs.Ygcfaf
/- THE CELL 'sum', in the pinned program and in every row, IS THE sha256 OF THE DUMP (.gsa) THAT YgcfafProg.lean LOADS. Nothing in Lean hashes anything: it is a label: what it is worth is what the hold of that sum in a sandbox is worth. -/
noncomputable def Fafg.pinned : Pinned := { name := "ygcfaf", sum := "de3d98d97288f34a0987f49846fc359eb483ac54b2f6f2fef626958f9932cdf7", checked := Fafg.checked }
namespace Rows
def none {H : Type} : Left H := { results := [], args := [] }

/-- 'law.RecordTextTotal': WHATEVER THE INPUT: true; the input reads as it did. -/
def recordTextTotalSpec : ChangeSpec := { name := "recordTextTotal", fn := fun _ => fun
  | [d1, d2, d3] => { results := [.lit (.bool true)], args := [d1, d2, d3] }
  | _ => none }
def recordTextTotalRow : OpenClaim := { program := "ygcfaf", sum := "de3d98d97288f34a0987f49846fc359eb483ac54b2f6f2fef626958f9932cdf7", func := "wordview/law.RecordTextTotal", spec := "recordTextTotal", recurses := true, apart := false }
def RecordTextTotalSaid : Prop := recordTextTotalRow.holds Fafg.pinned (OpenSpec.ofChange recordTextTotalSpec)

/-- ITS FALSE NEIGHBOUR: 'it returns false'. Refute it at one input. -/
def recordTextTotalWrong : ChangeSpec := { name := "recordTextTotal", fn := fun _ => fun
  | [d1, d2, d3] => { results := [.lit (.bool false)], args := [d1, d2, d3] }
  | _ => none }
def RecordTextTotalWrongFalsely : Prop := recordTextTotalRow.holds Fafg.pinned (OpenSpec.ofChange recordTextTotalWrong)

/-- 'law.RecordTextLoose': WHATEVER THE INPUT: true; the input reads as it did. -/
def recordTextLooseSpec : ChangeSpec := { name := "recordTextLoose", fn := fun _ => fun
  | [d1, d2, d3, d4] => { results := [.lit (.bool true)], args := [d1, d2, d3, d4] }
  | _ => none }
def recordTextLooseRow : OpenClaim := { program := "ygcfaf", sum := "de3d98d97288f34a0987f49846fc359eb483ac54b2f6f2fef626958f9932cdf7", func := "wordview/law.RecordTextLoose", spec := "recordTextLoose", recurses := true, apart := false }
def RecordTextLooseSaid : Prop := recordTextLooseRow.holds Fafg.pinned (OpenSpec.ofChange recordTextLooseSpec)

/-- ITS FALSE NEIGHBOUR: 'it returns false'. Refute it at one input. -/
def recordTextLooseWrong : ChangeSpec := { name := "recordTextLoose", fn := fun _ => fun
  | [d1, d2, d3, d4] => { results := [.lit (.bool false)], args := [d1, d2, d3, d4] }
  | _ => none }
def RecordTextLooseWrongFalsely : Prop := recordTextLooseRow.holds Fafg.pinned (OpenSpec.ofChange recordTextLooseWrong)

/-- 'law.RecordTextCodes': WHATEVER THE INPUT: true; the input reads as it did. -/
def recordTextCodesSpec : ChangeSpec := { name := "recordTextCodes", fn := fun _ => fun
  | [d] => { results := [.lit (.bool true)], args := [d] }
  | _ => none }
def recordTextCodesRow : OpenClaim := { program := "ygcfaf", sum := "de3d98d97288f34a0987f49846fc359eb483ac54b2f6f2fef626958f9932cdf7", func := "wordview/law.RecordTextCodes", spec := "recordTextCodes", recurses := true, apart := false }
def RecordTextCodesSaid : Prop := recordTextCodesRow.holds Fafg.pinned (OpenSpec.ofChange recordTextCodesSpec)

/-- ITS FALSE NEIGHBOUR: 'it returns false'. Refute it at one input. -/
def recordTextCodesWrong : ChangeSpec := { name := "recordTextCodes", fn := fun _ => fun
  | [d] => { results := [.lit (.bool false)], args := [d] }
  | _ => none }
def RecordTextCodesWrongFalsely : Prop := recordTextCodesRow.holds Fafg.pinned (OpenSpec.ofChange recordTextCodesWrong)

/-- 'law.ValidMeans8': WHATEVER THE INPUT: true; the input reads as it did. -/
def validMeans8Spec : ChangeSpec := { name := "validMeans8", fn := fun _ => fun
  | [d] => { results := [.lit (.bool true)], args := [d] }
  | _ => none }
def validMeans8Row : OpenClaim := { program := "ygcfaf", sum := "de3d98d97288f34a0987f49846fc359eb483ac54b2f6f2fef626958f9932cdf7", func := "wordview/law.ValidMeans8", spec := "validMeans8", recurses := true, apart := false }
def ValidMeans8Said : Prop := validMeans8Row.holds Fafg.pinned (OpenSpec.ofChange validMeans8Spec)

/-- ITS FALSE NEIGHBOUR: 'it returns false'. Refute it at one input. -/
def validMeans8Wrong : ChangeSpec := { name := "validMeans8", fn := fun _ => fun
  | [d] => { results := [.lit (.bool false)], args := [d] }
  | _ => none }
def ValidMeans8WrongFalsely : Prop := validMeans8Row.holds Fafg.pinned (OpenSpec.ofChange validMeans8Wrong)

/-- 'law.ValidMeans16': WHATEVER THE INPUT: true; the input reads as it did. -/
def validMeans16Spec : ChangeSpec := { name := "validMeans16", fn := fun _ => fun
  | [d] => { results := [.lit (.bool true)], args := [d] }
  | _ => none }
def validMeans16Row : OpenClaim := { program := "ygcfaf", sum := "de3d98d97288f34a0987f49846fc359eb483ac54b2f6f2fef626958f9932cdf7", func := "wordview/law.ValidMeans16", spec := "validMeans16", recurses := true, apart := false }
def ValidMeans16Said : Prop := validMeans16Row.holds Fafg.pinned (OpenSpec.ofChange validMeans16Spec)

/-- ITS FALSE NEIGHBOUR: 'it returns false'. Refute it at one input. -/
def validMeans16Wrong : ChangeSpec := { name := "validMeans16", fn := fun _ => fun
  | [d] => { results := [.lit (.bool false)], args := [d] }
  | _ => none }
def ValidMeans16WrongFalsely : Prop := validMeans16Row.holds Fafg.pinned (OpenSpec.ofChange validMeans16Wrong)

/-- 'law.CanonBackFlat': WHATEVER THE INPUT: true; the input reads as it did. -/
def canonBackFlatSpec : ChangeSpec := { name := "canonBackFlat", fn := fun _ => fun
  | [d] => { results := [.lit (.bool true)], args := [d] }
  | _ => none }
def canonBackFlatRow : OpenClaim := { program := "ygcfaf", sum := "de3d98d97288f34a0987f49846fc359eb483ac54b2f6f2fef626958f9932cdf7", func := "wordview/law.CanonBackFlat", spec := "canonBackFlat", apart := false }
def CanonBackFlatSaid : Prop := canonBackFlatRow.holds Fafg.pinned (OpenSpec.ofChange canonBackFlatSpec)

/-- ITS FALSE NEIGHBOUR: 'it returns false'. Refute it at one input. -/
def canonBackFlatWrong : ChangeSpec := { name := "canonBackFlat", fn := fun _ => fun
  | [d] => { results := [.lit (.bool false)], args := [d] }
  | _ => none }
def CanonBackFlatWrongFalsely : Prop := canonBackFlatRow.holds Fafg.pinned (OpenSpec.ofChange canonBackFlatWrong)

/-- 'law.Hostile64': WHATEVER THE INPUT: true; the input reads as it did. -/
def hostile64Spec : ChangeSpec := { name := "hostile64", fn := fun _ => fun
  | [d1, d2, d3, d4] => { results := [.lit (.bool true)], args := [d1, d2, d3, d4] }
  | _ => none }
def hostile64Row : OpenClaim := { program := "ygcfaf", sum := "de3d98d97288f34a0987f49846fc359eb483ac54b2f6f2fef626958f9932cdf7", func := "wordview/law.Hostile64", spec := "hostile64", apart := false }
def Hostile64Said : Prop := hostile64Row.holds Fafg.pinned (OpenSpec.ofChange hostile64Spec)

/-- ITS FALSE NEIGHBOUR: 'it returns false'. Refute it at one input. -/
def hostile64Wrong : ChangeSpec := { name := "hostile64", fn := fun _ => fun
  | [d1, d2, d3, d4] => { results := [.lit (.bool false)], args := [d1, d2, d3, d4] }
  | _ => none }
def Hostile64WrongFalsely : Prop := hostile64Row.holds Fafg.pinned (OpenSpec.ofChange hostile64Wrong)

/-- 'law.LayoutSound': WHATEVER THE INPUT: true; the input reads as it did. -/
def layoutSoundSpec : ChangeSpec := { name := "layoutSound", fn := fun _ => fun
  | [d] => { results := [.lit (.bool true)], args := [d] }
  | _ => none }
def layoutSoundRow : OpenClaim := { program := "ygcfaf", sum := "de3d98d97288f34a0987f49846fc359eb483ac54b2f6f2fef626958f9932cdf7", func := "wordview/law.LayoutSound", spec := "layoutSound", apart := false }
def LayoutSoundSaid : Prop := layoutSoundRow.holds Fafg.pinned (OpenSpec.ofChange layoutSoundSpec)

/-- ITS FALSE NEIGHBOUR: 'it returns false'. Refute it at one input. -/
def layoutSoundWrong : ChangeSpec := { name := "layoutSound", fn := fun _ => fun
  | [d] => { results := [.lit (.bool false)], args := [d] }
  | _ => none }
def LayoutSoundWrongFalsely : Prop := layoutSoundRow.holds Fafg.pinned (OpenSpec.ofChange layoutSoundWrong)

/-- 'law.LayoutFirstFit': WHATEVER THE INPUT: true; the input reads as it did. -/
def layoutFirstFitSpec : ChangeSpec := { name := "layoutFirstFit", fn := fun _ => fun
  | [d] => { results := [.lit (.bool true)], args := [d] }
  | _ => none }
def layoutFirstFitRow : OpenClaim := { program := "ygcfaf", sum := "de3d98d97288f34a0987f49846fc359eb483ac54b2f6f2fef626958f9932cdf7", func := "wordview/law.LayoutFirstFit", spec := "layoutFirstFit", apart := false }
def LayoutFirstFitSaid : Prop := layoutFirstFitRow.holds Fafg.pinned (OpenSpec.ofChange layoutFirstFitSpec)

/-- ITS FALSE NEIGHBOUR: 'it returns false'. Refute it at one input. -/
def layoutFirstFitWrong : ChangeSpec := { name := "layoutFirstFit", fn := fun _ => fun
  | [d] => { results := [.lit (.bool false)], args := [d] }
  | _ => none }
def LayoutFirstFitWrongFalsely : Prop := layoutFirstFitRow.holds Fafg.pinned (OpenSpec.ofChange layoutFirstFitWrong)

/-- 'law.LayoutStable': WHATEVER THE INPUT: true; the input reads as it did. -/
def layoutStableSpec : ChangeSpec := { name := "layoutStable", fn := fun _ => fun
  | [d1, d2] => { results := [.lit (.bool true)], args := [d1, d2] }
  | _ => none }
def layoutStableRow : OpenClaim := { program := "ygcfaf", sum := "de3d98d97288f34a0987f49846fc359eb483ac54b2f6f2fef626958f9932cdf7", func := "wordview/law.LayoutStable", spec := "layoutStable", apart := false }
def LayoutStableSaid : Prop := layoutStableRow.holds Fafg.pinned (OpenSpec.ofChange layoutStableSpec)

/-- ITS FALSE NEIGHBOUR: 'it returns false'. Refute it at one input. -/
def layoutStableWrong : ChangeSpec := { name := "layoutStable", fn := fun _ => fun
  | [d1, d2] => { results := [.lit (.bool false)], args := [d1, d2] }
  | _ => none }
def LayoutStableWrongFalsely : Prop := layoutStableRow.holds Fafg.pinned (OpenSpec.ofChange layoutStableWrong)

/-- 'law.SchemaBack': WHATEVER THE INPUT: true; the input reads as it did. -/
def schemaBackSpec : ChangeSpec := { name := "schemaBack", fn := fun _ => fun
  | [d] => { results := [.lit (.bool true)], args := [d] }
  | _ => none }
def schemaBackRow : OpenClaim := { program := "ygcfaf", sum := "de3d98d97288f34a0987f49846fc359eb483ac54b2f6f2fef626958f9932cdf7", func := "wordview/law.SchemaBack", spec := "schemaBack", apart := false }
def SchemaBackSaid : Prop := schemaBackRow.holds Fafg.pinned (OpenSpec.ofChange schemaBackSpec)

/-- ITS FALSE NEIGHBOUR: 'it returns false'. Refute it at one input. -/
def schemaBackWrong : ChangeSpec := { name := "schemaBack", fn := fun _ => fun
  | [d] => { results := [.lit (.bool false)], args := [d] }
  | _ => none }
def SchemaBackWrongFalsely : Prop := schemaBackRow.holds Fafg.pinned (OpenSpec.ofChange schemaBackWrong)

end Rows
end Go.Proofs.Ygcfaf
