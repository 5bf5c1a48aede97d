/- What the machine is run on: the schema's text, the texts of the records. -/
import Derived.Test.YgcfafN6
namespace Go.Proofs.Ygcfaf.Mach
open Go
noncomputable section

/-- The schema's text. -/
noncomputable def txt : List UInt8 := [115, 116, 114, 117, 99, 116, 32, 80, 123, 97, 64, 48, 58, 73, 110, 116, 56, 59, 98, 64, 49, 58, 66, 111, 111, 108, 59, 102, 64, 50, 58, 70, 108, 111, 97, 116, 51, 50, 59, 116, 64, 51, 58, 84, 101, 120, 116, 59, 108, 64, 52, 58, 76, 105, 115, 116, 40, 84, 101, 120, 116, 41, 59, 112, 64, 53, 58, 80, 59, 113, 64, 54, 58, 76, 105, 115, 116, 40, 80, 41, 59, 117, 110, 105, 111, 110, 123, 117, 64, 55, 58, 86, 111, 105, 100, 59, 119, 64, 56, 58, 85, 73, 110, 116, 56, 59, 125, 125]

/-- The schema, as the machine has it once it is parsed. -/
noncomputable def blk0 : Blk := .row 174 false [.string ⟨⟨[115, 116, 114, 117, 99, 116, 32, 80, 123, 97, 64, 48, 58, 73, 110, 116, 56, 59, 98, 64, 49, 58, 66, 111, 111, 108, 59, 102, 64, 50, 58, 70, 108, 111, 97, 116, 51, 50, 59, 116, 64, 51, 58, 84, 101, 120, 116, 59, 108, 64, 52, 58, 76, 105, 115, 116, 40, 84, 101, 120, 116, 41, 59, 112, 64, 53, 58, 80, 59, 113, 64, 54, 58, 76, 105, 115, 116, 40, 80, 41, 59, 117, 110, 105, 111, 110, 123, 117, 64, 55, 58, 86, 111, 105, 100, 59, 119, 64, 56, 58, 85, 73, 110, 116, 56, 59, 125, 125]⟩⟩, .int .i64 (.ofNat 108), .int .i64 (.ofNat 108), .slice (some ⟨210, 0, none⟩) 1 0, .slice (some ⟨130, 0, none⟩) 2 0, .slice (some ⟨201, 0, none⟩) 9 0, .int .u8 (.ofNat 0), .int .i64 (.ofNat 0)]
noncomputable def blk1 : Blk := .row 113 true [.string ⟨⟨[80]⟩⟩, .slice (some ⟨364, 0, none⟩) 9 0, .int .u8 (.ofNat 16), .int .u16 (.ofNat 1), .int .u8 (.ofNat 0), .bool false, .int .u8 (.ofNat 2), .int .u8 (.ofNat 4)]
noncomputable def blk2 : Blk := .row 116 true [.string ⟨⟨[97]⟩⟩, .int .u8 (.ofNat 1), .int .u8 (.ofNat 0), .int .u8 (.ofNat 0), .int .u8 (.ofNat 0), .int .u8 (.ofNat 8), .int .u16 (.ofNat 0), .int .u8 (.ofNat 0), .bool false, .int .u64 (.ofNat 0), .bool false, .string ⟨⟨[98]⟩⟩, .int .u8 (.ofNat 0), .int .u8 (.ofNat 0), .int .u8 (.ofNat 0), .int .u8 (.ofNat 0), .int .u8 (.ofNat 1), .int .u16 (.ofNat 8), .int .u8 (.ofNat 0), .bool false, .int .u64 (.ofNat 0), .bool false, .string ⟨⟨[102]⟩⟩, .int .u8 (.ofNat 9), .int .u8 (.ofNat 0), .int .u8 (.ofNat 0), .int .u8 (.ofNat 0), .int .u8 (.ofNat 32), .int .u16 (.ofNat 1), .int .u8 (.ofNat 0), .bool false, .int .u64 (.ofNat 0), .bool false, .string ⟨⟨[116]⟩⟩, .int .u8 (.ofNat 11), .int .u8 (.ofNat 0), .int .u8 (.ofNat 0), .int .u8 (.ofNat 0), .int .u8 (.ofNat 0), .int .u16 (.ofNat 0), .int .u8 (.ofNat 0), .bool true, .int .u64 (.ofNat 0), .bool false, .string ⟨⟨[108]⟩⟩, .int .u8 (.ofNat 12), .int .u8 (.ofNat 11), .int .u8 (.ofNat 0), .int .u8 (.ofNat 1), .int .u8 (.ofNat 0), .int .u16 (.ofNat 0), .int .u8 (.ofNat 1), .bool true, .int .u64 (.ofNat 0), .bool false, .string ⟨⟨[112]⟩⟩, .int .u8 (.ofNat 13), .int .u8 (.ofNat 0), .int .u8 (.ofNat 0), .int .u8 (.ofNat 0), .int .u8 (.ofNat 0), .int .u16 (.ofNat 0), .int .u8 (.ofNat 2), .bool true, .int .u64 (.ofNat 0), .bool false, .string ⟨⟨[113]⟩⟩, .int .u8 (.ofNat 12), .int .u8 (.ofNat 13), .int .u8 (.ofNat 0), .int .u8 (.ofNat 1), .int .u8 (.ofNat 0), .int .u16 (.ofNat 0), .int .u8 (.ofNat 3), .bool true, .int .u64 (.ofNat 0), .bool false, .string ⟨⟨[117]⟩⟩, .int .u8 (.ofNat 14), .int .u8 (.ofNat 0), .int .u8 (.ofNat 0), .int .u8 (.ofNat 0), .int .u8 (.ofNat 0), .int .u16 (.ofNat 0), .int .u8 (.ofNat 0), .bool false, .int .u64 (.ofNat 0), .bool true, .string ⟨⟨[119]⟩⟩, .int .u8 (.ofNat 5), .int .u8 (.ofNat 0), .int .u8 (.ofNat 0), .int .u8 (.ofNat 0), .int .u8 (.ofNat 8), .int .u16 (.ofNat 8), .int .u8 (.ofNat 0), .bool false, .int .u64 (.ofNat 0), .bool true]
noncomputable def hsL : List (Nat × Blk) := [(0, blk0), (210, blk1), (364, blk2)]
noncomputable def hs : Tr Blk := (.node (some blk0) .nil (.node none (.node none .nil (.node none .nil (.node none (.node none .nil (.node none .nil (.node none (.node (some blk2) .nil .nil) .nil))) .nil))) (.node none (.node none (.node none .nil (.node none (.node none .nil (.node (some blk1) .nil .nil)) .nil)) .nil) .nil)))

noncomputable def subB (l : List (Nat × Blk)) (h : Tr Blk) : Bool :=
  List.rec (motive := fun _ => Bool) true (fun p _ ih => cond (match h.get p.1 with | some k => eqBlk k p.2 | none => false) ih false) l
noncomputable def sPtr : Value := .pointer (some ⟨0, 3, none⟩)
noncomputable def v21 : Value := .tuple ⟨[.pointer (some ⟨0, 3, none⟩), .int .u8 (.ofNat 0)]⟩
noncomputable def ok21 (o : Out) : Bool :=
  match o with
  | some (v, h, nx) => eqVal v v21 && (Nat.beq nx 401 && subB hsL h)
  | none => false
noncomputable def ok19 (o : Out) : Bool :=
  match o with
  | some (.bool true, _, _) => true
  | _ => false
noncomputable def E0 : Env := env fun _ _ _ _ => none
theorem e0_ok : EnvOk E0 := envOk fun _ _ _ _ _ _ _ _ h => by cases h

/-- The check of the schema, known ahead. -/
noncomputable def orc19 : Orc := fun g args h nx => cond (Nat.beq g 19 && (eqL eqCell args [sPtr] && subB hsL h)) (some (.bool true, h, nx)) none
noncomputable def E1 : Env := env orc19

/-- The texts of the records, each with its code and the place. -/
noncomputable def row0 : List UInt8 × Nat × Nat := ([123, 117, 58, 118, 111, 105, 100, 125], 0, 8)
noncomputable def row1 : List UInt8 × Nat × Nat := ([80, 123, 119, 58, 49, 125], 0, 6)
noncomputable def row2 : List UInt8 × Nat × Nat := ([32, 35, 32, 99, 10, 123, 119, 58, 49, 44, 97, 58, 45, 49, 50, 56, 44, 125], 0, 18)
noncomputable def row3 : List UInt8 × Nat × Nat := ([123, 119, 58, 49, 97, 58, 45, 49, 125], 6, 3)
noncomputable def row4 : List UInt8 × Nat × Nat := ([123, 97, 58, 49, 50, 55, 32, 117, 58, 118, 111, 105, 100, 125], 0, 14)
noncomputable def row5 : List UInt8 × Nat × Nat := ([123, 97, 58, 48, 120, 70, 70, 32, 117, 58, 118, 111, 105, 100, 125], 0, 15)
noncomputable def row6 : List UInt8 × Nat × Nat := ([123, 116, 58, 34, 34, 32, 108, 58, 91, 93, 32, 112, 58, 110, 117, 108, 108, 32, 117, 58, 118, 111, 105, 100, 125], 0, 25)
noncomputable def row7 : List UInt8 × Nat × Nat := ([123, 108, 58, 91, 34, 97, 34, 44, 110, 117, 108, 108, 44, 93, 32, 117, 58, 118, 111, 105, 100, 125], 0, 22)
noncomputable def row8 : List UInt8 × Nat × Nat := ([123, 102, 58, 48, 120, 55, 70, 67, 48, 48, 48, 48, 49, 32, 117, 58, 118, 111, 105, 100, 125], 0, 21)
noncomputable def row9 : List UInt8 × Nat × Nat := ([123, 125], 7, 1)
noncomputable def row10 : List UInt8 × Nat × Nat := ([123, 117, 58, 118, 111, 105, 100, 32, 119, 58, 49, 125], 7, 8)
noncomputable def row11 : List UInt8 × Nat × Nat := ([123, 112, 58, 123, 125, 117, 58, 118, 111, 105, 100, 125], 7, 4)
noncomputable def row12 : List UInt8 × Nat × Nat := ([], 6, 0)
noncomputable def row13 : List UInt8 × Nat × Nat := ([81, 123, 117, 58, 118, 111, 105, 100, 125], 6, 0)
noncomputable def row14 : List UInt8 × Nat × Nat := ([123, 117, 58, 110, 117, 108, 108, 125], 6, 3)
noncomputable def row15 : List UInt8 × Nat × Nat := ([123, 97, 58, 49, 50, 56, 125], 6, 3)
noncomputable def row16 : List UInt8 × Nat × Nat := ([123, 97, 58, 45, 49, 50, 57, 125], 6, 4)
noncomputable def row17 : List UInt8 × Nat × Nat := ([123, 97, 58, 48, 120, 49, 48, 48, 125], 6, 3)
noncomputable def row18 : List UInt8 × Nat × Nat := ([123, 97, 58, 45, 48, 120, 49, 125], 6, 4)
noncomputable def row19 : List UInt8 × Nat × Nat := ([123, 119, 58, 45, 49, 125], 6, 4)
noncomputable def row20 : List UInt8 × Nat × Nat := ([123, 119, 58, 50, 53, 54, 125], 6, 3)
noncomputable def row21 : List UInt8 × Nat × Nat := ([123, 102, 58, 49, 125], 6, 3)
noncomputable def row22 : List UInt8 × Nat × Nat := ([123, 98, 58, 49, 125], 6, 3)
noncomputable def row23 : List UInt8 × Nat × Nat := ([123, 97, 58, 110, 117, 108, 108, 125], 6, 3)
noncomputable def row24 : List UInt8 × Nat × Nat := ([123, 97, 58, 57, 57, 57, 57, 57, 57, 57, 57, 57, 57, 57, 57, 57, 57, 57, 57, 57, 57, 57, 57, 125], 6, 3)
noncomputable def row25 : List UInt8 × Nat × Nat := ([123, 116, 58, 97, 125], 6, 3)
noncomputable def row26 : List UInt8 × Nat × Nat := ([123, 116, 58, 34, 92, 120, 48, 48, 34, 125], 6, 3)
noncomputable def row27 : List UInt8 × Nat × Nat := ([123, 116, 58, 34, 255, 34, 125], 6, 3)
noncomputable def row28 : List UInt8 × Nat × Nat := ([123, 113, 58, 91, 110, 117, 108, 108, 93, 125], 6, 4)
noncomputable def row29 : List UInt8 × Nat × Nat := ([123, 108, 58, 123, 125, 125], 6, 3)
noncomputable def row30 : List UInt8 × Nat × Nat := ([123, 122, 58, 49, 125], 4, 1)
noncomputable def row31 : List UInt8 × Nat × Nat := ([123, 97, 58, 49, 32, 122, 58, 49, 125], 4, 5)
noncomputable def row32 : List UInt8 × Nat × Nat := ([123, 97, 58, 49, 32, 97, 58, 49, 125], 5, 5)
noncomputable def row33 : List UInt8 × Nat × Nat := ([123, 119, 58, 49, 32, 119, 58, 49, 125], 5, 5)
noncomputable def row34 : List UInt8 × Nat × Nat := ([123, 97, 32, 49, 125], 3, 3)
noncomputable def row35 : List UInt8 × Nat × Nat := ([123, 97, 58, 49], 3, 4)
noncomputable def row36 : List UInt8 × Nat × Nat := ([123, 117, 58, 118, 111, 105, 100, 125, 120], 3, 8)
noncomputable def row37 : List UInt8 × Nat × Nat := ([80, 32, 117], 3, 2)
noncomputable def row38 : List UInt8 × Nat × Nat := ([123, 44, 125], 3, 1)
noncomputable def row39 : List UInt8 × Nat × Nat := ([123, 116, 58, 34, 97, 125], 3, 3)
noncomputable def row40 : List UInt8 × Nat × Nat := ([123, 116, 58, 34, 92, 110, 34, 125], 3, 3)
noncomputable def row41 : List UInt8 × Nat × Nat := ([123, 116, 58, 34, 92, 120, 48, 103, 34, 125], 3, 3)
noncomputable def row42 : List UInt8 × Nat × Nat := ([123, 108, 58, 91, 34, 97, 34, 32, 34, 98, 34, 93, 125], 3, 8)
noncomputable def row43 : List UInt8 × Nat × Nat := ([123, 108, 58, 91], 6, 4)
noncomputable def row44 : List UInt8 × Nat × Nat := ([123, 116, 58, 34, 92], 3, 3)
noncomputable def rows : List (List UInt8 × Nat × Nat) := [row0, row1, row2, row3, row4, row5, row6, row7, row8, row9, row10, row11, row12, row13, row14, row15, row16, row17, row18, row19, row20, row21, row22, row23, row24, row25, row26, row27, row28, row29, row30, row31, row32, row33, row34, row35, row36, row37, row38, row39, row40, row41, row42, row43, row44]
noncomputable def ok14 (code at' : Nat) (o : Out) : Bool :=
  match o with
  | some (.tuple ⟨[.pointer none, .int .i64 (.ofNat a), .int .u8 (.ofNat c)]⟩, _, _) => !Nat.beq code 0 && (Nat.beq a at' && Nat.beq c code)
  | some (.tuple ⟨[.pointer (some ⟨b, 4, none⟩), .int .i64 (.ofNat a), .int .u8 (.ofNat c)]⟩, _, _) => Nat.beq code 0 && (Nat.ble 401 b && (Nat.beq a at' && Nat.beq c code))
  | _ => false
noncomputable def run14 (t : List UInt8) : Out := callRun E1 3000 401 14 [sPtr, .int .u8 (.ofNat 0), .string ⟨⟨t⟩⟩] hs 401
end
end Go.Proofs.Ygcfaf.Mach
