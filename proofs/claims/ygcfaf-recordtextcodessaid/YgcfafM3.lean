/- The seat's program for the machine: the types, the functions, the plans. -/
import Derived.Test.YgcfafProg
import Derived.Test.YgcfafM1
namespace Go.Proofs.Ygcfaf.Mach
open Go
noncomputable section

noncomputable def tys : List (Nat × TyR) := [
  (174, ⟨8, 120, true, [.string ⟨⟨[]⟩⟩, .int .i64 (.ofNat 0), .int .i64 (.ofNat 0), .slice none 0 0, .slice none 0 0, .slice none 0 0, .int .u8 (.ofNat 0), .int .i64 (.ofNat 0)], .struct [(0, 1, false), (1, 1, false), (2, 1, false), (3, 1, true), (4, 1, false), (5, 1, false), (6, 1, false), (7, 1, false)]⟩),
  (9, ⟨1, 16, false, [.string ⟨⟨[]⟩⟩], .str⟩),
  (3, ⟨1, 8, false, [.int .i64 (.ofNat 0)], .int .i64⟩),
  (5, ⟨1, 1, false, [.int .u8 (.ofNat 0)], .int .u8⟩),
  (102, ⟨7, 80, true, [.pointer none, .string ⟨⟨[]⟩⟩, .int .i64 (.ofNat 0), .int .i64 (.ofNat 0), .slice none 0 0, .int .i16 (.ofNat 0), .int .u8 (.ofNat 0)], .struct [(0, 1, false), (1, 1, false), (2, 1, false), (3, 1, false), (4, 2, true), (6, 1, false)]⟩),
  (4, ⟨1, 1, false, [.bool false], .other⟩),
  (113, ⟨8, 48, true, [.string ⟨⟨[]⟩⟩, .slice none 0 0, .int .u8 (.ofNat 0), .int .u16 (.ofNat 0), .int .u8 (.ofNat 0), .bool false, .int .u8 (.ofNat 0), .int .u8 (.ofNat 0)], .struct [(0, 1, false), (1, 1, false), (2, 4, true), (6, 1, false), (7, 1, false)]⟩),
  (116, ⟨11, 48, true, [.string ⟨⟨[]⟩⟩, .int .u8 (.ofNat 0), .int .u8 (.ofNat 0), .int .u8 (.ofNat 0), .int .u8 (.ofNat 0), .int .u8 (.ofNat 0), .int .u16 (.ofNat 0), .int .u8 (.ofNat 0), .bool false, .int .u64 (.ofNat 0), .bool false], .struct [(0, 1, false), (1, 4, true), (5, 4, true), (9, 1, false), (10, 1, false)]⟩),
  (22, ⟨1, 24, false, [.slice none 0 0], .slice 113 8 [.string ⟨⟨[]⟩⟩, .slice none 0 0, .int .u8 (.ofNat 0), .int .u16 (.ofNat 0), .int .u8 (.ofNat 0), .bool false, .int .u8 (.ofNat 0), .int .u8 (.ofNat 0)]⟩),
  (24, ⟨1, 24, true, [.slice none 0 0], .struct [(0, 1, false)]⟩),
  (111, ⟨1, 24, false, [.slice none 0 0], .slice 116 11 [.string ⟨⟨[]⟩⟩, .int .u8 (.ofNat 0), .int .u8 (.ofNat 0), .int .u8 (.ofNat 0), .int .u8 (.ofNat 0), .int .u8 (.ofNat 0), .int .u16 (.ofNat 0), .int .u8 (.ofNat 0), .bool false, .int .u64 (.ofNat 0), .bool false]⟩),
  (85, ⟨4, 4, true, [.int .u8 (.ofNat 0), .int .u8 (.ofNat 0), .int .u8 (.ofNat 0), .int .u8 (.ofNat 0)], .struct [(0, 1, false), (1, 1, false), (2, 1, false), (3, 1, false)]⟩),
  (82, ⟨4, 6, true, [.int .u8 (.ofNat 0), .int .u16 (.ofNat 0), .int .u8 (.ofNat 0), .bool false], .struct [(0, 1, false), (1, 1, false), (2, 1, false), (3, 1, false)]⟩),
  (48, ⟨1, 1, false, [.int .u8 (.ofNat 0)], .int .u8⟩),
  (39, ⟨1, 8, false, [.int .u64 (.ofNat 0)], .int .u64⟩),
  (72, ⟨1, 2, false, [.int .u16 (.ofNat 0)], .int .u16⟩),
  (25, ⟨1, 8, false, [.pointer none], .ptr⟩),
  (26, ⟨1, 1, false, [.int .u8 (.ofNat 0)], .int .u8⟩),
  (29, ⟨1, 8, false, [.pointer none], .ptr⟩),
  (32, ⟨1, 24, false, [.slice none 0 0], .slice 109 6 [.int .u8 (.ofNat 0), .int .u8 (.ofNat 0), .int .u8 (.ofNat 0), .int .u64 (.ofNat 0), .string ⟨⟨[]⟩⟩, .slice none 0 0]⟩),
  (33, ⟨1, 2, false, [.int .i16 (.ofNat 0)], .int .i16⟩),
  (35, ⟨2, 32, true, [.slice none 0 0, .int .i16 (.ofNat 0)], .struct [(0, 1, false), (1, 1, false)]⟩),
  (41, ⟨1, 24, false, [.slice none 0 0], .slice 5 1 [.int .u8 (.ofNat 0)]⟩),
  (52, ⟨3, 40, true, [.string ⟨⟨[]⟩⟩, .int .u8 (.ofNat 0), .string ⟨⟨[]⟩⟩], .struct [(0, 1, false), (1, 1, false), (2, 1, false)]⟩),
  (53, ⟨1, 24, false, [.slice none 0 0], .slice 52 3 [.string ⟨⟨[]⟩⟩, .int .u8 (.ofNat 0), .string ⟨⟨[]⟩⟩]⟩),
  (56, ⟨8, 64, true, [.int .u64 (.ofNat 0), .int .u64 (.ofNat 0), .int .u64 (.ofNat 0), .int .u64 (.ofNat 0), .int .u64 (.ofNat 0), .int .u64 (.ofNat 0), .int .u64 (.ofNat 0), .int .u64 (.ofNat 0)], .array 8 39 1 false⟩),
  (58, ⟨1, 24, false, [.slice none 0 0], .slice 39 1 [.int .u64 (.ofNat 0)]⟩),
  (64, ⟨1, 24, false, [.slice none 0 0], .slice 33 1 [.int .i16 (.ofNat 0)]⟩),
  (75, ⟨1, 24, false, [.slice none 0 0], .slice 85 4 [.int .u8 (.ofNat 0), .int .u8 (.ofNat 0), .int .u8 (.ofNat 0), .int .u8 (.ofNat 0)]⟩),
  (77, ⟨1, 24, false, [.slice none 0 0], .slice 82 4 [.int .u8 (.ofNat 0), .int .u16 (.ofNat 0), .int .u8 (.ofNat 0), .bool false]⟩),
  (107, ⟨1, 24, false, [.slice none 0 0], .slice 3 1 [.int .i64 (.ofNat 0)]⟩),
  (109, ⟨6, 56, true, [.int .u8 (.ofNat 0), .int .u8 (.ofNat 0), .int .u8 (.ofNat 0), .int .u64 (.ofNat 0), .string ⟨⟨[]⟩⟩, .slice none 0 0], .struct [(0, 1, false), (1, 1, false), (2, 1, false), (3, 1, false), (4, 1, false), (5, 1, false)]⟩),
  (156, ⟨16, 16, true, [.bool false, .bool false, .bool false, .bool false, .bool false, .bool false, .bool false, .bool false, .bool false, .bool false, .bool false, .bool false, .bool false, .bool false, .bool false, .bool false], .array 16 4 1 false⟩),
  (172, ⟨1, 24, false, [.slice none 0 0], .slice 243 2 [.int .i64 (.ofNat 0), .string ⟨⟨[]⟩⟩]⟩),
  (219, ⟨11, 11, true, [.int .u8 (.ofNat 0), .int .u8 (.ofNat 0), .int .u8 (.ofNat 0), .int .u8 (.ofNat 0), .int .u8 (.ofNat 0), .int .u8 (.ofNat 0), .int .u8 (.ofNat 0), .int .u8 (.ofNat 0), .int .u8 (.ofNat 0), .int .u8 (.ofNat 0), .int .u8 (.ofNat 0)], .array 11 5 1 false⟩),
  (231, ⟨3, 24, true, [.int .i64 (.ofNat 0), .int .i64 (.ofNat 0), .int .i64 (.ofNat 0)], .struct [(0, 1, false), (1, 1, false), (2, 1, false)]⟩),
  (243, ⟨2, 24, true, [.int .i64 (.ofNat 0), .string ⟨⟨[]⟩⟩], .struct [(0, 1, false), (1, 1, false)]⟩),
  (296, ⟨12, 192, true, [.string ⟨⟨[]⟩⟩, .string ⟨⟨[]⟩⟩, .string ⟨⟨[]⟩⟩, .string ⟨⟨[]⟩⟩, .string ⟨⟨[]⟩⟩, .string ⟨⟨[]⟩⟩, .string ⟨⟨[]⟩⟩, .string ⟨⟨[]⟩⟩, .string ⟨⟨[]⟩⟩, .string ⟨⟨[]⟩⟩, .string ⟨⟨[]⟩⟩, .string ⟨⟨[]⟩⟩], .array 12 9 1 false⟩)]

noncomputable def fns : List (Nat × Func) := [(113, Fafg.f113), (114, Fafg.f114), (75, Fafg.f75), (76, Fafg.f76), (60, Fafg.f60), (34, Fafg.f34), (36, Fafg.f36), (176, Fafg.f176), (115, Fafg.f115), (119, Fafg.f119), (61, Fafg.f61), (5, Fafg.f5), (21, Fafg.f21), (22, Fafg.f22), (14, Fafg.f14), (45, Fafg.f45), (19, Fafg.f19), (35, Fafg.f35), (37, Fafg.f37), (77, Fafg.f77), (78, Fafg.f78), (41, Fafg.f41), (62, Fafg.f62), (63, Fafg.f63), (64, Fafg.f64), (120, Fafg.f120), (121, Fafg.f121), (70, Fafg.f70), (122, Fafg.f122), (123, Fafg.f123), (124, Fafg.f124), (69, Fafg.f69), (71, Fafg.f71), (72, Fafg.f72), (73, Fafg.f73), (106, Fafg.f106), (178, Fafg.f178), (179, Fafg.f179), (180, Fafg.f180), (181, Fafg.f181), (116, Fafg.f116), (27, Fafg.f27), (170, Fafg.f170), (110, Fafg.f110), (171, Fafg.f171), (172, Fafg.f172), (202, Fafg.f202), (177, Fafg.f177), (55, Fafg.f55), (56, Fafg.f56), (200, Fafg.f200), (111, Fafg.f111), (201, Fafg.f201), (175, Fafg.f175)]

noncomputable def plans : List (Nat × Nat × PlanK) := [
  (5, 6, .quiet),
  (14, 12, .quiet),
  (14, 14, .quiet),
  (45, 7, .quiet),
  (45, 9, .quiet),
  (19, 6, .quiet),
  (19, 11, .quiet),
  (34, 13, .quiet),
  (34, 16, .quiet),
  (34, 17, .quiet),
  (34, 20, .any (.take 0 (.take 1 (.take 2 (.take 3 (.take 6 (.take 7 (.take 8 (.alt 4 (.take 5 (.alt 9 (.take 10 (.take 11 (.take 12 (.take 13 (.alt 14 .fin .no))))) .no)) (.alt 9 (.take 10 (.alt 4 (.take 5 (.take 11 (.take 12 (.take 13 (.alt 14 .fin .no))))) .no)) .no)))))))))),
  (35, 4, .quiet),
  (35, 17, .quiet),
  (36, 1, .quiet),
  (75, 12, .quiet),
  (75, 14, .quiet),
  (76, 1, .quiet),
  (77, 27, .any (.take 0 (.take 1 (.take 2 (.take 3 (.take 4 (.alt 5 (.alt 6 (.alt 7 (.alt 8 (.take 9 (.take 10 (.take 11 (.alt 12 .fin .no)))) .no) .no) .no) (.alt 6 (.alt 5 (.alt 7 (.alt 8 (.take 9 (.take 10 (.take 11 (.alt 12 .fin .no)))) .no) .no) (.alt 7 (.alt 5 (.alt 8 (.take 9 (.take 10 (.take 11 (.alt 12 .fin .no)))) .no) .no) .no)) .no)))))))),
  (78, 9, .quiet),
  (41, 4, .quiet),
  (41, 10, .quiet),
  (41, 15, .quiet),
  (62, 3, .any (.take 0 (.take 1 (.take 2 (.take 3 (.take 4 (.alt 5 (.alt 6 (.alt 7 (.alt 8 (.take 9 (.take 10 (.take 11 (.alt 12 .fin .no)))) .no) .no) .no) (.alt 6 (.alt 5 (.alt 7 (.alt 8 (.take 9 (.take 10 (.take 11 (.alt 12 .fin .no)))) .no) .no) (.alt 7 (.alt 5 (.alt 8 (.take 9 (.take 10 (.take 11 (.alt 12 .fin .no)))) .no) .no) .no)) .no)))))))),
  (63, 5, .quiet),
  (63, 28, .any (.take 0 (.take 1 (.take 2 (.take 3 (.take 4 (.take 5 (.take 7 (.alt 6 (.take 8 (.alt 9 .fin .no)) .no))))))))),
  (123, 30, .any (.take 0 (.take 1 (.take 2 (.take 3 (.alt 4 (.alt 5 (.alt 6 (.alt 7 (.take 8 (.take 9 (.alt 10 .fin .no))) .no) .no) .no) (.alt 5 (.alt 4 (.alt 6 (.alt 7 (.take 8 (.take 9 (.alt 10 .fin .no))) .no) .no) (.alt 6 (.alt 4 (.alt 7 (.take 8 (.take 9 (.alt 10 .fin .no))) .no) .no) .no)) .no))))))),
  (124, 14, .any (.take 0 (.take 1 (.take 2 (.take 3 (.take 4 (.take 6 (.take 7 (.take 8 (.take 9 (.alt 5 (.alt 10 (.take 11 (.take 12 (.alt 13 (.take 14 (.take 15 (.alt 16 (.take 17 (.take 18 (.alt 19 .fin .no))) .no))) .no))) .no) (.alt 10 (.alt 5 (.take 11 (.take 12 (.alt 13 (.take 14 (.take 15 (.alt 16 (.take 17 (.take 18 (.alt 19 .fin .no))) .no))) .no))) .no) .no)))))))))))),
  (71, 23, .any (.take 0 (.take 1 (.take 2 (.take 4 (.take 5 (.take 6 (.alt 3 (.take 7 (.take 8 (.take 9 (.alt 10 .fin .no)))) .no)))))))),
  (71, 28, .any (.take 0 (.take 2 (.take 3 (.take 4 (.alt 1 (.alt 5 (.take 6 (.take 7 (.take 8 .fin))) .no) .no)))))),
  (180, 20, .any (.take 1 (.take 2 (.alt 0 (.alt 3 (.alt 4 (.take 5 .fin) .no) .no) (.alt 3 (.alt 0 (.alt 4 (.take 5 .fin) .no) .no) .no))))),
  (181, 1, .quiet),
  (116, 2, .any (.take 0 (.take 1 (.take 2 (.take 4 (.take 5 (.alt 3 (.take 7 (.alt 6 (.take 8 .fin) .no)) (.alt 6 (.alt 3 (.take 7 (.take 8 .fin)) .no) .no)))))))),
  (116, 24, .any (.take 0 (.take 1 (.take 3 (.take 4 (.alt 2 (.alt 5 .fin .no) .no)))))),
  (172, 23, .any (.take 0 (.take 1 (.take 2 (.take 3 (.take 4 (.take 7 (.take 8 (.take 9 (.take 10 (.alt 5 (.take 6 (.alt 11 (.take 12 (.take 13 (.alt 14 (.alt 15 (.take 16 .fin) .no) .no))) .no)) .no))))))))))),
  (202, 3, .quiet)]

noncomputable def env (orc : Orc) : Env := ⟨Fafg.prog, tys, fns, plans, orc⟩
end
end Go.Proofs.Ygcfaf.Mach
