/- Tab: the kinds of the seat's types, its functions' parameters and results. Written by gen/drive.py.
  Nam: the library's functions by what they answer; each function of the program by its name. Written by gen/drive.py.
  F0: what each body comes to. Written by gen/drive.py.
  F1: what each body comes to. Written by gen/drive.py.
  F2: what each body comes to. Written by gen/drive.py. -/
import Derived.Test.YtmgeeanbecmkbaaGreatDoorDenH
import Derived.Test.YtmgeeanbecmkbaaGreatDoorSorts
import Derived.Test.YtmgeeanbecmkbaaGreatDoorPrim
import Derived.Test.YtmgeeanbecmkbaaGreatDoorProg
namespace Go.Proofs.YtmgeeanbecmkbaaGreatDoor.Den
open Go
abbrev tstrings_Builder : Ty := (.pair .ptr (.pair (.slice 5 (.int .u8)) .unit))
abbrev Builder : Type := (Bool × (List Int) × Unit)
abbrev tlaws_Ref : Ty := (.pair (.int .i64) (.pair (.int .i64) .unit))
abbrev tlaws_Stmt : Ty := (.pair (.int .i64) (.pair tlaws_Ref (.pair .str (.pair (.int .i64) .unit))))
abbrev tlaws_Cmd : Ty := (.pair (.int .i64) (.pair .str (.pair .str (.pair (.int .i64) (.pair (.slice 43 tlaws_Stmt) .unit)))))
abbrev timpl_Cmd : Ty := (.pair (.int .i64) (.pair .str (.pair .str (.pair (.int .i64) (.pair (.slice 50 tlaws_Stmt) .unit)))))
abbrev timpl_Place : Ty := (.pair tlaws_Ref (.pair .bool (.pair .bool .unit)))
abbrev timpl_Value : Ty := (.pair (.int .i64) (.pair (.int .i64) (.pair .str .unit)))
abbrev timpl_FNode : Ty := (.pair (.int .i64) (.pair (.int .i64) (.pair timpl_Value (.pair timpl_Place (.pair timpl_Place (.pair (.slice 2 (.int .i64)) .unit))))))
abbrev tspec_l3Rd : Ty := (.pair .str (.pair (.int .i64) (.pair .bool (.pair (.slice 126 timpl_FNode) .unit))))
abbrev timpl_Area : Ty := (.pair tlaws_Ref (.pair tlaws_Ref .unit))
abbrev timpl_reader : Ty := (.pair .str (.pair (.slice 126 timpl_FNode) (.pair .bool .unit)))
def tab : List (Nat × Ty) := [(2, (.int .i64)), (3, (.int .i64)), (4, .bool), (5, (.int .u8)), (9, .str), (22, (.slice 43 tlaws_Stmt)), (24, tlaws_Cmd), (27, (.slice 50 tlaws_Stmt)), (29, timpl_Cmd), (41, tlaws_Ref), (43, tlaws_Stmt), (47, (.slice 5 (.int .u8))), (48, tlaws_Ref), (50, tlaws_Stmt), (53, timpl_Place), (57, .ptr), (59, tstrings_Builder), (61, .err), (73, (.slice 9 .str)), (76, (.slice 126 timpl_FNode)), (81, timpl_Value), (103, tspec_l3Rd), (124, (.slice 2 (.int .i64))), (126, timpl_FNode), (142, timpl_Area), (153, timpl_reader)]
def sigs : List (Nat × Sig) := [(3, ⟨[⟨false, 24, tlaws_Cmd, [], false⟩], [.bool]⟩),
  (4, ⟨[⟨false, 24, tlaws_Cmd, [], false⟩, ⟨false, 3, (.int .i64), [], false⟩], [(.int .i64)]⟩),
  (5, ⟨[⟨false, 29, timpl_Cmd, [], false⟩], [.str]⟩),
  (6, ⟨[⟨false, 24, tlaws_Cmd, [], false⟩], [timpl_Cmd]⟩),
  (7, ⟨[⟨false, 29, timpl_Cmd, [], false⟩], [.str]⟩),
  (8, ⟨[⟨false, 29, timpl_Cmd, [], false⟩, ⟨false, 29, timpl_Cmd, [], false⟩], [.bool]⟩),
  (9, ⟨[⟨false, 22, (.slice 43 tlaws_Stmt), [], false⟩, ⟨false, 3, (.int .i64), [], false⟩], [(.int .i64)]⟩),
  (10, ⟨[⟨false, 29, timpl_Cmd, [], false⟩], [.bool]⟩),
  (11, ⟨[⟨false, 2, (.int .i64), [], false⟩], [.str]⟩),
  (12, ⟨[⟨false, 27, (.slice 50 tlaws_Stmt), [], false⟩], [.str]⟩),
  (13, ⟨[⟨false, 22, (.slice 43 tlaws_Stmt), [], false⟩], [(.slice 50 tlaws_Stmt)]⟩),
  (14, ⟨[⟨false, 29, timpl_Cmd, [], false⟩], [.bool]⟩),
  (15, ⟨[⟨false, 2, (.int .i64), [], false⟩], [.str]⟩),
  (16, ⟨[⟨false, 27, (.slice 50 tlaws_Stmt), [], false⟩], [.str]⟩),
  (17, ⟨[⟨false, 27, (.slice 50 tlaws_Stmt), [], false⟩, ⟨false, 27, (.slice 50 tlaws_Stmt), [], false⟩], [.bool]⟩),
  (18, ⟨[⟨false, 43, tlaws_Stmt, [], false⟩, ⟨false, 3, (.int .i64), [], false⟩], [(.int .i64)]⟩),
  (19, ⟨[⟨false, 9, .str, [], false⟩], [.bool]⟩),
  (20, ⟨[⟨false, 2, (.int .i64), [], false⟩, ⟨false, 2, (.int .i64), [], false⟩, ⟨false, 2, (.int .i64), [], false⟩], [.bool]⟩),
  (21, ⟨[⟨false, 27, (.slice 50 tlaws_Stmt), [], false⟩], [.bool]⟩),
  (22, ⟨[⟨false, 53, timpl_Place, [], false⟩], [.str]⟩),
  (23, ⟨[⟨false, 43, tlaws_Stmt, [], false⟩], [tlaws_Stmt]⟩),
  (24, ⟨[⟨false, 9, .str, [], false⟩], [.bool]⟩),
  (25, ⟨[⟨false, 2, (.int .i64), [], false⟩], [.bool]⟩),
  (26, ⟨[⟨false, 27, (.slice 50 tlaws_Stmt), [], false⟩], [.bool]⟩),
  (27, ⟨[⟨false, 0, (.int .i64), [], false⟩, ⟨false, 0, (.int .i64), [], false⟩], [.str]⟩),
  (28, ⟨[⟨true, 59, tstrings_Builder, [false, true], false⟩, ⟨false, 9, .str, [], false⟩], [(.int .i64), .err]⟩),
  (29, ⟨[⟨false, 2, (.int .i64), [], false⟩], [.str]⟩),
  (30, ⟨[⟨false, 48, tlaws_Ref, [], false⟩], [.str]⟩),
  (31, ⟨[⟨true, 59, tstrings_Builder, [false, true], true⟩], [.str]⟩),
  (32, ⟨[⟨false, 50, tlaws_Stmt, [], false⟩, ⟨false, 50, tlaws_Stmt, [], false⟩], [.bool]⟩),
  (33, ⟨[⟨false, 48, tlaws_Ref, [], false⟩], [.bool]⟩),
  (34, ⟨[⟨false, 9, .str, [], false⟩], [.bool]⟩),
  (35, ⟨[⟨false, 9, .str, [], false⟩], [.str, .bool]⟩),
  (36, ⟨[⟨false, 2, (.int .i64), [], false⟩], [.str]⟩),
  (37, ⟨[⟨false, 41, tlaws_Ref, [], false⟩], [tlaws_Ref]⟩),
  (38, ⟨[⟨false, 0, .str, [], false⟩, ⟨false, 0, .str, [], false⟩], [.str]⟩),
  (39, ⟨[⟨false, 2, (.int .i64), [], false⟩, ⟨false, 2, (.int .i64), [], false⟩, ⟨false, 2, (.int .i64), [], false⟩], [.bool]⟩),
  (40, ⟨[⟨false, 50, tlaws_Stmt, [], false⟩, ⟨false, 3, (.int .i64), [], false⟩, ⟨false, 3, (.int .i64), [], false⟩], [.bool]⟩),
  (43, ⟨[⟨false, 53, timpl_Place, [], false⟩], [.str]⟩),
  (44, ⟨[⟨false, 48, tlaws_Ref, [], false⟩, ⟨false, 48, tlaws_Ref, [], false⟩], [.bool]⟩),
  (45, ⟨[⟨false, 9, .str, [], false⟩], [.bool]⟩),
  (46, ⟨[⟨false, 9, .str, [], false⟩], [(.slice 126 timpl_FNode), .bool]⟩),
  (47, ⟨[⟨false, 76, (.slice 126 timpl_FNode), [], false⟩], [.str]⟩),
  (48, ⟨[⟨false, 9, .str, [], false⟩], [timpl_Value, .bool]⟩),
  (49, ⟨[⟨false, 81, timpl_Value, [], false⟩], [.str]⟩),
  (50, ⟨[⟨false, 9, .str, [], false⟩], [timpl_Value, .bool]⟩),
  (58, ⟨[⟨false, 48, tlaws_Ref, [], false⟩], [.bool]⟩),
  (59, ⟨[⟨false, 9, .str, [], false⟩], [.bool]⟩),
  (60, ⟨[⟨false, 9, .str, [], false⟩], [.bool]⟩),
  (66, ⟨[⟨false, 2, (.int .i64), [], false⟩], [.str]⟩),
  (67, ⟨[⟨true, 103, tspec_l3Rd, [false, false, false, true], false⟩, ⟨false, 2, (.int .i64), [], false⟩], [(.int .i64)]⟩),
  (68, ⟨[⟨true, 103, tspec_l3Rd, [false, false, false, true], false⟩], []⟩),
  (69, ⟨[⟨false, 76, (.slice 126 timpl_FNode), [], false⟩], [.bool]⟩),
  (70, ⟨[⟨false, 76, (.slice 126 timpl_FNode), [], false⟩, ⟨false, 2, (.int .i64), [], false⟩, ⟨false, 2, (.int .i64), [], false⟩], [.str]⟩),
  (71, ⟨[⟨false, 9, .str, [], false⟩, ⟨false, 3, (.int .i64), [], false⟩], [(.int .i64), .bool]⟩),
  (72, ⟨[⟨false, 81, timpl_Value, [], false⟩], [.bool]⟩),
  (73, ⟨[⟨false, 2, (.int .i64), [], false⟩], [.str]⟩),
  (74, ⟨[⟨false, 2, (.int .i64), [], false⟩], [.str]⟩),
  (79, ⟨[⟨false, 9, .str, [], false⟩], [.str, .bool]⟩),
  (85, ⟨[⟨true, 103, tspec_l3Rd, [false, false, false, true], false⟩], [(.int .i64)]⟩),
  (86, ⟨[⟨true, 103, tspec_l3Rd, [false, false, false, true], false⟩, ⟨false, 2, (.int .i64), [], false⟩], [(.int .i64)]⟩),
  (87, ⟨[⟨true, 103, tspec_l3Rd, [false, false, false, true], false⟩, ⟨false, 126, timpl_FNode, [], false⟩], [(.int .i64)]⟩),
  (88, ⟨[⟨false, 126, timpl_FNode, [], false⟩], [.bool]⟩),
  (89, ⟨[⟨false, 76, (.slice 126 timpl_FNode), [], false⟩, ⟨false, 2, (.int .i64), [], false⟩], [(.int .i64)]⟩),
  (90, ⟨[⟨false, 76, (.slice 126 timpl_FNode), [], false⟩, ⟨false, 2, (.int .i64), [], false⟩], [(.int .i64)]⟩),
  (91, ⟨[⟨false, 9, .str, [], false⟩], [.str]⟩),
  (92, ⟨[⟨false, 2, (.int .i64), [], false⟩], [(.int .i64)]⟩),
  (93, ⟨[⟨false, 2, (.int .i64), [], false⟩], [.str]⟩),
  (94, ⟨[⟨false, 2, (.int .i64), [], false⟩], [.str]⟩),
  (98, ⟨[⟨false, 9, .str, [], false⟩, ⟨false, 3, (.int .i64), [], false⟩], [.bool]⟩),
  (99, ⟨[⟨false, 0, .str, [], false⟩, ⟨false, 0, .str, [], false⟩], [.str, .bool]⟩),
  (100, ⟨[⟨false, 9, .str, [], false⟩], [(.slice 126 timpl_FNode), .bool]⟩),
  (101, ⟨[⟨false, 76, (.slice 126 timpl_FNode), [], false⟩], [.str, .bool]⟩),
  (102, ⟨[⟨false, 0, .str, [], false⟩, ⟨false, 0, (.int .i64), [], false⟩, ⟨false, 0, (.int .i64), [], false⟩], [(.int .i64), .err]⟩),
  (103, ⟨[⟨false, 9, .str, [], false⟩], [.bool]⟩),
  (104, ⟨[⟨false, 81, timpl_Value, [], false⟩], [.bool]⟩),
  (105, ⟨[⟨false, 2, (.int .i64), [], false⟩], [timpl_Value]⟩),
  (106, ⟨[⟨false, 9, .str, [], false⟩], [timpl_Value, .bool]⟩),
  (109, ⟨[⟨true, 103, tspec_l3Rd, [false, false, false, true], false⟩, ⟨false, 9, .str, [], false⟩], [.bool]⟩),
  (110, ⟨[⟨true, 103, tspec_l3Rd, [false, false, false, true], false⟩], [(.int .i64)]⟩),
  (111, ⟨[⟨false, 2, (.int .i64), [], false⟩], [timpl_Value]⟩),
  (112, ⟨[⟨true, 103, tspec_l3Rd, [false, false, false, true], false⟩], [.str]⟩),
  (113, ⟨[⟨true, 103, tspec_l3Rd, [false, false, false, true], false⟩, ⟨false, 2, (.int .i64), [], false⟩], [(.int .i64)]⟩),
  (114, ⟨[⟨false, 9, .str, [], false⟩], [timpl_Place, .bool]⟩),
  (115, ⟨[⟨false, 142, timpl_Area, [], false⟩], [.bool]⟩),
  (116, ⟨[⟨false, 2, (.int .i64), [], false⟩, ⟨false, 3, (.int .i64), [], false⟩], [.bool]⟩),
  (122, ⟨[⟨true, 153, timpl_reader, [false, true, false], false⟩, ⟨false, 3, (.int .i64), [], false⟩, ⟨false, 3, (.int .i64), [], false⟩], [(.int .i64)]⟩),
  (123, ⟨[⟨true, 153, timpl_reader, [false, true, false], false⟩], []⟩),
  (124, ⟨[⟨false, 76, (.slice 126 timpl_FNode), [], false⟩], [.bool]⟩),
  (125, ⟨[⟨false, 76, (.slice 126 timpl_FNode), [], false⟩], [.str]⟩),
  (128, ⟨[⟨false, 0, .str, [], false⟩, ⟨false, 0, .str, [], false⟩], [.str]⟩),
  (129, ⟨[⟨false, 4, .bool, [], false⟩], [timpl_Value]⟩),
  (130, ⟨[⟨false, 0, .str, [], false⟩, ⟨false, 0, .str, [], false⟩], [.bool]⟩),
  (131, ⟨[⟨false, 2, (.int .i64), [], false⟩], [.str]⟩),
  (132, ⟨[⟨false, 2, (.int .i64), [], false⟩], [timpl_Value]⟩),
  (133, ⟨[⟨false, 81, timpl_Value, [], false⟩], [.str]⟩),
  (134, ⟨[⟨true, 103, tspec_l3Rd, [false, false, false, true], false⟩], [(.int .i64)]⟩),
  (135, ⟨[⟨false, 9, .str, [], false⟩], [(.int .i64)]⟩),
  (138, ⟨[⟨true, 153, timpl_reader, [false, true, false], false⟩, ⟨false, 3, (.int .i64), [], false⟩], [(.int .i64)]⟩),
  (139, ⟨[⟨true, 153, timpl_reader, [false, true, false], false⟩], [.str]⟩),
  (140, ⟨[⟨false, 2, (.int .i64), [], false⟩], [.str]⟩),
  (141, ⟨[⟨false, 2, (.int .i64), [], false⟩], [(.int .i64)]⟩),
  (142, ⟨[⟨true, 153, timpl_reader, [false, true, false], false⟩, ⟨false, 9, .str, [], false⟩], [.bool]⟩),
  (143, ⟨[⟨true, 153, timpl_reader, [false, true, false], false⟩, ⟨false, 126, timpl_FNode, [], false⟩], [(.int .i64)]⟩),
  (144, ⟨[⟨false, 0, .str, [], false⟩, ⟨false, 0, .str, [], false⟩], [.str]⟩),
  (145, ⟨[⟨false, 76, (.slice 126 timpl_FNode), [], false⟩, ⟨false, 2, (.int .i64), [], false⟩, ⟨false, 3, (.int .i64), [], false⟩], [(.int .i64)]⟩),
  (146, ⟨[⟨false, 76, (.slice 126 timpl_FNode), [], false⟩, ⟨false, 2, (.int .i64), [], false⟩, ⟨false, 3, (.int .i64), [], false⟩], [.str]⟩),
  (154, ⟨[⟨true, 153, timpl_reader, [false, true, false], false⟩, ⟨false, 3, (.int .i64), [], false⟩], [(.int .i64)]⟩),
  (155, ⟨[⟨false, 126, timpl_FNode, [], false⟩], [.bool]⟩),
  (156, ⟨[⟨false, 0, .str, [], false⟩, ⟨false, 0, .str, [], false⟩, ⟨false, 0, .str, [], false⟩], [.str]⟩),
  (157, ⟨[⟨false, 2, (.int .i64), [], false⟩], [.str]⟩),
  (158, ⟨[⟨false, 0, (.slice 9 .str), [], false⟩, ⟨false, 0, .str, [], false⟩], [.str]⟩),
  (164, ⟨[⟨true, 153, timpl_reader, [false, true, false], false⟩], [(.int .i64)]⟩),
  (165, ⟨[⟨true, 153, timpl_reader, [false, true, false], false⟩, ⟨false, 81, timpl_Value, [], false⟩], [(.int .i64)]⟩),
  (166, ⟨[⟨true, 153, timpl_reader, [false, true, false], false⟩], [.str]⟩),
  (167, ⟨[⟨false, 9, .str, [], false⟩], [timpl_Place, .bool]⟩),
  (168, ⟨[⟨true, 153, timpl_reader, [false, true, false], false⟩, ⟨false, 2, (.int .i64), [], false⟩, ⟨false, 3, (.int .i64), [], false⟩], [(.int .i64)]⟩),
  (169, ⟨[⟨false, 126, timpl_FNode, [], false⟩], [.bool]⟩),
  (170, ⟨[⟨false, 126, timpl_FNode, [], false⟩], [.bool]⟩),
  (174, ⟨[⟨false, 0, .str, [], false⟩, ⟨false, 0, .str, [], false⟩], [.str, .str, .bool]⟩),
  (175, ⟨[⟨false, 9, .str, [], false⟩], [(.int .i64)]⟩),
  (176, ⟨[⟨true, 153, timpl_reader, [false, true, false], false⟩], [timpl_FNode, .bool]⟩),
  (177, ⟨[⟨false, 142, timpl_Area, [], false⟩], [.bool]⟩),
  (178, ⟨[⟨false, 126, timpl_FNode, [], false⟩], [timpl_Area]⟩)]
def hints : List (Nat × List (Nat × List Nat)) := [(9, [(5, [0, 1, 5])]), (11, [(4, [0, 3])]), (12, [(5, [0, 3, 4])]), (13, [(3, [0, 3, 4])]), (16, [(3, [3, 7, 8, 9])]), (17, [(4, [0, 1, 5])]), (19, [(4, [0, 3])]), (21, [(4, [0, 3])]), (26, [(2, [0, 5, 6, 7])]), (36, [(4, [0, 3])]), (45, [(2, [0, 3])]), (48, [(6, [0, 2, 4])]), (50, [(23, [0, 2, 4, 5])]), (67, [(6, [0, 1, 5])]), (68, [(0, [0])]), (69, [(4, [0, 3]), (9, [0, 3, 4])]), (70, [(21, [0, 7, 10, 11])]), (71, [(5, [0, 6, 7])]), (85, [(13, [0, 5]), (23, [0, 7, 8])]), (86, [(3, [0, 1, 5, 6])]), (89, [(3, [0, 1, 5, 6])]), (90, [(3, [0, 1, 5, 6])]), (91, [(3, [0, 3, 4])]), (98, [(2, [0, 1, 7, 8])]), (106, [(9, [0, 2, 4, 7])]), (110, [(2, [0, 3])]), (112, [(2, [0, 3])]), (113, [(2, [0, 1, 5])]), (114, [(6, [0, 2, 4, 5])]), (122, [(2, [0, 1, 2, 7]), (5, [0, 1, 2, 7, 8, 9])]), (135, [(2, [0, 3])]), (139, [(3, [0, 7, 8, 9])]), (145, [(5, [0, 1, 2, 7, 8])]), (146, [(21, [0, 7, 10, 92, 93, 94])]), (154, [(6, [0, 1, 5]), (24, [0, 1, 9, 14])]), (164, [(2, [0, 3, 4])]), (168, [(3, [0, 1, 2, 7])]), (175, [(2, [0, 3])])]
def fns : List Nat := [3, 4, 5, 6, 7, 8, 9, 10, 11, 12, 13, 14, 15, 16, 17, 18, 19, 20, 21, 22, 23, 24, 25, 26, 27, 28, 29, 30, 31, 32, 33, 34, 35, 36, 37, 38, 39, 40, 43, 44, 45, 46, 47, 48, 49, 50, 58, 59, 60, 66, 67, 68, 69, 70, 71, 72, 73, 74, 79, 85, 86, 87, 88, 89, 90, 91, 92, 93, 94, 98, 99, 100, 101, 102, 103, 104, 105, 106, 109, 110, 111, 112, 113, 114, 115, 116, 122, 123, 124, 125, 128, 129, 130, 131, 132, 133, 134, 135, 138, 139, 140, 141, 142, 143, 144, 145, 146, 154, 155, 156, 157, 158, 164, 165, 166, 167, 168, 169, 170, 174, 175, 176, 177, 178]
def globs : List (Nat × (Obj → Prop)) := [(0, gTab .u64 Lib.pow10Tab), (6, gErr), (7, gErr), (5, gInt)]
def cfg : Cfg := mkCfg globs tab sigs hints fns
theorem prog_ok : ProgOK Tryz.prog cfg := progOK (by kernel_rfl) (by kernel_rfl)
end Go.Proofs.YtmgeeanbecmkbaaGreatDoor.Den
namespace Go.Proofs.YtmgeeanbecmkbaaGreatDoor.Den
open Go
def prims : List (PrimAt cfg) := [{ f := 27, p := pFormatInt },
  { f := 28, p := pWriteString },
  { f := 31, p := pString },
  { f := 38, p := pTrim },
  { f := 99, p := pCutPrefix },
  { f := 102, p := pParseInt },
  { f := 128, p := pTrimPrefix },
  { f := 130, p := pHasPrefix },
  { f := 144, p := pTrimLeft },
  { f := 156, p := pReplaceAll },
  { f := 158, p := pJoin },
  { f := 174, p := pCut }]
noncomputable def prs : Prims cfg := primsOf cfg prims
theorem prsEvt : PrimsEvt (C := cfg) prs := primsOf_evt _
noncomputable abbrev ENV : Env cfg := call cfg Tryz.prog prs
/-- loop.example/g00267/laws.FnExactCmdText -/
noncomputable def laws_FnExactCmdText (a0 : Cmd) : Option (Bool × Unit) := call cfg Tryz.prog prs 3 [.val tlaws_Cmd a0]
/-- loop.example/g00267/laws.szCmd -/
noncomputable def laws_szCmd (a0 : Cmd) (a1 : Int) : Option (Int × Unit) := call cfg Tryz.prog prs 4 [.val tlaws_Cmd a0, .val (.int .i64) a1]
/-- loop.example/g00267/spec.CmdText -/
noncomputable def spec_CmdText (a0 : Cmd) : Option (List UInt8 × Unit) := call cfg Tryz.prog prs 5 [.val timpl_Cmd a0]
/-- loop.example/g00267/laws.toCmd -/
noncomputable def laws_toCmd (a0 : Cmd) : Option (Cmd × Unit) := call cfg Tryz.prog prs 6 [.val tlaws_Cmd a0]
/-- loop.example/g00267/impl.CmdText -/
noncomputable def impl_CmdText (a0 : Cmd) : Option (List UInt8 × Unit) := call cfg Tryz.prog prs 7 [.val timpl_Cmd a0]
/-- loop.example/g00267/laws.eqCmd -/
noncomputable def laws_eqCmd (a0 : Cmd) (a1 : Cmd) : Option (Bool × Unit) := call cfg Tryz.prog prs 8 [.val timpl_Cmd a0, .val timpl_Cmd a1]
/-- loop.example/g00267/laws.szStmtS -/
noncomputable def laws_szStmtS (a0 : (List Stmt)) (a1 : Int) : Option (Int × Unit) := call cfg Tryz.prog prs 9 [.val (.slice 43 tlaws_Stmt) a0, .val (.int .i64) a1]
/-- loop.example/g00267/spec.l14CmdOk -/
noncomputable def spec_l14CmdOk (a0 : Cmd) : Option (Bool × Unit) := call cfg Tryz.prog prs 10 [.val timpl_Cmd a0]
/-- loop.example/g00267/spec.l1Dec -/
noncomputable def spec_l1Dec (a0 : Int) : Option (List UInt8 × Unit) := call cfg Tryz.prog prs 11 [.val (.int .i64) a0]
/-- loop.example/g00267/spec.MacroText -/
noncomputable def spec_MacroText (a0 : (List Stmt)) : Option (List UInt8 × Unit) := call cfg Tryz.prog prs 12 [.val (.slice 50 tlaws_Stmt) a0]
/-- loop.example/g00267/laws.toStmtS -/
noncomputable def laws_toStmtS (a0 : (List Stmt)) : Option ((List Stmt) × Unit) := call cfg Tryz.prog prs 13 [.val (.slice 43 tlaws_Stmt) a0]
/-- loop.example/g00267/impl.isCmd -/
noncomputable def impl_isCmd (a0 : Cmd) : Option (Bool × Unit) := call cfg Tryz.prog prs 14 [.val timpl_Cmd a0]
/-- loop.example/g00267/impl.decimal -/
noncomputable def impl_decimal (a0 : Int) : Option (List UInt8 × Unit) := call cfg Tryz.prog prs 15 [.val (.int .i64) a0]
/-- loop.example/g00267/impl.macroText -/
noncomputable def impl_macroText (a0 : (List Stmt)) : Option (List UInt8 × Unit) := call cfg Tryz.prog prs 16 [.val (.slice 50 tlaws_Stmt) a0]
/-- loop.example/g00267/laws.eqStmtS -/
noncomputable def laws_eqStmtS (a0 : (List Stmt)) (a1 : (List Stmt)) : Option (Bool × Unit) := call cfg Tryz.prog prs 17 [.val (.slice 50 tlaws_Stmt) a0, .val (.slice 50 tlaws_Stmt) a1]
/-- loop.example/g00267/laws.szStmt -/
noncomputable def laws_szStmt (a0 : Stmt) (a1 : Int) : Option (Int × Unit) := call cfg Tryz.prog prs 18 [.val tlaws_Stmt a0, .val (.int .i64) a1]
/-- loop.example/g00267/spec.l10Name -/
noncomputable def spec_l10Name (a0 : List UInt8) : Option (Bool × Unit) := call cfg Tryz.prog prs 19 [.val .str a0]
/-- loop.example/g00267/spec.l1In -/
noncomputable def spec_l1In (a0 : Int) (a1 : Int) (a2 : Int) : Option (Bool × Unit) := call cfg Tryz.prog prs 20 [.val (.int .i64) a0, .val (.int .i64) a1, .val (.int .i64) a2]
/-- loop.example/g00267/spec.MacroOk -/
noncomputable def spec_MacroOk (a0 : (List Stmt)) : Option (Bool × Unit) := call cfg Tryz.prog prs 21 [.val (.slice 50 tlaws_Stmt) a0]
/-- loop.example/g00267/spec.PlaceText -/
noncomputable def spec_PlaceText (a0 : Place) : Option (List UInt8 × Unit) := call cfg Tryz.prog prs 22 [.val timpl_Place a0]
/-- loop.example/g00267/laws.toStmt -/
noncomputable def laws_toStmt (a0 : Stmt) : Option (Stmt × Unit) := call cfg Tryz.prog prs 23 [.val tlaws_Stmt a0]
/-- loop.example/g00267/impl.isName -/
noncomputable def impl_isName (a0 : List UInt8) : Option (Bool × Unit) := call cfg Tryz.prog prs 24 [.val .str a0]
/-- loop.example/g00267/impl.isId -/
noncomputable def impl_isId (a0 : Int) : Option (Bool × Unit) := call cfg Tryz.prog prs 25 [.val (.int .i64) a0]
/-- loop.example/g00267/impl.MacroOk -/
noncomputable def impl_MacroOk (a0 : (List Stmt)) : Option (Bool × Unit) := call cfg Tryz.prog prs 26 [.val (.slice 50 tlaws_Stmt) a0]
/-- strconv.FormatInt -/
noncomputable def strconv_FormatInt (a0 : Int) (a1 : Int) : Option (List UInt8 × Unit) := call cfg Tryz.prog prs 27 [.val (.int .i64) a0, .val (.int .i64) a1]
/-- (*strings.Builder).WriteString -/
noncomputable def strings_Builder_WriteString (a0 : Builder) (a1 : List UInt8) : Option (Int × Bool × Builder × Unit) := call cfg Tryz.prog prs 28 [.io tstrings_Builder a0, .val .str a1]
/-- loop.example/g00267/impl.stmtWord -/
noncomputable def impl_stmtWord (a0 : Int) : Option (List UInt8 × Unit) := call cfg Tryz.prog prs 29 [.val (.int .i64) a0]
/-- loop.example/g00267/impl.refText -/
noncomputable def impl_refText (a0 : Ref) : Option (List UInt8 × Unit) := call cfg Tryz.prog prs 30 [.val tlaws_Ref a0]
/-- (*strings.Builder).String -/
noncomputable def strings_Builder_String (a0 : Builder) : Option (List UInt8 × Unit) := call cfg Tryz.prog prs 31 [.io tstrings_Builder a0]
/-- loop.example/g00267/laws.eqStmt -/
noncomputable def laws_eqStmt (a0 : Stmt) (a1 : Stmt) : Option (Bool × Unit) := call cfg Tryz.prog prs 32 [.val tlaws_Stmt a0, .val tlaws_Stmt a1]
/-- loop.example/g00267/spec.RefOk -/
noncomputable def spec_RefOk (a0 : Ref) : Option (Bool × Unit) := call cfg Tryz.prog prs 33 [.val tlaws_Ref a0]
/-- loop.example/g00267/spec.l11Formula -/
noncomputable def spec_l11Formula (a0 : List UInt8) : Option (Bool × Unit) := call cfg Tryz.prog prs 34 [.val .str a0]
/-- loop.example/g00267/spec.InputOf -/
noncomputable def spec_InputOf (a0 : List UInt8) : Option (List UInt8 × Bool × Unit) := call cfg Tryz.prog prs 35 [.val .str a0]
/-- loop.example/g00267/spec.ColText -/
noncomputable def spec_ColText (a0 : Int) : Option (List UInt8 × Unit) := call cfg Tryz.prog prs 36 [.val (.int .i64) a0]
/-- loop.example/g00267/laws.toRef -/
noncomputable def laws_toRef (a0 : Ref) : Option (Ref × Unit) := call cfg Tryz.prog prs 37 [.val tlaws_Ref a0]
/-- strings.Trim -/
noncomputable def strings_Trim (a0 : List UInt8) (a1 : List UInt8) : Option (List UInt8 × Unit) := call cfg Tryz.prog prs 38 [.val .str a0, .val .str a1]
/-- loop.example/g00267/impl.within -/
noncomputable def impl_within (a0 : Int) (a1 : Int) (a2 : Int) : Option (Bool × Unit) := call cfg Tryz.prog prs 39 [.val (.int .i64) a0, .val (.int .i64) a1, .val (.int .i64) a2]
/-- (loop.example/g00267/impl.Stmt).isStmt -/
noncomputable def impl_Stmt_isStmt (a0 : Stmt) (a1 : Int) (a2 : Int) : Option (Bool × Unit) := call cfg Tryz.prog prs 40 [.val tlaws_Stmt a0, .val (.int .i64) a1, .val (.int .i64) a2]
/-- loop.example/g00267/impl.PlaceText -/
noncomputable def impl_PlaceText (a0 : Place) : Option (List UInt8 × Unit) := call cfg Tryz.prog prs 43 [.val timpl_Place a0]
/-- loop.example/g00267/laws.eqRef -/
noncomputable def laws_eqRef (a0 : Ref) (a1 : Ref) : Option (Bool × Unit) := call cfg Tryz.prog prs 44 [.val tlaws_Ref a0, .val tlaws_Ref a1]
/-- loop.example/g00267/spec.l2Plain -/
noncomputable def spec_l2Plain (a0 : List UInt8) : Option (Bool × Unit) := call cfg Tryz.prog prs 45 [.val .str a0]
/-- loop.example/g00267/spec.ReadFormula -/
noncomputable def spec_ReadFormula (a0 : List UInt8) : Option ((List FNode) × Bool × Unit) := call cfg Tryz.prog prs 46 [.val .str a0]
/-- loop.example/g00267/spec.FormulaText -/
noncomputable def spec_FormulaText (a0 : (List FNode)) : Option (List UInt8 × Unit) := call cfg Tryz.prog prs 47 [.val (.slice 126 timpl_FNode) a0]
/-- loop.example/g00267/spec.l5Number -/
noncomputable def spec_l5Number (a0 : List UInt8) : Option (Value × Bool × Unit) := call cfg Tryz.prog prs 48 [.val .str a0]
/-- loop.example/g00267/spec.ValueText -/
noncomputable def spec_ValueText (a0 : Value) : Option (List UInt8 × Unit) := call cfg Tryz.prog prs 49 [.val timpl_Value a0]
/-- loop.example/g00267/spec.ReadValue -/
noncomputable def spec_ReadValue (a0 : List UInt8) : Option (Value × Bool × Unit) := call cfg Tryz.prog prs 50 [.val .str a0]
/-- loop.example/g00267/impl.RefOk -/
noncomputable def impl_RefOk (a0 : Ref) : Option (Bool × Unit) := call cfg Tryz.prog prs 58 [.val tlaws_Ref a0]
/-- loop.example/g00267/impl.isWritten -/
noncomputable def impl_isWritten (a0 : List UInt8) : Option (Bool × Unit) := call cfg Tryz.prog prs 59 [.val .str a0]
/-- loop.example/g00267/impl.isSource -/
noncomputable def impl_isSource (a0 : List UInt8) : Option (Bool × Unit) := call cfg Tryz.prog prs 60 [.val .str a0]
/-- loop.example/g00267/impl.ColText -/
noncomputable def impl_ColText (a0 : Int) : Option (List UInt8 × Unit) := call cfg Tryz.prog prs 66 [.val (.int .i64) a0]
/-- (*loop.example/g00267/spec.l3Rd).row -/
noncomputable def spec_l3Rd_row (a0 : l3Rd) (a1 : Int) : Option (Int × l3Rd × Unit) := call cfg Tryz.prog prs 67 [.io tspec_l3Rd a0, .val (.int .i64) a1]
/-- (*loop.example/g00267/spec.l3Rd).blanks -/
noncomputable def spec_l3Rd_blanks (a0 : l3Rd) : Option (l3Rd × Unit) := call cfg Tryz.prog prs 68 [.io tspec_l3Rd a0]
/-- loop.example/g00267/spec.FormulaOk -/
noncomputable def spec_FormulaOk (a0 : (List FNode)) : Option (Bool × Unit) := call cfg Tryz.prog prs 69 [.val (.slice 126 timpl_FNode) a0]
/-- loop.example/g00267/spec.l3Text -/
noncomputable def spec_l3Text (a0 : (List FNode)) (a1 : Int) (a2 : Int) : Option (List UInt8 × Unit) := call cfg Tryz.prog prs 70 [.val (.slice 126 timpl_FNode) a0, .val (.int .i64) a1, .val (.int .i64) a2]
/-- loop.example/g00267/spec.l1Int -/
noncomputable def spec_l1Int (a0 : List UInt8) (a1 : Int) : Option (Int × Bool × Unit) := call cfg Tryz.prog prs 71 [.val .str a0, .val (.int .i64) a1]
/-- loop.example/g00267/spec.ValueOk -/
noncomputable def spec_ValueOk (a0 : Value) : Option (Bool × Unit) := call cfg Tryz.prog prs 72 [.val timpl_Value a0]
/-- loop.example/g00267/spec.l2Bool -/
noncomputable def spec_l2Bool (a0 : Int) : Option (List UInt8 × Unit) := call cfg Tryz.prog prs 73 [.val (.int .i64) a0]
/-- loop.example/g00267/spec.l2Name -/
noncomputable def spec_l2Name (a0 : Int) : Option (List UInt8 × Unit) := call cfg Tryz.prog prs 74 [.val (.int .i64) a0]
/-- loop.example/g00267/impl.InputOf -/
noncomputable def impl_InputOf (a0 : List UInt8) : Option (List UInt8 × Bool × Unit) := call cfg Tryz.prog prs 79 [.val .str a0]
/-- (*loop.example/g00267/spec.l3Rd).one -/
noncomputable def spec_l3Rd_one (a0 : l3Rd) : Option (Int × l3Rd × Unit) := call cfg Tryz.prog prs 85 [.io tspec_l3Rd a0]
/-- (*loop.example/g00267/spec.l3Rd).op -/
noncomputable def spec_l3Rd_op (a0 : l3Rd) (a1 : Int) : Option (Int × l3Rd × Unit) := call cfg Tryz.prog prs 86 [.io tspec_l3Rd a0, .val (.int .i64) a1]
/-- (*loop.example/g00267/spec.l3Rd).add -/
noncomputable def spec_l3Rd_add (a0 : l3Rd) (a1 : FNode) : Option (Int × l3Rd × Unit) := call cfg Tryz.prog prs 87 [.io tspec_l3Rd a0, .val timpl_FNode a1]
/-- loop.example/g00267/spec.l3NodeOk -/
noncomputable def spec_l3NodeOk (a0 : FNode) : Option (Bool × Unit) := call cfg Tryz.prog prs 88 [.val timpl_FNode a0]
/-- loop.example/g00267/spec.l3Tree -/
noncomputable def spec_l3Tree (a0 : (List FNode)) (a1 : Int) : Option (Int × Unit) := call cfg Tryz.prog prs 89 [.val (.slice 126 timpl_FNode) a0, .val (.int .i64) a1]
/-- loop.example/g00267/spec.l3Deep -/
noncomputable def spec_l3Deep (a0 : (List FNode)) (a1 : Int) : Option (Int × Unit) := call cfg Tryz.prog prs 90 [.val (.slice 126 timpl_FNode) a0, .val (.int .i64) a1]
/-- loop.example/g00267/spec.l3Quote -/
noncomputable def spec_l3Quote (a0 : List UInt8) : Option (List UInt8 × Unit) := call cfg Tryz.prog prs 91 [.val .str a0]
/-- loop.example/g00267/spec.l3Level -/
noncomputable def spec_l3Level (a0 : Int) : Option (Int × Unit) := call cfg Tryz.prog prs 92 [.val (.int .i64) a0]
/-- loop.example/g00267/spec.l3Sign -/
noncomputable def spec_l3Sign (a0 : Int) : Option (List UInt8 × Unit) := call cfg Tryz.prog prs 93 [.val (.int .i64) a0]
/-- loop.example/g00267/spec.l3Fn -/
noncomputable def spec_l3Fn (a0 : Int) : Option (List UInt8 × Unit) := call cfg Tryz.prog prs 94 [.val (.int .i64) a0]
/-- loop.example/g00267/impl.isText -/
noncomputable def impl_isText (a0 : List UInt8) (a1 : Int) : Option (Bool × Unit) := call cfg Tryz.prog prs 98 [.val .str a0, .val (.int .i64) a1]
/-- strings.CutPrefix -/
noncomputable def strings_CutPrefix (a0 : List UInt8) (a1 : List UInt8) : Option (List UInt8 × Bool × Unit) := call cfg Tryz.prog prs 99 [.val .str a0, .val .str a1]
/-- loop.example/g00267/impl.ReadFormula -/
noncomputable def impl_ReadFormula (a0 : List UInt8) : Option ((List FNode) × Bool × Unit) := call cfg Tryz.prog prs 100 [.val .str a0]
/-- loop.example/g00267/impl.sourceOf -/
noncomputable def impl_sourceOf (a0 : (List FNode)) : Option (List UInt8 × Bool × Unit) := call cfg Tryz.prog prs 101 [.val (.slice 126 timpl_FNode) a0]
/-- strconv.ParseInt -/
noncomputable def strconv_ParseInt (a0 : List UInt8) (a1 : Int) (a2 : Int) : Option (Int × Bool × Unit) := call cfg Tryz.prog prs 102 [.val .str a0, .val (.int .i64) a1, .val (.int .i64) a2]
/-- loop.example/g00267/impl.isDigits -/
noncomputable def impl_isDigits (a0 : List UInt8) : Option (Bool × Unit) := call cfg Tryz.prog prs 103 [.val .str a0]
/-- loop.example/g00267/impl.ValueOk -/
noncomputable def impl_ValueOk (a0 : Value) : Option (Bool × Unit) := call cfg Tryz.prog prs 104 [.val timpl_Value a0]
/-- loop.example/g00267/impl.number -/
noncomputable def impl_number (a0 : Int) : Option (Value × Unit) := call cfg Tryz.prog prs 105 [.val (.int .i64) a0]
/-- loop.example/g00267/impl.ReadValue -/
noncomputable def impl_ReadValue (a0 : List UInt8) : Option (Value × Bool × Unit) := call cfg Tryz.prog prs 106 [.val .str a0]
/-- (*loop.example/g00267/spec.l3Rd).is -/
noncomputable def spec_l3Rd_is (a0 : l3Rd) (a1 : List UInt8) : Option (Bool × l3Rd × Unit) := call cfg Tryz.prog prs 109 [.io tspec_l3Rd a0, .val .str a1]
/-- (*loop.example/g00267/spec.l3Rd).text -/
noncomputable def spec_l3Rd_text (a0 : l3Rd) : Option (Int × l3Rd × Unit) := call cfg Tryz.prog prs 110 [.io tspec_l3Rd a0]
/-- loop.example/g00267/spec.l2Error -/
noncomputable def spec_l2Error (a0 : Int) : Option (Value × Unit) := call cfg Tryz.prog prs 111 [.val (.int .i64) a0]
/-- (*loop.example/g00267/spec.l3Rd).word -/
noncomputable def spec_l3Rd_word (a0 : l3Rd) : Option (List UInt8 × l3Rd × Unit) := call cfg Tryz.prog prs 112 [.io tspec_l3Rd a0]
/-- (*loop.example/g00267/spec.l3Rd).call -/
noncomputable def spec_l3Rd_call (a0 : l3Rd) (a1 : Int) : Option (Int × l3Rd × Unit) := call cfg Tryz.prog prs 113 [.io tspec_l3Rd a0, .val (.int .i64) a1]
/-- loop.example/g00267/spec.ReadPlace -/
noncomputable def spec_ReadPlace (a0 : List UInt8) : Option (Place × Bool × Unit) := call cfg Tryz.prog prs 114 [.val .str a0]
/-- loop.example/g00267/spec.AreaOk -/
noncomputable def spec_AreaOk (a0 : Area) : Option (Bool × Unit) := call cfg Tryz.prog prs 115 [.val timpl_Area a0]
/-- loop.example/g00267/spec.l3Args -/
noncomputable def spec_l3Args (a0 : Int) (a1 : Int) : Option (Bool × Unit) := call cfg Tryz.prog prs 116 [.val (.int .i64) a0, .val (.int .i64) a1]
/-- (*loop.example/g00267/impl.reader).binary -/
noncomputable def impl_reader_binary (a0 : reader) (a1 : Int) (a2 : Int) : Option (Int × reader × Unit) := call cfg Tryz.prog prs 122 [.io timpl_reader a0, .val (.int .i64) a1, .val (.int .i64) a2]
/-- (*loop.example/g00267/impl.reader).blanks -/
noncomputable def impl_reader_blanks (a0 : reader) : Option (reader × Unit) := call cfg Tryz.prog prs 123 [.io timpl_reader a0]
/-- loop.example/g00267/impl.FormulaOk -/
noncomputable def impl_FormulaOk (a0 : (List FNode)) : Option (Bool × Unit) := call cfg Tryz.prog prs 124 [.val (.slice 126 timpl_FNode) a0]
/-- loop.example/g00267/impl.FormulaText -/
noncomputable def impl_FormulaText (a0 : (List FNode)) : Option (List UInt8 × Unit) := call cfg Tryz.prog prs 125 [.val (.slice 126 timpl_FNode) a0]
/-- strings.TrimPrefix -/
noncomputable def strings_TrimPrefix (a0 : List UInt8) (a1 : List UInt8) : Option (List UInt8 × Unit) := call cfg Tryz.prog prs 128 [.val .str a0, .val .str a1]
/-- loop.example/g00267/impl.truth -/
noncomputable def impl_truth (a0 : Bool) : Option (Value × Unit) := call cfg Tryz.prog prs 129 [.val .bool a0]
/-- strings.HasPrefix -/
noncomputable def strings_HasPrefix (a0 : List UInt8) (a1 : List UInt8) : Option (Bool × Unit) := call cfg Tryz.prog prs 130 [.val .str a0, .val .str a1]
/-- loop.example/g00267/impl.errorText -/
noncomputable def impl_errorText (a0 : Int) : Option (List UInt8 × Unit) := call cfg Tryz.prog prs 131 [.val (.int .i64) a0]
/-- loop.example/g00267/impl.fault -/
noncomputable def impl_fault (a0 : Int) : Option (Value × Unit) := call cfg Tryz.prog prs 132 [.val (.int .i64) a0]
/-- loop.example/g00267/impl.valueText -/
noncomputable def impl_valueText (a0 : Value) : Option (List UInt8 × Unit) := call cfg Tryz.prog prs 133 [.val timpl_Value a0]
/-- (*loop.example/g00267/spec.l3Rd).arg -/
noncomputable def spec_l3Rd_arg (a0 : l3Rd) : Option (Int × l3Rd × Unit) := call cfg Tryz.prog prs 134 [.io tspec_l3Rd a0]
/-- loop.example/g00267/spec.ReadCol -/
noncomputable def spec_ReadCol (a0 : List UInt8) : Option (Int × Unit) := call cfg Tryz.prog prs 135 [.val .str a0]
/-- (*loop.example/g00267/impl.reader).unary -/
noncomputable def impl_reader_unary (a0 : reader) (a1 : Int) : Option (Int × reader × Unit) := call cfg Tryz.prog prs 138 [.io timpl_reader a0, .val (.int .i64) a1]
/-- (*loop.example/g00267/impl.reader).sign -/
noncomputable def impl_reader_sign (a0 : reader) : Option (List UInt8 × reader × Unit) := call cfg Tryz.prog prs 139 [.io timpl_reader a0]
/-- loop.example/g00267/impl.opText -/
noncomputable def impl_opText (a0 : Int) : Option (List UInt8 × Unit) := call cfg Tryz.prog prs 140 [.val (.int .i64) a0]
/-- loop.example/g00267/impl.binds -/
noncomputable def impl_binds (a0 : Int) : Option (Int × Unit) := call cfg Tryz.prog prs 141 [.val (.int .i64) a0]
/-- (*loop.example/g00267/impl.reader).take -/
noncomputable def impl_reader_take (a0 : reader) (a1 : List UInt8) : Option (Bool × reader × Unit) := call cfg Tryz.prog prs 142 [.io timpl_reader a0, .val .str a1]
/-- (*loop.example/g00267/impl.reader).put -/
noncomputable def impl_reader_put (a0 : reader) (a1 : FNode) : Option (Int × reader × Unit) := call cfg Tryz.prog prs 143 [.io timpl_reader a0, .val timpl_FNode a1]
/-- strings.TrimLeft -/
noncomputable def strings_TrimLeft (a0 : List UInt8) (a1 : List UInt8) : Option (List UInt8 × Unit) := call cfg Tryz.prog prs 144 [.val .str a0, .val .str a1]
/-- loop.example/g00267/impl.from -/
noncomputable def impl_from (a0 : (List FNode)) (a1 : Int) (a2 : Int) : Option (Int × Unit) := call cfg Tryz.prog prs 145 [.val (.slice 126 timpl_FNode) a0, .val (.int .i64) a1, .val (.int .i64) a2]
/-- loop.example/g00267/impl.formulaText -/
noncomputable def impl_formulaText (a0 : (List FNode)) (a1 : Int) (a2 : Int) : Option (List UInt8 × Unit) := call cfg Tryz.prog prs 146 [.val (.slice 126 timpl_FNode) a0, .val (.int .i64) a1, .val (.int .i64) a2]
/-- (*loop.example/g00267/impl.reader).atom -/
noncomputable def impl_reader_atom (a0 : reader) (a1 : Int) : Option (Int × reader × Unit) := call cfg Tryz.prog prs 154 [.io timpl_reader a0, .val (.int .i64) a1]
/-- (loop.example/g00267/impl.FNode).isOwn -/
noncomputable def impl_FNode_isOwn (a0 : FNode) : Option (Bool × Unit) := call cfg Tryz.prog prs 155 [.val timpl_FNode a0]
/-- strings.ReplaceAll -/
noncomputable def strings_ReplaceAll (a0 : List UInt8) (a1 : List UInt8) (a2 : List UInt8) : Option (List UInt8 × Unit) := call cfg Tryz.prog prs 156 [.val .str a0, .val .str a1, .val .str a2]
/-- loop.example/g00267/impl.fnText -/
noncomputable def impl_fnText (a0 : Int) : Option (List UInt8 × Unit) := call cfg Tryz.prog prs 157 [.val (.int .i64) a0]
/-- strings.Join -/
noncomputable def strings_Join (a0 : (List (List UInt8))) (a1 : List UInt8) : Option (List UInt8 × Unit) := call cfg Tryz.prog prs 158 [.val (.slice 9 .str) a0, .val .str a1]
/-- (*loop.example/g00267/impl.reader).quoted -/
noncomputable def impl_reader_quoted (a0 : reader) : Option (Int × reader × Unit) := call cfg Tryz.prog prs 164 [.io timpl_reader a0]
/-- (*loop.example/g00267/impl.reader).constant -/
noncomputable def impl_reader_constant (a0 : reader) (a1 : Value) : Option (Int × reader × Unit) := call cfg Tryz.prog prs 165 [.io timpl_reader a0, .val timpl_Value a1]
/-- (*loop.example/g00267/impl.reader).word -/
noncomputable def impl_reader_word (a0 : reader) : Option (List UInt8 × reader × Unit) := call cfg Tryz.prog prs 166 [.io timpl_reader a0]
/-- loop.example/g00267/impl.ReadPlace -/
noncomputable def impl_ReadPlace (a0 : List UInt8) : Option (Place × Bool × Unit) := call cfg Tryz.prog prs 167 [.val .str a0]
/-- (*loop.example/g00267/impl.reader).call -/
noncomputable def impl_reader_call (a0 : reader) (a1 : Int) (a2 : Int) : Option (Int × reader × Unit) := call cfg Tryz.prog prs 168 [.io timpl_reader a0, .val (.int .i64) a1, .val (.int .i64) a2]
/-- (loop.example/g00267/impl.FNode).isPlaced -/
noncomputable def impl_FNode_isPlaced (a0 : FNode) : Option (Bool × Unit) := call cfg Tryz.prog prs 169 [.val timpl_FNode a0]
/-- (loop.example/g00267/impl.FNode).kidsOk -/
noncomputable def impl_FNode_kidsOk (a0 : FNode) : Option (Bool × Unit) := call cfg Tryz.prog prs 170 [.val timpl_FNode a0]
/-- strings.Cut -/
noncomputable def strings_Cut (a0 : List UInt8) (a1 : List UInt8) : Option (List UInt8 × List UInt8 × Bool × Unit) := call cfg Tryz.prog prs 174 [.val .str a0, .val .str a1]
/-- loop.example/g00267/impl.ReadCol -/
noncomputable def impl_ReadCol (a0 : List UInt8) : Option (Int × Unit) := call cfg Tryz.prog prs 175 [.val .str a0]
/-- (*loop.example/g00267/impl.reader).areaHere -/
noncomputable def impl_reader_areaHere (a0 : reader) : Option (FNode × Bool × reader × Unit) := call cfg Tryz.prog prs 176 [.io timpl_reader a0]
/-- loop.example/g00267/impl.AreaOk -/
noncomputable def impl_AreaOk (a0 : Area) : Option (Bool × Unit) := call cfg Tryz.prog prs 177 [.val timpl_Area a0]
/-- (loop.example/g00267/impl.FNode).area -/
noncomputable def impl_FNode_area (a0 : FNode) : Option (Area × Unit) := call cfg Tryz.prog prs 178 [.val timpl_FNode a0]
theorem strconv_FormatInt.of (a0 : Int) (a1 : Int) : Runs (pFormatInt [.val (.int .i64) a0, .val (.int .i64) a1]) (strconv_FormatInt a0 a1) := Eq.mp (by kernel_rfl) (prim_runs (P := Tryz.prog) prsEvt 27 (fun _ xs => pFormatInt xs) [.val (.int .i64) a0, .val (.int .i64) a1] (by kernel_rfl))
theorem strings_Builder_WriteString.of (a0 : Builder) (a1 : List UInt8) : Runs (pWriteString [.io tstrings_Builder a0, .val .str a1]) (strings_Builder_WriteString a0 a1) := Eq.mp (by kernel_rfl) (prim_runs (P := Tryz.prog) prsEvt 28 (fun _ xs => pWriteString xs) [.io tstrings_Builder a0, .val .str a1] (by kernel_rfl))
theorem strings_Builder_String.of (a0 : Builder) : Runs (pString [.io tstrings_Builder a0]) (strings_Builder_String a0) := Eq.mp (by kernel_rfl) (prim_runs (P := Tryz.prog) prsEvt 31 (fun _ xs => pString xs) [.io tstrings_Builder a0] (by kernel_rfl))
theorem strings_Trim.of (a0 : List UInt8) (a1 : List UInt8) : Runs (pTrim [.val .str a0, .val .str a1]) (strings_Trim a0 a1) := Eq.mp (by kernel_rfl) (prim_runs (P := Tryz.prog) prsEvt 38 (fun _ xs => pTrim xs) [.val .str a0, .val .str a1] (by kernel_rfl))
theorem strings_CutPrefix.of (a0 : List UInt8) (a1 : List UInt8) : Runs (pCutPrefix [.val .str a0, .val .str a1]) (strings_CutPrefix a0 a1) := Eq.mp (by kernel_rfl) (prim_runs (P := Tryz.prog) prsEvt 99 (fun _ xs => pCutPrefix xs) [.val .str a0, .val .str a1] (by kernel_rfl))
theorem strconv_ParseInt.of (a0 : List UInt8) (a1 : Int) (a2 : Int) : Runs (pParseInt [.val .str a0, .val (.int .i64) a1, .val (.int .i64) a2]) (strconv_ParseInt a0 a1 a2) := Eq.mp (by kernel_rfl) (prim_runs (P := Tryz.prog) prsEvt 102 (fun _ xs => pParseInt xs) [.val .str a0, .val (.int .i64) a1, .val (.int .i64) a2] (by kernel_rfl))
theorem strings_TrimPrefix.of (a0 : List UInt8) (a1 : List UInt8) : Runs (pTrimPrefix [.val .str a0, .val .str a1]) (strings_TrimPrefix a0 a1) := Eq.mp (by kernel_rfl) (prim_runs (P := Tryz.prog) prsEvt 128 (fun _ xs => pTrimPrefix xs) [.val .str a0, .val .str a1] (by kernel_rfl))
theorem strings_HasPrefix.of (a0 : List UInt8) (a1 : List UInt8) : Runs (pHasPrefix [.val .str a0, .val .str a1]) (strings_HasPrefix a0 a1) := Eq.mp (by kernel_rfl) (prim_runs (P := Tryz.prog) prsEvt 130 (fun _ xs => pHasPrefix xs) [.val .str a0, .val .str a1] (by kernel_rfl))
theorem strings_TrimLeft.of (a0 : List UInt8) (a1 : List UInt8) : Runs (pTrimLeft [.val .str a0, .val .str a1]) (strings_TrimLeft a0 a1) := Eq.mp (by kernel_rfl) (prim_runs (P := Tryz.prog) prsEvt 144 (fun _ xs => pTrimLeft xs) [.val .str a0, .val .str a1] (by kernel_rfl))
theorem strings_ReplaceAll.of (a0 : List UInt8) (a1 : List UInt8) (a2 : List UInt8) : Runs (pReplaceAll [.val .str a0, .val .str a1, .val .str a2]) (strings_ReplaceAll a0 a1 a2) := Eq.mp (by kernel_rfl) (prim_runs (P := Tryz.prog) prsEvt 156 (fun _ xs => pReplaceAll xs) [.val .str a0, .val .str a1, .val .str a2] (by kernel_rfl))
theorem strings_Join.of (a0 : (List (List UInt8))) (a1 : List UInt8) : Runs (pJoin [.val (.slice 9 .str) a0, .val .str a1]) (strings_Join a0 a1) := Eq.mp (by kernel_rfl) (prim_runs (P := Tryz.prog) prsEvt 158 (fun _ xs => pJoin xs) [.val (.slice 9 .str) a0, .val .str a1] (by kernel_rfl))
theorem strings_Cut.of (a0 : List UInt8) (a1 : List UInt8) : Runs (pCut [.val .str a0, .val .str a1]) (strings_Cut a0 a1) := Eq.mp (by kernel_rfl) (prim_runs (P := Tryz.prog) prsEvt 174 (fun _ xs => pCut xs) [.val .str a0, .val .str a1] (by kernel_rfl))
end Go.Proofs.YtmgeeanbecmkbaaGreatDoor.Den
namespace Go.Proofs.YtmgeeanbecmkbaaGreatDoor.Den
open Go
set_option linter.unusedVariables false
noncomputable def laws_FnExactCmdText.B (n : Nat) (a0 : Cmd) : Option (Bool × Unit) :=
  (laws_szCmd a0 (1048576 : Int)).bind fun q1 => bif (decide (q1.1 < (0 : Int))) then some (true, ()) else (laws_toCmd a0).bind fun q2 => (spec_CmdText q2.1).bind fun q3 => (laws_toCmd a0).bind fun q4 => (impl_CmdText q4.1).bind fun q5 => bif (!(q5.1 == q3.1)) then some (false, ()) else (laws_toCmd a0).bind fun q6 => (laws_eqCmd q4.1 q6.1).bind fun q7 => bif (!q7.1) then some (false, ()) else some (true, ())
theorem laws_FnExactCmdText.of (n : Nat) (a0 : Cmd) : Runs (laws_FnExactCmdText.B n a0) (laws_FnExactCmdText a0) :=
  Eq.mp (by kernel_rfl) (call_runs (P := Tryz.prog) prsEvt n 3 Tryz.f3 [.val tlaws_Cmd a0] (by kernel_rfl) (by kernel_rfl))
noncomputable def laws_szCmd.B (n : Nat) (a0 : Cmd) (a1 : Int) : Option (Int × Unit) :=
  bif (decide ((IntKind.wrap .i64 (a1 - (a0.2.1.length : Int))) < (0 : Int))) then some ((-1 : Int), ()) else bif (decide ((IntKind.wrap .i64 ((IntKind.wrap .i64 (a1 - (a0.2.1.length : Int))) - (a0.2.2.1.length : Int))) < (0 : Int))) then some ((-1 : Int), ()) else (laws_szStmtS a0.2.2.2.2.1 (IntKind.wrap .i64 ((IntKind.wrap .i64 (a1 - (a0.2.1.length : Int))) - (a0.2.2.1.length : Int)))).bind fun q1 => bif (decide (q1.1 < (0 : Int))) then some ((-1 : Int), ()) else some (q1.1, ())
theorem laws_szCmd.of (n : Nat) (a0 : Cmd) (a1 : Int) : Runs (laws_szCmd.B n a0 a1) (laws_szCmd a0 a1) :=
  Eq.mp (by kernel_rfl) (call_runs (P := Tryz.prog) prsEvt n 4 Tryz.f4 [.val tlaws_Cmd a0, .val (.int .i64) a1] (by kernel_rfl) (by kernel_rfl))
noncomputable def spec_CmdText.B (n : Nat) (a0 : Cmd) : Option (List UInt8 × Unit) :=
  (spec_l14CmdOk a0).bind fun q1 => bif (!q1.1) then some (([] : List UInt8), ()) else bif (a0.1 == (1 : Int)) then (bif decide (([114, 117, 110, 32] : List UInt8).length + a0.2.1.length ≤ scap) then bif decide ((([114, 117, 110, 32] : List UInt8) ++ a0.2.1).length + ([32] : List UInt8).length ≤ scap) then (spec_l1Dec a0.2.2.2.1).bind fun q2 => bif decide (((([114, 117, 110, 32] : List UInt8) ++ a0.2.1) ++ ([32] : List UInt8)).length + q2.1.length ≤ scap) then bif decide ((((([114, 117, 110, 32] : List UInt8) ++ a0.2.1) ++ ([32] : List UInt8)) ++ q2.1).length + ([10] : List UInt8).length ≤ scap) then (spec_MacroText a0.2.2.2.2.1).bind fun q3 => bif decide (((((([114, 117, 110, 32] : List UInt8) ++ a0.2.1) ++ ([32] : List UInt8)) ++ q2.1) ++ ([10] : List UInt8)).length + q3.1.length ≤ scap) then some ((((((([114, 117, 110, 32] : List UInt8) ++ a0.2.1) ++ ([32] : List UInt8)) ++ q2.1) ++ ([10] : List UInt8)) ++ q3.1), ()) else none else none else none else none else none) else bif (a0.1 == (2 : Int)) then (bif decide (([98, 114, 97, 110, 99, 104, 32] : List UInt8).length + a0.2.1.length ≤ scap) then bif decide ((([98, 114, 97, 110, 99, 104, 32] : List UInt8) ++ a0.2.1).length + ([32] : List UInt8).length ≤ scap) then (spec_l1Dec a0.2.2.2.1).bind fun q4 => bif decide (((([98, 114, 97, 110, 99, 104, 32] : List UInt8) ++ a0.2.1) ++ ([32] : List UInt8)).length + q4.1.length ≤ scap) then bif decide ((((([98, 114, 97, 110, 99, 104, 32] : List UInt8) ++ a0.2.1) ++ ([32] : List UInt8)) ++ q4.1).length + ([10] : List UInt8).length ≤ scap) then some (((((([98, 114, 97, 110, 99, 104, 32] : List UInt8) ++ a0.2.1) ++ ([32] : List UInt8)) ++ q4.1) ++ ([10] : List UInt8)), ()) else none else none else none else none) else bif (a0.1 == (3 : Int)) then (bif decide (([109, 101, 114, 103, 101, 32] : List UInt8).length + a0.2.1.length ≤ scap) then bif decide ((([109, 101, 114, 103, 101, 32] : List UInt8) ++ a0.2.1).length + ([32] : List UInt8).length ≤ scap) then bif decide (((([109, 101, 114, 103, 101, 32] : List UInt8) ++ a0.2.1) ++ ([32] : List UInt8)).length + a0.2.2.1.length ≤ scap) then bif decide ((((([109, 101, 114, 103, 101, 32] : List UInt8) ++ a0.2.1) ++ ([32] : List UInt8)) ++ a0.2.2.1).length + ([10] : List UInt8).length ≤ scap) then some (((((([109, 101, 114, 103, 101, 32] : List UInt8) ++ a0.2.1) ++ ([32] : List UInt8)) ++ a0.2.2.1) ++ ([10] : List UInt8)), ()) else none else none else none else none) else some (([115, 119, 101, 101, 112, 10] : List UInt8), ())
theorem spec_CmdText.of (n : Nat) (a0 : Cmd) : Runs (spec_CmdText.B n a0) (spec_CmdText a0) :=
  Eq.mp (by kernel_rfl) (call_runs (P := Tryz.prog) prsEvt n 5 Tryz.f5 [.val timpl_Cmd a0] (by kernel_rfl) (by kernel_rfl))
noncomputable def laws_toCmd.B (n : Nat) (a0 : Cmd) : Option (Cmd × Unit) :=
  (laws_toStmtS a0.2.2.2.2.1).bind fun q1 => some ((a0.1, a0.2.1, a0.2.2.1, a0.2.2.2.1, q1.1, ()), ())
theorem laws_toCmd.of (n : Nat) (a0 : Cmd) : Runs (laws_toCmd.B n a0) (laws_toCmd a0) :=
  Eq.mp (by kernel_rfl) (call_runs (P := Tryz.prog) prsEvt n 6 Tryz.f6 [.val tlaws_Cmd a0] (by kernel_rfl) (by kernel_rfl))
noncomputable def impl_CmdText.B (n : Nat) (a0 : Cmd) : Option (List UInt8 × Unit) :=
  (impl_isCmd a0).bind fun q1 => bif (!q1.1) then some (([] : List UInt8), ()) else bif (a0.1 == (1 : Int)) then (bif decide (([114, 117, 110, 32] : List UInt8).length + a0.2.1.length ≤ scap) then bif decide ((([114, 117, 110, 32] : List UInt8) ++ a0.2.1).length + ([32] : List UInt8).length ≤ scap) then (impl_decimal a0.2.2.2.1).bind fun q2 => bif decide (((([114, 117, 110, 32] : List UInt8) ++ a0.2.1) ++ ([32] : List UInt8)).length + q2.1.length ≤ scap) then bif decide ((((([114, 117, 110, 32] : List UInt8) ++ a0.2.1) ++ ([32] : List UInt8)) ++ q2.1).length + ([10] : List UInt8).length ≤ scap) then (impl_macroText a0.2.2.2.2.1).bind fun q3 => bif decide (((((([114, 117, 110, 32] : List UInt8) ++ a0.2.1) ++ ([32] : List UInt8)) ++ q2.1) ++ ([10] : List UInt8)).length + q3.1.length ≤ scap) then some ((((((([114, 117, 110, 32] : List UInt8) ++ a0.2.1) ++ ([32] : List UInt8)) ++ q2.1) ++ ([10] : List UInt8)) ++ q3.1), ()) else none else none else none else none else none) else bif (a0.1 == (2 : Int)) then (bif decide (([98, 114, 97, 110, 99, 104, 32] : List UInt8).length + a0.2.1.length ≤ scap) then bif decide ((([98, 114, 97, 110, 99, 104, 32] : List UInt8) ++ a0.2.1).length + ([32] : List UInt8).length ≤ scap) then (impl_decimal a0.2.2.2.1).bind fun q4 => bif decide (((([98, 114, 97, 110, 99, 104, 32] : List UInt8) ++ a0.2.1) ++ ([32] : List UInt8)).length + q4.1.length ≤ scap) then bif decide ((((([98, 114, 97, 110, 99, 104, 32] : List UInt8) ++ a0.2.1) ++ ([32] : List UInt8)) ++ q4.1).length + ([10] : List UInt8).length ≤ scap) then some (((((([98, 114, 97, 110, 99, 104, 32] : List UInt8) ++ a0.2.1) ++ ([32] : List UInt8)) ++ q4.1) ++ ([10] : List UInt8)), ()) else none else none else none else none) else bif (a0.1 == (3 : Int)) then (bif decide (([109, 101, 114, 103, 101, 32] : List UInt8).length + a0.2.1.length ≤ scap) then bif decide ((([109, 101, 114, 103, 101, 32] : List UInt8) ++ a0.2.1).length + ([32] : List UInt8).length ≤ scap) then bif decide (((([109, 101, 114, 103, 101, 32] : List UInt8) ++ a0.2.1) ++ ([32] : List UInt8)).length + a0.2.2.1.length ≤ scap) then bif decide ((((([109, 101, 114, 103, 101, 32] : List UInt8) ++ a0.2.1) ++ ([32] : List UInt8)) ++ a0.2.2.1).length + ([10] : List UInt8).length ≤ scap) then some (((((([109, 101, 114, 103, 101, 32] : List UInt8) ++ a0.2.1) ++ ([32] : List UInt8)) ++ a0.2.2.1) ++ ([10] : List UInt8)), ()) else none else none else none else none) else some (([115, 119, 101, 101, 112, 10] : List UInt8), ())
theorem impl_CmdText.of (n : Nat) (a0 : Cmd) : Runs (impl_CmdText.B n a0) (impl_CmdText a0) :=
  Eq.mp (by kernel_rfl) (call_runs (P := Tryz.prog) prsEvt n 7 Tryz.f7 [.val timpl_Cmd a0] (by kernel_rfl) (by kernel_rfl))
noncomputable def laws_eqCmd.B (n : Nat) (a0 : Cmd) (a1 : Cmd) : Option (Bool × Unit) :=
  bif (a0.1 != a1.1) then some (false, ()) else bif (!(a0.2.1 == a1.2.1)) then some (false, ()) else bif (!(a0.2.2.1 == a1.2.2.1)) then some (false, ()) else bif (a0.2.2.2.1 != a1.2.2.2.1) then some (false, ()) else (laws_eqStmtS a0.2.2.2.2.1 a1.2.2.2.2.1).bind fun q1 => bif (!q1.1) then some (false, ()) else some (true, ())
theorem laws_eqCmd.of (n : Nat) (a0 : Cmd) (a1 : Cmd) : Runs (laws_eqCmd.B n a0 a1) (laws_eqCmd a0 a1) :=
  Eq.mp (by kernel_rfl) (call_runs (P := Tryz.prog) prsEvt n 8 Tryz.f8 [.val timpl_Cmd a0, .val timpl_Cmd a1] (by kernel_rfl) (by kernel_rfl))
noncomputable def laws_szStmtS.L0 (n : Nat) (m : Nat) (x0 : (List Stmt)) (x1 : Int) (x2 : Int) : Option (Int × Unit) :=
  loopAt cfg ENV n 9 Tryz.f9 [1, 1, 1, 0, 1, 0] [] 0 m { n := 27, vals := [(0, .dat ⟨(.slice 43 tlaws_Stmt), x0, .ro⟩), (1, .dat ⟨(.int .i64), x1, .ro⟩), (5, .dat ⟨(.int .i64), x2, .ro⟩)], boxes := [], nb := 0, vers := [], nid := 0, dr := false }
noncomputable def laws_szStmtS.J0 (n : Nat) (m : Nat) (x0 : Int) : Option (Int × Unit) :=
  some (x0, ())
theorem laws_szStmtS.L0_eq (n : Nat) (m : Nat) (x0 : (List Stmt)) (x1 : Int) (x2 : Int) : laws_szStmtS.L0 n (m + 1) x0 x1 x2 =
  bif (decide (x2 < (x0.length : Int))) then (idxC x0 x2 fun e1 => (laws_szStmt e1 x1).bind fun q2 => bif (decide (q2.1 < (0 : Int))) then some ((-1 : Int), ()) else laws_szStmtS.L0 n m x0 q2.1 (IntKind.wrap .i64 (x2 + (1 : Int)))) else laws_szStmtS.J0 n m x1 := by kernel_rfl
noncomputable def laws_szStmtS.B (n : Nat) (a0 : (List Stmt)) (a1 : Int) : Option (Int × Unit) :=
  bif (decide ((IntKind.wrap .i64 (a1 - (a0.length : Int))) < (0 : Int))) then some ((-1 : Int), ()) else laws_szStmtS.L0 n n a0 (IntKind.wrap .i64 (a1 - (a0.length : Int))) (0 : Int)
theorem laws_szStmtS.of (n : Nat) (a0 : (List Stmt)) (a1 : Int) : Runs (laws_szStmtS.B n a0 a1) (laws_szStmtS a0 a1) :=
  Eq.mp (by kernel_rfl) (call_runs (P := Tryz.prog) prsEvt n 9 Tryz.f9 [.val (.slice 43 tlaws_Stmt) a0, .val (.int .i64) a1] (by kernel_rfl) (by kernel_rfl))
noncomputable def spec_l14CmdOk.B (n : Nat) (a0 : Cmd) : Option (Bool × Unit) :=
  bif (a0.1 == (1 : Int)) then ((spec_l10Name a0.2.1).bind fun q1 => bif q1.1 then (bif (a0.2.2.1 == ([] : List UInt8)) then ((spec_l1In a0.2.2.2.1 (1 : Int) (1000000000 : Int)).bind fun q2 => bif q2.1 then ((spec_MacroOk a0.2.2.2.2.1).bind fun q3 => some (q3.1, ())) else some (false, ())) else some (false, ())) else some (false, ())) else bif (a0.1 == (2 : Int)) then ((spec_l10Name a0.2.1).bind fun q4 => bif q4.1 then (bif (a0.2.2.1 == ([] : List UInt8)) then ((spec_l1In a0.2.2.2.1 (1 : Int) (1000000000 : Int)).bind fun q5 => bif q5.1 then some (((a0.2.2.2.2.1.length : Int) == (0 : Int)), ()) else some (false, ())) else some (false, ())) else some (false, ())) else bif (a0.1 == (3 : Int)) then ((spec_l10Name a0.2.1).bind fun q6 => bif q6.1 then ((spec_l10Name a0.2.2.1).bind fun q7 => bif q7.1 then (bif (a0.2.2.2.1 == (0 : Int)) then some (((a0.2.2.2.2.1.length : Int) == (0 : Int)), ()) else some (false, ())) else some (false, ())) else some (false, ())) else bif (a0.1 == (4 : Int)) then (bif (a0.2.1 == ([] : List UInt8)) then (bif (a0.2.2.1 == ([] : List UInt8)) then (bif (a0.2.2.2.1 == (0 : Int)) then some (((a0.2.2.2.2.1.length : Int) == (0 : Int)), ()) else some (false, ())) else some (false, ())) else some (false, ())) else some (false, ())
theorem spec_l14CmdOk.of (n : Nat) (a0 : Cmd) : Runs (spec_l14CmdOk.B n a0) (spec_l14CmdOk a0) :=
  Eq.mp (by kernel_rfl) (call_runs (P := Tryz.prog) prsEvt n 10 Tryz.f10 [.val timpl_Cmd a0] (by kernel_rfl) (by kernel_rfl))
noncomputable def spec_l1Dec.L0 (n : Nat) (m : Nat) (x0 : Int) (x1 : List UInt8) : Option (List UInt8 × Unit) :=
  loopAt cfg ENV n 11 Tryz.f11 [1, 1, 1, 0, 0] [] 0 m { n := 29, vals := [(0, .dat ⟨(.int .i64), x0, .ro⟩), (3, .dat ⟨.str, x1, .ro⟩)], boxes := [], nb := 0, vers := [], nid := 0, dr := false }
noncomputable def spec_l1Dec.J0 (n : Nat) (m : Nat) (x0 : Int) (x1 : List UInt8) : Option (List UInt8 × Unit) :=
  bif decide ((([(IntKind.wrap .u8 (IntKind.wrap .i64 ((48 : Int) + x0)))] : (List Int)).map fun n => UInt8.ofNat n.toNat).length + x1.length ≤ scap) then some (((([(IntKind.wrap .u8 (IntKind.wrap .i64 ((48 : Int) + x0)))] : (List Int)).map fun n => UInt8.ofNat n.toNat) ++ x1), ()) else none
theorem spec_l1Dec.L0_eq (n : Nat) (m : Nat) (x0 : Int) (x1 : List UInt8) : spec_l1Dec.L0 n (m + 1) x0 x1 =
  bif (decide (x0 ≥ (10 : Int))) then (bif decide ((([(IntKind.wrap .u8 (IntKind.wrap .i64 ((48 : Int) + (x0.tmod (10 : Int)))))] : (List Int)).map fun n => UInt8.ofNat n.toNat).length + x1.length ≤ scap) then spec_l1Dec.L0 n m (IntKind.wrap .i64 (x0.tdiv (10 : Int))) ((([(IntKind.wrap .u8 (IntKind.wrap .i64 ((48 : Int) + (x0.tmod (10 : Int)))))] : (List Int)).map fun n => UInt8.ofNat n.toNat) ++ x1) else none) else spec_l1Dec.J0 n m x0 x1 := by kernel_rfl
noncomputable def spec_l1Dec.B (n : Nat) (a0 : Int) : Option (List UInt8 × Unit) :=
  bif (decide (a0 < (0 : Int))) then ((spec_l1Dec (IntKind.wrap .i64 (0 - a0))).bind fun q1 => bif decide (([45] : List UInt8).length + q1.1.length ≤ scap) then some ((([45] : List UInt8) ++ q1.1), ()) else none) else spec_l1Dec.L0 n n a0 ([] : List UInt8)
theorem spec_l1Dec.of (n : Nat) (a0 : Int) : Runs (spec_l1Dec.B n a0) (spec_l1Dec a0) :=
  Eq.mp (by kernel_rfl) (call_runs (P := Tryz.prog) prsEvt n 11 Tryz.f11 [.val (.int .i64) a0] (by kernel_rfl) (by kernel_rfl))
noncomputable def spec_MacroText.L0 (n : Nat) (m : Nat) (x0 : (List Stmt)) (x1 : List UInt8) (x2 : Int) : Option (List UInt8 × Unit) :=
  loopAt cfg ENV n 12 Tryz.f12 [1, 1, 1, 0, 1, 0] [] 0 m { n := 80, vals := [(0, .dat ⟨(.slice 50 tlaws_Stmt), x0, .ro⟩), (3, .dat ⟨.str, x1, .ro⟩), (4, .dat ⟨(.int .i64), x2, .ro⟩)], boxes := [], nb := 0, vers := [], nid := 0, dr := false }
noncomputable def spec_MacroText.J0 (n : Nat) (m : Nat) (x0 : List UInt8) : Option (List UInt8 × Unit) :=
  some (x0, ())
theorem spec_MacroText.L0_eq (n : Nat) (m : Nat) (x0 : (List Stmt)) (x1 : List UInt8) (x2 : Int) : spec_MacroText.L0 n (m + 1) x0 x1 x2 =
  bif (decide (x2 < (x0.length : Int))) then (idxC x0 x2 fun e2 => (spec_PlaceText (e2.2.1, false, false, ())).bind fun q3 => bif (e2.1 == (1 : Int)) then (bif decide (x1.length + ([115, 101, 116, 32] : List UInt8).length ≤ scap) then bif decide ((x1 ++ ([115, 101, 116, 32] : List UInt8)).length + q3.1.length ≤ scap) then bif decide (((x1 ++ ([115, 101, 116, 32] : List UInt8)) ++ q3.1).length + ([32] : List UInt8).length ≤ scap) then bif decide ((((x1 ++ ([115, 101, 116, 32] : List UInt8)) ++ q3.1) ++ ([32] : List UInt8)).length + e2.2.2.1.length ≤ scap) then bif decide (((((x1 ++ ([115, 101, 116, 32] : List UInt8)) ++ q3.1) ++ ([32] : List UInt8)) ++ e2.2.2.1).length + ([10] : List UInt8).length ≤ scap) then spec_MacroText.L0 n m x0 (((((x1 ++ ([115, 101, 116, 32] : List UInt8)) ++ q3.1) ++ ([32] : List UInt8)) ++ e2.2.2.1) ++ ([10] : List UInt8)) (IntKind.wrap .i64 (x2 + (1 : Int))) else none else none else none else none else none) else bif (e2.1 == (2 : Int)) then (bif decide (x1.length + ([112, 117, 116, 32] : List UInt8).length ≤ scap) then bif decide ((x1 ++ ([112, 117, 116, 32] : List UInt8)).length + q3.1.length ≤ scap) then bif decide (((x1 ++ ([112, 117, 116, 32] : List UInt8)) ++ q3.1).length + ([32] : List UInt8).length ≤ scap) then bif decide ((((x1 ++ ([112, 117, 116, 32] : List UInt8)) ++ q3.1) ++ ([32] : List UInt8)).length + e2.2.2.1.length ≤ scap) then bif decide (((((x1 ++ ([112, 117, 116, 32] : List UInt8)) ++ q3.1) ++ ([32] : List UInt8)) ++ e2.2.2.1).length + ([10] : List UInt8).length ≤ scap) then spec_MacroText.L0 n m x0 (((((x1 ++ ([112, 117, 116, 32] : List UInt8)) ++ q3.1) ++ ([32] : List UInt8)) ++ e2.2.2.1) ++ ([10] : List UInt8)) (IntKind.wrap .i64 (x2 + (1 : Int))) else none else none else none else none else none) else bif (e2.1 == (3 : Int)) then (bif decide (x1.length + ([117, 110, 108, 101, 115, 115, 32] : List UInt8).length ≤ scap) then (spec_l1Dec e2.2.2.2.1).bind fun q4 => bif decide ((x1 ++ ([117, 110, 108, 101, 115, 115, 32] : List UInt8)).length + q4.1.length ≤ scap) then bif decide (((x1 ++ ([117, 110, 108, 101, 115, 115, 32] : List UInt8)) ++ q4.1).length + ([32] : List UInt8).length ≤ scap) then bif decide ((((x1 ++ ([117, 110, 108, 101, 115, 115, 32] : List UInt8)) ++ q4.1) ++ ([32] : List UInt8)).length + e2.2.2.1.length ≤ scap) then bif decide (((((x1 ++ ([117, 110, 108, 101, 115, 115, 32] : List UInt8)) ++ q4.1) ++ ([32] : List UInt8)) ++ e2.2.2.1).length + ([10] : List UInt8).length ≤ scap) then spec_MacroText.L0 n m x0 (((((x1 ++ ([117, 110, 108, 101, 115, 115, 32] : List UInt8)) ++ q4.1) ++ ([32] : List UInt8)) ++ e2.2.2.1) ++ ([10] : List UInt8)) (IntKind.wrap .i64 (x2 + (1 : Int))) else none else none else none else none else none) else bif (e2.1 == (4 : Int)) then (bif decide (x1.length + ([119, 104, 105, 108, 101, 32] : List UInt8).length ≤ scap) then (spec_l1Dec e2.2.2.2.1).bind fun q5 => bif decide ((x1 ++ ([119, 104, 105, 108, 101, 32] : List UInt8)).length + q5.1.length ≤ scap) then bif decide (((x1 ++ ([119, 104, 105, 108, 101, 32] : List UInt8)) ++ q5.1).length + ([32] : List UInt8).length ≤ scap) then bif decide ((((x1 ++ ([119, 104, 105, 108, 101, 32] : List UInt8)) ++ q5.1) ++ ([32] : List UInt8)).length + e2.2.2.1.length ≤ scap) then bif decide (((((x1 ++ ([119, 104, 105, 108, 101, 32] : List UInt8)) ++ q5.1) ++ ([32] : List UInt8)) ++ e2.2.2.1).length + ([10] : List UInt8).length ≤ scap) then spec_MacroText.L0 n m x0 (((((x1 ++ ([119, 104, 105, 108, 101, 32] : List UInt8)) ++ q5.1) ++ ([32] : List UInt8)) ++ e2.2.2.1) ++ ([10] : List UInt8)) (IntKind.wrap .i64 (x2 + (1 : Int))) else none else none else none else none else none) else bif (e2.1 == (5 : Int)) then (bif decide (x1.length + ([97, 98, 111, 114, 116, 32] : List UInt8).length ≤ scap) then bif decide ((x1 ++ ([97, 98, 111, 114, 116, 32] : List UInt8)).length + e2.2.2.1.length ≤ scap) then bif decide (((x1 ++ ([97, 98, 111, 114, 116, 32] : List UInt8)) ++ e2.2.2.1).length + ([10] : List UInt8).length ≤ scap) then spec_MacroText.L0 n m x0 (((x1 ++ ([97, 98, 111, 114, 116, 32] : List UInt8)) ++ e2.2.2.1) ++ ([10] : List UInt8)) (IntKind.wrap .i64 (x2 + (1 : Int))) else none else none else none) else bif decide (x1.length + ([10] : List UInt8).length ≤ scap) then spec_MacroText.L0 n m x0 (x1 ++ ([10] : List UInt8)) (IntKind.wrap .i64 (x2 + (1 : Int))) else none) else spec_MacroText.J0 n m x1 := by kernel_rfl
noncomputable def spec_MacroText.B (n : Nat) (a0 : (List Stmt)) : Option (List UInt8 × Unit) :=
  (spec_MacroOk a0).bind fun q1 => bif (!q1.1) then some (([] : List UInt8), ()) else spec_MacroText.L0 n n a0 ([] : List UInt8) (0 : Int)
theorem spec_MacroText.of (n : Nat) (a0 : (List Stmt)) : Runs (spec_MacroText.B n a0) (spec_MacroText a0) :=
  Eq.mp (by kernel_rfl) (call_runs (P := Tryz.prog) prsEvt n 12 Tryz.f12 [.val (.slice 50 tlaws_Stmt) a0] (by kernel_rfl) (by kernel_rfl))
noncomputable def laws_toStmtS.L0 (n : Nat) (m : Nat) (x0 : (List Stmt)) (x1 : Int) (x2 : (List Stmt)) : Option ((List Stmt) × Unit) :=
  loopAt cfg ENV n 13 Tryz.f13 [1, 1, 0, 1, 0] [] 1 m { n := 23, vals := [(0, .dat ⟨(.slice 43 tlaws_Stmt), x0, .ro⟩), (3, .marr 0), (4, .dat ⟨(.int .i64), x1, .ro⟩)], boxes := [(0, .arr 50 tlaws_Stmt x2)], nb := 1, vers := [], nid := 0, dr := false }
noncomputable def laws_toStmtS.J0 (n : Nat) (m : Nat) (x0 : (List Stmt)) : Option ((List Stmt) × Unit) :=
  some (x0, ())
theorem laws_toStmtS.L0_eq (n : Nat) (m : Nat) (x0 : (List Stmt)) (x1 : Int) (x2 : (List Stmt)) : laws_toStmtS.L0 n (m + 1) x0 x1 x2 =
  bif (decide (x1 < (x0.length : Int))) then (idxC x0 x1 fun e1 => (laws_toStmt e1).bind fun q2 => bif decide (0 ≤ x1) && decide (x1 < (x2.length : Int)) then laws_toStmtS.L0 n m x0 (IntKind.wrap .i64 (x1 + (1 : Int))) (x2.set x1.toNat q2.1) else none) else laws_toStmtS.J0 n m x2 := by kernel_rfl
noncomputable def laws_toStmtS.B (n : Nat) (a0 : (List Stmt)) : Option ((List Stmt) × Unit) :=
  bif decide (0 ≤ (a0.length : Int)) && decide ((a0.length : Int) ≤ (cap : Int)) && decide ((a0.length : Int) = (a0.length : Int)) then laws_toStmtS.L0 n n a0 (0 : Int) (List.replicate (a0.length : Int).toNat ((0 : Int), ((0 : Int), (0 : Int), ()), ([] : List UInt8), (0 : Int), ())) else none
theorem laws_toStmtS.of (n : Nat) (a0 : (List Stmt)) : Runs (laws_toStmtS.B n a0) (laws_toStmtS a0) :=
  Eq.mp (by kernel_rfl) (call_runs (P := Tryz.prog) prsEvt n 13 Tryz.f13 [.val (.slice 43 tlaws_Stmt) a0] (by kernel_rfl) (by kernel_rfl))
noncomputable def impl_isCmd.B (n : Nat) (a0 : Cmd) : Option (Bool × Unit) :=
  bif (a0.1 == (1 : Int)) then ((impl_isName a0.2.1).bind fun q1 => bif q1.1 then (bif (a0.2.2.1 == ([] : List UInt8)) then ((impl_isId a0.2.2.2.1).bind fun q2 => bif q2.1 then ((impl_MacroOk a0.2.2.2.2.1).bind fun q3 => some (q3.1, ())) else some (false, ())) else some (false, ())) else some (false, ())) else bif (a0.1 == (2 : Int)) then ((impl_isName a0.2.1).bind fun q4 => bif q4.1 then (bif (a0.2.2.1 == ([] : List UInt8)) then ((impl_isId a0.2.2.2.1).bind fun q5 => bif q5.1 then some (((a0.2.2.2.2.1.length : Int) == (0 : Int)), ()) else some (false, ())) else some (false, ())) else some (false, ())) else bif (a0.1 == (3 : Int)) then ((impl_isName a0.2.1).bind fun q6 => bif q6.1 then ((impl_isName a0.2.2.1).bind fun q7 => bif q7.1 then (bif (a0.2.2.2.1 == (0 : Int)) then some (((a0.2.2.2.2.1.length : Int) == (0 : Int)), ()) else some (false, ())) else some (false, ())) else some (false, ())) else bif (a0.1 == (4 : Int)) then (bif (a0.2.1 == ([] : List UInt8)) then (bif (a0.2.2.1 == ([] : List UInt8)) then (bif (a0.2.2.2.1 == (0 : Int)) then some (((a0.2.2.2.2.1.length : Int) == (0 : Int)), ()) else some (false, ())) else some (false, ())) else some (false, ())) else some (false, ())
theorem impl_isCmd.of (n : Nat) (a0 : Cmd) : Runs (impl_isCmd.B n a0) (impl_isCmd a0) :=
  Eq.mp (by kernel_rfl) (call_runs (P := Tryz.prog) prsEvt n 14 Tryz.f14 [.val timpl_Cmd a0] (by kernel_rfl) (by kernel_rfl))
noncomputable def impl_decimal.B (n : Nat) (a0 : Int) : Option (List UInt8 × Unit) :=
  (strconv_FormatInt a0 (10 : Int)).bind fun q1 => some (q1.1, ())
theorem impl_decimal.of (n : Nat) (a0 : Int) : Runs (impl_decimal.B n a0) (impl_decimal a0) :=
  Eq.mp (by kernel_rfl) (call_runs (P := Tryz.prog) prsEvt n 15 Tryz.f15 [.val (.int .i64) a0] (by kernel_rfl) (by kernel_rfl))
noncomputable def impl_macroText.L0 (n : Nat) (m : Nat) (x0 : (List Stmt)) (x1 : Int) (x2 : Int) (x3 : Bool) (x4 : (List Int)) : Option (List UInt8 × Unit) :=
  loopAt cfg ENV n 16 Tryz.f16 [1, 1, 0, 1, 0] [] 1 m { n := 42, vals := [(3, .loc 0 [] tstrings_Builder), (7, .dat ⟨(.slice 50 tlaws_Stmt), x0, .ro⟩), (8, .dat ⟨(.int .i64), x1, .ro⟩), (9, .dat ⟨(.int .i64), x2, .ro⟩)], boxes := [(0, .fld 59 [⟨.ptr, x3, .ro⟩, ⟨(.slice 5 (.int .u8)), x4, (.own 0 0)⟩])], nb := 1, vers := [(0, 0)], nid := 1, dr := false }
noncomputable def impl_macroText.J1 (n : Nat) (m : Nat) (x0 : (List Stmt)) (x1 : Int) (x2 : Int) (x3 : Int) (x4 : Ref) (x5 : List UInt8) (x6 : Int) (x7 : Bool) (x8 : (List Int)) : Option (List UInt8 × Unit) :=
  bif decide (x5.length + ([10] : List UInt8).length ≤ scap) then (strings_Builder_WriteString (x7, x8, ()) (x5 ++ ([10] : List UInt8))).bind fun q6 => impl_macroText.L0 n m x0 x1 (IntKind.wrap .i64 (x2 + (1 : Int))) q6.2.2.1.1 q6.2.2.1.2.1 else none
noncomputable def impl_macroText.J2 (n : Nat) (m : Nat) (x0 : (List Stmt)) (x1 : Int) (x2 : Int) (x3 : Bool) (x4 : Int) (x5 : Ref) (x6 : List UInt8) (x7 : Int) (x8 : Bool) (x9 : (List Int)) : Option (List UInt8 × Unit) :=
  bif x3 then ((impl_decimal x7).bind fun q7 => bif decide (q7.1.length + ([32] : List UInt8).length ≤ scap) then (strings_Builder_WriteString (x8, x9, ()) (q7.1 ++ ([32] : List UInt8))).bind fun q8 => impl_macroText.J1 n m x0 x1 x2 x4 x5 x6 x7 q8.2.2.1.1 q8.2.2.1.2.1 else none) else impl_macroText.J1 n m x0 x1 x2 x4 x5 x6 x7 x8 x9
noncomputable def impl_macroText.J0 (n : Nat) (m : Nat) (x0 : (List Stmt)) (x1 : Int) (x2 : Int) (x3 : Int) (x4 : Bool) (x5 : Int) (x6 : Ref) (x7 : List UInt8) (x8 : Int) (x9 : Bool) (x10 : (List Int)) : Option (List UInt8 × Unit) :=
  bif x4 then ((impl_refText x6).bind fun q4 => bif decide (q4.1.length + ([32] : List UInt8).length ≤ scap) then (strings_Builder_WriteString (x9, x10, ()) (q4.1 ++ ([32] : List UInt8))).bind fun q5 => impl_macroText.J1 n m x0 x1 x2 x5 x6 x7 x8 q5.2.2.1.1 q5.2.2.1.2.1 else none) else bif (x3 == (3 : Int)) then (impl_macroText.J2 n m x0 x1 x2 true x5 x6 x7 x8 x9 x10) else impl_macroText.J2 n m x0 x1 x2 (x3 == (4 : Int)) x5 x6 x7 x8 x9 x10
noncomputable def impl_macroText.J3 (n : Nat) (m : Nat) (x0 : Bool) (x1 : (List Int)) : Option (List UInt8 × Unit) :=
  (strings_Builder_String (x0, x1, ())).bind fun q9 => some (q9.1, ())
theorem impl_macroText.L0_eq (n : Nat) (m : Nat) (x0 : (List Stmt)) (x1 : Int) (x2 : Int) (x3 : Bool) (x4 : (List Int)) : impl_macroText.L0 n (m + 1) x0 x1 x2 x3 x4 =
  bif (decide (x2 < x1)) then (idxC x0 x2 fun e1 => (impl_stmtWord e1.1).bind fun q2 => bif decide (q2.1.length + ([32] : List UInt8).length ≤ scap) then (strings_Builder_WriteString (x3, x4, ()) (q2.1 ++ ([32] : List UInt8))).bind fun q3 => bif (e1.1 == (1 : Int)) then (impl_macroText.J0 n m x0 x1 x2 e1.1 true e1.1 e1.2.1 e1.2.2.1 e1.2.2.2.1 q3.2.2.1.1 q3.2.2.1.2.1) else impl_macroText.J0 n m x0 x1 x2 e1.1 (e1.1 == (2 : Int)) e1.1 e1.2.1 e1.2.2.1 e1.2.2.2.1 q3.2.2.1.1 q3.2.2.1.2.1 else none) else impl_macroText.J3 n m x3 x4 := by kernel_rfl
noncomputable def impl_macroText.B (n : Nat) (a0 : (List Stmt)) : Option (List UInt8 × Unit) :=
  impl_macroText.L0 n n a0 (a0.length : Int) (0 : Int) true ([])
theorem impl_macroText.of (n : Nat) (a0 : (List Stmt)) : Runs (impl_macroText.B n a0) (impl_macroText a0) :=
  Eq.mp (by kernel_rfl) (call_runs (P := Tryz.prog) prsEvt n 16 Tryz.f16 [.val (.slice 50 tlaws_Stmt) a0] (by kernel_rfl) (by kernel_rfl))
noncomputable def laws_eqStmtS.L0 (n : Nat) (m : Nat) (x0 : (List Stmt)) (x1 : (List Stmt)) (x2 : Int) : Option (Bool × Unit) :=
  loopAt cfg ENV n 17 Tryz.f17 [1, 1, 0, 1, 0] [] 0 m { n := 27, vals := [(0, .dat ⟨(.slice 50 tlaws_Stmt), x0, .ro⟩), (1, .dat ⟨(.slice 50 tlaws_Stmt), x1, .ro⟩), (5, .dat ⟨(.int .i64), x2, .ro⟩)], boxes := [], nb := 0, vers := [], nid := 0, dr := false }
noncomputable def laws_eqStmtS.J0 (n : Nat) (m : Nat) : Option (Bool × Unit) :=
  some (true, ())
theorem laws_eqStmtS.L0_eq (n : Nat) (m : Nat) (x0 : (List Stmt)) (x1 : (List Stmt)) (x2 : Int) : laws_eqStmtS.L0 n (m + 1) x0 x1 x2 =
  bif (decide (x2 < (x0.length : Int))) then (idxC x0 x2 fun e1 => idxC x1 x2 fun e2 => (laws_eqStmt e1 e2).bind fun q3 => bif (!q3.1) then some (false, ()) else laws_eqStmtS.L0 n m x0 x1 (IntKind.wrap .i64 (x2 + (1 : Int)))) else laws_eqStmtS.J0 n m := by kernel_rfl
noncomputable def laws_eqStmtS.B (n : Nat) (a0 : (List Stmt)) (a1 : (List Stmt)) : Option (Bool × Unit) :=
  bif ((a0.length : Int) != (a1.length : Int)) then some (false, ()) else laws_eqStmtS.L0 n n a0 a1 (0 : Int)
theorem laws_eqStmtS.of (n : Nat) (a0 : (List Stmt)) (a1 : (List Stmt)) : Runs (laws_eqStmtS.B n a0 a1) (laws_eqStmtS a0 a1) :=
  Eq.mp (by kernel_rfl) (call_runs (P := Tryz.prog) prsEvt n 17 Tryz.f17 [.val (.slice 50 tlaws_Stmt) a0, .val (.slice 50 tlaws_Stmt) a1] (by kernel_rfl) (by kernel_rfl))
noncomputable def laws_szStmt.B (n : Nat) (a0 : Stmt) (a1 : Int) : Option (Int × Unit) :=
  bif (decide ((IntKind.wrap .i64 (a1 - (a0.2.2.1.length : Int))) < (0 : Int))) then some ((-1 : Int), ()) else some ((IntKind.wrap .i64 (a1 - (a0.2.2.1.length : Int))), ())
theorem laws_szStmt.of (n : Nat) (a0 : Stmt) (a1 : Int) : Runs (laws_szStmt.B n a0 a1) (laws_szStmt a0 a1) :=
  Eq.mp (by kernel_rfl) (call_runs (P := Tryz.prog) prsEvt n 18 Tryz.f18 [.val tlaws_Stmt a0, .val (.int .i64) a1] (by kernel_rfl) (by kernel_rfl))
noncomputable def spec_l10Name.L0 (n : Nat) (m : Nat) (x0 : List UInt8) (x1 : Int) : Option (Bool × Unit) :=
  loopAt cfg ENV n 19 Tryz.f19 [1, 1, 0, 1, 0] [] 0 m { n := 28, vals := [(0, .dat ⟨.str, x0, .ro⟩), (3, .dat ⟨(.int .i64), x1, .ro⟩)], boxes := [], nb := 0, vers := [], nid := 0, dr := false }
noncomputable def spec_l10Name.J0 (n : Nat) (m : Nat) : Option (Bool × Unit) :=
  some (true, ())
theorem spec_l10Name.L0_eq (n : Nat) (m : Nat) (x0 : List UInt8) (x1 : Int) : spec_l10Name.L0 n (m + 1) x0 x1 =
  bif (decide (x1 < (x0.length : Int))) then (idxC x0 x1 fun e1 => bif (decide ((e1.toNat : Int) < (97 : Int))) then some (false, ()) else idxC x0 x1 fun e2 => bif (decide ((e2.toNat : Int) > (122 : Int))) then some (false, ()) else spec_l10Name.L0 n m x0 (IntKind.wrap .i64 (x1 + (1 : Int)))) else spec_l10Name.J0 n m := by kernel_rfl
noncomputable def spec_l10Name.B (n : Nat) (a0 : List UInt8) : Option (Bool × Unit) :=
  bif (decide ((a0.length : Int) < (1 : Int))) then some (false, ()) else bif (decide ((a0.length : Int) > (12 : Int))) then some (false, ()) else spec_l10Name.L0 n n a0 (0 : Int)
theorem spec_l10Name.of (n : Nat) (a0 : List UInt8) : Runs (spec_l10Name.B n a0) (spec_l10Name a0) :=
  Eq.mp (by kernel_rfl) (call_runs (P := Tryz.prog) prsEvt n 19 Tryz.f19 [.val .str a0] (by kernel_rfl) (by kernel_rfl))
noncomputable def spec_l1In.B (n : Nat) (a0 : Int) (a1 : Int) (a2 : Int) : Option (Bool × Unit) :=
  bif (decide (a0 ≥ a1)) then some ((decide (a0 ≤ a2)), ()) else some (false, ())
theorem spec_l1In.of (n : Nat) (a0 : Int) (a1 : Int) (a2 : Int) : Runs (spec_l1In.B n a0 a1 a2) (spec_l1In a0 a1 a2) :=
  Eq.mp (by kernel_rfl) (call_runs (P := Tryz.prog) prsEvt n 20 Tryz.f20 [.val (.int .i64) a0, .val (.int .i64) a1, .val (.int .i64) a2] (by kernel_rfl) (by kernel_rfl))
noncomputable def spec_MacroOk.L0 (n : Nat) (m : Nat) (x0 : (List Stmt)) (x1 : Int) : Option (Bool × Unit) :=
  loopAt cfg ENV n 21 Tryz.f21 [1, 1, 0, 1, 0] [] 0 m { n := 124, vals := [(0, .dat ⟨(.slice 50 tlaws_Stmt), x0, .ro⟩), (3, .dat ⟨(.int .i64), x1, .ro⟩)], boxes := [], nb := 0, vers := [], nid := 0, dr := false }
noncomputable def spec_MacroOk.J0 (n : Nat) (m : Nat) : Option (Bool × Unit) :=
  some (true, ())
theorem spec_MacroOk.L0_eq (n : Nat) (m : Nat) (x0 : (List Stmt)) (x1 : Int) : spec_MacroOk.L0 n (m + 1) x0 x1 =
  bif (decide (x1 < (x0.length : Int))) then (idxC x0 x1 fun e1 => bif (e1.1 == (1 : Int)) then ((spec_RefOk e1.2.1).bind fun q2 => bif (!q2.1) then some (false, ()) else bif (e1.2.2.2.1 != (0 : Int)) then some (false, ()) else (spec_l11Formula e1.2.2.1).bind fun q3 => bif (!q3.1) then some (false, ()) else spec_MacroOk.L0 n m x0 (IntKind.wrap .i64 (x1 + (1 : Int)))) else bif (e1.1 == (2 : Int)) then ((spec_InputOf e1.2.2.1).bind fun q4 => (spec_RefOk e1.2.1).bind fun q5 => bif (!q5.1) then some (false, ()) else bif (e1.2.2.2.1 != (0 : Int)) then some (false, ()) else bif (!q4.2.1) then some (false, ()) else bif (!(q4.1 == e1.2.2.1)) then some (false, ()) else spec_MacroOk.L0 n m x0 (IntKind.wrap .i64 (x1 + (1 : Int)))) else bif (e1.1 == (3 : Int)) then (bif (!((e1.2.1.1 == (0 : Int)) && ((e1.2.1.2.1 == (0 : Int)) && true))) then some (false, ()) else (spec_l1In e1.2.2.2.1 (1 : Int) (IntKind.wrap .i64 ((IntKind.wrap .i64 ((x0.length : Int) - (1 : Int))) - x1))).bind fun q6 => bif (!q6.1) then some (false, ()) else (spec_l11Formula e1.2.2.1).bind fun q7 => bif (!q7.1) then some (false, ()) else spec_MacroOk.L0 n m x0 (IntKind.wrap .i64 (x1 + (1 : Int)))) else bif (e1.1 == (4 : Int)) then (bif (!((e1.2.1.1 == (0 : Int)) && ((e1.2.1.2.1 == (0 : Int)) && true))) then some (false, ()) else (spec_l1In e1.2.2.2.1 (1 : Int) x1).bind fun q8 => bif (!q8.1) then some (false, ()) else (spec_l11Formula e1.2.2.1).bind fun q9 => bif (!q9.1) then some (false, ()) else spec_MacroOk.L0 n m x0 (IntKind.wrap .i64 (x1 + (1 : Int)))) else bif (e1.1 == (5 : Int)) then (bif (!((e1.2.1.1 == (0 : Int)) && ((e1.2.1.2.1 == (0 : Int)) && true))) then some (false, ()) else bif (e1.2.2.2.1 != (0 : Int)) then some (false, ()) else (spec_l11Formula e1.2.2.1).bind fun q10 => bif (!q10.1) then some (false, ()) else spec_MacroOk.L0 n m x0 (IntKind.wrap .i64 (x1 + (1 : Int)))) else some (false, ())) else spec_MacroOk.J0 n m := by kernel_rfl
noncomputable def spec_MacroOk.B (n : Nat) (a0 : (List Stmt)) : Option (Bool × Unit) :=
  bif (decide ((a0.length : Int) > (30 : Int))) then some (false, ()) else spec_MacroOk.L0 n n a0 (0 : Int)
theorem spec_MacroOk.of (n : Nat) (a0 : (List Stmt)) : Runs (spec_MacroOk.B n a0) (spec_MacroOk a0) :=
  Eq.mp (by kernel_rfl) (call_runs (P := Tryz.prog) prsEvt n 21 Tryz.f21 [.val (.slice 50 tlaws_Stmt) a0] (by kernel_rfl) (by kernel_rfl))
noncomputable def spec_PlaceText.J1 (n : Nat) (x0 : List UInt8) (x1 : Ref) (x2 : Bool) (x3 : Bool) : Option (List UInt8 × Unit) :=
  (spec_l1Dec x1.2.1).bind fun q3 => bif decide (x0.length + q3.1.length ≤ scap) then some ((x0 ++ q3.1), ()) else none
noncomputable def spec_PlaceText.J0 (n : Nat) (x0 : List UInt8) (x1 : Ref) (x2 : Bool) (x3 : Bool) : Option (List UInt8 × Unit) :=
  bif x3 then (bif decide (x0.length + ([36] : List UInt8).length ≤ scap) then spec_PlaceText.J1 n (x0 ++ ([36] : List UInt8)) x1 x2 x3 else none) else spec_PlaceText.J1 n x0 x1 x2 x3
noncomputable def spec_PlaceText.B (n : Nat) (a0 : Place) : Option (List UInt8 × Unit) :=
  (spec_RefOk a0.1).bind fun q1 => bif (!q1.1) then some (([] : List UInt8), ()) else (spec_ColText a0.1.1).bind fun q2 => bif a0.2.1 then (bif decide (([36] : List UInt8).length + q2.1.length ≤ scap) then spec_PlaceText.J0 n (([36] : List UInt8) ++ q2.1) a0.1 a0.2.1 a0.2.2.1 else none) else spec_PlaceText.J0 n q2.1 a0.1 a0.2.1 a0.2.2.1
theorem spec_PlaceText.of (n : Nat) (a0 : Place) : Runs (spec_PlaceText.B n a0) (spec_PlaceText a0) :=
  Eq.mp (by kernel_rfl) (call_runs (P := Tryz.prog) prsEvt n 22 Tryz.f22 [.val timpl_Place a0] (by kernel_rfl) (by kernel_rfl))
noncomputable def laws_toStmt.B (n : Nat) (a0 : Stmt) : Option (Stmt × Unit) :=
  (laws_toRef a0.2.1).bind fun q1 => some ((a0.1, q1.1, a0.2.2.1, a0.2.2.2.1, ()), ())
theorem laws_toStmt.of (n : Nat) (a0 : Stmt) : Runs (laws_toStmt.B n a0) (laws_toStmt a0) :=
  Eq.mp (by kernel_rfl) (call_runs (P := Tryz.prog) prsEvt n 23 Tryz.f23 [.val tlaws_Stmt a0] (by kernel_rfl) (by kernel_rfl))
noncomputable def impl_isName.B (n : Nat) (a0 : List UInt8) : Option (Bool × Unit) :=
  bif (decide ((a0.length : Int) ≥ (1 : Int))) then (bif (decide ((a0.length : Int) ≤ (12 : Int))) then ((strings_Trim a0 ([97, 98, 99, 100, 101, 102, 103, 104, 105, 106, 107, 108, 109, 110, 111, 112, 113, 114, 115, 116, 117, 118, 119, 120, 121, 122] : List UInt8)).bind fun q1 => some ((q1.1 == ([] : List UInt8)), ())) else some (false, ())) else some (false, ())
theorem impl_isName.of (n : Nat) (a0 : List UInt8) : Runs (impl_isName.B n a0) (impl_isName a0) :=
  Eq.mp (by kernel_rfl) (call_runs (P := Tryz.prog) prsEvt n 24 Tryz.f24 [.val .str a0] (by kernel_rfl) (by kernel_rfl))
noncomputable def impl_isId.B (n : Nat) (a0 : Int) : Option (Bool × Unit) :=
  (impl_within a0 (1 : Int) (1000000000 : Int)).bind fun q1 => some (q1.1, ())
theorem impl_isId.of (n : Nat) (a0 : Int) : Runs (impl_isId.B n a0) (impl_isId a0) :=
  Eq.mp (by kernel_rfl) (call_runs (P := Tryz.prog) prsEvt n 25 Tryz.f25 [.val (.int .i64) a0] (by kernel_rfl) (by kernel_rfl))
noncomputable def impl_MacroOk.L0 (n : Nat) (m : Nat) (x0 : (List Stmt)) (x1 : (List Stmt)) (x2 : Int) (x3 : Int) : Option (Bool × Unit) :=
  loopAt cfg ENV n 26 Tryz.f26 [1, 0, 1, 0] [] 0 m { n := 25, vals := [(0, .dat ⟨(.slice 50 tlaws_Stmt), x0, .ro⟩), (5, .dat ⟨(.slice 50 tlaws_Stmt), x1, .ro⟩), (6, .dat ⟨(.int .i64), x2, .ro⟩), (7, .dat ⟨(.int .i64), x3, .ro⟩)], boxes := [], nb := 0, vers := [], nid := 0, dr := false }
noncomputable def impl_MacroOk.J0 (n : Nat) (m : Nat) (x0 : (List Stmt)) : Option (Bool × Unit) :=
  some ((decide ((x0.length : Int) ≤ (30 : Int))), ())
theorem impl_MacroOk.L0_eq (n : Nat) (m : Nat) (x0 : (List Stmt)) (x1 : (List Stmt)) (x2 : Int) (x3 : Int) : impl_MacroOk.L0 n (m + 1) x0 x1 x2 x3 =
  bif (decide (x3 < x2)) then (idxC x1 x3 fun e1 => (impl_Stmt_isStmt e1 x3 (IntKind.wrap .i64 ((IntKind.wrap .i64 ((x0.length : Int) - (1 : Int))) - x3))).bind fun q2 => bif (!q2.1) then some (false, ()) else impl_MacroOk.L0 n m x0 x1 x2 (IntKind.wrap .i64 (x3 + (1 : Int)))) else impl_MacroOk.J0 n m x0 := by kernel_rfl
noncomputable def impl_MacroOk.B (n : Nat) (a0 : (List Stmt)) : Option (Bool × Unit) :=
  impl_MacroOk.L0 n n a0 a0 (a0.length : Int) (0 : Int)
theorem impl_MacroOk.of (n : Nat) (a0 : (List Stmt)) : Runs (impl_MacroOk.B n a0) (impl_MacroOk a0) :=
  Eq.mp (by kernel_rfl) (call_runs (P := Tryz.prog) prsEvt n 26 Tryz.f26 [.val (.slice 50 tlaws_Stmt) a0] (by kernel_rfl) (by kernel_rfl))
noncomputable def impl_stmtWord.B (n : Nat) (a0 : Int) : Option (List UInt8 × Unit) :=
  idxC ([([] : List UInt8), ([115, 101, 116] : List UInt8), ([112, 117, 116] : List UInt8), ([117, 110, 108, 101, 115, 115] : List UInt8), ([119, 104, 105, 108, 101] : List UInt8), ([97, 98, 111, 114, 116] : List UInt8)] : (List (List UInt8))) a0 fun e1 => some (e1, ())
theorem impl_stmtWord.of (n : Nat) (a0 : Int) : Runs (impl_stmtWord.B n a0) (impl_stmtWord a0) :=
  Eq.mp (by kernel_rfl) (call_runs (P := Tryz.prog) prsEvt n 29 Tryz.f29 [.val (.int .i64) a0] (by kernel_rfl) (by kernel_rfl))
noncomputable def impl_refText.B (n : Nat) (a0 : Ref) : Option (List UInt8 × Unit) :=
  (impl_PlaceText (a0, false, false, ())).bind fun q1 => some (q1.1, ())
theorem impl_refText.of (n : Nat) (a0 : Ref) : Runs (impl_refText.B n a0) (impl_refText a0) :=
  Eq.mp (by kernel_rfl) (call_runs (P := Tryz.prog) prsEvt n 30 Tryz.f30 [.val tlaws_Ref a0] (by kernel_rfl) (by kernel_rfl))
noncomputable def laws_eqStmt.B (n : Nat) (a0 : Stmt) (a1 : Stmt) : Option (Bool × Unit) :=
  bif (a0.1 != a1.1) then some (false, ()) else (laws_eqRef a0.2.1 a1.2.1).bind fun q1 => bif (!q1.1) then some (false, ()) else bif (!(a0.2.2.1 == a1.2.2.1)) then some (false, ()) else bif (a0.2.2.2.1 != a1.2.2.2.1) then some (false, ()) else some (true, ())
theorem laws_eqStmt.of (n : Nat) (a0 : Stmt) (a1 : Stmt) : Runs (laws_eqStmt.B n a0 a1) (laws_eqStmt a0 a1) :=
  Eq.mp (by kernel_rfl) (call_runs (P := Tryz.prog) prsEvt n 32 Tryz.f32 [.val tlaws_Stmt a0, .val tlaws_Stmt a1] (by kernel_rfl) (by kernel_rfl))
noncomputable def spec_RefOk.B (n : Nat) (a0 : Ref) : Option (Bool × Unit) :=
  (spec_l1In a0.1 (1 : Int) (52 : Int)).bind fun q1 => bif q1.1 then ((spec_l1In a0.2.1 (1 : Int) (99 : Int)).bind fun q2 => some (q2.1, ())) else some (false, ())
theorem spec_RefOk.of (n : Nat) (a0 : Ref) : Runs (spec_RefOk.B n a0) (spec_RefOk a0) :=
  Eq.mp (by kernel_rfl) (call_runs (P := Tryz.prog) prsEvt n 33 Tryz.f33 [.val tlaws_Ref a0] (by kernel_rfl) (by kernel_rfl))
noncomputable def spec_l11Formula.B (n : Nat) (a0 : List UInt8) : Option (Bool × Unit) :=
  bif decide (([61] : List UInt8).length + a0.length ≤ scap) then (spec_InputOf (([61] : List UInt8) ++ a0)).bind fun q1 => bif q1.2.1 then (bif decide (([61] : List UInt8).length + a0.length ≤ scap) then some ((q1.1 == (([61] : List UInt8) ++ a0)), ()) else none) else some (false, ()) else none
theorem spec_l11Formula.of (n : Nat) (a0 : List UInt8) : Runs (spec_l11Formula.B n a0) (spec_l11Formula a0) :=
  Eq.mp (by kernel_rfl) (call_runs (P := Tryz.prog) prsEvt n 34 Tryz.f34 [.val .str a0] (by kernel_rfl) (by kernel_rfl))
noncomputable def spec_InputOf.J0 (n : Nat) (x0 : Int) (x1 : Int) (x2 : List UInt8) : Option (List UInt8 × Bool × Unit) :=
  (spec_ValueText (x0, x1, x2, ())).bind fun q10 => bif (decide ((q10.1.length : Int) > (200 : Int))) then some (([] : List UInt8), false, ()) else some (q10.1, true, ())
noncomputable def spec_InputOf.B (n : Nat) (a0 : List UInt8) : Option (List UInt8 × Bool × Unit) :=
  (spec_l2Plain a0).bind fun q1 => bif (!q1.1) then some (([] : List UInt8), false, ()) else bif (a0 == ([] : List UInt8)) then some (([] : List UInt8), true, ()) else idxC a0 (0 : Int) fun e2 => bif ((e2.toNat : Int) == (61 : Int)) then (cutC a0.length (1 : Int) (a0.length : Int) fun l3 h4 => (spec_ReadFormula ((a0.take h4).drop l3)).bind fun q5 => (spec_FormulaText q5.1).bind fun q6 => bif (!q5.2.1) then some (([] : List UInt8), false, ()) else bif (q6.1 == ([] : List UInt8)) then some (([] : List UInt8), false, ()) else bif (decide ((IntKind.wrap .i64 ((q6.1.length : Int) + (1 : Int))) > (200 : Int))) then some (([] : List UInt8), false, ()) else bif decide (([61] : List UInt8).length + q6.1.length ≤ scap) then some ((([61] : List UInt8) ++ q6.1), true, ()) else none) else (spec_l5Number a0).bind fun q7 => bif q7.2.1 then ((spec_ValueText q7.1).bind fun q8 => some (q8.1, true, ())) else (spec_ReadValue a0).bind fun q9 => bif (!q9.2.1) then (spec_InputOf.J0 n (2 : Int) (0 : Int) a0) else spec_InputOf.J0 n q9.1.1 q9.1.2.1 q9.1.2.2.1
theorem spec_InputOf.of (n : Nat) (a0 : List UInt8) : Runs (spec_InputOf.B n a0) (spec_InputOf a0) :=
  Eq.mp (by kernel_rfl) (call_runs (P := Tryz.prog) prsEvt n 35 Tryz.f35 [.val .str a0] (by kernel_rfl) (by kernel_rfl))
noncomputable def spec_ColText.L0 (n : Nat) (m : Nat) (x0 : Int) (x1 : List UInt8) : Option (List UInt8 × Unit) :=
  loopAt cfg ENV n 36 Tryz.f36 [1, 1, 1, 0, 0] [] 0 m { n := 22, vals := [(0, .dat ⟨(.int .i64), x0, .ro⟩), (3, .dat ⟨.str, x1, .ro⟩)], boxes := [], nb := 0, vers := [], nid := 0, dr := false }
noncomputable def spec_ColText.J0 (n : Nat) (m : Nat) (x0 : List UInt8) : Option (List UInt8 × Unit) :=
  some (x0, ())
theorem spec_ColText.L0_eq (n : Nat) (m : Nat) (x0 : Int) (x1 : List UInt8) : spec_ColText.L0 n (m + 1) x0 x1 =
  bif (decide (x0 > (0 : Int))) then (bif decide ((([(IntKind.wrap .u8 (IntKind.wrap .i64 ((65 : Int) + ((IntKind.wrap .i64 (x0 - (1 : Int))).tmod (26 : Int)))))] : (List Int)).map fun n => UInt8.ofNat n.toNat).length + x1.length ≤ scap) then spec_ColText.L0 n m (IntKind.wrap .i64 ((IntKind.wrap .i64 (x0 - (1 : Int))).tdiv (26 : Int))) ((([(IntKind.wrap .u8 (IntKind.wrap .i64 ((65 : Int) + ((IntKind.wrap .i64 (x0 - (1 : Int))).tmod (26 : Int)))))] : (List Int)).map fun n => UInt8.ofNat n.toNat) ++ x1) else none) else spec_ColText.J0 n m x1 := by kernel_rfl
noncomputable def spec_ColText.B (n : Nat) (a0 : Int) : Option (List UInt8 × Unit) :=
  (spec_l1In a0 (1 : Int) (52 : Int)).bind fun q1 => bif (!q1.1) then some (([] : List UInt8), ()) else spec_ColText.L0 n n a0 ([] : List UInt8)
theorem spec_ColText.of (n : Nat) (a0 : Int) : Runs (spec_ColText.B n a0) (spec_ColText a0) :=
  Eq.mp (by kernel_rfl) (call_runs (P := Tryz.prog) prsEvt n 36 Tryz.f36 [.val (.int .i64) a0] (by kernel_rfl) (by kernel_rfl))
noncomputable def laws_toRef.B (n : Nat) (a0 : Ref) : Option (Ref × Unit) :=
  some (a0, ())
theorem laws_toRef.of (n : Nat) (a0 : Ref) : Runs (laws_toRef.B n a0) (laws_toRef a0) :=
  Eq.mp (by kernel_rfl) (call_runs (P := Tryz.prog) prsEvt n 37 Tryz.f37 [.val tlaws_Ref a0] (by kernel_rfl) (by kernel_rfl))
noncomputable def impl_within.B (n : Nat) (a0 : Int) (a1 : Int) (a2 : Int) : Option (Bool × Unit) :=
  bif (decide (a0 ≥ a1)) then some ((decide (a0 ≤ a2)), ()) else some (false, ())
theorem impl_within.of (n : Nat) (a0 : Int) (a1 : Int) (a2 : Int) : Runs (impl_within.B n a0 a1 a2) (impl_within a0 a1 a2) :=
  Eq.mp (by kernel_rfl) (call_runs (P := Tryz.prog) prsEvt n 39 Tryz.f39 [.val (.int .i64) a0, .val (.int .i64) a1, .val (.int .i64) a2] (by kernel_rfl) (by kernel_rfl))
noncomputable def impl_Stmt_isStmt.B (n : Nat) (a0 : Stmt) (a1 : Int) (a2 : Int) : Option (Bool × Unit) :=
  bif (a0.1 == (1 : Int)) then ((impl_RefOk a0.2.1).bind fun q1 => bif q1.1 then ((impl_isWritten a0.2.2.1).bind fun q2 => bif q2.1 then some ((a0.2.2.2.1 == (0 : Int)), ()) else some (false, ())) else some (false, ())) else bif (a0.1 == (2 : Int)) then ((impl_RefOk a0.2.1).bind fun q3 => bif q3.1 then (bif (a0.2.2.1 == ([] : List UInt8)) then some ((a0.2.2.2.1 == (0 : Int)), ()) else (impl_isSource a0.2.2.1).bind fun q4 => bif q4.1 then some ((a0.2.2.2.1 == (0 : Int)), ()) else some (false, ())) else some (false, ())) else bif (a0.1 == (3 : Int)) then (bif ((a0.2.1.1 == (0 : Int)) && ((a0.2.1.2.1 == (0 : Int)) && true)) then ((impl_isWritten a0.2.2.1).bind fun q5 => bif q5.1 then ((impl_within a0.2.2.2.1 (1 : Int) a2).bind fun q6 => some (q6.1, ())) else some (false, ())) else some (false, ())) else bif (a0.1 == (4 : Int)) then (bif ((a0.2.1.1 == (0 : Int)) && ((a0.2.1.2.1 == (0 : Int)) && true)) then ((impl_isWritten a0.2.2.1).bind fun q7 => bif q7.1 then ((impl_within a0.2.2.2.1 (1 : Int) a1).bind fun q8 => some (q8.1, ())) else some (false, ())) else some (false, ())) else bif (a0.1 == (5 : Int)) then (bif ((a0.2.1.1 == (0 : Int)) && ((a0.2.1.2.1 == (0 : Int)) && true)) then ((impl_isWritten a0.2.2.1).bind fun q9 => bif q9.1 then some ((a0.2.2.2.1 == (0 : Int)), ()) else some (false, ())) else some (false, ())) else some (false, ())
theorem impl_Stmt_isStmt.of (n : Nat) (a0 : Stmt) (a1 : Int) (a2 : Int) : Runs (impl_Stmt_isStmt.B n a0 a1 a2) (impl_Stmt_isStmt a0 a1 a2) :=
  Eq.mp (by kernel_rfl) (call_runs (P := Tryz.prog) prsEvt n 40 Tryz.f40 [.val tlaws_Stmt a0, .val (.int .i64) a1, .val (.int .i64) a2] (by kernel_rfl) (by kernel_rfl))
noncomputable def impl_PlaceText.J1 (n : Nat) (x0 : List UInt8) (x1 : Ref) (x2 : Bool) (x3 : Bool) : Option (List UInt8 × Unit) :=
  (impl_decimal x1.2.1).bind fun q3 => bif decide (x0.length + q3.1.length ≤ scap) then some ((x0 ++ q3.1), ()) else none
noncomputable def impl_PlaceText.J0 (n : Nat) (x0 : List UInt8) (x1 : Ref) (x2 : Bool) (x3 : Bool) : Option (List UInt8 × Unit) :=
  (impl_ColText x1.1).bind fun q2 => bif decide (x0.length + q2.1.length ≤ scap) then bif x3 then (bif decide ((x0 ++ q2.1).length + ([36] : List UInt8).length ≤ scap) then impl_PlaceText.J1 n ((x0 ++ q2.1) ++ ([36] : List UInt8)) x1 x2 x3 else none) else impl_PlaceText.J1 n (x0 ++ q2.1) x1 x2 x3 else none
noncomputable def impl_PlaceText.B (n : Nat) (a0 : Place) : Option (List UInt8 × Unit) :=
  (impl_RefOk a0.1).bind fun q1 => bif (!q1.1) then some (([] : List UInt8), ()) else bif a0.2.1 then (impl_PlaceText.J0 n ([36] : List UInt8) a0.1 a0.2.1 a0.2.2.1) else impl_PlaceText.J0 n ([] : List UInt8) a0.1 a0.2.1 a0.2.2.1
theorem impl_PlaceText.of (n : Nat) (a0 : Place) : Runs (impl_PlaceText.B n a0) (impl_PlaceText a0) :=
  Eq.mp (by kernel_rfl) (call_runs (P := Tryz.prog) prsEvt n 43 Tryz.f43 [.val timpl_Place a0] (by kernel_rfl) (by kernel_rfl))
noncomputable def laws_eqRef.B (n : Nat) (a0 : Ref) (a1 : Ref) : Option (Bool × Unit) :=
  bif (a0.1 != a1.1) then some (false, ()) else bif (a0.2.1 != a1.2.1) then some (false, ()) else some (true, ())
theorem laws_eqRef.of (n : Nat) (a0 : Ref) (a1 : Ref) : Runs (laws_eqRef.B n a0 a1) (laws_eqRef a0 a1) :=
  Eq.mp (by kernel_rfl) (call_runs (P := Tryz.prog) prsEvt n 44 Tryz.f44 [.val tlaws_Ref a0, .val tlaws_Ref a1] (by kernel_rfl) (by kernel_rfl))
noncomputable def spec_l2Plain.L0 (n : Nat) (m : Nat) (x0 : List UInt8) (x1 : Int) : Option (Bool × Unit) :=
  loopAt cfg ENV n 45 Tryz.f45 [1, 0, 1, 0] [] 0 m { n := 23, vals := [(0, .dat ⟨.str, x0, .ro⟩), (3, .dat ⟨(.int .i64), x1, .ro⟩)], boxes := [], nb := 0, vers := [], nid := 0, dr := false }
noncomputable def spec_l2Plain.J0 (n : Nat) (m : Nat) (x0 : List UInt8) : Option (Bool × Unit) :=
  some ((decide ((x0.length : Int) ≤ (200 : Int))), ())
theorem spec_l2Plain.L0_eq (n : Nat) (m : Nat) (x0 : List UInt8) (x1 : Int) : spec_l2Plain.L0 n (m + 1) x0 x1 =
  bif (decide (x1 < (x0.length : Int))) then (idxC x0 x1 fun e1 => bif (decide ((e1.toNat : Int) < (32 : Int))) then some (false, ()) else idxC x0 x1 fun e2 => bif (decide ((e2.toNat : Int) > (126 : Int))) then some (false, ()) else spec_l2Plain.L0 n m x0 (IntKind.wrap .i64 (x1 + (1 : Int)))) else spec_l2Plain.J0 n m x0 := by kernel_rfl
noncomputable def spec_l2Plain.B (n : Nat) (a0 : List UInt8) : Option (Bool × Unit) :=
  spec_l2Plain.L0 n n a0 (0 : Int)
theorem spec_l2Plain.of (n : Nat) (a0 : List UInt8) : Runs (spec_l2Plain.B n a0) (spec_l2Plain a0) :=
  Eq.mp (by kernel_rfl) (call_runs (P := Tryz.prog) prsEvt n 45 Tryz.f45 [.val .str a0] (by kernel_rfl) (by kernel_rfl))
noncomputable def spec_ReadFormula.B (n : Nat) (a0 : List UInt8) : Option ((List FNode) × Bool × Unit) :=
  (spec_l2Plain a0).bind fun q1 => bif (!q1.1) then some (([] : (List FNode)), false, ()) else (spec_l3Rd_row (a0, (0 : Int), false, [], ()) (1 : Int)).bind fun q2 => (spec_l3Rd_blanks q2.2.1).bind fun q3 => bif q3.1.2.2.1 then some (([] : (List FNode)), false, ()) else bif (decide (q3.1.2.1 < (a0.length : Int))) then some (([] : (List FNode)), false, ()) else (spec_FormulaOk q3.1.2.2.2.1).bind fun q4 => bif (!q4.1) then some (([] : (List FNode)), false, ()) else some (q3.1.2.2.2.1, true, ())
theorem spec_ReadFormula.of (n : Nat) (a0 : List UInt8) : Runs (spec_ReadFormula.B n a0) (spec_ReadFormula a0) :=
  Eq.mp (by kernel_rfl) (call_runs (P := Tryz.prog) prsEvt n 46 Tryz.f46 [.val .str a0] (by kernel_rfl) (by kernel_rfl))
noncomputable def spec_FormulaText.B (n : Nat) (a0 : (List FNode)) : Option (List UInt8 × Unit) :=
  (spec_FormulaOk a0).bind fun q1 => bif (!q1.1) then some (([] : List UInt8), ()) else (spec_l3Text a0 (IntKind.wrap .i64 ((a0.length : Int) - (1 : Int))) (0 : Int)).bind fun q2 => bif (decide ((q2.1.length : Int) > (200 : Int))) then some (([] : List UInt8), ()) else some (q2.1, ())
theorem spec_FormulaText.of (n : Nat) (a0 : (List FNode)) : Runs (spec_FormulaText.B n a0) (spec_FormulaText a0) :=
  Eq.mp (by kernel_rfl) (call_runs (P := Tryz.prog) prsEvt n 47 Tryz.f47 [.val (.slice 126 timpl_FNode) a0] (by kernel_rfl) (by kernel_rfl))
noncomputable def spec_l5Number.L0 (n : Nat) (m : Nat) (x0 : List UInt8) (x1 : Bool) (x2 : Int) (x3 : Int) (x4 : List UInt8) : Option (Value × Bool × Unit) :=
  loopAt cfg ENV n 48 Tryz.f48 [1, 1, 1, 1, 0, 0] [] 1 m { n := 48, vals := [(0, .dat ⟨.str, x0, .ro⟩), (2, .loc 0 [] timpl_Value), (4, .dat ⟨.bool, x1, .ro⟩)], boxes := [(0, .fld 81 [⟨(.int .i64), x2, .ro⟩, ⟨(.int .i64), x3, .ro⟩, ⟨.str, x4, .ro⟩])], nb := 1, vers := [], nid := 0, dr := false }
noncomputable def spec_l5Number.J0 (n : Nat) (x0 : List UInt8) (x1 : Bool) (x2 : Int) (x3 : Int) (x4 : List UInt8) : Option (Value × Bool × Unit) :=
  bif (x0 == ([] : List UInt8)) then some (((0 : Int), (0 : Int), ([] : List UInt8), ()), false, ()) else spec_l5Number.L0 n n x0 x1 x2 x3 x4
noncomputable def spec_l5Number.J2 (n : Nat) (m : Nat) (x0 : Int) (x1 : Bool) (x2 : Int) (x3 : Int) (x4 : List UInt8) : Option (Value × Bool × Unit) :=
  bif x1 then ((spec_ValueOk ((1 : Int), x0, ([] : List UInt8), ())).bind fun q8 => some (((1 : Int), x0, ([] : List UInt8), ()), q8.1, ())) else some (((1 : Int), x0, ([] : List UInt8), ()), false, ())
noncomputable def spec_l5Number.J1 (n : Nat) (m : Nat) (x0 : List UInt8) (x1 : Bool) (x2 : Int) (x3 : Int) (x4 : List UInt8) : Option (Value × Bool × Unit) :=
  (spec_l1Int x0 (16 : Int)).bind fun q7 => bif x1 then (spec_l5Number.J2 n m (IntKind.wrap .i64 (0 - q7.1)) q7.2.1 x2 x3 x4) else spec_l5Number.J2 n m q7.1 q7.2.1 x2 x3 x4
theorem spec_l5Number.L0_eq (n : Nat) (m : Nat) (x0 : List UInt8) (x1 : Bool) (x2 : Int) (x3 : Int) (x4 : List UInt8) : spec_l5Number.L0 n (m + 1) x0 x1 x2 x3 x4 =
  bif (decide ((x0.length : Int) > (1 : Int))) then (idxC x0 (0 : Int) fun e4 => bif ((e4.toNat : Int) == (48 : Int)) then (cutC x0.length (1 : Int) (x0.length : Int) fun l5 h6 => spec_l5Number.L0 n m ((x0.take h6).drop l5) x1 x2 x3 x4) else spec_l5Number.J1 n m x0 x1 x2 x3 x4) else spec_l5Number.J1 n m x0 x1 x2 x3 x4 := by kernel_rfl
noncomputable def spec_l5Number.B (n : Nat) (a0 : List UInt8) : Option (Value × Bool × Unit) :=
  bif (decide ((a0.length : Int) > (0 : Int))) then (idxC a0 (0 : Int) fun e1 => bif ((e1.toNat : Int) == (45 : Int)) then (cutC a0.length (1 : Int) (a0.length : Int) fun l2 h3 => spec_l5Number.J0 n ((a0.take h3).drop l2) ((e1.toNat : Int) == (45 : Int)) (0 : Int) (0 : Int) ([] : List UInt8)) else spec_l5Number.J0 n a0 ((e1.toNat : Int) == (45 : Int)) (0 : Int) (0 : Int) ([] : List UInt8)) else spec_l5Number.J0 n a0 false (0 : Int) (0 : Int) ([] : List UInt8)
theorem spec_l5Number.of (n : Nat) (a0 : List UInt8) : Runs (spec_l5Number.B n a0) (spec_l5Number a0) :=
  Eq.mp (by kernel_rfl) (call_runs (P := Tryz.prog) prsEvt n 48 Tryz.f48 [.val .str a0] (by kernel_rfl) (by kernel_rfl))
noncomputable def spec_ValueText.B (n : Nat) (a0 : Value) : Option (List UInt8 × Unit) :=
  (spec_ValueOk a0).bind fun q1 => bif (!q1.1) then some (([] : List UInt8), ()) else bif (a0.1 == (1 : Int)) then ((spec_l1Dec a0.2.1).bind fun q2 => some (q2.1, ())) else bif (a0.1 == (2 : Int)) then (bif decide (([39] : List UInt8).length + a0.2.2.1.length ≤ scap) then some ((([39] : List UInt8) ++ a0.2.2.1), ()) else none) else bif (a0.1 == (3 : Int)) then ((spec_l2Bool a0.2.1).bind fun q3 => some (q3.1, ())) else bif (a0.1 == (4 : Int)) then ((spec_l2Name a0.2.1).bind fun q4 => some (q4.1, ())) else some (([] : List UInt8), ())
theorem spec_ValueText.of (n : Nat) (a0 : Value) : Runs (spec_ValueText.B n a0) (spec_ValueText a0) :=
  Eq.mp (by kernel_rfl) (call_runs (P := Tryz.prog) prsEvt n 49 Tryz.f49 [.val timpl_Value a0] (by kernel_rfl) (by kernel_rfl))
noncomputable def spec_ReadValue.L0 (n : Nat) (m : Nat) (x0 : List UInt8) (x1 : Int) (x2 : Int) (x3 : Int) (x4 : List UInt8) (x5 : Int) (x6 : Int) (x7 : List UInt8) : Option (Value × Bool × Unit) :=
  loopAt cfg ENV n 50 Tryz.f50 [1, 1, 0, 0, 1, 1, 1, 1, 1, 1, 1, 0, 1, 1, 0] [] 2 m { n := 76, vals := [(0, .dat ⟨.str, x0, .ro⟩), (2, .loc 0 [] timpl_Value), (4, .loc 1 [] timpl_Value), (5, .dat ⟨(.int .i64), x1, .ro⟩)], boxes := [(1, .fld 81 [⟨(.int .i64), x2, .ro⟩, ⟨(.int .i64), x3, .ro⟩, ⟨.str, x4, .ro⟩]), (0, .fld 81 [⟨(.int .i64), x5, .ro⟩, ⟨(.int .i64), x6, .ro⟩, ⟨.str, x7, .ro⟩])], nb := 2, vers := [], nid := 0, dr := false }
noncomputable def spec_ReadValue.J0 (n : Nat) (x0 : Int) (x1 : Int) (x2 : List UInt8) (x3 : Int) (x4 : Int) (x5 : List UInt8) : Option (Value × Bool × Unit) :=
  (spec_ValueOk (x0, x1, x2, ())).bind fun q4 => bif (!q4.1) then some (((0 : Int), (0 : Int), ([] : List UInt8), ()), false, ()) else some ((x0, x1, x2, ()), true, ())
noncomputable def spec_ReadValue.J2 (n : Nat) (x0 : List UInt8) (x1 : Bool) (x2 : Int) (x3 : Int) (x4 : List UInt8) (x5 : Int) (x6 : Int) (x7 : List UInt8) : Option (Value × Bool × Unit) :=
  (spec_l1Int x0 (16 : Int)).bind fun q9 => bif (!q9.2.1) then some (((0 : Int), (0 : Int), ([] : List UInt8), ()), false, ()) else bif x1 then (bif (q9.1 == (0 : Int)) then some (((0 : Int), (0 : Int), ([] : List UInt8), ()), false, ()) else bif x1 then (spec_ReadValue.J0 n (1 : Int) (IntKind.wrap .i64 (0 - q9.1)) ([] : List UInt8) x5 x6 x7) else spec_ReadValue.J0 n (1 : Int) q9.1 ([] : List UInt8) x5 x6 x7) else bif x1 then (spec_ReadValue.J0 n (1 : Int) (IntKind.wrap .i64 (0 - q9.1)) ([] : List UInt8) x5 x6 x7) else spec_ReadValue.J0 n (1 : Int) q9.1 ([] : List UInt8) x5 x6 x7
noncomputable def spec_ReadValue.J1 (n : Nat) (x0 : List UInt8) (x1 : Bool) (x2 : Int) (x3 : Int) (x4 : List UInt8) (x5 : Int) (x6 : Int) (x7 : List UInt8) : Option (Value × Bool × Unit) :=
  bif x1 then (bif (x0 == ([84, 82, 85, 69] : List UInt8)) then (spec_ReadValue.J0 n (3 : Int) (1 : Int) ([] : List UInt8) x5 x6 x7) else spec_ReadValue.J0 n (3 : Int) (0 : Int) ([] : List UInt8) x5 x6 x7) else idxC x0 (0 : Int) fun e5 => bif ((e5.toNat : Int) == (35 : Int)) then (spec_ReadValue.L0 n n x0 (1 : Int) (4 : Int) x3 x4 x5 x6 x7) else idxC x0 (0 : Int) fun e6 => bif ((e6.toNat : Int) == (45 : Int)) then (cutC x0.length (1 : Int) (x0.length : Int) fun l7 h8 => spec_ReadValue.J2 n ((x0.take h8).drop l7) ((e6.toNat : Int) == (45 : Int)) x2 x3 x4 x5 x6 x7) else spec_ReadValue.J2 n x0 ((e6.toNat : Int) == (45 : Int)) x2 x3 x4 x5 x6 x7
noncomputable def spec_ReadValue.J3 (n : Nat) (m : Nat) (x0 : Int) (x1 : Int) (x2 : List UInt8) (x3 : Int) (x4 : Int) (x5 : List UInt8) : Option (Value × Bool × Unit) :=
  (spec_ValueOk (x0, x1, x2, ())).bind fun q11 => bif (!q11.1) then some (((0 : Int), (0 : Int), ([] : List UInt8), ()), false, ()) else some ((x0, x1, x2, ()), true, ())
theorem spec_ReadValue.L0_eq (n : Nat) (m : Nat) (x0 : List UInt8) (x1 : Int) (x2 : Int) (x3 : Int) (x4 : List UInt8) (x5 : Int) (x6 : Int) (x7 : List UInt8) : spec_ReadValue.L0 n (m + 1) x0 x1 x2 x3 x4 x5 x6 x7 =
  bif (decide (x1 ≤ (5 : Int))) then ((spec_l2Name x1).bind fun q10 => bif (q10.1 == x0) then (spec_ReadValue.L0 n m x0 (IntKind.wrap .i64 (x1 + (1 : Int))) x2 x1 x4 x5 x6 x7) else spec_ReadValue.L0 n m x0 (IntKind.wrap .i64 (x1 + (1 : Int))) x2 x3 x4 x5 x6 x7) else spec_ReadValue.J3 n m x2 x3 x4 x5 x6 x7 := by kernel_rfl
noncomputable def spec_ReadValue.B (n : Nat) (a0 : List UInt8) : Option (Value × Bool × Unit) :=
  bif (a0 == ([] : List UInt8)) then some (((0 : Int), (0 : Int), ([] : List UInt8), ()), true, ()) else idxC a0 (0 : Int) fun e1 => bif ((e1.toNat : Int) == (39 : Int)) then (cutC a0.length (1 : Int) (a0.length : Int) fun l2 h3 => spec_ReadValue.J0 n (2 : Int) (0 : Int) ((a0.take h3).drop l2) (0 : Int) (0 : Int) ([] : List UInt8)) else bif (a0 == ([84, 82, 85, 69] : List UInt8)) then (spec_ReadValue.J1 n a0 true (0 : Int) (0 : Int) ([] : List UInt8) (0 : Int) (0 : Int) ([] : List UInt8)) else spec_ReadValue.J1 n a0 (a0 == ([70, 65, 76, 83, 69] : List UInt8)) (0 : Int) (0 : Int) ([] : List UInt8) (0 : Int) (0 : Int) ([] : List UInt8)
theorem spec_ReadValue.of (n : Nat) (a0 : List UInt8) : Runs (spec_ReadValue.B n a0) (spec_ReadValue a0) :=
  Eq.mp (by kernel_rfl) (call_runs (P := Tryz.prog) prsEvt n 50 Tryz.f50 [.val .str a0] (by kernel_rfl) (by kernel_rfl))
noncomputable def impl_RefOk.B (n : Nat) (a0 : Ref) : Option (Bool × Unit) :=
  (impl_within a0.1 (1 : Int) (52 : Int)).bind fun q1 => bif q1.1 then ((impl_within a0.2.1 (1 : Int) (99 : Int)).bind fun q2 => some (q2.1, ())) else some (false, ())
theorem impl_RefOk.of (n : Nat) (a0 : Ref) : Runs (impl_RefOk.B n a0) (impl_RefOk a0) :=
  Eq.mp (by kernel_rfl) (call_runs (P := Tryz.prog) prsEvt n 58 Tryz.f58 [.val tlaws_Ref a0] (by kernel_rfl) (by kernel_rfl))
noncomputable def impl_isWritten.B (n : Nat) (a0 : List UInt8) : Option (Bool × Unit) :=
  bif decide (([61] : List UInt8).length + a0.length ≤ scap) then (impl_isSource (([61] : List UInt8) ++ a0)).bind fun q1 => some (q1.1, ()) else none
theorem impl_isWritten.of (n : Nat) (a0 : List UInt8) : Runs (impl_isWritten.B n a0) (impl_isWritten a0) :=
  Eq.mp (by kernel_rfl) (call_runs (P := Tryz.prog) prsEvt n 59 Tryz.f59 [.val .str a0] (by kernel_rfl) (by kernel_rfl))
noncomputable def impl_isSource.B (n : Nat) (a0 : List UInt8) : Option (Bool × Unit) :=
  (impl_InputOf a0).bind fun q1 => bif q1.2.1 then (bif (!(a0 == ([] : List UInt8))) then some ((q1.1 == a0), ()) else some (false, ())) else some (false, ())
theorem impl_isSource.of (n : Nat) (a0 : List UInt8) : Runs (impl_isSource.B n a0) (impl_isSource a0) :=
  Eq.mp (by kernel_rfl) (call_runs (P := Tryz.prog) prsEvt n 60 Tryz.f60 [.val .str a0] (by kernel_rfl) (by kernel_rfl))
noncomputable def impl_ColText.B (n : Nat) (a0 : Int) : Option (List UInt8 × Unit) :=
  (impl_within a0 (1 : Int) (52 : Int)).bind fun q1 => bif (!q1.1) then some (([] : List UInt8), ()) else bif (decide (a0 ≤ (26 : Int))) then some ((([(IntKind.wrap .u8 (IntKind.wrap .i64 ((IntKind.wrap .i64 ((65 : Int) + a0)) - (1 : Int))))] : (List Int)).map fun n => UInt8.ofNat n.toNat), ()) else some ((([(IntKind.wrap .u8 (IntKind.wrap .i64 ((IntKind.wrap .i64 ((65 : Int) + (IntKind.wrap .i64 ((IntKind.wrap .i64 (a0 - (1 : Int))).tdiv (26 : Int))))) - (1 : Int)))), (IntKind.wrap .u8 (IntKind.wrap .i64 ((65 : Int) + ((IntKind.wrap .i64 (a0 - (1 : Int))).tmod (26 : Int)))))] : (List Int)).map fun n => UInt8.ofNat n.toNat), ())
theorem impl_ColText.of (n : Nat) (a0 : Int) : Runs (impl_ColText.B n a0) (impl_ColText a0) :=
  Eq.mp (by kernel_rfl) (call_runs (P := Tryz.prog) prsEvt n 66 Tryz.f66 [.val (.int .i64) a0] (by kernel_rfl) (by kernel_rfl))
end Go.Proofs.YtmgeeanbecmkbaaGreatDoor.Den
namespace Go.Proofs.YtmgeeanbecmkbaaGreatDoor.Den
open Go
set_option linter.unusedVariables false
noncomputable def spec_l3Rd_row.L0 (n : Nat) (m : Nat) (x0 : Int) (x1 : Int) (x2 : List UInt8) (x3 : Int) (x4 : Bool) (x5 : (List FNode)) : Option (Int × l3Rd × Unit) :=
  loopAt cfg ENV n 67 Tryz.f67 [1, 1, 1, 1, 0, 0] [] 1 m { n := 43, vals := [(0, .loc 0 [] tspec_l3Rd), (1, .dat ⟨(.int .i64), x0, .ro⟩), (5, .dat ⟨(.int .i64), x1, .ro⟩)], boxes := [(0, .fld 103 [⟨.str, x2, .ro⟩, ⟨(.int .i64), x3, .ro⟩, ⟨.bool, x4, .ro⟩, ⟨(.slice 126 timpl_FNode), x5, (.own 0 0)⟩])], nb := 1, vers := [(0, 0)], nid := 1, dr := false }
noncomputable def spec_l3Rd_row.J0 (n : Nat) (m : Nat) (x0 : Int) (x1 : List UInt8) (x2 : Int) (x3 : Bool) (x4 : (List FNode)) : Option (Int × l3Rd × Unit) :=
  some (x0, (x1, x2, x3, x4, ()), ())
theorem spec_l3Rd_row.L0_eq (n : Nat) (m : Nat) (x0 : Int) (x1 : Int) (x2 : List UInt8) (x3 : Int) (x4 : Bool) (x5 : (List FNode)) : spec_l3Rd_row.L0 n (m + 1) x0 x1 x2 x3 x4 x5 =
  bif (!x4) then ((spec_l3Rd_op (x2, x3, x4, x5, ()) x0).bind fun q3 => bif (q3.1 == (0 : Int)) then some (x1, q3.2.1, ()) else (spec_l3Rd_row q3.2.1 (IntKind.wrap .i64 (x0 + (1 : Int)))).bind fun q4 => (spec_l3Rd_add q4.2.1 ((5 : Int), q3.1, ((0 : Int), (0 : Int), ([] : List UInt8), ()), (((0 : Int), (0 : Int), ()), false, false, ()), (((0 : Int), (0 : Int), ()), false, false, ()), ([x1, q4.1] : (List Int)), ())).bind fun q5 => spec_l3Rd_row.L0 n m x0 q5.1 q5.2.1.1 q5.2.1.2.1 q5.2.1.2.2.1 q5.2.1.2.2.2.1) else spec_l3Rd_row.J0 n m x1 x2 x3 x4 x5 := by kernel_rfl
noncomputable def spec_l3Rd_row.B (n : Nat) (a0 : l3Rd) (a1 : Int) : Option (Int × l3Rd × Unit) :=
  bif a0.2.2.1 then some ((0 : Int), (a0.1, a0.2.1, a0.2.2.1, a0.2.2.2.1, ()), ()) else bif (a1 == (5 : Int)) then ((spec_l3Rd_one (a0.1, a0.2.1, a0.2.2.1, a0.2.2.2.1, ())).bind fun q1 => some (q1.1, q1.2.1, ())) else (spec_l3Rd_row (a0.1, a0.2.1, a0.2.2.1, a0.2.2.2.1, ()) (IntKind.wrap .i64 (a1 + (1 : Int)))).bind fun q2 => spec_l3Rd_row.L0 n n a1 q2.1 q2.2.1.1 q2.2.1.2.1 q2.2.1.2.2.1 q2.2.1.2.2.2.1
theorem spec_l3Rd_row.of (n : Nat) (a0 : l3Rd) (a1 : Int) : Runs (spec_l3Rd_row.B n a0 a1) (spec_l3Rd_row a0 a1) :=
  Eq.mp (by kernel_rfl) (call_runs (P := Tryz.prog) prsEvt n 67 Tryz.f67 [.io tspec_l3Rd a0, .val (.int .i64) a1] (by kernel_rfl) (by kernel_rfl))
noncomputable def spec_l3Rd_blanks.L0 (n : Nat) (m : Nat) (x0 : List UInt8) (x1 : Int) (x2 : Bool) (x3 : (List FNode)) : Option (l3Rd × Unit) :=
  loopAt cfg ENV n 68 Tryz.f68 [0] [] 1 m { n := 31, vals := [(0, .loc 0 [] tspec_l3Rd)], boxes := [(0, .fld 103 [⟨.str, x0, .ro⟩, ⟨(.int .i64), x1, .ro⟩, ⟨.bool, x2, .ro⟩, ⟨(.slice 126 timpl_FNode), x3, (.own 0 0)⟩])], nb := 1, vers := [(0, 0)], nid := 1, dr := false }
noncomputable def spec_l3Rd_blanks.J0 (n : Nat) (m : Nat) (x0 : List UInt8) (x1 : Int) (x2 : Bool) (x3 : (List FNode)) : Option (l3Rd × Unit) :=
  some ((x0, x1, x2, x3, ()), ())
theorem spec_l3Rd_blanks.L0_eq (n : Nat) (m : Nat) (x0 : List UInt8) (x1 : Int) (x2 : Bool) (x3 : (List FNode)) : spec_l3Rd_blanks.L0 n (m + 1) x0 x1 x2 x3 =
  bif (decide (x1 < (x0.length : Int))) then (idxC x0 x1 fun e1 => bif ((e1.toNat : Int) == (32 : Int)) then (spec_l3Rd_blanks.L0 n m x0 (IntKind.wrap .i64 (x1 + (1 : Int))) x2 x3) else spec_l3Rd_blanks.J0 n m x0 x1 x2 x3) else spec_l3Rd_blanks.J0 n m x0 x1 x2 x3 := by kernel_rfl
noncomputable def spec_l3Rd_blanks.B (n : Nat) (a0 : l3Rd) : Option (l3Rd × Unit) :=
  spec_l3Rd_blanks.L0 n n a0.1 a0.2.1 a0.2.2.1 a0.2.2.2.1
theorem spec_l3Rd_blanks.of (n : Nat) (a0 : l3Rd) : Runs (spec_l3Rd_blanks.B n a0) (spec_l3Rd_blanks a0) :=
  Eq.mp (by kernel_rfl) (call_runs (P := Tryz.prog) prsEvt n 68 Tryz.f68 [.io tspec_l3Rd a0] (by kernel_rfl) (by kernel_rfl))
noncomputable def spec_FormulaOk.L0 (n : Nat) (m : Nat) (x0 : (List FNode)) (x1 : Int) : Option (Bool × Unit) :=
  loopAt cfg ENV n 69 Tryz.f69 [1, 1, 0, 1, 0] [] 0 m { n := 87, vals := [(0, .dat ⟨(.slice 126 timpl_FNode), x0, .ro⟩), (3, .dat ⟨(.int .i64), x1, .ro⟩)], boxes := [], nb := 0, vers := [], nid := 0, dr := false }
noncomputable def spec_FormulaOk.L1 (n : Nat) (m0 : Nat) (m : Nat) (x0 : (List FNode)) (x1 : Int) (x2 : Int) : Option (Bool × Unit) :=
  loopAt cfg ENV n 69 Tryz.f69 [1, 1, 0, 1, 0, 0, 1, 0, 0, 1, 1, 0] [(m0, 0)] 0 m { n := 87, vals := [(0, .dat ⟨(.slice 126 timpl_FNode), x0, .ro⟩), (3, .dat ⟨(.int .i64), x1, .ro⟩), (4, .dat ⟨(.int .i64), x2, .ro⟩)], boxes := [], nb := 0, vers := [], nid := 0, dr := false }
noncomputable def spec_FormulaOk.J0 (n : Nat) (m : Nat) (x0 : (List FNode)) : Option (Bool × Unit) :=
  (spec_l3Tree x0 (IntKind.wrap .i64 ((x0.length : Int) - (1 : Int)))).bind fun q3 => bif (q3.1 == (0 : Int)) then (idxC x0 (IntKind.wrap .i64 ((x0.length : Int) - (1 : Int))) fun e4 => bif (e4.1 != (3 : Int)) then ((spec_l3Deep x0 (IntKind.wrap .i64 ((x0.length : Int) - (1 : Int)))).bind fun q5 => some ((decide (q5.1 ≤ (12 : Int))), ())) else some (false, ())) else some (false, ())
noncomputable def spec_FormulaOk.J1 (n : Nat) (m0 : Nat) (m : Nat) (x0 : (List FNode)) (x1 : Int) : Option (Bool × Unit) :=
  spec_FormulaOk.L0 n m0 x0 (IntKind.wrap .i64 (x1 + (1 : Int)))
theorem spec_FormulaOk.L0_eq (n : Nat) (m : Nat) (x0 : (List FNode)) (x1 : Int) : spec_FormulaOk.L0 n (m + 1) x0 x1 =
  bif (decide (x1 < (x0.length : Int))) then (idxC x0 x1 fun e1 => (spec_l3NodeOk e1).bind fun q2 => bif (!q2.1) then some (false, ()) else spec_FormulaOk.L1 n m n x0 x1 (0 : Int)) else spec_FormulaOk.J0 n m x0 := by kernel_rfl
theorem spec_FormulaOk.L1_eq (n : Nat) (m0 : Nat) (m : Nat) (x0 : (List FNode)) (x1 : Int) (x2 : Int) : spec_FormulaOk.L1 n m0 (m + 1) x0 x1 x2 =
  idxC x0 x1 fun e6 => bif (decide (x2 < (e6.2.2.2.2.2.1.length : Int))) then (idxC x0 x1 fun e7 => idxC e7.2.2.2.2.2.1 x2 fun e8 => (spec_l1In e8 (0 : Int) (IntKind.wrap .i64 (x1 - (1 : Int)))).bind fun q9 => bif (!q9.1) then some (false, ()) else idxC x0 e8 fun e10 => bif (e10.1 == (3 : Int)) then (idxC x0 x1 fun e11 => bif (e11.1 != (6 : Int)) then some (false, ()) else spec_FormulaOk.L1 n m0 m x0 x1 (IntKind.wrap .i64 (x2 + (1 : Int)))) else spec_FormulaOk.L1 n m0 m x0 x1 (IntKind.wrap .i64 (x2 + (1 : Int)))) else spec_FormulaOk.J1 n m0 m x0 x1 := by kernel_rfl
noncomputable def spec_FormulaOk.B (n : Nat) (a0 : (List FNode)) : Option (Bool × Unit) :=
  bif (decide ((a0.length : Int) < (1 : Int))) then some (false, ()) else bif (decide ((a0.length : Int) > (60 : Int))) then some (false, ()) else spec_FormulaOk.L0 n n a0 (0 : Int)
theorem spec_FormulaOk.of (n : Nat) (a0 : (List FNode)) : Runs (spec_FormulaOk.B n a0) (spec_FormulaOk a0) :=
  Eq.mp (by kernel_rfl) (call_runs (P := Tryz.prog) prsEvt n 69 Tryz.f69 [.val (.slice 126 timpl_FNode) a0] (by kernel_rfl) (by kernel_rfl))
noncomputable def spec_l3Text.L0 (n : Nat) (m : Nat) (x0 : (List FNode)) (x1 : List UInt8) (x2 : Int) (x3 : Int) (x4 : Int) (x5 : Value) (x6 : Place) (x7 : Place) (x8 : (List Int)) : Option (List UInt8 × Unit) :=
  loopAt cfg ENV n 70 Tryz.f70 [1, 1, 1, 1, 0, 1, 0] [] 1 m { n := 113, vals := [(0, .dat ⟨(.slice 126 timpl_FNode), x0, .ro⟩), (7, .loc 0 [] timpl_FNode), (10, .dat ⟨.str, x1, .ro⟩), (11, .dat ⟨(.int .i64), x2, .ro⟩)], boxes := [(0, .fld 126 [⟨(.int .i64), x3, .ro⟩, ⟨(.int .i64), x4, .ro⟩, ⟨timpl_Value, x5, .ro⟩, ⟨timpl_Place, x6, .ro⟩, ⟨timpl_Place, x7, .ro⟩, ⟨(.slice 2 (.int .i64)), x8, .ro⟩])], nb := 1, vers := [], nid := 0, dr := false }
noncomputable def spec_l3Text.J0 (n : Nat) (m : Nat) (x0 : (List FNode)) (x1 : List UInt8) (x2 : Int) (x3 : Int) (x4 : Int) (x5 : Value) (x6 : Place) (x7 : Place) (x8 : (List Int)) : Option (List UInt8 × Unit) :=
  idxC x8 x2 fun e16 => (spec_l3Text x0 e16 (0 : Int)).bind fun q17 => bif decide (x1.length + q17.1.length ≤ scap) then spec_l3Text.L0 n m x0 (x1 ++ q17.1) (IntKind.wrap .i64 (x2 + (1 : Int))) x3 x4 x5 x6 x7 x8 else none
noncomputable def spec_l3Text.J1 (n : Nat) (m : Nat) (x0 : List UInt8) (x1 : Int) (x2 : Int) (x3 : Value) (x4 : Place) (x5 : Place) (x6 : (List Int)) : Option (List UInt8 × Unit) :=
  bif decide (x0.length + ([41] : List UInt8).length ≤ scap) then some ((x0 ++ ([41] : List UInt8)), ()) else none
theorem spec_l3Text.L0_eq (n : Nat) (m : Nat) (x0 : (List FNode)) (x1 : List UInt8) (x2 : Int) (x3 : Int) (x4 : Int) (x5 : Value) (x6 : Place) (x7 : Place) (x8 : (List Int)) : spec_l3Text.L0 n (m + 1) x0 x1 x2 x3 x4 x5 x6 x7 x8 =
  bif (decide (x2 < (x8.length : Int))) then (bif (decide (x2 > (0 : Int))) then (bif decide (x1.length + ([44] : List UInt8).length ≤ scap) then spec_l3Text.J0 n m x0 (x1 ++ ([44] : List UInt8)) x2 x3 x4 x5 x6 x7 x8 else none) else spec_l3Text.J0 n m x0 x1 x2 x3 x4 x5 x6 x7 x8) else spec_l3Text.J1 n m x1 x3 x4 x5 x6 x7 x8 := by kernel_rfl
noncomputable def spec_l3Text.B (n : Nat) (a0 : (List FNode)) (a1 : Int) (a2 : Int) : Option (List UInt8 × Unit) :=
  idxC a0 a1 fun e1 => bif (e1.1 == (1 : Int)) then (bif (e1.2.2.1.1 == (2 : Int)) then ((spec_l3Quote e1.2.2.1.2.2.1).bind fun q2 => some (q2.1, ())) else (spec_ValueText e1.2.2.1).bind fun q3 => some (q3.1, ())) else bif (e1.1 == (2 : Int)) then ((spec_PlaceText e1.2.2.2.1).bind fun q4 => some (q4.1, ())) else bif (e1.1 == (3 : Int)) then ((spec_PlaceText e1.2.2.2.1).bind fun q5 => bif decide (q5.1.length + ([58] : List UInt8).length ≤ scap) then (spec_PlaceText e1.2.2.2.2.1).bind fun q6 => bif decide ((q5.1 ++ ([58] : List UInt8)).length + q6.1.length ≤ scap) then some (((q5.1 ++ ([58] : List UInt8)) ++ q6.1), ()) else none else none) else bif (e1.1 == (4 : Int)) then (idxC e1.2.2.2.2.2.1 (0 : Int) fun e7 => (spec_l3Text a0 e7 (5 : Int)).bind fun q8 => bif decide (([45] : List UInt8).length + q8.1.length ≤ scap) then some ((([45] : List UInt8) ++ q8.1), ()) else none) else bif (e1.1 == (5 : Int)) then ((spec_l3Level e1.2.1).bind fun q9 => idxC e1.2.2.2.2.2.1 (0 : Int) fun e10 => (spec_l3Text a0 e10 q9.1).bind fun q11 => (spec_l3Sign e1.2.1).bind fun q12 => bif decide (q11.1.length + q12.1.length ≤ scap) then idxC e1.2.2.2.2.2.1 (1 : Int) fun e13 => (spec_l3Text a0 e13 (IntKind.wrap .i64 (q9.1 + (1 : Int)))).bind fun q14 => bif decide ((q11.1 ++ q12.1).length + q14.1.length ≤ scap) then bif (decide (q9.1 < a2)) then (bif decide (([40] : List UInt8).length + ((q11.1 ++ q12.1) ++ q14.1).length ≤ scap) then bif decide ((([40] : List UInt8) ++ ((q11.1 ++ q12.1) ++ q14.1)).length + ([41] : List UInt8).length ≤ scap) then some (((([40] : List UInt8) ++ ((q11.1 ++ q12.1) ++ q14.1)) ++ ([41] : List UInt8)), ()) else none else none) else some (((q11.1 ++ q12.1) ++ q14.1), ()) else none else none) else (spec_l3Fn e1.2.1).bind fun q15 => bif decide (q15.1.length + ([40] : List UInt8).length ≤ scap) then spec_l3Text.L0 n n a0 (q15.1 ++ ([40] : List UInt8)) (0 : Int) e1.1 e1.2.1 e1.2.2.1 e1.2.2.2.1 e1.2.2.2.2.1 e1.2.2.2.2.2.1 else none
theorem spec_l3Text.of (n : Nat) (a0 : (List FNode)) (a1 : Int) (a2 : Int) : Runs (spec_l3Text.B n a0 a1 a2) (spec_l3Text a0 a1 a2) :=
  Eq.mp (by kernel_rfl) (call_runs (P := Tryz.prog) prsEvt n 70 Tryz.f70 [.val (.slice 126 timpl_FNode) a0, .val (.int .i64) a1, .val (.int .i64) a2] (by kernel_rfl) (by kernel_rfl))
noncomputable def spec_l1Int.L0 (n : Nat) (m : Nat) (x0 : List UInt8) (x1 : Int) (x2 : Int) : Option (Int × Bool × Unit) :=
  loopAt cfg ENV n 71 Tryz.f71 [1, 1, 1, 0, 1, 0] [] 0 m { n := 52, vals := [(0, .dat ⟨.str, x0, .ro⟩), (6, .dat ⟨(.int .i64), x1, .ro⟩), (7, .dat ⟨(.int .i64), x2, .ro⟩)], boxes := [], nb := 0, vers := [], nid := 0, dr := false }
noncomputable def spec_l1Int.J0 (n : Nat) (m : Nat) (x0 : Int) : Option (Int × Bool × Unit) :=
  some (x0, true, ())
theorem spec_l1Int.L0_eq (n : Nat) (m : Nat) (x0 : List UInt8) (x1 : Int) (x2 : Int) : spec_l1Int.L0 n (m + 1) x0 x1 x2 =
  bif (decide (x2 < (x0.length : Int))) then (idxC x0 x2 fun e2 => bif (decide ((e2.toNat : Int) < (48 : Int))) then some ((0 : Int), false, ()) else idxC x0 x2 fun e3 => bif (decide ((e3.toNat : Int) > (57 : Int))) then some ((0 : Int), false, ()) else idxC x0 x2 fun e4 => spec_l1Int.L0 n m x0 (IntKind.wrap .i64 ((IntKind.wrap .i64 (x1 * (10 : Int))) + (IntKind.wrap .i64 (IntKind.wrap .u8 ((e4.toNat : Int) - (48 : Int)))))) (IntKind.wrap .i64 (x2 + (1 : Int)))) else spec_l1Int.J0 n m x1 := by kernel_rfl
noncomputable def spec_l1Int.B (n : Nat) (a0 : List UInt8) (a1 : Int) : Option (Int × Bool × Unit) :=
  bif (decide ((a0.length : Int) < (1 : Int))) then some ((0 : Int), false, ()) else bif (decide ((a0.length : Int) > a1)) then some ((0 : Int), false, ()) else idxC a0 (0 : Int) fun e1 => bif ((e1.toNat : Int) == (48 : Int)) then (bif (decide ((a0.length : Int) > (1 : Int))) then some ((0 : Int), false, ()) else spec_l1Int.L0 n n a0 (0 : Int) (0 : Int)) else spec_l1Int.L0 n n a0 (0 : Int) (0 : Int)
theorem spec_l1Int.of (n : Nat) (a0 : List UInt8) (a1 : Int) : Runs (spec_l1Int.B n a0 a1) (spec_l1Int a0 a1) :=
  Eq.mp (by kernel_rfl) (call_runs (P := Tryz.prog) prsEvt n 71 Tryz.f71 [.val .str a0, .val (.int .i64) a1] (by kernel_rfl) (by kernel_rfl))
noncomputable def spec_ValueOk.B (n : Nat) (a0 : Value) : Option (Bool × Unit) :=
  bif (a0.1 == (0 : Int)) then (bif (a0.2.1 == (0 : Int)) then some ((a0.2.2.1 == ([] : List UInt8)), ()) else some (false, ())) else bif (a0.1 == (1 : Int)) then ((spec_l1In a0.2.1 (-1000000000000000 : Int) (1000000000000000 : Int)).bind fun q1 => bif q1.1 then some ((a0.2.2.1 == ([] : List UInt8)), ()) else some (false, ())) else bif (a0.1 == (2 : Int)) then (bif (a0.2.1 == (0 : Int)) then ((spec_l2Plain a0.2.2.1).bind fun q2 => some (q2.1, ())) else some (false, ())) else bif (a0.1 == (3 : Int)) then ((spec_l1In a0.2.1 (0 : Int) (1 : Int)).bind fun q3 => bif q3.1 then some ((a0.2.2.1 == ([] : List UInt8)), ()) else some (false, ())) else bif (a0.1 == (4 : Int)) then ((spec_l1In a0.2.1 (1 : Int) (5 : Int)).bind fun q4 => bif q4.1 then some ((a0.2.2.1 == ([] : List UInt8)), ()) else some (false, ())) else some (false, ())
theorem spec_ValueOk.of (n : Nat) (a0 : Value) : Runs (spec_ValueOk.B n a0) (spec_ValueOk a0) :=
  Eq.mp (by kernel_rfl) (call_runs (P := Tryz.prog) prsEvt n 72 Tryz.f72 [.val timpl_Value a0] (by kernel_rfl) (by kernel_rfl))
noncomputable def spec_l2Bool.B (n : Nat) (a0 : Int) : Option (List UInt8 × Unit) :=
  bif (a0 == (1 : Int)) then some (([84, 82, 85, 69] : List UInt8), ()) else some (([70, 65, 76, 83, 69] : List UInt8), ())
theorem spec_l2Bool.of (n : Nat) (a0 : Int) : Runs (spec_l2Bool.B n a0) (spec_l2Bool a0) :=
  Eq.mp (by kernel_rfl) (call_runs (P := Tryz.prog) prsEvt n 73 Tryz.f73 [.val (.int .i64) a0] (by kernel_rfl) (by kernel_rfl))
noncomputable def spec_l2Name.B (n : Nat) (a0 : Int) : Option (List UInt8 × Unit) :=
  idxC ([([] : List UInt8), ([35, 68, 73, 86, 33] : List UInt8), ([35, 84, 89, 80, 69, 33] : List UInt8), ([35, 82, 69, 70, 33] : List UInt8), ([35, 79, 86, 69, 82, 33] : List UInt8), ([35, 67, 89, 67, 76, 69, 33] : List UInt8)] : (List (List UInt8))) a0 fun e1 => some (e1, ())
theorem spec_l2Name.of (n : Nat) (a0 : Int) : Runs (spec_l2Name.B n a0) (spec_l2Name a0) :=
  Eq.mp (by kernel_rfl) (call_runs (P := Tryz.prog) prsEvt n 74 Tryz.f74 [.val (.int .i64) a0] (by kernel_rfl) (by kernel_rfl))
noncomputable def impl_InputOf.B (n : Nat) (a0 : List UInt8) : Option (List UInt8 × Bool × Unit) :=
  (impl_isText a0 (200 : Int)).bind fun q1 => bif (!q1.1) then some (([] : List UInt8), (a0 == ([] : List UInt8)), ()) else bif (a0 == ([] : List UInt8)) then some (([] : List UInt8), (a0 == ([] : List UInt8)), ()) else (strings_CutPrefix a0 ([61] : List UInt8)).bind fun q2 => bif q2.2.1 then ((impl_ReadFormula q2.1).bind fun q3 => (impl_sourceOf q3.1).bind fun q4 => bif (!q3.2.1) then some (([] : List UInt8), false, ()) else bif (!q4.2.1) then some (([] : List UInt8), false, ()) else some (q4.1, true, ())) else (strconv_ParseInt a0 (10 : Int) (64 : Int)).bind fun q5 => bif q5.2.1 then ((impl_isDigits a0).bind fun q6 => bif q6.1 then ((impl_number q5.1).bind fun q7 => (impl_ValueOk q7.1).bind fun q8 => bif q8.1 then ((impl_decimal q5.1).bind fun q9 => some (q9.1, true, ())) else (impl_ReadValue a0).bind fun q10 => bif q10.2.1 then some (a0, true, ()) else bif ((a0.length : Int) == (200 : Int)) then some (([] : List UInt8), false, ()) else bif decide (([39] : List UInt8).length + a0.length ≤ scap) then some ((([39] : List UInt8) ++ a0), true, ()) else none) else (impl_ReadValue a0).bind fun q11 => bif q11.2.1 then some (a0, true, ()) else bif ((a0.length : Int) == (200 : Int)) then some (([] : List UInt8), false, ()) else bif decide (([39] : List UInt8).length + a0.length ≤ scap) then some ((([39] : List UInt8) ++ a0), true, ()) else none) else (impl_ReadValue a0).bind fun q12 => bif q12.2.1 then some (a0, true, ()) else bif ((a0.length : Int) == (200 : Int)) then some (([] : List UInt8), false, ()) else bif decide (([39] : List UInt8).length + a0.length ≤ scap) then some ((([39] : List UInt8) ++ a0), true, ()) else none
theorem impl_InputOf.of (n : Nat) (a0 : List UInt8) : Runs (impl_InputOf.B n a0) (impl_InputOf a0) :=
  Eq.mp (by kernel_rfl) (call_runs (P := Tryz.prog) prsEvt n 79 Tryz.f79 [.val .str a0] (by kernel_rfl) (by kernel_rfl))
noncomputable def spec_l3Rd_one.L0 (n : Nat) (m : Nat) (x0 : Int) (x1 : List UInt8) (x2 : Int) (x3 : Bool) (x4 : (List FNode)) : Option (Int × l3Rd × Unit) :=
  loopAt cfg ENV n 85 Tryz.f85 [1, 0, 0, 1, 1, 1, 1, 1, 1, 1, 0, 0, 1, 0] [] 1 m { n := 146, vals := [(0, .loc 0 [] tspec_l3Rd), (5, .dat ⟨(.int .i64), x0, .ro⟩)], boxes := [(0, .fld 103 [⟨.str, x1, .ro⟩, ⟨(.int .i64), x2, .ro⟩, ⟨.bool, x3, .ro⟩, ⟨(.slice 126 timpl_FNode), x4, (.own 0 0)⟩])], nb := 1, vers := [(0, 0)], nid := 1, dr := false }
noncomputable def spec_l3Rd_one.L1 (n : Nat) (m : Nat) (x0 : List UInt8) (x1 : Int) (x2 : List UInt8) (x3 : Int) (x4 : Bool) (x5 : (List FNode)) : Option (Int × l3Rd × Unit) :=
  loopAt cfg ENV n 85 Tryz.f85 [1, 1, 1, 0, 1, 0] [] 1 m { n := 146, vals := [(0, .loc 0 [] tspec_l3Rd), (7, .dat ⟨.str, x0, .ro⟩), (8, .dat ⟨(.int .i64), x1, .ro⟩)], boxes := [(0, .fld 103 [⟨.str, x2, .ro⟩, ⟨(.int .i64), x3, .ro⟩, ⟨.bool, x4, .ro⟩, ⟨(.slice 126 timpl_FNode), x5, (.own 0 0)⟩])], nb := 1, vers := [(0, 0)], nid := 1, dr := false }
noncomputable def spec_l3Rd_one.J0 (n : Nat) (m : Nat) (x0 : List UInt8) (x1 : Int) (x2 : Bool) (x3 : (List FNode)) : Option (Int × l3Rd × Unit) :=
  some ((0 : Int), (x0, x1, true, x3, ()), ())
noncomputable def spec_l3Rd_one.J1 (n : Nat) (m : Nat) (x0 : List UInt8) (x1 : List UInt8) (x2 : Int) (x3 : Bool) (x4 : (List FNode)) : Option (Int × l3Rd × Unit) :=
  (spec_ReadValue x0).bind fun q21 => bif q21.2.1 then (bif (!(x0 == ([] : List UInt8))) then ((spec_l3Rd_add (x1, x2, x3, x4, ()) ((1 : Int), (0 : Int), q21.1, (((0 : Int), (0 : Int), ()), false, false, ()), (((0 : Int), (0 : Int), ()), false, false, ()), [], ())).bind fun q22 => some (q22.1, q22.2.1, ())) else (spec_ReadPlace x0).bind fun q23 => bif (!q23.2.1) then some ((0 : Int), (x1, x2, true, x4, ()), ()) else (spec_l3Rd_add (x1, x2, x3, x4, ()) ((2 : Int), (0 : Int), ((0 : Int), (0 : Int), ([] : List UInt8), ()), q23.1, (((0 : Int), (0 : Int), ()), false, false, ()), [], ())).bind fun q24 => some (q24.1, q24.2.1, ())) else (spec_ReadPlace x0).bind fun q25 => bif (!q25.2.1) then some ((0 : Int), (x1, x2, true, x4, ()), ()) else (spec_l3Rd_add (x1, x2, x3, x4, ()) ((2 : Int), (0 : Int), ((0 : Int), (0 : Int), ([] : List UInt8), ()), q25.1, (((0 : Int), (0 : Int), ()), false, false, ()), [], ())).bind fun q26 => some (q26.1, q26.2.1, ())
theorem spec_l3Rd_one.L0_eq (n : Nat) (m : Nat) (x0 : Int) (x1 : List UInt8) (x2 : Int) (x3 : Bool) (x4 : (List FNode)) : spec_l3Rd_one.L0 n (m + 1) x0 x1 x2 x3 x4 =
  bif (decide (x0 ≤ (5 : Int))) then ((spec_l2Name x0).bind fun q11 => cutC q11.1.length (1 : Int) (q11.1.length : Int) fun l12 h13 => bif (decide ((IntKind.wrap .i64 (x2 + (((q11.1.take h13).drop l12).length : Int))) ≤ (x1.length : Int))) then (cutC x1.length x2 (IntKind.wrap .i64 (x2 + (((q11.1.take h13).drop l12).length : Int))) fun l14 h15 => bif (((x1.take h15).drop l14) == ((q11.1.take h13).drop l12)) then ((spec_l2Error x0).bind fun q16 => (spec_l3Rd_add (x1, (IntKind.wrap .i64 (x2 + (((q11.1.take h13).drop l12).length : Int))), x3, x4, ()) ((1 : Int), (0 : Int), q16.1, (((0 : Int), (0 : Int), ()), false, false, ()), (((0 : Int), (0 : Int), ()), false, false, ()), [], ())).bind fun q17 => some (q17.1, q17.2.1, ())) else spec_l3Rd_one.L0 n m (IntKind.wrap .i64 (x0 + (1 : Int))) x1 x2 x3 x4) else spec_l3Rd_one.L0 n m (IntKind.wrap .i64 (x0 + (1 : Int))) x1 x2 x3 x4) else spec_l3Rd_one.J0 n m x1 x2 x3 x4 := by kernel_rfl
theorem spec_l3Rd_one.L1_eq (n : Nat) (m : Nat) (x0 : List UInt8) (x1 : Int) (x2 : List UInt8) (x3 : Int) (x4 : Bool) (x5 : (List FNode)) : spec_l3Rd_one.L1 n (m + 1) x0 x1 x2 x3 x4 x5 =
  bif (decide (x1 ≤ (10 : Int))) then ((spec_l3Fn x1).bind fun q18 => bif (q18.1 == x0) then ((spec_l3Rd_is (x2, x3, x4, x5, ()) ([40] : List UInt8)).bind fun q19 => bif q19.1 then ((spec_l3Rd_call q19.2.1 x1).bind fun q20 => some (q20.1, q20.2.1, ())) else spec_l3Rd_one.L1 n m x0 (IntKind.wrap .i64 (x1 + (1 : Int))) q19.2.1.1 q19.2.1.2.1 q19.2.1.2.2.1 q19.2.1.2.2.2.1) else spec_l3Rd_one.L1 n m x0 (IntKind.wrap .i64 (x1 + (1 : Int))) x2 x3 x4 x5) else spec_l3Rd_one.J1 n m x0 x2 x3 x4 x5 := by kernel_rfl
noncomputable def spec_l3Rd_one.B (n : Nat) (a0 : l3Rd) : Option (Int × l3Rd × Unit) :=
  (spec_l3Rd_is (a0.1, a0.2.1, a0.2.2.1, a0.2.2.2.1, ()) ([45] : List UInt8)).bind fun q1 => bif q1.1 then ((spec_l3Rd_row q1.2.1 (5 : Int)).bind fun q2 => (spec_l3Rd_add q2.2.1 ((4 : Int), (0 : Int), ((0 : Int), (0 : Int), ([] : List UInt8), ()), (((0 : Int), (0 : Int), ()), false, false, ()), (((0 : Int), (0 : Int), ()), false, false, ()), ([q2.1] : (List Int)), ())).bind fun q3 => some (q3.1, q3.2.1, ())) else (spec_l3Rd_is q1.2.1 ([40] : List UInt8)).bind fun q4 => bif q4.1 then ((spec_l3Rd_row q4.2.1 (1 : Int)).bind fun q5 => (spec_l3Rd_is q5.2.1 ([41] : List UInt8)).bind fun q6 => bif (!q6.1) then some (q5.1, (q6.2.1.1, q6.2.1.2.1, true, q6.2.1.2.2.2.1, ()), ()) else some (q5.1, q6.2.1, ())) else (spec_l3Rd_is q4.2.1 ([34] : List UInt8)).bind fun q7 => bif q7.1 then ((spec_l3Rd_text q7.2.1).bind fun q8 => some (q8.1, q8.2.1, ())) else (spec_l3Rd_is q7.2.1 ([35] : List UInt8)).bind fun q9 => bif q9.1 then (spec_l3Rd_one.L0 n n (1 : Int) q9.2.1.1 q9.2.1.2.1 q9.2.1.2.2.1 q9.2.1.2.2.2.1) else (spec_l3Rd_word q9.2.1).bind fun q10 => spec_l3Rd_one.L1 n n q10.1 (1 : Int) q10.2.1.1 q10.2.1.2.1 q10.2.1.2.2.1 q10.2.1.2.2.2.1
theorem spec_l3Rd_one.of (n : Nat) (a0 : l3Rd) : Runs (spec_l3Rd_one.B n a0) (spec_l3Rd_one a0) :=
  Eq.mp (by kernel_rfl) (call_runs (P := Tryz.prog) prsEvt n 85 Tryz.f85 [.io tspec_l3Rd a0] (by kernel_rfl) (by kernel_rfl))
noncomputable def spec_l3Rd_op.L0 (n : Nat) (m : Nat) (x0 : Int) (x1 : (List Int)) (x2 : Int) (x3 : List UInt8) (x4 : Int) (x5 : Bool) (x6 : (List FNode)) : Option (Int × l3Rd × Unit) :=
  loopAt cfg ENV n 86 Tryz.f86 [1, 1, 0, 1, 0] [] 1 m { n := 34, vals := [(0, .loc 0 [] tspec_l3Rd), (1, .dat ⟨(.int .i64), x0, .ro⟩), (5, .dat ⟨(.slice 2 (.int .i64)), x1, (.own 0 0)⟩), (6, .dat ⟨(.int .i64), x2, .ro⟩)], boxes := [(0, .fld 103 [⟨.str, x3, .ro⟩, ⟨(.int .i64), x4, .ro⟩, ⟨.bool, x5, .ro⟩, ⟨(.slice 126 timpl_FNode), x6, (.own 1 0)⟩])], nb := 1, vers := [(0, 0), (1, 0)], nid := 2, dr := false }
noncomputable def spec_l3Rd_op.J0 (n : Nat) (m : Nat) (x0 : List UInt8) (x1 : Int) (x2 : Bool) (x3 : (List FNode)) : Option (Int × l3Rd × Unit) :=
  some ((0 : Int), (x0, x1, x2, x3, ()), ())
theorem spec_l3Rd_op.L0_eq (n : Nat) (m : Nat) (x0 : Int) (x1 : (List Int)) (x2 : Int) (x3 : List UInt8) (x4 : Int) (x5 : Bool) (x6 : (List FNode)) : spec_l3Rd_op.L0 n (m + 1) x0 x1 x2 x3 x4 x5 x6 =
  bif (decide (x2 < (x1.length : Int))) then (idxC x1 x2 fun e1 => (spec_l3Level e1).bind fun q2 => bif (q2.1 == x0) then (idxC x1 x2 fun e3 => (spec_l3Sign e3).bind fun q4 => (spec_l3Rd_is (x3, x4, x5, x6, ()) q4.1).bind fun q5 => bif q5.1 then idxC x1 x2 fun e6 => some (e6, q5.2.1, ()) else spec_l3Rd_op.L0 n m x0 x1 (IntKind.wrap .i64 (x2 + (1 : Int))) q5.2.1.1 q5.2.1.2.1 q5.2.1.2.2.1 q5.2.1.2.2.2.1) else spec_l3Rd_op.L0 n m x0 x1 (IntKind.wrap .i64 (x2 + (1 : Int))) x3 x4 x5 x6) else spec_l3Rd_op.J0 n m x3 x4 x5 x6 := by kernel_rfl
noncomputable def spec_l3Rd_op.B (n : Nat) (a0 : l3Rd) (a1 : Int) : Option (Int × l3Rd × Unit) :=
  spec_l3Rd_op.L0 n n a1 ([(7 : Int), (9 : Int), (11 : Int), (6 : Int), (8 : Int), (10 : Int), (1 : Int), (2 : Int), (3 : Int), (4 : Int), (5 : Int)] : (List Int)) (0 : Int) a0.1 a0.2.1 a0.2.2.1 a0.2.2.2.1
theorem spec_l3Rd_op.of (n : Nat) (a0 : l3Rd) (a1 : Int) : Runs (spec_l3Rd_op.B n a0 a1) (spec_l3Rd_op a0 a1) :=
  Eq.mp (by kernel_rfl) (call_runs (P := Tryz.prog) prsEvt n 86 Tryz.f86 [.io tspec_l3Rd a0, .val (.int .i64) a1] (by kernel_rfl) (by kernel_rfl))
noncomputable def spec_l3Rd_add.J0 (n : Nat) (x0 : Int) (x1 : Int) (x2 : Value) (x3 : Place) (x4 : Place) (x5 : (List Int)) (x6 : List UInt8) (x7 : Int) (x8 : Bool) (x9 : (List FNode)) : Option (Int × l3Rd × Unit) :=
  some ((IntKind.wrap .i64 ((x9.length : Int) - (1 : Int))), (x6, x7, x8, x9, ()), ())
noncomputable def spec_l3Rd_add.B (n : Nat) (a0 : l3Rd) (a1 : FNode) : Option (Int × l3Rd × Unit) :=
  bif decide (a0.2.2.2.1.length + ([a1] : (List FNode)).length ≤ cap) then bif (decide (((a0.2.2.2.1 ++ ([a1] : (List FNode))).length : Int) > (60 : Int))) then spec_l3Rd_add.J0 n a1.1 a1.2.1 a1.2.2.1 a1.2.2.2.1 a1.2.2.2.2.1 a1.2.2.2.2.2.1 a0.1 a0.2.1 true (a0.2.2.2.1 ++ ([a1] : (List FNode))) else (spec_l3NodeOk a1).bind fun q1 => bif (!q1.1) then spec_l3Rd_add.J0 n a1.1 a1.2.1 a1.2.2.1 a1.2.2.2.1 a1.2.2.2.2.1 a1.2.2.2.2.2.1 a0.1 a0.2.1 true (a0.2.2.2.1 ++ ([a1] : (List FNode))) else spec_l3Rd_add.J0 n a1.1 a1.2.1 a1.2.2.1 a1.2.2.2.1 a1.2.2.2.2.1 a1.2.2.2.2.2.1 a0.1 a0.2.1 a0.2.2.1 (a0.2.2.2.1 ++ ([a1] : (List FNode))) else none
theorem spec_l3Rd_add.of (n : Nat) (a0 : l3Rd) (a1 : FNode) : Runs (spec_l3Rd_add.B n a0 a1) (spec_l3Rd_add a0 a1) :=
  Eq.mp (by kernel_rfl) (call_runs (P := Tryz.prog) prsEvt n 87 Tryz.f87 [.io tspec_l3Rd a0, .val timpl_FNode a1] (by kernel_rfl) (by kernel_rfl))
noncomputable def spec_l3NodeOk.B (n : Nat) (a0 : FNode) : Option (Bool × Unit) :=
  bif (a0.1 == (1 : Int)) then (bif (a0.2.1 == (0 : Int)) then (bif (((a0.2.2.2.1.1.1 == (0 : Int)) && ((a0.2.2.2.1.1.2.1 == (0 : Int)) && true)) && ((a0.2.2.2.1.2.1 == false) && ((a0.2.2.2.1.2.2.1 == false) && true))) then (bif (((a0.2.2.2.2.1.1.1 == (0 : Int)) && ((a0.2.2.2.2.1.1.2.1 == (0 : Int)) && true)) && ((a0.2.2.2.2.1.2.1 == false) && ((a0.2.2.2.2.1.2.2.1 == false) && true))) then (bif ((a0.2.2.2.2.2.1.length : Int) == (0 : Int)) then ((spec_ValueOk a0.2.2.1).bind fun q1 => bif q1.1 then (bif (a0.2.2.1.1 != (0 : Int)) then (bif (a0.2.2.1.1 != (1 : Int)) then some (true, ()) else some ((decide (a0.2.2.1.2.1 ≥ (0 : Int))), ())) else some (false, ())) else some (false, ())) else some (false, ())) else some (false, ())) else some (false, ())) else some (false, ())) else bif (a0.1 == (2 : Int)) then (bif (a0.2.1 == (0 : Int)) then (bif ((a0.2.2.1.1 == (0 : Int)) && ((a0.2.2.1.2.1 == (0 : Int)) && ((a0.2.2.1.2.2.1 == ([] : List UInt8)) && true))) then (bif (((a0.2.2.2.2.1.1.1 == (0 : Int)) && ((a0.2.2.2.2.1.1.2.1 == (0 : Int)) && true)) && ((a0.2.2.2.2.1.2.1 == false) && ((a0.2.2.2.2.1.2.2.1 == false) && true))) then (bif ((a0.2.2.2.2.2.1.length : Int) == (0 : Int)) then ((spec_RefOk a0.2.2.2.1.1).bind fun q2 => some (q2.1, ())) else some (false, ())) else some (false, ())) else some (false, ())) else some (false, ())) else bif (a0.1 == (3 : Int)) then (bif (a0.2.1 == (0 : Int)) then (bif ((a0.2.2.1.1 == (0 : Int)) && ((a0.2.2.1.2.1 == (0 : Int)) && ((a0.2.2.1.2.2.1 == ([] : List UInt8)) && true))) then (bif ((a0.2.2.2.2.2.1.length : Int) == (0 : Int)) then ((spec_AreaOk (a0.2.2.2.1.1, a0.2.2.2.2.1.1, ())).bind fun q3 => some (q3.1, ())) else some (false, ())) else some (false, ())) else some (false, ())) else bif (a0.1 == (4 : Int)) then (bif (a0.2.1 == (0 : Int)) then (bif ((a0.2.2.1.1 == (0 : Int)) && ((a0.2.2.1.2.1 == (0 : Int)) && ((a0.2.2.1.2.2.1 == ([] : List UInt8)) && true))) then (bif (((a0.2.2.2.1.1.1 == (0 : Int)) && ((a0.2.2.2.1.1.2.1 == (0 : Int)) && true)) && ((a0.2.2.2.1.2.1 == false) && ((a0.2.2.2.1.2.2.1 == false) && true))) then (bif (((a0.2.2.2.2.1.1.1 == (0 : Int)) && ((a0.2.2.2.2.1.1.2.1 == (0 : Int)) && true)) && ((a0.2.2.2.2.1.2.1 == false) && ((a0.2.2.2.2.1.2.2.1 == false) && true))) then some (((a0.2.2.2.2.2.1.length : Int) == (1 : Int)), ()) else some (false, ())) else some (false, ())) else some (false, ())) else some (false, ())) else bif (a0.1 == (5 : Int)) then ((spec_l1In a0.2.1 (1 : Int) (11 : Int)).bind fun q4 => bif q4.1 then (bif ((a0.2.2.1.1 == (0 : Int)) && ((a0.2.2.1.2.1 == (0 : Int)) && ((a0.2.2.1.2.2.1 == ([] : List UInt8)) && true))) then (bif (((a0.2.2.2.1.1.1 == (0 : Int)) && ((a0.2.2.2.1.1.2.1 == (0 : Int)) && true)) && ((a0.2.2.2.1.2.1 == false) && ((a0.2.2.2.1.2.2.1 == false) && true))) then (bif (((a0.2.2.2.2.1.1.1 == (0 : Int)) && ((a0.2.2.2.2.1.1.2.1 == (0 : Int)) && true)) && ((a0.2.2.2.2.1.2.1 == false) && ((a0.2.2.2.2.1.2.2.1 == false) && true))) then some (((a0.2.2.2.2.2.1.length : Int) == (2 : Int)), ()) else some (false, ())) else some (false, ())) else some (false, ())) else some (false, ())) else bif (a0.1 == (6 : Int)) then ((spec_l3Args a0.2.1 (a0.2.2.2.2.2.1.length : Int)).bind fun q5 => bif q5.1 then (bif ((a0.2.2.1.1 == (0 : Int)) && ((a0.2.2.1.2.1 == (0 : Int)) && ((a0.2.2.1.2.2.1 == ([] : List UInt8)) && true))) then (bif (((a0.2.2.2.1.1.1 == (0 : Int)) && ((a0.2.2.2.1.1.2.1 == (0 : Int)) && true)) && ((a0.2.2.2.1.2.1 == false) && ((a0.2.2.2.1.2.2.1 == false) && true))) then some ((((a0.2.2.2.2.1.1.1 == (0 : Int)) && ((a0.2.2.2.2.1.1.2.1 == (0 : Int)) && true)) && ((a0.2.2.2.2.1.2.1 == false) && ((a0.2.2.2.2.1.2.2.1 == false) && true))), ()) else some (false, ())) else some (false, ())) else some (false, ())) else some (false, ())
theorem spec_l3NodeOk.of (n : Nat) (a0 : FNode) : Runs (spec_l3NodeOk.B n a0) (spec_l3NodeOk a0) :=
  Eq.mp (by kernel_rfl) (call_runs (P := Tryz.prog) prsEvt n 88 Tryz.f88 [.val timpl_FNode a0] (by kernel_rfl) (by kernel_rfl))
noncomputable def spec_l3Tree.L0 (n : Nat) (m : Nat) (x0 : (List FNode)) (x1 : Int) (x2 : Int) (x3 : Int) : Option (Int × Unit) :=
  loopAt cfg ENV n 89 Tryz.f89 [1, 1, 0, 1, 0] [] 0 m { n := 44, vals := [(0, .dat ⟨(.slice 126 timpl_FNode), x0, .ro⟩), (1, .dat ⟨(.int .i64), x1, .ro⟩), (5, .dat ⟨(.int .i64), x2, .ro⟩), (6, .dat ⟨(.int .i64), x3, .ro⟩)], boxes := [], nb := 0, vers := [], nid := 0, dr := false }
noncomputable def spec_l3Tree.J0 (n : Nat) (m : Nat) (x0 : Int) : Option (Int × Unit) :=
  some ((IntKind.wrap .i64 (x0 + (1 : Int))), ())
theorem spec_l3Tree.L0_eq (n : Nat) (m : Nat) (x0 : (List FNode)) (x1 : Int) (x2 : Int) (x3 : Int) : spec_l3Tree.L0 n (m + 1) x0 x1 x2 x3 =
  bif (decide (x3 ≥ (0 : Int))) then (bif (decide (x2 < (0 : Int))) then some ((-1 : Int), ()) else idxC x0 x1 fun e2 => idxC e2.2.2.2.2.2.1 x3 fun e3 => bif (e3 != x2) then some ((-1 : Int), ()) else (spec_l3Tree x0 x2).bind fun q4 => bif (decide (q4.1 < (0 : Int))) then some ((-1 : Int), ()) else spec_l3Tree.L0 n m x0 x1 (IntKind.wrap .i64 (q4.1 - (1 : Int))) (IntKind.wrap .i64 (x3 - (1 : Int)))) else spec_l3Tree.J0 n m x2 := by kernel_rfl
noncomputable def spec_l3Tree.B (n : Nat) (a0 : (List FNode)) (a1 : Int) : Option (Int × Unit) :=
  idxC a0 a1 fun e1 => spec_l3Tree.L0 n n a0 a1 (IntKind.wrap .i64 (a1 - (1 : Int))) (IntKind.wrap .i64 ((e1.2.2.2.2.2.1.length : Int) - (1 : Int)))
theorem spec_l3Tree.of (n : Nat) (a0 : (List FNode)) (a1 : Int) : Runs (spec_l3Tree.B n a0 a1) (spec_l3Tree a0 a1) :=
  Eq.mp (by kernel_rfl) (call_runs (P := Tryz.prog) prsEvt n 89 Tryz.f89 [.val (.slice 126 timpl_FNode) a0, .val (.int .i64) a1] (by kernel_rfl) (by kernel_rfl))
noncomputable def spec_l3Deep.L0 (n : Nat) (m : Nat) (x0 : (List FNode)) (x1 : Int) (x2 : Int) (x3 : Int) : Option (Int × Unit) :=
  loopAt cfg ENV n 90 Tryz.f90 [1, 1, 0, 1, 0] [] 0 m { n := 31, vals := [(0, .dat ⟨(.slice 126 timpl_FNode), x0, .ro⟩), (1, .dat ⟨(.int .i64), x1, .ro⟩), (5, .dat ⟨(.int .i64), x2, .ro⟩), (6, .dat ⟨(.int .i64), x3, .ro⟩)], boxes := [], nb := 0, vers := [], nid := 0, dr := false }
noncomputable def spec_l3Deep.J0 (n : Nat) (m : Nat) (x0 : Int) : Option (Int × Unit) :=
  some ((IntKind.wrap .i64 (x0 + (1 : Int))), ())
theorem spec_l3Deep.L0_eq (n : Nat) (m : Nat) (x0 : (List FNode)) (x1 : Int) (x2 : Int) (x3 : Int) : spec_l3Deep.L0 n (m + 1) x0 x1 x2 x3 =
  idxC x0 x1 fun e1 => bif (decide (x3 < (e1.2.2.2.2.2.1.length : Int))) then (idxC x0 x1 fun e2 => idxC e2.2.2.2.2.2.1 x3 fun e3 => (spec_l3Deep x0 e3).bind fun q4 => spec_l3Deep.L0 n m x0 x1 (mxI x2 q4.1) (IntKind.wrap .i64 (x3 + (1 : Int)))) else spec_l3Deep.J0 n m x2 := by kernel_rfl
noncomputable def spec_l3Deep.B (n : Nat) (a0 : (List FNode)) (a1 : Int) : Option (Int × Unit) :=
  spec_l3Deep.L0 n n a0 a1 (0 : Int) (0 : Int)
theorem spec_l3Deep.of (n : Nat) (a0 : (List FNode)) (a1 : Int) : Runs (spec_l3Deep.B n a0 a1) (spec_l3Deep a0 a1) :=
  Eq.mp (by kernel_rfl) (call_runs (P := Tryz.prog) prsEvt n 90 Tryz.f90 [.val (.slice 126 timpl_FNode) a0, .val (.int .i64) a1] (by kernel_rfl) (by kernel_rfl))
noncomputable def spec_l3Quote.L0 (n : Nat) (m : Nat) (x0 : List UInt8) (x1 : List UInt8) (x2 : Int) : Option (List UInt8 × Unit) :=
  loopAt cfg ENV n 91 Tryz.f91 [1, 1, 0, 1, 0] [] 0 m { n := 26, vals := [(0, .dat ⟨.str, x0, .ro⟩), (3, .dat ⟨.str, x1, .ro⟩), (4, .dat ⟨(.int .i64), x2, .ro⟩)], boxes := [], nb := 0, vers := [], nid := 0, dr := false }
noncomputable def spec_l3Quote.J0 (n : Nat) (m : Nat) (x0 : List UInt8) (x1 : List UInt8) (x2 : Int) : Option (List UInt8 × Unit) :=
  cutC x0.length x2 (IntKind.wrap .i64 (x2 + (1 : Int))) fun l2 h3 => bif decide (x1.length + ((x0.take h3).drop l2).length ≤ scap) then spec_l3Quote.L0 n m x0 (x1 ++ ((x0.take h3).drop l2)) (IntKind.wrap .i64 (x2 + (1 : Int))) else none
noncomputable def spec_l3Quote.J1 (n : Nat) (m : Nat) (x0 : List UInt8) : Option (List UInt8 × Unit) :=
  bif decide (x0.length + ([34] : List UInt8).length ≤ scap) then some ((x0 ++ ([34] : List UInt8)), ()) else none
theorem spec_l3Quote.L0_eq (n : Nat) (m : Nat) (x0 : List UInt8) (x1 : List UInt8) (x2 : Int) : spec_l3Quote.L0 n (m + 1) x0 x1 x2 =
  bif (decide (x2 < (x0.length : Int))) then (idxC x0 x2 fun e1 => bif ((e1.toNat : Int) == (34 : Int)) then (bif decide (x1.length + ([34] : List UInt8).length ≤ scap) then spec_l3Quote.J0 n m x0 (x1 ++ ([34] : List UInt8)) x2 else none) else spec_l3Quote.J0 n m x0 x1 x2) else spec_l3Quote.J1 n m x1 := by kernel_rfl
noncomputable def spec_l3Quote.B (n : Nat) (a0 : List UInt8) : Option (List UInt8 × Unit) :=
  spec_l3Quote.L0 n n a0 ([34] : List UInt8) (0 : Int)
theorem spec_l3Quote.of (n : Nat) (a0 : List UInt8) : Runs (spec_l3Quote.B n a0) (spec_l3Quote a0) :=
  Eq.mp (by kernel_rfl) (call_runs (P := Tryz.prog) prsEvt n 91 Tryz.f91 [.val .str a0] (by kernel_rfl) (by kernel_rfl))
noncomputable def spec_l3Level.B (n : Nat) (a0 : Int) : Option (Int × Unit) :=
  bif (decide (a0 ≥ (6 : Int))) then some ((1 : Int), ()) else bif (a0 == (5 : Int)) then some ((2 : Int), ()) else bif (decide (a0 ≥ (3 : Int))) then some ((4 : Int), ()) else some ((3 : Int), ())
theorem spec_l3Level.of (n : Nat) (a0 : Int) : Runs (spec_l3Level.B n a0) (spec_l3Level a0) :=
  Eq.mp (by kernel_rfl) (call_runs (P := Tryz.prog) prsEvt n 92 Tryz.f92 [.val (.int .i64) a0] (by kernel_rfl) (by kernel_rfl))
noncomputable def spec_l3Sign.B (n : Nat) (a0 : Int) : Option (List UInt8 × Unit) :=
  idxC ([([] : List UInt8), ([43] : List UInt8), ([45] : List UInt8), ([42] : List UInt8), ([47] : List UInt8), ([38] : List UInt8), ([61] : List UInt8), ([60, 62] : List UInt8), ([60] : List UInt8), ([60, 61] : List UInt8), ([62] : List UInt8), ([62, 61] : List UInt8)] : (List (List UInt8))) a0 fun e1 => some (e1, ())
theorem spec_l3Sign.of (n : Nat) (a0 : Int) : Runs (spec_l3Sign.B n a0) (spec_l3Sign a0) :=
  Eq.mp (by kernel_rfl) (call_runs (P := Tryz.prog) prsEvt n 93 Tryz.f93 [.val (.int .i64) a0] (by kernel_rfl) (by kernel_rfl))
noncomputable def spec_l3Fn.B (n : Nat) (a0 : Int) : Option (List UInt8 × Unit) :=
  idxC ([([] : List UInt8), ([83, 85, 77] : List UInt8), ([77, 73, 78] : List UInt8), ([77, 65, 88] : List UInt8), ([67, 79, 85, 78, 84] : List UInt8), ([73, 70] : List UInt8), ([65, 78, 68] : List UInt8), ([79, 82] : List UInt8), ([78, 79, 84] : List UInt8), ([65, 66, 83] : List UInt8), ([76, 69, 78] : List UInt8)] : (List (List UInt8))) a0 fun e1 => some (e1, ())
theorem spec_l3Fn.of (n : Nat) (a0 : Int) : Runs (spec_l3Fn.B n a0) (spec_l3Fn a0) :=
  Eq.mp (by kernel_rfl) (call_runs (P := Tryz.prog) prsEvt n 94 Tryz.f94 [.val (.int .i64) a0] (by kernel_rfl) (by kernel_rfl))
noncomputable def impl_isText.L0 (n : Nat) (m : Nat) (x0 : List UInt8) (x1 : Int) (x2 : Int) (x3 : Int) : Option (Bool × Unit) :=
  loopAt cfg ENV n 98 Tryz.f98 [1, 0, 1, 0] [] 0 m { n := 26, vals := [(0, .dat ⟨.str, x0, .ro⟩), (1, .dat ⟨(.int .i64), x1, .ro⟩), (7, .dat ⟨(.int .i64), x2, .ro⟩), (8, .dat ⟨(.int .i64), x3, .ro⟩)], boxes := [], nb := 0, vers := [], nid := 0, dr := false }
noncomputable def impl_isText.J0 (n : Nat) (m : Nat) (x0 : List UInt8) (x1 : Int) : Option (Bool × Unit) :=
  some ((decide ((x0.length : Int) ≤ x1)), ())
theorem impl_isText.L0_eq (n : Nat) (m : Nat) (x0 : List UInt8) (x1 : Int) (x2 : Int) (x3 : Int) : impl_isText.L0 n (m + 1) x0 x1 x2 x3 =
  bif (decide (x3 < x2)) then (idxC x0 x3 fun e1 => bif (decide ((e1.toNat : Int) < (32 : Int))) then some (false, ()) else idxC x0 x3 fun e2 => bif (decide ((e2.toNat : Int) > (126 : Int))) then some (false, ()) else impl_isText.L0 n m x0 x1 x2 (IntKind.wrap .i64 (x3 + (1 : Int)))) else impl_isText.J0 n m x0 x1 := by kernel_rfl
noncomputable def impl_isText.B (n : Nat) (a0 : List UInt8) (a1 : Int) : Option (Bool × Unit) :=
  impl_isText.L0 n n a0 a1 (a0.length : Int) (0 : Int)
theorem impl_isText.of (n : Nat) (a0 : List UInt8) (a1 : Int) : Runs (impl_isText.B n a0 a1) (impl_isText a0 a1) :=
  Eq.mp (by kernel_rfl) (call_runs (P := Tryz.prog) prsEvt n 98 Tryz.f98 [.val .str a0, .val (.int .i64) a1] (by kernel_rfl) (by kernel_rfl))
noncomputable def impl_ReadFormula.B (n : Nat) (a0 : List UInt8) : Option ((List FNode) × Bool × Unit) :=
  (impl_isText a0 (200 : Int)).bind fun q1 => bif (!q1.1) then some (([] : (List FNode)), false, ()) else (impl_reader_binary (a0, [], false, ()) (1 : Int) (0 : Int)).bind fun q2 => (impl_reader_blanks q2.2.1).bind fun q3 => bif q3.1.2.2.1 then some (([] : (List FNode)), false, ()) else bif (!(q3.1.1 == ([] : List UInt8))) then some (([] : (List FNode)), false, ()) else (impl_FormulaOk q3.1.2.1).bind fun q4 => bif (!q4.1) then some (([] : (List FNode)), false, ()) else some (q3.1.2.1, true, ())
theorem impl_ReadFormula.of (n : Nat) (a0 : List UInt8) : Runs (impl_ReadFormula.B n a0) (impl_ReadFormula a0) :=
  Eq.mp (by kernel_rfl) (call_runs (P := Tryz.prog) prsEvt n 100 Tryz.f100 [.val .str a0] (by kernel_rfl) (by kernel_rfl))
noncomputable def impl_sourceOf.B (n : Nat) (a0 : (List FNode)) : Option (List UInt8 × Bool × Unit) :=
  (impl_FormulaText a0).bind fun q1 => bif decide (([61] : List UInt8).length + q1.1.length ≤ scap) then bif (!(q1.1 == ([] : List UInt8))) then some ((([61] : List UInt8) ++ q1.1), (decide ((q1.1.length : Int) < (200 : Int))), ()) else some ((([61] : List UInt8) ++ q1.1), false, ()) else none
theorem impl_sourceOf.of (n : Nat) (a0 : (List FNode)) : Runs (impl_sourceOf.B n a0) (impl_sourceOf a0) :=
  Eq.mp (by kernel_rfl) (call_runs (P := Tryz.prog) prsEvt n 101 Tryz.f101 [.val (.slice 126 timpl_FNode) a0] (by kernel_rfl) (by kernel_rfl))
noncomputable def impl_isDigits.B (n : Nat) (a0 : List UInt8) : Option (Bool × Unit) :=
  (strings_TrimPrefix a0 ([45] : List UInt8)).bind fun q1 => bif (!(q1.1 == ([] : List UInt8))) then ((strings_Trim q1.1 ([48, 49, 50, 51, 52, 53, 54, 55, 56, 57] : List UInt8)).bind fun q2 => some ((q2.1 == ([] : List UInt8)), ())) else some (false, ())
theorem impl_isDigits.of (n : Nat) (a0 : List UInt8) : Runs (impl_isDigits.B n a0) (impl_isDigits a0) :=
  Eq.mp (by kernel_rfl) (call_runs (P := Tryz.prog) prsEvt n 103 Tryz.f103 [.val .str a0] (by kernel_rfl) (by kernel_rfl))
noncomputable def impl_ValueOk.B (n : Nat) (a0 : Value) : Option (Bool × Unit) :=
  bif (a0.1 == (2 : Int)) then (bif (a0.2.1 == (0 : Int)) then ((impl_isText a0.2.2.1 (200 : Int)).bind fun q1 => some (q1.1, ())) else some (false, ())) else bif (!(a0.2.2.1 == ([] : List UInt8))) then some (false, ()) else bif (a0.1 == (0 : Int)) then some ((a0.2.1 == (0 : Int)), ()) else bif (a0.1 == (1 : Int)) then ((impl_within a0.2.1 (-1000000000000000 : Int) (1000000000000000 : Int)).bind fun q2 => some (q2.1, ())) else bif (a0.1 == (3 : Int)) then ((impl_within a0.2.1 (0 : Int) (1 : Int)).bind fun q3 => some (q3.1, ())) else bif (a0.1 == (4 : Int)) then ((impl_within a0.2.1 (1 : Int) (5 : Int)).bind fun q4 => some (q4.1, ())) else some (false, ())
theorem impl_ValueOk.of (n : Nat) (a0 : Value) : Runs (impl_ValueOk.B n a0) (impl_ValueOk a0) :=
  Eq.mp (by kernel_rfl) (call_runs (P := Tryz.prog) prsEvt n 104 Tryz.f104 [.val timpl_Value a0] (by kernel_rfl) (by kernel_rfl))
noncomputable def impl_number.B (n : Nat) (a0 : Int) : Option (Value × Unit) :=
  some (((1 : Int), a0, ([] : List UInt8), ()), ())
theorem impl_number.of (n : Nat) (a0 : Int) : Runs (impl_number.B n a0) (impl_number a0) :=
  Eq.mp (by kernel_rfl) (call_runs (P := Tryz.prog) prsEvt n 105 Tryz.f105 [.val (.int .i64) a0] (by kernel_rfl) (by kernel_rfl))
noncomputable def impl_ReadValue.L0 (n : Nat) (m : Nat) (x0 : List UInt8) (x1 : Int) (x2 : Int) (x3 : Int) (x4 : List UInt8) (x5 : Int) (x6 : Int) (x7 : List UInt8) : Option (Value × Bool × Unit) :=
  loopAt cfg ENV n 106 Tryz.f106 [1, 1, 0, 1, 0, 1, 1, 1, 1, 1, 0, 1, 0] [] 2 m { n := 64, vals := [(0, .dat ⟨.str, x0, .ro⟩), (2, .loc 0 [] timpl_Value), (4, .loc 1 [] timpl_Value), (7, .dat ⟨(.int .i64), x1, .ro⟩)], boxes := [(1, .fld 81 [⟨(.int .i64), x2, .ro⟩, ⟨(.int .i64), x3, .ro⟩, ⟨.str, x4, .ro⟩]), (0, .fld 81 [⟨(.int .i64), x5, .ro⟩, ⟨(.int .i64), x6, .ro⟩, ⟨.str, x7, .ro⟩])], nb := 2, vers := [], nid := 0, dr := false }
noncomputable def impl_ReadValue.J0 (n : Nat) (x0 : List UInt8) (x1 : Int) (x2 : Int) (x3 : List UInt8) (x4 : Int) (x5 : Int) (x6 : List UInt8) : Option (Value × Bool × Unit) :=
  (impl_ValueOk (x1, x2, x3, ())).bind fun q2 => bif (!q2.1) then some (((0 : Int), (0 : Int), ([] : List UInt8), ()), false, ()) else (impl_valueText (x1, x2, x3, ())).bind fun q3 => bif (!(q3.1 == x0)) then some (((0 : Int), (0 : Int), ([] : List UInt8), ()), false, ()) else some ((x1, x2, x3, ()), true, ())
noncomputable def impl_ReadValue.J1 (n : Nat) (m : Nat) (x0 : List UInt8) (x1 : Int) (x2 : Int) (x3 : List UInt8) (x4 : Int) (x5 : Int) (x6 : List UInt8) : Option (Value × Bool × Unit) :=
  (impl_ValueOk (x1, x2, x3, ())).bind fun q11 => bif (!q11.1) then some (((0 : Int), (0 : Int), ([] : List UInt8), ()), false, ()) else (impl_valueText (x1, x2, x3, ())).bind fun q12 => bif (!(q12.1 == x0)) then some (((0 : Int), (0 : Int), ([] : List UInt8), ()), false, ()) else some ((x1, x2, x3, ()), true, ())
theorem impl_ReadValue.L0_eq (n : Nat) (m : Nat) (x0 : List UInt8) (x1 : Int) (x2 : Int) (x3 : Int) (x4 : List UInt8) (x5 : Int) (x6 : Int) (x7 : List UInt8) : impl_ReadValue.L0 n (m + 1) x0 x1 x2 x3 x4 x5 x6 x7 =
  bif (decide (x1 ≤ (5 : Int))) then ((impl_errorText x1).bind fun q9 => bif (q9.1 == x0) then ((impl_fault x1).bind fun q10 => impl_ReadValue.L0 n m x0 (IntKind.wrap .i64 (x1 + (1 : Int))) q10.1.1 q10.1.2.1 q10.1.2.2.1 x5 x6 x7) else impl_ReadValue.L0 n m x0 (IntKind.wrap .i64 (x1 + (1 : Int))) x2 x3 x4 x5 x6 x7) else impl_ReadValue.J1 n m x0 x2 x3 x4 x5 x6 x7 := by kernel_rfl
noncomputable def impl_ReadValue.B (n : Nat) (a0 : List UInt8) : Option (Value × Bool × Unit) :=
  (strings_CutPrefix a0 ([39] : List UInt8)).bind fun q1 => bif q1.2.1 then (impl_ReadValue.J0 n a0 (2 : Int) (0 : Int) q1.1 (0 : Int) (0 : Int) ([] : List UInt8)) else bif (a0 == ([70, 65, 76, 83, 69] : List UInt8)) then ((impl_truth (a0 == ([84, 82, 85, 69] : List UInt8))).bind fun q4 => impl_ReadValue.J0 n a0 q4.1.1 q4.1.2.1 q4.1.2.2.1 (0 : Int) (0 : Int) ([] : List UInt8)) else bif (a0 == ([84, 82, 85, 69] : List UInt8)) then ((impl_truth (a0 == ([84, 82, 85, 69] : List UInt8))).bind fun q5 => impl_ReadValue.J0 n a0 q5.1.1 q5.1.2.1 q5.1.2.2.1 (0 : Int) (0 : Int) ([] : List UInt8)) else (strings_HasPrefix a0 ([35] : List UInt8)).bind fun q6 => bif q6.1 then (impl_ReadValue.L0 n n a0 (1 : Int) (0 : Int) (0 : Int) ([] : List UInt8) (0 : Int) (0 : Int) ([] : List UInt8)) else bif (!(a0 == ([] : List UInt8))) then ((strconv_ParseInt a0 (10 : Int) (64 : Int)).bind fun q7 => (impl_number q7.1).bind fun q8 => impl_ReadValue.J0 n a0 q8.1.1 q8.1.2.1 q8.1.2.2.1 (0 : Int) (0 : Int) ([] : List UInt8)) else impl_ReadValue.J0 n a0 (0 : Int) (0 : Int) ([] : List UInt8) (0 : Int) (0 : Int) ([] : List UInt8)
theorem impl_ReadValue.of (n : Nat) (a0 : List UInt8) : Runs (impl_ReadValue.B n a0) (impl_ReadValue a0) :=
  Eq.mp (by kernel_rfl) (call_runs (P := Tryz.prog) prsEvt n 106 Tryz.f106 [.val .str a0] (by kernel_rfl) (by kernel_rfl))
noncomputable def spec_l3Rd_is.B (n : Nat) (a0 : l3Rd) (a1 : List UInt8) : Option (Bool × l3Rd × Unit) :=
  (spec_l3Rd_blanks (a0.1, a0.2.1, a0.2.2.1, a0.2.2.2.1, ())).bind fun q1 => bif q1.1.2.2.1 then some (false, q1.1, ()) else bif (decide ((IntKind.wrap .i64 (q1.1.2.1 + (a1.length : Int))) > (q1.1.1.length : Int))) then some (false, q1.1, ()) else cutC q1.1.1.length q1.1.2.1 (IntKind.wrap .i64 (q1.1.2.1 + (a1.length : Int))) fun l2 h3 => bif (!(((q1.1.1.take h3).drop l2) == a1)) then some (false, q1.1, ()) else some (true, (q1.1.1, (IntKind.wrap .i64 (q1.1.2.1 + (a1.length : Int))), q1.1.2.2.1, q1.1.2.2.2.1, ()), ())
theorem spec_l3Rd_is.of (n : Nat) (a0 : l3Rd) (a1 : List UInt8) : Runs (spec_l3Rd_is.B n a0 a1) (spec_l3Rd_is a0 a1) :=
  Eq.mp (by kernel_rfl) (call_runs (P := Tryz.prog) prsEvt n 109 Tryz.f109 [.io tspec_l3Rd a0, .val .str a1] (by kernel_rfl) (by kernel_rfl))
noncomputable def spec_l3Rd_text.L0 (n : Nat) (m : Nat) (x0 : List UInt8) (x1 : List UInt8) (x2 : Int) (x3 : Bool) (x4 : (List FNode)) : Option (Int × l3Rd × Unit) :=
  loopAt cfg ENV n 110 Tryz.f110 [1, 1, 0, 0] [] 1 m { n := 93, vals := [(0, .loc 0 [] tspec_l3Rd), (3, .dat ⟨.str, x0, .ro⟩)], boxes := [(0, .fld 103 [⟨.str, x1, .ro⟩, ⟨(.int .i64), x2, .ro⟩, ⟨.bool, x3, .ro⟩, ⟨(.slice 126 timpl_FNode), x4, (.own 0 0)⟩])], nb := 1, vers := [(0, 0)], nid := 1, dr := false }
noncomputable def spec_l3Rd_text.J0 (n : Nat) (m : Nat) (x0 : List UInt8) (x1 : Int) (x2 : Bool) (x3 : (List FNode)) : Option (Int × l3Rd × Unit) :=
  some ((0 : Int), (x0, x1, true, x3, ()), ())
theorem spec_l3Rd_text.L0_eq (n : Nat) (m : Nat) (x0 : List UInt8) (x1 : List UInt8) (x2 : Int) (x3 : Bool) (x4 : (List FNode)) : spec_l3Rd_text.L0 n (m + 1) x0 x1 x2 x3 x4 =
  bif (decide (x2 < (x1.length : Int))) then (idxC x1 x2 fun e1 => bif ((e1.toNat : Int) != (34 : Int)) then (cutC x1.length x2 (IntKind.wrap .i64 (x2 + (1 : Int))) fun l2 h3 => bif decide (x0.length + ((x1.take h3).drop l2).length ≤ scap) then spec_l3Rd_text.L0 n m (x0 ++ ((x1.take h3).drop l2)) x1 (IntKind.wrap .i64 (x2 + (1 : Int))) x3 x4 else none) else bif (decide ((IntKind.wrap .i64 (x2 + (1 : Int))) ≥ (x1.length : Int))) then ((spec_l3Rd_add (x1, (IntKind.wrap .i64 (x2 + (1 : Int))), x3, x4, ()) ((1 : Int), (0 : Int), ((2 : Int), (0 : Int), x0, ()), (((0 : Int), (0 : Int), ()), false, false, ()), (((0 : Int), (0 : Int), ()), false, false, ()), [], ())).bind fun q4 => some (q4.1, q4.2.1, ())) else idxC x1 (IntKind.wrap .i64 (x2 + (1 : Int))) fun e5 => bif ((e5.toNat : Int) != (34 : Int)) then ((spec_l3Rd_add (x1, (IntKind.wrap .i64 (x2 + (1 : Int))), x3, x4, ()) ((1 : Int), (0 : Int), ((2 : Int), (0 : Int), x0, ()), (((0 : Int), (0 : Int), ()), false, false, ()), (((0 : Int), (0 : Int), ()), false, false, ()), [], ())).bind fun q6 => some (q6.1, q6.2.1, ())) else bif decide (x0.length + ([34] : List UInt8).length ≤ scap) then spec_l3Rd_text.L0 n m (x0 ++ ([34] : List UInt8)) x1 (IntKind.wrap .i64 ((IntKind.wrap .i64 (x2 + (1 : Int))) + (1 : Int))) x3 x4 else none) else spec_l3Rd_text.J0 n m x1 x2 x3 x4 := by kernel_rfl
noncomputable def spec_l3Rd_text.B (n : Nat) (a0 : l3Rd) : Option (Int × l3Rd × Unit) :=
  spec_l3Rd_text.L0 n n ([] : List UInt8) a0.1 a0.2.1 a0.2.2.1 a0.2.2.2.1
theorem spec_l3Rd_text.of (n : Nat) (a0 : l3Rd) : Runs (spec_l3Rd_text.B n a0) (spec_l3Rd_text a0) :=
  Eq.mp (by kernel_rfl) (call_runs (P := Tryz.prog) prsEvt n 110 Tryz.f110 [.io tspec_l3Rd a0] (by kernel_rfl) (by kernel_rfl))
noncomputable def spec_l2Error.B (n : Nat) (a0 : Int) : Option (Value × Unit) :=
  some (((4 : Int), a0, ([] : List UInt8), ()), ())
theorem spec_l2Error.of (n : Nat) (a0 : Int) : Runs (spec_l2Error.B n a0) (spec_l2Error a0) :=
  Eq.mp (by kernel_rfl) (call_runs (P := Tryz.prog) prsEvt n 111 Tryz.f111 [.val (.int .i64) a0] (by kernel_rfl) (by kernel_rfl))
noncomputable def spec_l3Rd_word.L0 (n : Nat) (m : Nat) (x0 : Int) (x1 : List UInt8) (x2 : Int) (x3 : Bool) (x4 : (List FNode)) : Option (List UInt8 × l3Rd × Unit) :=
  loopAt cfg ENV n 112 Tryz.f112 [1, 1, 0, 0] [] 1 m { n := 95, vals := [(0, .loc 0 [] tspec_l3Rd), (3, .dat ⟨(.int .i64), x0, .ro⟩)], boxes := [(0, .fld 103 [⟨.str, x1, .ro⟩, ⟨(.int .i64), x2, .ro⟩, ⟨.bool, x3, .ro⟩, ⟨(.slice 126 timpl_FNode), x4, (.own 0 0)⟩])], nb := 1, vers := [(0, 0)], nid := 1, dr := false }
noncomputable def spec_l3Rd_word.J0 (n : Nat) (m : Nat) (x0 : Int) (x1 : List UInt8) (x2 : Int) (x3 : Bool) (x4 : (List FNode)) : Option (List UInt8 × l3Rd × Unit) :=
  cutC x1.length x0 x2 fun l6 h7 => some (((x1.take h7).drop l6), (x1, x2, x3, x4, ()), ())
theorem spec_l3Rd_word.L0_eq (n : Nat) (m : Nat) (x0 : Int) (x1 : List UInt8) (x2 : Int) (x3 : Bool) (x4 : (List FNode)) : spec_l3Rd_word.L0 n (m + 1) x0 x1 x2 x3 x4 =
  bif (decide (x2 < (x1.length : Int))) then (idxC x1 x2 fun e1 => bif (decide ((e1.toNat : Int) ≥ (65 : Int))) then (idxC x1 x2 fun e2 => bif (decide ((e2.toNat : Int) ≤ (90 : Int))) then (spec_l3Rd_word.L0 n m x0 x1 (IntKind.wrap .i64 (x2 + (1 : Int))) x3 x4) else idxC x1 x2 fun e3 => bif (decide ((e3.toNat : Int) ≥ (48 : Int))) then (idxC x1 x2 fun e4 => bif (decide ((e4.toNat : Int) ≤ (57 : Int))) then (spec_l3Rd_word.L0 n m x0 x1 (IntKind.wrap .i64 (x2 + (1 : Int))) x3 x4) else idxC x1 x2 fun e5 => bif ((e5.toNat : Int) == (36 : Int)) then (spec_l3Rd_word.L0 n m x0 x1 (IntKind.wrap .i64 (x2 + (1 : Int))) x3 x4) else spec_l3Rd_word.J0 n m x0 x1 x2 x3 x4) else idxC x1 x2 fun e8 => bif ((e8.toNat : Int) == (36 : Int)) then (spec_l3Rd_word.L0 n m x0 x1 (IntKind.wrap .i64 (x2 + (1 : Int))) x3 x4) else spec_l3Rd_word.J0 n m x0 x1 x2 x3 x4) else idxC x1 x2 fun e9 => bif (decide ((e9.toNat : Int) ≥ (48 : Int))) then (idxC x1 x2 fun e10 => bif (decide ((e10.toNat : Int) ≤ (57 : Int))) then (spec_l3Rd_word.L0 n m x0 x1 (IntKind.wrap .i64 (x2 + (1 : Int))) x3 x4) else idxC x1 x2 fun e11 => bif ((e11.toNat : Int) == (36 : Int)) then (spec_l3Rd_word.L0 n m x0 x1 (IntKind.wrap .i64 (x2 + (1 : Int))) x3 x4) else spec_l3Rd_word.J0 n m x0 x1 x2 x3 x4) else idxC x1 x2 fun e12 => bif ((e12.toNat : Int) == (36 : Int)) then (spec_l3Rd_word.L0 n m x0 x1 (IntKind.wrap .i64 (x2 + (1 : Int))) x3 x4) else spec_l3Rd_word.J0 n m x0 x1 x2 x3 x4) else spec_l3Rd_word.J0 n m x0 x1 x2 x3 x4 := by kernel_rfl
noncomputable def spec_l3Rd_word.B (n : Nat) (a0 : l3Rd) : Option (List UInt8 × l3Rd × Unit) :=
  spec_l3Rd_word.L0 n n a0.2.1 a0.1 a0.2.1 a0.2.2.1 a0.2.2.2.1
theorem spec_l3Rd_word.of (n : Nat) (a0 : l3Rd) : Runs (spec_l3Rd_word.B n a0) (spec_l3Rd_word a0) :=
  Eq.mp (by kernel_rfl) (call_runs (P := Tryz.prog) prsEvt n 112 Tryz.f112 [.io tspec_l3Rd a0] (by kernel_rfl) (by kernel_rfl))
noncomputable def spec_l3Rd_call.L0 (n : Nat) (m : Nat) (x0 : Int) (x1 : (List Int)) (x2 : List UInt8) (x3 : Int) (x4 : Bool) (x5 : (List FNode)) : Option (Int × l3Rd × Unit) :=
  loopAt cfg ENV n 113 Tryz.f113 [1, 1, 0, 0] [] 1 m { n := 30, vals := [(0, .loc 0 [] tspec_l3Rd), (1, .dat ⟨(.int .i64), x0, .ro⟩), (5, .dat ⟨(.slice 2 (.int .i64)), x1, (.own 0 0)⟩)], boxes := [(0, .fld 103 [⟨.str, x2, .ro⟩, ⟨(.int .i64), x3, .ro⟩, ⟨.bool, x4, .ro⟩, ⟨(.slice 126 timpl_FNode), x5, (.own 1 0)⟩])], nb := 1, vers := [(0, 0), (1, 0)], nid := 2, dr := false }
noncomputable def spec_l3Rd_call.J0 (n : Nat) (m : Nat) (x0 : List UInt8) (x1 : Int) (x2 : Bool) (x3 : (List FNode)) : Option (Int × l3Rd × Unit) :=
  some ((0 : Int), (x0, x1, x2, x3, ()), ())
theorem spec_l3Rd_call.L0_eq (n : Nat) (m : Nat) (x0 : Int) (x1 : (List Int)) (x2 : List UInt8) (x3 : Int) (x4 : Bool) (x5 : (List FNode)) : spec_l3Rd_call.L0 n (m + 1) x0 x1 x2 x3 x4 x5 =
  bif (!x4) then ((spec_l3Rd_arg (x2, x3, x4, x5, ())).bind fun q1 => bif decide (x1.length + ([q1.1] : (List Int)).length ≤ cap) then (spec_l3Rd_is q1.2.1 ([41] : List UInt8)).bind fun q2 => bif q2.1 then ((spec_l3Rd_add q2.2.1 ((6 : Int), x0, ((0 : Int), (0 : Int), ([] : List UInt8), ()), (((0 : Int), (0 : Int), ()), false, false, ()), (((0 : Int), (0 : Int), ()), false, false, ()), (x1 ++ ([q1.1] : (List Int))), ())).bind fun q3 => some (q3.1, q3.2.1, ())) else (spec_l3Rd_is q2.2.1 ([44] : List UInt8)).bind fun q4 => bif (!q4.1) then (spec_l3Rd_call.L0 n m x0 (x1 ++ ([q1.1] : (List Int))) q4.2.1.1 q4.2.1.2.1 true q4.2.1.2.2.2.1) else spec_l3Rd_call.L0 n m x0 (x1 ++ ([q1.1] : (List Int))) q4.2.1.1 q4.2.1.2.1 q4.2.1.2.2.1 q4.2.1.2.2.2.1 else none) else spec_l3Rd_call.J0 n m x2 x3 x4 x5 := by kernel_rfl
noncomputable def spec_l3Rd_call.B (n : Nat) (a0 : l3Rd) (a1 : Int) : Option (Int × l3Rd × Unit) :=
  spec_l3Rd_call.L0 n n a1 ([] : (List Int)) a0.1 a0.2.1 a0.2.2.1 a0.2.2.2.1
theorem spec_l3Rd_call.of (n : Nat) (a0 : l3Rd) (a1 : Int) : Runs (spec_l3Rd_call.B n a0 a1) (spec_l3Rd_call a0 a1) :=
  Eq.mp (by kernel_rfl) (call_runs (P := Tryz.prog) prsEvt n 113 Tryz.f113 [.io tspec_l3Rd a0, .val (.int .i64) a1] (by kernel_rfl) (by kernel_rfl))
noncomputable def spec_ReadPlace.L0 (n : Nat) (m : Nat) (x0 : List UInt8) (x1 : Int) (x2 : Ref) (x3 : Bool) (x4 : Bool) (x5 : Ref) (x6 : Bool) (x7 : Bool) : Option (Place × Bool × Unit) :=
  loopAt cfg ENV n 114 Tryz.f114 [1, 1, 1, 1, 0, 0] [] 2 m { n := 76, vals := [(0, .dat ⟨.str, x0, .ro⟩), (2, .loc 0 [] timpl_Place), (4, .loc 1 [] timpl_Place), (5, .dat ⟨(.int .i64), x1, .ro⟩)], boxes := [(1, .fld 53 [⟨tlaws_Ref, x2, .ro⟩, ⟨.bool, x3, .ro⟩, ⟨.bool, x4, .ro⟩]), (0, .fld 53 [⟨tlaws_Ref, x5, .ro⟩, ⟨.bool, x6, .ro⟩, ⟨.bool, x7, .ro⟩])], nb := 2, vers := [], nid := 0, dr := false }
noncomputable def spec_ReadPlace.J0 (n : Nat) (x0 : List UInt8) (x1 : Ref) (x2 : Bool) (x3 : Bool) (x4 : Ref) (x5 : Bool) (x6 : Bool) : Option (Place × Bool × Unit) :=
  spec_ReadPlace.L0 n n x0 (0 : Int) x1 x2 x3 x4 x5 x6
noncomputable def spec_ReadPlace.J2 (n : Nat) (m : Nat) (x0 : List UInt8) (x1 : Ref) (x2 : Bool) (x3 : Bool) (x4 : Ref) (x5 : Bool) (x6 : Bool) : Option (Place × Bool × Unit) :=
  (spec_l1Int x0 (2 : Int)).bind fun q14 => bif (!q14.2.1) then some ((((0 : Int), (0 : Int), ()), false, false, ()), false, ()) else (spec_RefOk (x1.1, q14.1, ())).bind fun q15 => bif (!q15.1) then some ((((0 : Int), (0 : Int), ()), false, false, ()), false, ()) else some (((x1.1, q14.1, ()), x2, x3, ()), true, ())
noncomputable def spec_ReadPlace.J1 (n : Nat) (m : Nat) (x0 : List UInt8) (x1 : Int) (x2 : Ref) (x3 : Bool) (x4 : Bool) (x5 : Ref) (x6 : Bool) (x7 : Bool) : Option (Place × Bool × Unit) :=
  cutC x0.length (0 : Int) x1 fun l6 h7 => (spec_ReadCol ((x0.take h7).drop l6)).bind fun q8 => cutC x0.length x1 (x0.length : Int) fun l9 h10 => bif (decide ((((x0.take h10).drop l9).length : Int) > (0 : Int))) then (idxC ((x0.take h10).drop l9) (0 : Int) fun e11 => bif ((e11.toNat : Int) == (36 : Int)) then (cutC ((x0.take h10).drop l9).length (1 : Int) (((x0.take h10).drop l9).length : Int) fun l12 h13 => spec_ReadPlace.J2 n m ((((x0.take h10).drop l9).take h13).drop l12) (q8.1, x2.2.1, ()) x3 true x5 x6 x7) else spec_ReadPlace.J2 n m ((x0.take h10).drop l9) (q8.1, x2.2.1, ()) x3 x4 x5 x6 x7) else spec_ReadPlace.J2 n m ((x0.take h10).drop l9) (q8.1, x2.2.1, ()) x3 x4 x5 x6 x7
theorem spec_ReadPlace.L0_eq (n : Nat) (m : Nat) (x0 : List UInt8) (x1 : Int) (x2 : Ref) (x3 : Bool) (x4 : Bool) (x5 : Ref) (x6 : Bool) (x7 : Bool) : spec_ReadPlace.L0 n (m + 1) x0 x1 x2 x3 x4 x5 x6 x7 =
  bif (decide (x1 < (x0.length : Int))) then (idxC x0 x1 fun e4 => bif (decide ((e4.toNat : Int) ≥ (65 : Int))) then (idxC x0 x1 fun e5 => bif (decide ((e5.toNat : Int) ≤ (90 : Int))) then (spec_ReadPlace.L0 n m x0 (IntKind.wrap .i64 (x1 + (1 : Int))) x2 x3 x4 x5 x6 x7) else spec_ReadPlace.J1 n m x0 x1 x2 x3 x4 x5 x6 x7) else spec_ReadPlace.J1 n m x0 x1 x2 x3 x4 x5 x6 x7) else spec_ReadPlace.J1 n m x0 x1 x2 x3 x4 x5 x6 x7 := by kernel_rfl
noncomputable def spec_ReadPlace.B (n : Nat) (a0 : List UInt8) : Option (Place × Bool × Unit) :=
  bif (decide ((a0.length : Int) > (0 : Int))) then (idxC a0 (0 : Int) fun e1 => bif ((e1.toNat : Int) == (36 : Int)) then (cutC a0.length (1 : Int) (a0.length : Int) fun l2 h3 => spec_ReadPlace.J0 n ((a0.take h3).drop l2) ((0 : Int), (0 : Int), ()) true false ((0 : Int), (0 : Int), ()) false false) else spec_ReadPlace.J0 n a0 ((0 : Int), (0 : Int), ()) false false ((0 : Int), (0 : Int), ()) false false) else spec_ReadPlace.J0 n a0 ((0 : Int), (0 : Int), ()) false false ((0 : Int), (0 : Int), ()) false false
theorem spec_ReadPlace.of (n : Nat) (a0 : List UInt8) : Runs (spec_ReadPlace.B n a0) (spec_ReadPlace a0) :=
  Eq.mp (by kernel_rfl) (call_runs (P := Tryz.prog) prsEvt n 114 Tryz.f114 [.val .str a0] (by kernel_rfl) (by kernel_rfl))
noncomputable def spec_AreaOk.B (n : Nat) (a0 : Area) : Option (Bool × Unit) :=
  (spec_RefOk a0.1).bind fun q1 => bif q1.1 then ((spec_RefOk a0.2.1).bind fun q2 => bif q2.1 then (bif (decide (a0.1.1 ≤ a0.2.1.1)) then some ((decide (a0.1.2.1 ≤ a0.2.1.2.1)), ()) else some (false, ())) else some (false, ())) else some (false, ())
theorem spec_AreaOk.of (n : Nat) (a0 : Area) : Runs (spec_AreaOk.B n a0) (spec_AreaOk a0) :=
  Eq.mp (by kernel_rfl) (call_runs (P := Tryz.prog) prsEvt n 115 Tryz.f115 [.val timpl_Area a0] (by kernel_rfl) (by kernel_rfl))
noncomputable def spec_l3Args.J0 (n : Nat) (x0 : Int) (x1 : Int) (x2 : Bool) : Option (Bool × Unit) :=
  bif x2 then (bif (decide (x0 ≥ (1 : Int))) then some ((decide (x0 ≤ (10 : Int))), ()) else some (false, ())) else bif (x1 == (5 : Int)) then (bif (x0 == (2 : Int)) then some (true, ()) else some ((x0 == (3 : Int)), ())) else bif (x1 == (8 : Int)) then some ((x0 == (1 : Int)), ()) else bif (x1 == (9 : Int)) then some ((x0 == (1 : Int)), ()) else bif (x1 == (10 : Int)) then some ((x0 == (1 : Int)), ()) else some (false, ())
noncomputable def spec_l3Args.B (n : Nat) (a0 : Int) (a1 : Int) : Option (Bool × Unit) :=
  bif (a0 == (1 : Int)) then (spec_l3Args.J0 n a1 a0 true) else bif (a0 == (2 : Int)) then (spec_l3Args.J0 n a1 a0 true) else bif (a0 == (3 : Int)) then (spec_l3Args.J0 n a1 a0 true) else bif (a0 == (4 : Int)) then (spec_l3Args.J0 n a1 a0 true) else bif (a0 == (6 : Int)) then (spec_l3Args.J0 n a1 a0 true) else spec_l3Args.J0 n a1 a0 (a0 == (7 : Int))
theorem spec_l3Args.of (n : Nat) (a0 : Int) (a1 : Int) : Runs (spec_l3Args.B n a0 a1) (spec_l3Args a0 a1) :=
  Eq.mp (by kernel_rfl) (call_runs (P := Tryz.prog) prsEvt n 116 Tryz.f116 [.val (.int .i64) a0, .val (.int .i64) a1] (by kernel_rfl) (by kernel_rfl))
end Go.Proofs.YtmgeeanbecmkbaaGreatDoor.Den
namespace Go.Proofs.YtmgeeanbecmkbaaGreatDoor.Den
open Go
set_option linter.unusedVariables false
noncomputable def impl_reader_binary.L0 (n : Nat) (m : Nat) (x0 : Int) (x1 : Int) (x2 : Int) (x3 : List UInt8) (x4 : (List FNode)) (x5 : Bool) : Option (Int × reader × Unit) :=
  loopAt cfg ENV n 122 Tryz.f122 [1, 1, 0, 0] [] 1 m { n := 55, vals := [(0, .loc 0 [] timpl_reader), (1, .dat ⟨(.int .i64), x0, .ro⟩), (2, .dat ⟨(.int .i64), x1, .ro⟩), (7, .dat ⟨(.int .i64), x2, .ro⟩)], boxes := [(0, .fld 153 [⟨.str, x3, .ro⟩, ⟨(.slice 126 timpl_FNode), x4, (.own 0 0)⟩, ⟨.bool, x5, .ro⟩])], nb := 1, vers := [(0, 0)], nid := 1, dr := false }
noncomputable def impl_reader_binary.L1 (n : Nat) (m0 : Nat) (m : Nat) (x0 : Int) (x1 : Int) (x2 : Int) (x3 : Int) (x4 : Int) (x5 : List UInt8) (x6 : (List FNode)) (x7 : Bool) : Option (Int × reader × Unit) :=
  loopAt cfg ENV n 122 Tryz.f122 [1, 1, 0, 0, 0, 1, 0, 1, 0, 1, 0] [(m0, 1)] 1 m { n := 55, vals := [(0, .loc 0 [] timpl_reader), (1, .dat ⟨(.int .i64), x0, .ro⟩), (2, .dat ⟨(.int .i64), x1, .ro⟩), (7, .dat ⟨(.int .i64), x2, .ro⟩), (8, .dat ⟨(.int .i64), x3, .ro⟩), (9, .dat ⟨(.int .i64), x4, .ro⟩)], boxes := [(0, .fld 153 [⟨.str, x5, .ro⟩, ⟨(.slice 126 timpl_FNode), x6, (.own 0 0)⟩, ⟨.bool, x7, .ro⟩])], nb := 1, vers := [(0, 0)], nid := 1, dr := false }
noncomputable def impl_reader_binary.J0 (n : Nat) (m : Nat) (x0 : Int) (x1 : List UInt8) (x2 : (List FNode)) (x3 : Bool) : Option (Int × reader × Unit) :=
  some (x0, (x1, x2, x3, ()), ())
noncomputable def impl_reader_binary.J1 (n : Nat) (m0 : Nat) (m : Nat) (x0 : Int) (x1 : Int) (x2 : Int) (x3 : Int) (x4 : List UInt8) (x5 : (List FNode)) (x6 : Bool) : Option (Int × reader × Unit) :=
  bif (x3 == (0 : Int)) then some (x2, (x4, x5, x6, ()), ()) else (impl_binds x3).bind fun q4 => bif (decide (q4.1 < x0)) then some (x2, (x4, x5, x6, ()), ()) else (impl_opText x3).bind fun q5 => (impl_reader_take (x4, x5, x6, ()) q5.1).bind fun q6 => (impl_binds x3).bind fun q7 => (impl_reader_binary q6.2.1 (IntKind.wrap .i64 (q7.1 + (1 : Int))) x1).bind fun q8 => (impl_reader_put q8.2.1 ((5 : Int), x3, ((0 : Int), (0 : Int), ([] : List UInt8), ()), (((0 : Int), (0 : Int), ()), false, false, ()), (((0 : Int), (0 : Int), ()), false, false, ()), ([x2, q8.1] : (List Int)), ())).bind fun q9 => impl_reader_binary.L0 n m0 x0 x1 q9.1 q9.2.1.1 q9.2.1.2.1 q9.2.1.2.2.1
theorem impl_reader_binary.L0_eq (n : Nat) (m : Nat) (x0 : Int) (x1 : Int) (x2 : Int) (x3 : List UInt8) (x4 : (List FNode)) (x5 : Bool) : impl_reader_binary.L0 n (m + 1) x0 x1 x2 x3 x4 x5 =
  bif (!x5) then (impl_reader_binary.L1 n m n x0 x1 x2 (0 : Int) (1 : Int) x3 x4 x5) else impl_reader_binary.J0 n m x2 x3 x4 x5 := by kernel_rfl
theorem impl_reader_binary.L1_eq (n : Nat) (m0 : Nat) (m : Nat) (x0 : Int) (x1 : Int) (x2 : Int) (x3 : Int) (x4 : Int) (x5 : List UInt8) (x6 : (List FNode)) (x7 : Bool) : impl_reader_binary.L1 n m0 (m + 1) x0 x1 x2 x3 x4 x5 x6 x7 =
  bif (decide (x4 ≤ (11 : Int))) then ((impl_reader_sign (x5, x6, x7, ())).bind fun q2 => (impl_opText x4).bind fun q3 => bif (q2.1 == q3.1) then (impl_reader_binary.L1 n m0 m x0 x1 x2 x4 (IntKind.wrap .i64 (x4 + (1 : Int))) q2.2.1.1 q2.2.1.2.1 q2.2.1.2.2.1) else impl_reader_binary.L1 n m0 m x0 x1 x2 x3 (IntKind.wrap .i64 (x4 + (1 : Int))) q2.2.1.1 q2.2.1.2.1 q2.2.1.2.2.1) else impl_reader_binary.J1 n m0 m x0 x1 x2 x3 x5 x6 x7 := by kernel_rfl
noncomputable def impl_reader_binary.B (n : Nat) (a0 : reader) (a1 : Int) (a2 : Int) : Option (Int × reader × Unit) :=
  (impl_reader_unary (a0.1, a0.2.1, a0.2.2.1, ()) a2).bind fun q1 => impl_reader_binary.L0 n n a1 a2 q1.1 q1.2.1.1 q1.2.1.2.1 q1.2.1.2.2.1
theorem impl_reader_binary.of (n : Nat) (a0 : reader) (a1 : Int) (a2 : Int) : Runs (impl_reader_binary.B n a0 a1 a2) (impl_reader_binary a0 a1 a2) :=
  Eq.mp (by kernel_rfl) (call_runs (P := Tryz.prog) prsEvt n 122 Tryz.f122 [.io timpl_reader a0, .val (.int .i64) a1, .val (.int .i64) a2] (by kernel_rfl) (by kernel_rfl))
noncomputable def impl_reader_blanks.B (n : Nat) (a0 : reader) : Option (reader × Unit) :=
  (strings_TrimLeft a0.1 ([32] : List UInt8)).bind fun q1 => some ((q1.1, a0.2.1, a0.2.2.1, ()), ())
theorem impl_reader_blanks.of (n : Nat) (a0 : reader) : Runs (impl_reader_blanks.B n a0) (impl_reader_blanks a0) :=
  Eq.mp (by kernel_rfl) (call_runs (P := Tryz.prog) prsEvt n 123 Tryz.f123 [.io timpl_reader a0] (by kernel_rfl) (by kernel_rfl))
noncomputable def impl_FormulaOk.B (n : Nat) (a0 : (List FNode)) : Option (Bool × Unit) :=
  (impl_within (a0.length : Int) (1 : Int) (60 : Int)).bind fun q1 => bif q1.1 then (idxC a0 (IntKind.wrap .i64 ((a0.length : Int) - (1 : Int))) fun e2 => bif (e2.1 != (3 : Int)) then ((impl_from a0 (IntKind.wrap .i64 ((a0.length : Int) - (1 : Int))) (0 : Int)).bind fun q3 => some ((q3.1 == (0 : Int)), ())) else some (false, ())) else some (false, ())
theorem impl_FormulaOk.of (n : Nat) (a0 : (List FNode)) : Runs (impl_FormulaOk.B n a0) (impl_FormulaOk a0) :=
  Eq.mp (by kernel_rfl) (call_runs (P := Tryz.prog) prsEvt n 124 Tryz.f124 [.val (.slice 126 timpl_FNode) a0] (by kernel_rfl) (by kernel_rfl))
noncomputable def impl_FormulaText.B (n : Nat) (a0 : (List FNode)) : Option (List UInt8 × Unit) :=
  (impl_FormulaOk a0).bind fun q1 => bif (!q1.1) then some (([] : List UInt8), ()) else (impl_formulaText a0 (IntKind.wrap .i64 ((a0.length : Int) - (1 : Int))) (1 : Int)).bind fun q2 => bif (decide ((q2.1.length : Int) > (200 : Int))) then some (([] : List UInt8), ()) else some (q2.1, ())
theorem impl_FormulaText.of (n : Nat) (a0 : (List FNode)) : Runs (impl_FormulaText.B n a0) (impl_FormulaText a0) :=
  Eq.mp (by kernel_rfl) (call_runs (P := Tryz.prog) prsEvt n 125 Tryz.f125 [.val (.slice 126 timpl_FNode) a0] (by kernel_rfl) (by kernel_rfl))
noncomputable def impl_truth.B (n : Nat) (a0 : Bool) : Option (Value × Unit) :=
  bif a0 then some (((3 : Int), (1 : Int), ([] : List UInt8), ()), ()) else some (((3 : Int), (0 : Int), ([] : List UInt8), ()), ())
theorem impl_truth.of (n : Nat) (a0 : Bool) : Runs (impl_truth.B n a0) (impl_truth a0) :=
  Eq.mp (by kernel_rfl) (call_runs (P := Tryz.prog) prsEvt n 129 Tryz.f129 [.val .bool a0] (by kernel_rfl) (by kernel_rfl))
noncomputable def impl_errorText.B (n : Nat) (a0 : Int) : Option (List UInt8 × Unit) :=
  idxC ([([] : List UInt8), ([35, 68, 73, 86, 33] : List UInt8), ([35, 84, 89, 80, 69, 33] : List UInt8), ([35, 82, 69, 70, 33] : List UInt8), ([35, 79, 86, 69, 82, 33] : List UInt8), ([35, 67, 89, 67, 76, 69, 33] : List UInt8)] : (List (List UInt8))) a0 fun e1 => some (e1, ())
theorem impl_errorText.of (n : Nat) (a0 : Int) : Runs (impl_errorText.B n a0) (impl_errorText a0) :=
  Eq.mp (by kernel_rfl) (call_runs (P := Tryz.prog) prsEvt n 131 Tryz.f131 [.val (.int .i64) a0] (by kernel_rfl) (by kernel_rfl))
noncomputable def impl_fault.B (n : Nat) (a0 : Int) : Option (Value × Unit) :=
  some (((4 : Int), a0, ([] : List UInt8), ()), ())
theorem impl_fault.of (n : Nat) (a0 : Int) : Runs (impl_fault.B n a0) (impl_fault a0) :=
  Eq.mp (by kernel_rfl) (call_runs (P := Tryz.prog) prsEvt n 132 Tryz.f132 [.val (.int .i64) a0] (by kernel_rfl) (by kernel_rfl))
noncomputable def impl_valueText.B (n : Nat) (a0 : Value) : Option (List UInt8 × Unit) :=
  bif (a0.1 == (1 : Int)) then ((impl_decimal a0.2.1).bind fun q1 => some (q1.1, ())) else bif (a0.1 == (2 : Int)) then (bif decide (([39] : List UInt8).length + a0.2.2.1.length ≤ scap) then some ((([39] : List UInt8) ++ a0.2.2.1), ()) else none) else bif (a0.1 == (3 : Int)) then (idxC ([([70, 65, 76, 83, 69] : List UInt8), ([84, 82, 85, 69] : List UInt8)] : (List (List UInt8))) a0.2.1 fun e2 => some (e2, ())) else bif (a0.1 == (4 : Int)) then ((impl_errorText a0.2.1).bind fun q3 => some (q3.1, ())) else some (([] : List UInt8), ())
theorem impl_valueText.of (n : Nat) (a0 : Value) : Runs (impl_valueText.B n a0) (impl_valueText a0) :=
  Eq.mp (by kernel_rfl) (call_runs (P := Tryz.prog) prsEvt n 133 Tryz.f133 [.val timpl_Value a0] (by kernel_rfl) (by kernel_rfl))
noncomputable def spec_l3Rd_arg.B (n : Nat) (a0 : l3Rd) : Option (Int × l3Rd × Unit) :=
  (spec_l3Rd_blanks (a0.1, a0.2.1, a0.2.2.1, a0.2.2.2.1, ())).bind fun q1 => (spec_l3Rd_word q1.1).bind fun q2 => (spec_ReadPlace q2.1).bind fun q3 => bif q3.2.1 then ((spec_l3Rd_is q2.2.1 ([58] : List UInt8)).bind fun q4 => bif q4.1 then ((spec_l3Rd_blanks q4.2.1).bind fun q5 => (spec_l3Rd_word q5.1).bind fun q6 => (spec_ReadPlace q6.1).bind fun q7 => bif (!q7.2.1) then some ((0 : Int), (q6.2.1.1, q6.2.1.2.1, true, q6.2.1.2.2.2.1, ()), ()) else (spec_l3Rd_add q6.2.1 ((3 : Int), (0 : Int), ((0 : Int), (0 : Int), ([] : List UInt8), ()), q3.1, q7.1, [], ())).bind fun q8 => some (q8.1, q8.2.1, ())) else (spec_l3Rd_row (q4.2.1.1, q1.1.2.1, q4.2.1.2.2.1, q4.2.1.2.2.2.1, ()) (1 : Int)).bind fun q9 => some (q9.1, q9.2.1, ())) else (spec_l3Rd_row (q2.2.1.1, q1.1.2.1, q2.2.1.2.2.1, q2.2.1.2.2.2.1, ()) (1 : Int)).bind fun q10 => some (q10.1, q10.2.1, ())
theorem spec_l3Rd_arg.of (n : Nat) (a0 : l3Rd) : Runs (spec_l3Rd_arg.B n a0) (spec_l3Rd_arg a0) :=
  Eq.mp (by kernel_rfl) (call_runs (P := Tryz.prog) prsEvt n 134 Tryz.f134 [.io tspec_l3Rd a0] (by kernel_rfl) (by kernel_rfl))
noncomputable def spec_ReadCol.L0 (n : Nat) (m : Nat) (x0 : List UInt8) (x1 : Int) : Option (Int × Unit) :=
  loopAt cfg ENV n 135 Tryz.f135 [1, 0, 1, 0] [] 0 m { n := 13, vals := [(0, .dat ⟨.str, x0, .ro⟩), (3, .dat ⟨(.int .i64), x1, .ro⟩)], boxes := [], nb := 0, vers := [], nid := 0, dr := false }
noncomputable def spec_ReadCol.J0 (n : Nat) (m : Nat) : Option (Int × Unit) :=
  some ((0 : Int), ())
theorem spec_ReadCol.L0_eq (n : Nat) (m : Nat) (x0 : List UInt8) (x1 : Int) : spec_ReadCol.L0 n (m + 1) x0 x1 =
  bif (decide (x1 ≤ (52 : Int))) then ((spec_ColText x1).bind fun q1 => bif (q1.1 == x0) then some (x1, ()) else spec_ReadCol.L0 n m x0 (IntKind.wrap .i64 (x1 + (1 : Int)))) else spec_ReadCol.J0 n m := by kernel_rfl
noncomputable def spec_ReadCol.B (n : Nat) (a0 : List UInt8) : Option (Int × Unit) :=
  spec_ReadCol.L0 n n a0 (1 : Int)
theorem spec_ReadCol.of (n : Nat) (a0 : List UInt8) : Runs (spec_ReadCol.B n a0) (spec_ReadCol a0) :=
  Eq.mp (by kernel_rfl) (call_runs (P := Tryz.prog) prsEvt n 135 Tryz.f135 [.val .str a0] (by kernel_rfl) (by kernel_rfl))
noncomputable def impl_reader_unary.J0 (n : Nat) (x0 : Int) (x1 : List UInt8) (x2 : (List FNode)) (x3 : Bool) : Option (Int × reader × Unit) :=
  bif x3 then some ((-1 : Int), (x1, x2, x3, ()), ()) else (impl_reader_take (x1, x2, x3, ()) ([45] : List UInt8)).bind fun q1 => bif q1.1 then ((impl_reader_unary q1.2.1 (IntKind.wrap .i64 (x0 + (1 : Int)))).bind fun q2 => (impl_reader_put q2.2.1 ((4 : Int), (0 : Int), ((0 : Int), (0 : Int), ([] : List UInt8), ()), (((0 : Int), (0 : Int), ()), false, false, ()), (((0 : Int), (0 : Int), ()), false, false, ()), ([q2.1] : (List Int)), ())).bind fun q3 => some (q3.1, q3.2.1, ())) else (impl_reader_atom q1.2.1 x0).bind fun q4 => some (q4.1, q4.2.1, ())
noncomputable def impl_reader_unary.B (n : Nat) (a0 : reader) (a1 : Int) : Option (Int × reader × Unit) :=
  bif (decide (a1 > (400 : Int))) then (impl_reader_unary.J0 n a1 a0.1 a0.2.1 true) else impl_reader_unary.J0 n a1 a0.1 a0.2.1 a0.2.2.1
theorem impl_reader_unary.of (n : Nat) (a0 : reader) (a1 : Int) : Runs (impl_reader_unary.B n a0 a1) (impl_reader_unary a0 a1) :=
  Eq.mp (by kernel_rfl) (call_runs (P := Tryz.prog) prsEvt n 138 Tryz.f138 [.io timpl_reader a0, .val (.int .i64) a1] (by kernel_rfl) (by kernel_rfl))
noncomputable def impl_reader_sign.L0 (n : Nat) (m : Nat) (x0 : (List (List UInt8))) (x1 : Int) (x2 : Int) (x3 : List UInt8) (x4 : (List FNode)) (x5 : Bool) : Option (List UInt8 × reader × Unit) :=
  loopAt cfg ENV n 139 Tryz.f139 [1, 1, 0, 1, 0] [] 1 m { n := 21, vals := [(0, .loc 0 [] timpl_reader), (7, .dat ⟨(.slice 9 .str), x0, (.own 0 0)⟩), (8, .dat ⟨(.int .i64), x1, .ro⟩), (9, .dat ⟨(.int .i64), x2, .ro⟩)], boxes := [(0, .fld 153 [⟨.str, x3, .ro⟩, ⟨(.slice 126 timpl_FNode), x4, (.own 1 0)⟩, ⟨.bool, x5, .ro⟩])], nb := 1, vers := [(0, 0), (1, 0)], nid := 2, dr := false }
noncomputable def impl_reader_sign.J0 (n : Nat) (m : Nat) (x0 : List UInt8) (x1 : (List FNode)) (x2 : Bool) : Option (List UInt8 × reader × Unit) :=
  some (([] : List UInt8), (x0, x1, x2, ()), ())
theorem impl_reader_sign.L0_eq (n : Nat) (m : Nat) (x0 : (List (List UInt8))) (x1 : Int) (x2 : Int) (x3 : List UInt8) (x4 : (List FNode)) (x5 : Bool) : impl_reader_sign.L0 n (m + 1) x0 x1 x2 x3 x4 x5 =
  bif (decide (x2 < x1)) then (idxC x0 x2 fun e2 => (strings_HasPrefix x3 e2).bind fun q3 => bif q3.1 then some (e2, (x3, x4, x5, ()), ()) else impl_reader_sign.L0 n m x0 x1 (IntKind.wrap .i64 (x2 + (1 : Int))) x3 x4 x5) else impl_reader_sign.J0 n m x3 x4 x5 := by kernel_rfl
noncomputable def impl_reader_sign.B (n : Nat) (a0 : reader) : Option (List UInt8 × reader × Unit) :=
  (impl_reader_blanks (a0.1, a0.2.1, a0.2.2.1, ())).bind fun q1 => impl_reader_sign.L0 n n ([([60, 62] : List UInt8), ([60, 61] : List UInt8), ([62, 61] : List UInt8), ([60] : List UInt8), ([62] : List UInt8), ([61] : List UInt8), ([38] : List UInt8), ([43] : List UInt8), ([45] : List UInt8), ([42] : List UInt8), ([47] : List UInt8), ([40] : List UInt8), ([41] : List UInt8), ([44] : List UInt8), ([58] : List UInt8)] : (List (List UInt8))) (([([60, 62] : List UInt8), ([60, 61] : List UInt8), ([62, 61] : List UInt8), ([60] : List UInt8), ([62] : List UInt8), ([61] : List UInt8), ([38] : List UInt8), ([43] : List UInt8), ([45] : List UInt8), ([42] : List UInt8), ([47] : List UInt8), ([40] : List UInt8), ([41] : List UInt8), ([44] : List UInt8), ([58] : List UInt8)] : (List (List UInt8))).length : Int) (0 : Int) q1.1.1 q1.1.2.1 q1.1.2.2.1
theorem impl_reader_sign.of (n : Nat) (a0 : reader) : Runs (impl_reader_sign.B n a0) (impl_reader_sign a0) :=
  Eq.mp (by kernel_rfl) (call_runs (P := Tryz.prog) prsEvt n 139 Tryz.f139 [.io timpl_reader a0] (by kernel_rfl) (by kernel_rfl))
noncomputable def impl_opText.B (n : Nat) (a0 : Int) : Option (List UInt8 × Unit) :=
  idxC ([([] : List UInt8), ([43] : List UInt8), ([45] : List UInt8), ([42] : List UInt8), ([47] : List UInt8), ([38] : List UInt8), ([61] : List UInt8), ([60, 62] : List UInt8), ([60] : List UInt8), ([60, 61] : List UInt8), ([62] : List UInt8), ([62, 61] : List UInt8)] : (List (List UInt8))) a0 fun e1 => some (e1, ())
theorem impl_opText.of (n : Nat) (a0 : Int) : Runs (impl_opText.B n a0) (impl_opText a0) :=
  Eq.mp (by kernel_rfl) (call_runs (P := Tryz.prog) prsEvt n 140 Tryz.f140 [.val (.int .i64) a0] (by kernel_rfl) (by kernel_rfl))
noncomputable def impl_binds.J1 (n : Nat) (x0 : Int) (x1 : Bool) : Option (Int × Unit) :=
  bif x1 then some ((3 : Int), ()) else bif (x0 == (5 : Int)) then some ((2 : Int), ()) else some ((1 : Int), ())
noncomputable def impl_binds.J0 (n : Nat) (x0 : Int) (x1 : Bool) : Option (Int × Unit) :=
  bif x1 then some ((4 : Int), ()) else bif (x0 == (1 : Int)) then (impl_binds.J1 n x0 true) else impl_binds.J1 n x0 (x0 == (2 : Int))
noncomputable def impl_binds.B (n : Nat) (a0 : Int) : Option (Int × Unit) :=
  bif (a0 == (3 : Int)) then (impl_binds.J0 n a0 true) else impl_binds.J0 n a0 (a0 == (4 : Int))
theorem impl_binds.of (n : Nat) (a0 : Int) : Runs (impl_binds.B n a0) (impl_binds a0) :=
  Eq.mp (by kernel_rfl) (call_runs (P := Tryz.prog) prsEvt n 141 Tryz.f141 [.val (.int .i64) a0] (by kernel_rfl) (by kernel_rfl))
noncomputable def impl_reader_take.B (n : Nat) (a0 : reader) (a1 : List UInt8) : Option (Bool × reader × Unit) :=
  (impl_reader_sign (a0.1, a0.2.1, a0.2.2.1, ())).bind fun q1 => bif (!(q1.1 == a1)) then some (false, q1.2.1, ()) else cutC q1.2.1.1.length (a1.length : Int) (q1.2.1.1.length : Int) fun l2 h3 => some (true, (((q1.2.1.1.take h3).drop l2), q1.2.1.2.1, q1.2.1.2.2.1, ()), ())
theorem impl_reader_take.of (n : Nat) (a0 : reader) (a1 : List UInt8) : Runs (impl_reader_take.B n a0 a1) (impl_reader_take a0 a1) :=
  Eq.mp (by kernel_rfl) (call_runs (P := Tryz.prog) prsEvt n 142 Tryz.f142 [.io timpl_reader a0, .val .str a1] (by kernel_rfl) (by kernel_rfl))
noncomputable def impl_reader_put.J0 (n : Nat) (x0 : Int) (x1 : Int) (x2 : Value) (x3 : Place) (x4 : Place) (x5 : (List Int)) (x6 : List UInt8) (x7 : (List FNode)) (x8 : Bool) : Option (Int × reader × Unit) :=
  some ((IntKind.wrap .i64 ((x7.length : Int) - (1 : Int))), (x6, x7, x8, ()), ())
noncomputable def impl_reader_put.B (n : Nat) (a0 : reader) (a1 : FNode) : Option (Int × reader × Unit) :=
  bif a0.2.2.1 then (impl_reader_put.J0 n a1.1 a1.2.1 a1.2.2.1 a1.2.2.2.1 a1.2.2.2.2.1 a1.2.2.2.2.2.1 a0.1 a0.2.1 true) else bif (!(decide ((a0.2.1.length : Int) ≥ (60 : Int)))) then (bif decide (a0.2.1.length + ([a1] : (List FNode)).length ≤ cap) then impl_reader_put.J0 n a1.1 a1.2.1 a1.2.2.1 a1.2.2.2.1 a1.2.2.2.2.1 a1.2.2.2.2.2.1 a0.1 (a0.2.1 ++ ([a1] : (List FNode))) (decide ((a0.2.1.length : Int) ≥ (60 : Int))) else none) else impl_reader_put.J0 n a1.1 a1.2.1 a1.2.2.1 a1.2.2.2.1 a1.2.2.2.2.1 a1.2.2.2.2.2.1 a0.1 a0.2.1 (decide ((a0.2.1.length : Int) ≥ (60 : Int)))
theorem impl_reader_put.of (n : Nat) (a0 : reader) (a1 : FNode) : Runs (impl_reader_put.B n a0 a1) (impl_reader_put a0 a1) :=
  Eq.mp (by kernel_rfl) (call_runs (P := Tryz.prog) prsEvt n 143 Tryz.f143 [.io timpl_reader a0, .val timpl_FNode a1] (by kernel_rfl) (by kernel_rfl))
noncomputable def impl_from.L0 (n : Nat) (m : Nat) (x0 : (List FNode)) (x1 : Int) (x2 : Int) (x3 : Int) (x4 : Int) : Option (Int × Unit) :=
  loopAt cfg ENV n 145 Tryz.f145 [1, 1, 1, 0, 1, 0] [] 0 m { n := 76, vals := [(0, .dat ⟨(.slice 126 timpl_FNode), x0, .ro⟩), (1, .dat ⟨(.int .i64), x1, .ro⟩), (2, .dat ⟨(.int .i64), x2, .ro⟩), (7, .dat ⟨(.int .i64), x3, .ro⟩), (8, .dat ⟨(.int .i64), x4, .ro⟩)], boxes := [], nb := 0, vers := [], nid := 0, dr := false }
noncomputable def impl_from.J0 (n : Nat) (m : Nat) (x0 : Int) : Option (Int × Unit) :=
  some (x0, ())
theorem impl_from.L0_eq (n : Nat) (m : Nat) (x0 : (List FNode)) (x1 : Int) (x2 : Int) (x3 : Int) (x4 : Int) : impl_from.L0 n (m + 1) x0 x1 x2 x3 x4 =
  bif (decide (x4 ≥ (0 : Int))) then (idxC x0 x1 fun e4 => idxC e4.2.2.2.2.2.1 x4 fun e5 => bif (e5 != (IntKind.wrap .i64 (x3 - (1 : Int)))) then some ((-1 : Int), ()) else bif (decide (e5 < (0 : Int))) then some ((-1 : Int), ()) else idxC x0 e5 fun e6 => bif (e6.1 == (3 : Int)) then (idxC x0 x1 fun e7 => bif (e7.1 != (6 : Int)) then some ((-1 : Int), ()) else (impl_from x0 e5 (IntKind.wrap .i64 (x2 + (1 : Int)))).bind fun q8 => bif (decide (q8.1 < (0 : Int))) then some ((-1 : Int), ()) else impl_from.L0 n m x0 x1 x2 q8.1 (IntKind.wrap .i64 (x4 - (1 : Int)))) else (impl_from x0 e5 (IntKind.wrap .i64 (x2 + (1 : Int)))).bind fun q9 => bif (decide (q9.1 < (0 : Int))) then some ((-1 : Int), ()) else impl_from.L0 n m x0 x1 x2 q9.1 (IntKind.wrap .i64 (x4 - (1 : Int)))) else impl_from.J0 n m x3 := by kernel_rfl
noncomputable def impl_from.B (n : Nat) (a0 : (List FNode)) (a1 : Int) (a2 : Int) : Option (Int × Unit) :=
  bif (decide (a1 < (0 : Int))) then some ((-1 : Int), ()) else bif (decide (a2 ≥ (12 : Int))) then some ((-1 : Int), ()) else idxC a0 a1 fun e1 => (impl_FNode_isOwn e1).bind fun q2 => bif (!q2.1) then some ((-1 : Int), ()) else idxC a0 a1 fun e3 => impl_from.L0 n n a0 a1 a2 a1 (IntKind.wrap .i64 ((e3.2.2.2.2.2.1.length : Int) - (1 : Int)))
theorem impl_from.of (n : Nat) (a0 : (List FNode)) (a1 : Int) (a2 : Int) : Runs (impl_from.B n a0 a1 a2) (impl_from a0 a1 a2) :=
  Eq.mp (by kernel_rfl) (call_runs (P := Tryz.prog) prsEvt n 145 Tryz.f145 [.val (.slice 126 timpl_FNode) a0, .val (.int .i64) a1, .val (.int .i64) a2] (by kernel_rfl) (by kernel_rfl))
noncomputable def impl_formulaText.L0 (n : Nat) (m : Nat) (x0 : (List FNode)) (x1 : (List (List UInt8))) (x2 : (List Int)) (x3 : Int) (x4 : Int) (x5 : Int) (x6 : Int) (x7 : Value) (x8 : Place) (x9 : Place) (x10 : (List Int)) : Option (List UInt8 × Unit) :=
  loopAt cfg ENV n 146 Tryz.f146 [1, 1, 1, 1, 0, 1, 0] [] 1 m { n := 113, vals := [(0, .dat ⟨(.slice 126 timpl_FNode), x0, .ro⟩), (7, .loc 0 [] timpl_FNode), (10, .dat ⟨(.slice 9 .str), x1, (.own 0 0)⟩), (92, .dat ⟨(.slice 2 (.int .i64)), x2, .ro⟩), (93, .dat ⟨(.int .i64), x3, .ro⟩), (94, .dat ⟨(.int .i64), x4, .ro⟩)], boxes := [(0, .fld 126 [⟨(.int .i64), x5, .ro⟩, ⟨(.int .i64), x6, .ro⟩, ⟨timpl_Value, x7, .ro⟩, ⟨timpl_Place, x8, .ro⟩, ⟨timpl_Place, x9, .ro⟩, ⟨(.slice 2 (.int .i64)), x10, .ro⟩])], nb := 1, vers := [(0, 0)], nid := 1, dr := false }
noncomputable def impl_formulaText.J0 (n : Nat) (m : Nat) (x0 : (List (List UInt8))) (x1 : Int) (x2 : Int) (x3 : Value) (x4 : Place) (x5 : Place) (x6 : (List Int)) : Option (List UInt8 × Unit) :=
  (impl_fnText x2).bind fun q17 => bif decide (q17.1.length + ([40] : List UInt8).length ≤ scap) then (strings_Join x0 ([44] : List UInt8)).bind fun q18 => bif decide ((q17.1 ++ ([40] : List UInt8)).length + q18.1.length ≤ scap) then bif decide (((q17.1 ++ ([40] : List UInt8)) ++ q18.1).length + ([41] : List UInt8).length ≤ scap) then some ((((q17.1 ++ ([40] : List UInt8)) ++ q18.1) ++ ([41] : List UInt8)), ()) else none else none else none
theorem impl_formulaText.L0_eq (n : Nat) (m : Nat) (x0 : (List FNode)) (x1 : (List (List UInt8))) (x2 : (List Int)) (x3 : Int) (x4 : Int) (x5 : Int) (x6 : Int) (x7 : Value) (x8 : Place) (x9 : Place) (x10 : (List Int)) : impl_formulaText.L0 n (m + 1) x0 x1 x2 x3 x4 x5 x6 x7 x8 x9 x10 =
  bif (decide (x4 < x3)) then (idxC x2 x4 fun e15 => (impl_formulaText x0 e15 (1 : Int)).bind fun q16 => bif decide (x1.length + ([q16.1] : (List (List UInt8))).length ≤ cap) then impl_formulaText.L0 n m x0 (x1 ++ ([q16.1] : (List (List UInt8)))) x2 x3 (IntKind.wrap .i64 (x4 + (1 : Int))) x5 x6 x7 x8 x9 x10 else none) else impl_formulaText.J0 n m x1 x5 x6 x7 x8 x9 x10 := by kernel_rfl
noncomputable def impl_formulaText.B (n : Nat) (a0 : (List FNode)) (a1 : Int) (a2 : Int) : Option (List UInt8 × Unit) :=
  idxC a0 a1 fun e1 => bif (e1.1 == (1 : Int)) then (bif (e1.2.2.1.1 == (2 : Int)) then ((strings_ReplaceAll e1.2.2.1.2.2.1 ([34] : List UInt8) ([34, 34] : List UInt8)).bind fun q2 => bif decide (([34] : List UInt8).length + q2.1.length ≤ scap) then bif decide ((([34] : List UInt8) ++ q2.1).length + ([34] : List UInt8).length ≤ scap) then some (((([34] : List UInt8) ++ q2.1) ++ ([34] : List UInt8)), ()) else none else none) else (impl_valueText e1.2.2.1).bind fun q3 => some (q3.1, ())) else bif (e1.1 == (2 : Int)) then ((impl_PlaceText e1.2.2.2.1).bind fun q4 => some (q4.1, ())) else bif (e1.1 == (3 : Int)) then ((impl_PlaceText e1.2.2.2.1).bind fun q5 => bif decide (q5.1.length + ([58] : List UInt8).length ≤ scap) then (impl_PlaceText e1.2.2.2.2.1).bind fun q6 => bif decide ((q5.1 ++ ([58] : List UInt8)).length + q6.1.length ≤ scap) then some (((q5.1 ++ ([58] : List UInt8)) ++ q6.1), ()) else none else none) else bif (e1.1 == (4 : Int)) then (idxC e1.2.2.2.2.2.1 (0 : Int) fun e7 => (impl_formulaText a0 e7 (5 : Int)).bind fun q8 => bif decide (([45] : List UInt8).length + q8.1.length ≤ scap) then some ((([45] : List UInt8) ++ q8.1), ()) else none) else bif (e1.1 == (5 : Int)) then ((impl_binds e1.2.1).bind fun q9 => idxC e1.2.2.2.2.2.1 (0 : Int) fun e10 => (impl_formulaText a0 e10 q9.1).bind fun q11 => (impl_opText e1.2.1).bind fun q12 => bif decide (q11.1.length + q12.1.length ≤ scap) then idxC e1.2.2.2.2.2.1 (1 : Int) fun e13 => (impl_formulaText a0 e13 (IntKind.wrap .i64 (q9.1 + (1 : Int)))).bind fun q14 => bif decide ((q11.1 ++ q12.1).length + q14.1.length ≤ scap) then bif (decide (q9.1 < a2)) then (bif decide (([40] : List UInt8).length + ((q11.1 ++ q12.1) ++ q14.1).length ≤ scap) then bif decide ((([40] : List UInt8) ++ ((q11.1 ++ q12.1) ++ q14.1)).length + ([41] : List UInt8).length ≤ scap) then some (((([40] : List UInt8) ++ ((q11.1 ++ q12.1) ++ q14.1)) ++ ([41] : List UInt8)), ()) else none else none) else some (((q11.1 ++ q12.1) ++ q14.1), ()) else none else none) else impl_formulaText.L0 n n a0 ([] : (List (List UInt8))) e1.2.2.2.2.2.1 (e1.2.2.2.2.2.1.length : Int) (0 : Int) e1.1 e1.2.1 e1.2.2.1 e1.2.2.2.1 e1.2.2.2.2.1 e1.2.2.2.2.2.1
theorem impl_formulaText.of (n : Nat) (a0 : (List FNode)) (a1 : Int) (a2 : Int) : Runs (impl_formulaText.B n a0 a1 a2) (impl_formulaText a0 a1 a2) :=
  Eq.mp (by kernel_rfl) (call_runs (P := Tryz.prog) prsEvt n 146 Tryz.f146 [.val (.slice 126 timpl_FNode) a0, .val (.int .i64) a1, .val (.int .i64) a2] (by kernel_rfl) (by kernel_rfl))
noncomputable def impl_reader_atom.L0 (n : Nat) (m : Nat) (x0 : Int) (x1 : Int) (x2 : List UInt8) (x3 : (List FNode)) (x4 : Bool) : Option (Int × reader × Unit) :=
  loopAt cfg ENV n 154 Tryz.f154 [1, 1, 0, 0, 1, 1, 1, 0, 1, 0] [] 1 m { n := 120, vals := [(0, .loc 0 [] timpl_reader), (1, .dat ⟨(.int .i64), x0, .ro⟩), (5, .dat ⟨(.int .i64), x1, .ro⟩)], boxes := [(0, .fld 153 [⟨.str, x2, .ro⟩, ⟨(.slice 126 timpl_FNode), x3, (.own 0 0)⟩, ⟨.bool, x4, .ro⟩])], nb := 1, vers := [(0, 0)], nid := 1, dr := false }
noncomputable def impl_reader_atom.L1 (n : Nat) (m : Nat) (x0 : Int) (x1 : List UInt8) (x2 : Int) (x3 : Ref) (x4 : Bool) (x5 : Bool) (x6 : Int) (x7 : Int) (x8 : List UInt8) (x9 : List UInt8) (x10 : (List FNode)) (x11 : Bool) : Option (Int × reader × Unit) :=
  loopAt cfg ENV n 154 Tryz.f154 [1, 1, 1, 1, 1, 1, 0, 1, 0] [] 3 m { n := 120, vals := [(0, .loc 0 [] timpl_reader), (1, .dat ⟨(.int .i64), x0, .ro⟩), (9, .dat ⟨.str, x1, .ro⟩), (14, .dat ⟨(.int .i64), x2, .ro⟩)], boxes := [(2, .fld 53 [⟨tlaws_Ref, x3, .ro⟩, ⟨.bool, x4, .ro⟩, ⟨.bool, x5, .ro⟩]), (1, .fld 81 [⟨(.int .i64), x6, .ro⟩, ⟨(.int .i64), x7, .ro⟩, ⟨.str, x8, .ro⟩]), (0, .fld 153 [⟨.str, x9, .ro⟩, ⟨(.slice 126 timpl_FNode), x10, (.own 0 0)⟩, ⟨.bool, x11, .ro⟩])], nb := 3, vers := [(0, 0)], nid := 1, dr := false }
noncomputable def impl_reader_atom.J0 (n : Nat) (x0 : Int) (x1 : List UInt8) (x2 : (List FNode)) (x3 : Bool) : Option (Int × reader × Unit) :=
  (impl_reader_word (x1, x2, x3, ())).bind fun q8 => (impl_ReadValue q8.1).bind fun q9 => bif q9.2.1 then (bif (q9.1.1 == (1 : Int)) then ((impl_reader_constant q8.2.1 q9.1).bind fun q10 => some (q10.1, q10.2.1, ())) else bif (q9.1.1 == (3 : Int)) then ((impl_reader_constant q8.2.1 q9.1).bind fun q11 => some (q11.1, q11.2.1, ())) else (impl_ReadPlace q8.1).bind fun q12 => bif q12.2.1 then ((impl_reader_put q8.2.1 ((2 : Int), (0 : Int), ((0 : Int), (0 : Int), ([] : List UInt8), ()), q12.1, (((0 : Int), (0 : Int), ()), false, false, ()), [], ())).bind fun q13 => some (q13.1, q13.2.1, ())) else impl_reader_atom.L1 n n x0 q8.1 (1 : Int) q12.1.1 q12.1.2.1 q12.1.2.2.1 q9.1.1 q9.1.2.1 q9.1.2.2.1 q8.2.1.1 q8.2.1.2.1 q8.2.1.2.2.1) else (impl_ReadPlace q8.1).bind fun q14 => bif q14.2.1 then ((impl_reader_put q8.2.1 ((2 : Int), (0 : Int), ((0 : Int), (0 : Int), ([] : List UInt8), ()), q14.1, (((0 : Int), (0 : Int), ()), false, false, ()), [], ())).bind fun q15 => some (q15.1, q15.2.1, ())) else impl_reader_atom.L1 n n x0 q8.1 (1 : Int) q14.1.1 q14.1.2.1 q14.1.2.2.1 q9.1.1 q9.1.2.1 q9.1.2.2.1 q8.2.1.1 q8.2.1.2.1 q8.2.1.2.2.1
noncomputable def impl_reader_atom.J1 (n : Nat) (m : Nat) (x0 : Int) (x1 : List UInt8) (x2 : (List FNode)) (x3 : Bool) : Option (Int × reader × Unit) :=
  (impl_reader_word (x1, x2, x3, ())).bind fun q20 => (impl_ReadValue q20.1).bind fun q21 => bif q21.2.1 then (bif (q21.1.1 == (1 : Int)) then ((impl_reader_constant q20.2.1 q21.1).bind fun q22 => some (q22.1, q22.2.1, ())) else bif (q21.1.1 == (3 : Int)) then ((impl_reader_constant q20.2.1 q21.1).bind fun q23 => some (q23.1, q23.2.1, ())) else (impl_ReadPlace q20.1).bind fun q24 => bif q24.2.1 then ((impl_reader_put q20.2.1 ((2 : Int), (0 : Int), ((0 : Int), (0 : Int), ([] : List UInt8), ()), q24.1, (((0 : Int), (0 : Int), ()), false, false, ()), [], ())).bind fun q25 => some (q25.1, q25.2.1, ())) else impl_reader_atom.L1 n n x0 q20.1 (1 : Int) q24.1.1 q24.1.2.1 q24.1.2.2.1 q21.1.1 q21.1.2.1 q21.1.2.2.1 q20.2.1.1 q20.2.1.2.1 q20.2.1.2.2.1) else (impl_ReadPlace q20.1).bind fun q26 => bif q26.2.1 then ((impl_reader_put q20.2.1 ((2 : Int), (0 : Int), ((0 : Int), (0 : Int), ([] : List UInt8), ()), q26.1, (((0 : Int), (0 : Int), ()), false, false, ()), [], ())).bind fun q27 => some (q27.1, q27.2.1, ())) else impl_reader_atom.L1 n n x0 q20.1 (1 : Int) q26.1.1 q26.1.2.1 q26.1.2.2.1 q21.1.1 q21.1.2.1 q21.1.2.2.1 q20.2.1.1 q20.2.1.2.1 q20.2.1.2.2.1
noncomputable def impl_reader_atom.J2 (n : Nat) (m : Nat) (x0 : Ref) (x1 : Bool) (x2 : Bool) (x3 : Int) (x4 : Int) (x5 : List UInt8) (x6 : List UInt8) (x7 : (List FNode)) (x8 : Bool) : Option (Int × reader × Unit) :=
  some ((-1 : Int), (x6, x7, true, ()), ())
theorem impl_reader_atom.L0_eq (n : Nat) (m : Nat) (x0 : Int) (x1 : Int) (x2 : List UInt8) (x3 : (List FNode)) (x4 : Bool) : impl_reader_atom.L0 n (m + 1) x0 x1 x2 x3 x4 =
  bif (decide (x1 ≤ (5 : Int))) then ((impl_errorText x1).bind fun q16 => (strings_CutPrefix x2 q16.1).bind fun q17 => bif q17.2.1 then ((impl_fault x1).bind fun q18 => (impl_reader_constant (q17.1, x3, x4, ()) q18.1).bind fun q19 => some (q19.1, q19.2.1, ())) else impl_reader_atom.L0 n m x0 (IntKind.wrap .i64 (x1 + (1 : Int))) x2 x3 x4) else impl_reader_atom.J1 n m x0 x2 x3 x4 := by kernel_rfl
theorem impl_reader_atom.L1_eq (n : Nat) (m : Nat) (x0 : Int) (x1 : List UInt8) (x2 : Int) (x3 : Ref) (x4 : Bool) (x5 : Bool) (x6 : Int) (x7 : Int) (x8 : List UInt8) (x9 : List UInt8) (x10 : (List FNode)) (x11 : Bool) : impl_reader_atom.L1 n (m + 1) x0 x1 x2 x3 x4 x5 x6 x7 x8 x9 x10 x11 =
  bif (decide (x2 ≤ (10 : Int))) then ((impl_fnText x2).bind fun q28 => bif (x1 == q28.1) then ((impl_reader_call (x9, x10, x11, ()) x2 x0).bind fun q29 => some (q29.1, q29.2.1, ())) else impl_reader_atom.L1 n m x0 x1 (IntKind.wrap .i64 (x2 + (1 : Int))) x3 x4 x5 x6 x7 x8 x9 x10 x11) else impl_reader_atom.J2 n m x3 x4 x5 x6 x7 x8 x9 x10 x11 := by kernel_rfl
noncomputable def impl_reader_atom.B (n : Nat) (a0 : reader) (a1 : Int) : Option (Int × reader × Unit) :=
  (impl_reader_blanks (a0.1, a0.2.1, a0.2.2.1, ())).bind fun q1 => (strings_HasPrefix q1.1.1 ([34] : List UInt8)).bind fun q2 => bif q2.1 then ((impl_reader_quoted q1.1).bind fun q3 => some (q3.1, q3.2.1, ())) else (strings_HasPrefix q1.1.1 ([35] : List UInt8)).bind fun q4 => bif q4.1 then (impl_reader_atom.L0 n n a1 (1 : Int) q1.1.1 q1.1.2.1 q1.1.2.2.1) else (impl_reader_take q1.1 ([40] : List UInt8)).bind fun q5 => bif q5.1 then ((impl_reader_binary q5.2.1 (1 : Int) (IntKind.wrap .i64 (a1 + (1 : Int)))).bind fun q6 => bif q6.2.1.2.2.1 then some (q6.1, (q6.2.1.1, q6.2.1.2.1, true, ()), ()) else (impl_reader_take q6.2.1 ([41] : List UInt8)).bind fun q7 => some (q6.1, (q7.2.1.1, q7.2.1.2.1, (!q7.1), ()), ())) else impl_reader_atom.J0 n a1 q5.2.1.1 q5.2.1.2.1 q5.2.1.2.2.1
theorem impl_reader_atom.of (n : Nat) (a0 : reader) (a1 : Int) : Runs (impl_reader_atom.B n a0 a1) (impl_reader_atom a0 a1) :=
  Eq.mp (by kernel_rfl) (call_runs (P := Tryz.prog) prsEvt n 154 Tryz.f154 [.io timpl_reader a0, .val (.int .i64) a1] (by kernel_rfl) (by kernel_rfl))
noncomputable def impl_FNode_isOwn.J0 (n : Nat) (x0 : Int) (x1 : Int) (x2 : Value) (x3 : Place) (x4 : Place) (x5 : (List Int)) (x6 : Int) (x7 : Int) (x8 : Value) (x9 : Place) (x10 : Place) (x11 : (List Int)) : Option (Bool × Unit) :=
  (impl_FNode_isPlaced (x6, x7, x8, x9, x10, x11, ())).bind fun q2 => bif q2.1 then ((impl_FNode_kidsOk (x6, x7, x8, x9, x10, x11, ())).bind fun q3 => bif q3.1 then (bif ((x2.1 == x8.1) && ((x2.2.1 == x8.2.1) && ((x2.2.2.1 == x8.2.2.1) && true))) then (bif (((x3.1.1 == x9.1.1) && ((x3.1.2.1 == x9.1.2.1) && true)) && ((x3.2.1 == x9.2.1) && ((x3.2.2.1 == x9.2.2.1) && true))) then some ((((x4.1.1 == x10.1.1) && ((x4.1.2.1 == x10.1.2.1) && true)) && ((x4.2.1 == x10.2.1) && ((x4.2.2.1 == x10.2.2.1) && true))), ()) else some (false, ())) else some (false, ())) else some (false, ())) else some (false, ())
noncomputable def impl_FNode_isOwn.B (n : Nat) (a0 : FNode) : Option (Bool × Unit) :=
  bif (a0.1 == (1 : Int)) then ((impl_ValueOk a0.2.2.1).bind fun q1 => bif (!q1.1) then some (false, ()) else bif (a0.2.2.1.1 == (0 : Int)) then some (false, ()) else bif (a0.2.2.1.1 == (1 : Int)) then (bif (decide (a0.2.2.1.2.1 < (0 : Int))) then some (false, ()) else impl_FNode_isOwn.J0 n a0.1 a0.2.1 a0.2.2.1 (((0 : Int), (0 : Int), ()), false, false, ()) (((0 : Int), (0 : Int), ()), false, false, ()) a0.2.2.2.2.2.1 a0.1 a0.2.1 a0.2.2.1 a0.2.2.2.1 a0.2.2.2.2.1 a0.2.2.2.2.2.1) else impl_FNode_isOwn.J0 n a0.1 a0.2.1 a0.2.2.1 (((0 : Int), (0 : Int), ()), false, false, ()) (((0 : Int), (0 : Int), ()), false, false, ()) a0.2.2.2.2.2.1 a0.1 a0.2.1 a0.2.2.1 a0.2.2.2.1 a0.2.2.2.2.1 a0.2.2.2.2.2.1) else bif (a0.1 == (2 : Int)) then (impl_FNode_isOwn.J0 n a0.1 a0.2.1 ((0 : Int), (0 : Int), ([] : List UInt8), ()) a0.2.2.2.1 (((0 : Int), (0 : Int), ()), false, false, ()) a0.2.2.2.2.2.1 a0.1 a0.2.1 a0.2.2.1 a0.2.2.2.1 a0.2.2.2.2.1 a0.2.2.2.2.2.1) else bif (a0.1 == (3 : Int)) then (impl_FNode_isOwn.J0 n a0.1 a0.2.1 ((0 : Int), (0 : Int), ([] : List UInt8), ()) a0.2.2.2.1 a0.2.2.2.2.1 a0.2.2.2.2.2.1 a0.1 a0.2.1 a0.2.2.1 a0.2.2.2.1 a0.2.2.2.2.1 a0.2.2.2.2.2.1) else bif (a0.1 == (4 : Int)) then (impl_FNode_isOwn.J0 n a0.1 a0.2.1 ((0 : Int), (0 : Int), ([] : List UInt8), ()) (((0 : Int), (0 : Int), ()), false, false, ()) (((0 : Int), (0 : Int), ()), false, false, ()) a0.2.2.2.2.2.1 a0.1 a0.2.1 a0.2.2.1 a0.2.2.2.1 a0.2.2.2.2.1 a0.2.2.2.2.2.1) else bif (a0.1 == (5 : Int)) then (impl_FNode_isOwn.J0 n a0.1 a0.2.1 ((0 : Int), (0 : Int), ([] : List UInt8), ()) (((0 : Int), (0 : Int), ()), false, false, ()) (((0 : Int), (0 : Int), ()), false, false, ()) a0.2.2.2.2.2.1 a0.1 a0.2.1 a0.2.2.1 a0.2.2.2.1 a0.2.2.2.2.1 a0.2.2.2.2.2.1) else bif (a0.1 == (6 : Int)) then (impl_FNode_isOwn.J0 n a0.1 a0.2.1 ((0 : Int), (0 : Int), ([] : List UInt8), ()) (((0 : Int), (0 : Int), ()), false, false, ()) (((0 : Int), (0 : Int), ()), false, false, ()) a0.2.2.2.2.2.1 a0.1 a0.2.1 a0.2.2.1 a0.2.2.2.1 a0.2.2.2.2.1 a0.2.2.2.2.2.1) else some (false, ())
theorem impl_FNode_isOwn.of (n : Nat) (a0 : FNode) : Runs (impl_FNode_isOwn.B n a0) (impl_FNode_isOwn a0) :=
  Eq.mp (by kernel_rfl) (call_runs (P := Tryz.prog) prsEvt n 155 Tryz.f155 [.val timpl_FNode a0] (by kernel_rfl) (by kernel_rfl))
noncomputable def impl_fnText.B (n : Nat) (a0 : Int) : Option (List UInt8 × Unit) :=
  idxC ([([] : List UInt8), ([83, 85, 77] : List UInt8), ([77, 73, 78] : List UInt8), ([77, 65, 88] : List UInt8), ([67, 79, 85, 78, 84] : List UInt8), ([73, 70] : List UInt8), ([65, 78, 68] : List UInt8), ([79, 82] : List UInt8), ([78, 79, 84] : List UInt8), ([65, 66, 83] : List UInt8), ([76, 69, 78] : List UInt8)] : (List (List UInt8))) a0 fun e1 => some (e1, ())
theorem impl_fnText.of (n : Nat) (a0 : Int) : Runs (impl_fnText.B n a0) (impl_fnText a0) :=
  Eq.mp (by kernel_rfl) (call_runs (P := Tryz.prog) prsEvt n 157 Tryz.f157 [.val (.int .i64) a0] (by kernel_rfl) (by kernel_rfl))
noncomputable def impl_reader_quoted.L0 (n : Nat) (m : Nat) (x0 : List UInt8) (x1 : List UInt8) (x2 : List UInt8) (x3 : (List FNode)) (x4 : Bool) : Option (Int × reader × Unit) :=
  loopAt cfg ENV n 164 Tryz.f164 [1, 1, 0, 0] [] 1 m { n := 43, vals := [(0, .loc 0 [] timpl_reader), (3, .dat ⟨.str, x0, .ro⟩), (4, .dat ⟨.str, x1, .ro⟩)], boxes := [(0, .fld 153 [⟨.str, x2, .ro⟩, ⟨(.slice 126 timpl_FNode), x3, (.own 0 0)⟩, ⟨.bool, x4, .ro⟩])], nb := 1, vers := [(0, 0)], nid := 1, dr := false }
noncomputable def impl_reader_quoted.J0 (n : Nat) (m : Nat) (x0 : List UInt8) (x1 : List UInt8) (x2 : List UInt8) (x3 : (List FNode)) (x4 : Bool) : Option (Int × reader × Unit) :=
  (impl_reader_constant (x1, x3, x4, ()) ((2 : Int), (0 : Int), x0, ())).bind fun q5 => some (q5.1, q5.2.1, ())
theorem impl_reader_quoted.L0_eq (n : Nat) (m : Nat) (x0 : List UInt8) (x1 : List UInt8) (x2 : List UInt8) (x3 : (List FNode)) (x4 : Bool) : impl_reader_quoted.L0 n (m + 1) x0 x1 x2 x3 x4 =
  (strings_Cut x1 ([34] : List UInt8)).bind fun q3 => bif (!q3.2.2.1) then some ((-1 : Int), (x2, x3, true, ()), ()) else bif decide (x0.length + q3.1.length ≤ scap) then (strings_HasPrefix q3.2.1 ([34] : List UInt8)).bind fun q4 => bif (!q4.1) then (impl_reader_quoted.J0 n m (x0 ++ q3.1) q3.2.1 x2 x3 x4) else bif decide ((x0 ++ q3.1).length + ([34] : List UInt8).length ≤ scap) then cutC q3.2.1.length (1 : Int) (q3.2.1.length : Int) fun l6 h7 => impl_reader_quoted.L0 n m ((x0 ++ q3.1) ++ ([34] : List UInt8)) ((q3.2.1.take h7).drop l6) x2 x3 x4 else none else none := by kernel_rfl
noncomputable def impl_reader_quoted.B (n : Nat) (a0 : reader) : Option (Int × reader × Unit) :=
  cutC a0.1.length (1 : Int) (a0.1.length : Int) fun l1 h2 => impl_reader_quoted.L0 n n ([] : List UInt8) ((a0.1.take h2).drop l1) a0.1 a0.2.1 a0.2.2.1
theorem impl_reader_quoted.of (n : Nat) (a0 : reader) : Runs (impl_reader_quoted.B n a0) (impl_reader_quoted a0) :=
  Eq.mp (by kernel_rfl) (call_runs (P := Tryz.prog) prsEvt n 164 Tryz.f164 [.io timpl_reader a0] (by kernel_rfl) (by kernel_rfl))
noncomputable def impl_reader_constant.B (n : Nat) (a0 : reader) (a1 : Value) : Option (Int × reader × Unit) :=
  (impl_reader_put (a0.1, a0.2.1, a0.2.2.1, ()) ((1 : Int), (0 : Int), a1, (((0 : Int), (0 : Int), ()), false, false, ()), (((0 : Int), (0 : Int), ()), false, false, ()), [], ())).bind fun q1 => some (q1.1, q1.2.1, ())
theorem impl_reader_constant.of (n : Nat) (a0 : reader) (a1 : Value) : Runs (impl_reader_constant.B n a0 a1) (impl_reader_constant a0 a1) :=
  Eq.mp (by kernel_rfl) (call_runs (P := Tryz.prog) prsEvt n 165 Tryz.f165 [.io timpl_reader a0, .val timpl_Value a1] (by kernel_rfl) (by kernel_rfl))
noncomputable def impl_reader_word.B (n : Nat) (a0 : reader) : Option (List UInt8 × reader × Unit) :=
  (impl_reader_blanks (a0.1, a0.2.1, a0.2.2.1, ())).bind fun q1 => (strings_TrimLeft q1.1.1 ([65, 66, 67, 68, 69, 70, 71, 72, 73, 74, 75, 76, 77, 78, 79, 80, 81, 82, 83, 84, 85, 86, 87, 88, 89, 90, 48, 49, 50, 51, 52, 53, 54, 55, 56, 57, 36] : List UInt8)).bind fun q2 => cutC q1.1.1.length (0 : Int) (IntKind.wrap .i64 ((q1.1.1.length : Int) - (q2.1.length : Int))) fun l3 h4 => cutC q1.1.1.length (IntKind.wrap .i64 ((q1.1.1.length : Int) - (q2.1.length : Int))) (q1.1.1.length : Int) fun l5 h6 => some (((q1.1.1.take h4).drop l3), (((q1.1.1.take h6).drop l5), q1.1.2.1, q1.1.2.2.1, ()), ())
theorem impl_reader_word.of (n : Nat) (a0 : reader) : Runs (impl_reader_word.B n a0) (impl_reader_word a0) :=
  Eq.mp (by kernel_rfl) (call_runs (P := Tryz.prog) prsEvt n 166 Tryz.f166 [.io timpl_reader a0] (by kernel_rfl) (by kernel_rfl))
noncomputable def impl_ReadPlace.B (n : Nat) (a0 : List UInt8) : Option (Place × Bool × Unit) :=
  (strings_CutPrefix a0 ([36] : List UInt8)).bind fun q1 => (strings_TrimLeft q1.1 ([65, 66, 67, 68, 69, 70, 71, 72, 73, 74, 75, 76, 77, 78, 79, 80, 81, 82, 83, 84, 85, 86, 87, 88, 89, 90] : List UInt8)).bind fun q2 => cutC q1.1.length (0 : Int) (IntKind.wrap .i64 ((q1.1.length : Int) - (q2.1.length : Int))) fun l3 h4 => (impl_ReadCol ((q1.1.take h4).drop l3)).bind fun q5 => cutC q1.1.length (IntKind.wrap .i64 ((q1.1.length : Int) - (q2.1.length : Int))) (q1.1.length : Int) fun l6 h7 => (strings_CutPrefix ((q1.1.take h7).drop l6) ([36] : List UInt8)).bind fun q8 => (strconv_ParseInt q8.1 (10 : Int) (64 : Int)).bind fun q9 => (impl_RefOk (q5.1, q9.1, ())).bind fun q10 => bif (!q10.1) then some ((((0 : Int), (0 : Int), ()), false, false, ()), false, ()) else (impl_PlaceText ((q5.1, q9.1, ()), q1.2.1, q8.2.1, ())).bind fun q11 => bif (!(q11.1 == a0)) then some ((((0 : Int), (0 : Int), ()), false, false, ()), false, ()) else some (((q5.1, q9.1, ()), q1.2.1, q8.2.1, ()), true, ())
theorem impl_ReadPlace.of (n : Nat) (a0 : List UInt8) : Runs (impl_ReadPlace.B n a0) (impl_ReadPlace a0) :=
  Eq.mp (by kernel_rfl) (call_runs (P := Tryz.prog) prsEvt n 167 Tryz.f167 [.val .str a0] (by kernel_rfl) (by kernel_rfl))
noncomputable def impl_reader_call.L0 (n : Nat) (m : Nat) (x0 : Int) (x1 : Int) (x2 : (List Int)) (x3 : List UInt8) (x4 : (List FNode)) (x5 : Bool) : Option (Int × reader × Unit) :=
  loopAt cfg ENV n 168 Tryz.f168 [1, 1, 1, 0, 0] [] 1 m { n := 67, vals := [(0, .loc 0 [] timpl_reader), (1, .dat ⟨(.int .i64), x0, .ro⟩), (2, .dat ⟨(.int .i64), x1, .ro⟩), (7, .dat ⟨(.slice 2 (.int .i64)), x2, (.own 0 0)⟩)], boxes := [(0, .fld 153 [⟨.str, x3, .ro⟩, ⟨(.slice 126 timpl_FNode), x4, (.own 1 0)⟩, ⟨.bool, x5, .ro⟩])], nb := 1, vers := [(0, 0), (1, 0)], nid := 2, dr := false }
noncomputable def impl_reader_call.J1 (n : Nat) (m : Nat) (x0 : Int) (x1 : (List Int)) (x2 : Int) (x3 : Int) (x4 : Value) (x5 : Place) (x6 : Place) (x7 : (List Int)) (x8 : List UInt8) (x9 : (List FNode)) (x10 : Bool) : Option (Int × reader × Unit) :=
  (impl_reader_put (x8, x9, x10, ()) ((6 : Int), x0, ((0 : Int), (0 : Int), ([] : List UInt8), ()), (((0 : Int), (0 : Int), ()), false, false, ()), (((0 : Int), (0 : Int), ()), false, false, ()), x1, ())).bind fun q5 => some (q5.1, q5.2.1, ())
noncomputable def impl_reader_call.J0 (n : Nat) (m : Nat) (x0 : Int) (x1 : Int) (x2 : (List Int)) (x3 : Int) (x4 : Int) (x5 : Value) (x6 : Place) (x7 : Place) (x8 : (List Int)) (x9 : List UInt8) (x10 : (List FNode)) (x11 : Bool) : Option (Int × reader × Unit) :=
  (impl_reader_take (x9, x10, x11, ()) ([44] : List UInt8)).bind fun q4 => bif (!q4.1) then (bif q4.2.1.2.2.1 then (impl_reader_call.J1 n m x0 x2 x3 x4 x5 x6 x7 x8 q4.2.1.1 q4.2.1.2.1 true) else (impl_reader_take q4.2.1 ([41] : List UInt8)).bind fun q6 => impl_reader_call.J1 n m x0 x2 x3 x4 x5 x6 x7 x8 q6.2.1.1 q6.2.1.2.1 (!q6.1)) else impl_reader_call.L0 n m x0 x1 x2 q4.2.1.1 q4.2.1.2.1 q4.2.1.2.2.1
noncomputable def impl_reader_call.J2 (n : Nat) (m : Nat) (x0 : Int) (x1 : (List Int)) (x2 : List UInt8) (x3 : (List FNode)) (x4 : Bool) : Option (Int × reader × Unit) :=
  (impl_reader_put (x2, x3, x4, ()) ((6 : Int), x0, ((0 : Int), (0 : Int), ([] : List UInt8), ()), (((0 : Int), (0 : Int), ()), false, false, ()), (((0 : Int), (0 : Int), ()), false, false, ()), x1, ())).bind fun q8 => some (q8.1, q8.2.1, ())
theorem impl_reader_call.L0_eq (n : Nat) (m : Nat) (x0 : Int) (x1 : Int) (x2 : (List Int)) (x3 : List UInt8) (x4 : (List FNode)) (x5 : Bool) : impl_reader_call.L0 n (m + 1) x0 x1 x2 x3 x4 x5 =
  bif (!x5) then ((impl_reader_areaHere (x3, x4, x5, ())).bind fun q2 => bif q2.2.1 then ((impl_reader_put q2.2.2.1 q2.1).bind fun q3 => bif decide (x2.length + ([q3.1] : (List Int)).length ≤ cap) then impl_reader_call.J0 n m x0 x1 (x2 ++ ([q3.1] : (List Int))) q2.1.1 q2.1.2.1 q2.1.2.2.1 q2.1.2.2.2.1 q2.1.2.2.2.2.1 q2.1.2.2.2.2.2.1 q3.2.1.1 q3.2.1.2.1 q3.2.1.2.2.1 else none) else (impl_reader_binary q2.2.2.1 (1 : Int) (IntKind.wrap .i64 (x1 + (1 : Int)))).bind fun q7 => bif decide (x2.length + ([q7.1] : (List Int)).length ≤ cap) then impl_reader_call.J0 n m x0 x1 (x2 ++ ([q7.1] : (List Int))) q2.1.1 q2.1.2.1 q2.1.2.2.1 q2.1.2.2.2.1 q2.1.2.2.2.2.1 q2.1.2.2.2.2.2.1 q7.2.1.1 q7.2.1.2.1 q7.2.1.2.2.1 else none) else impl_reader_call.J2 n m x0 x2 x3 x4 x5 := by kernel_rfl
noncomputable def impl_reader_call.B (n : Nat) (a0 : reader) (a1 : Int) (a2 : Int) : Option (Int × reader × Unit) :=
  bif a0.2.2.1 then (impl_reader_call.L0 n n a1 a2 ([] : (List Int)) a0.1 a0.2.1 true) else (impl_reader_take (a0.1, a0.2.1, a0.2.2.1, ()) ([40] : List UInt8)).bind fun q1 => impl_reader_call.L0 n n a1 a2 ([] : (List Int)) q1.2.1.1 q1.2.1.2.1 (!q1.1)
theorem impl_reader_call.of (n : Nat) (a0 : reader) (a1 : Int) (a2 : Int) : Runs (impl_reader_call.B n a0 a1 a2) (impl_reader_call a0 a1 a2) :=
  Eq.mp (by kernel_rfl) (call_runs (P := Tryz.prog) prsEvt n 168 Tryz.f168 [.io timpl_reader a0, .val (.int .i64) a1, .val (.int .i64) a2] (by kernel_rfl) (by kernel_rfl))
noncomputable def impl_FNode_isPlaced.B (n : Nat) (a0 : FNode) : Option (Bool × Unit) :=
  bif (a0.1 != (2 : Int)) then (bif (a0.1 != (3 : Int)) then some (true, ()) else (impl_FNode_area a0).bind fun q1 => (impl_AreaOk q1.1).bind fun q2 => some (q2.1, ())) else (impl_FNode_area a0).bind fun q3 => (impl_AreaOk q3.1).bind fun q4 => some (q4.1, ())
theorem impl_FNode_isPlaced.of (n : Nat) (a0 : FNode) : Runs (impl_FNode_isPlaced.B n a0) (impl_FNode_isPlaced a0) :=
  Eq.mp (by kernel_rfl) (call_runs (P := Tryz.prog) prsEvt n 169 Tryz.f169 [.val timpl_FNode a0] (by kernel_rfl) (by kernel_rfl))
noncomputable def impl_FNode_kidsOk.B (n : Nat) (a0 : FNode) : Option (Bool × Unit) :=
  bif (a0.1 == (4 : Int)) then (bif (a0.2.1 == (0 : Int)) then some (((a0.2.2.2.2.2.1.length : Int) == (1 : Int)), ()) else some (false, ())) else bif (a0.1 == (5 : Int)) then ((impl_within a0.2.1 (1 : Int) (11 : Int)).bind fun q1 => bif q1.1 then some (((a0.2.2.2.2.2.1.length : Int) == (2 : Int)), ()) else some (false, ())) else bif (a0.1 == (6 : Int)) then ((impl_within a0.2.1 (1 : Int) (10 : Int)).bind fun q2 => bif (!q2.1) then some (false, ()) else bif (a0.2.1 == (5 : Int)) then ((impl_within (a0.2.2.2.2.2.1.length : Int) (2 : Int) (3 : Int)).bind fun q3 => some (q3.1, ())) else bif (decide (a0.2.1 ≥ (8 : Int))) then some (((a0.2.2.2.2.2.1.length : Int) == (1 : Int)), ()) else (impl_within (a0.2.2.2.2.2.1.length : Int) (1 : Int) (10 : Int)).bind fun q4 => some (q4.1, ())) else bif (a0.2.1 == (0 : Int)) then some (((a0.2.2.2.2.2.1.length : Int) == (0 : Int)), ()) else some (false, ())
theorem impl_FNode_kidsOk.of (n : Nat) (a0 : FNode) : Runs (impl_FNode_kidsOk.B n a0) (impl_FNode_kidsOk a0) :=
  Eq.mp (by kernel_rfl) (call_runs (P := Tryz.prog) prsEvt n 170 Tryz.f170 [.val timpl_FNode a0] (by kernel_rfl) (by kernel_rfl))
noncomputable def impl_ReadCol.L0 (n : Nat) (m : Nat) (x0 : List UInt8) (x1 : Int) : Option (Int × Unit) :=
  loopAt cfg ENV n 175 Tryz.f175 [1, 0, 1, 0] [] 0 m { n := 13, vals := [(0, .dat ⟨.str, x0, .ro⟩), (3, .dat ⟨(.int .i64), x1, .ro⟩)], boxes := [], nb := 0, vers := [], nid := 0, dr := false }
noncomputable def impl_ReadCol.J0 (n : Nat) (m : Nat) : Option (Int × Unit) :=
  some ((0 : Int), ())
theorem impl_ReadCol.L0_eq (n : Nat) (m : Nat) (x0 : List UInt8) (x1 : Int) : impl_ReadCol.L0 n (m + 1) x0 x1 =
  bif (decide (x1 ≤ (52 : Int))) then ((impl_ColText x1).bind fun q1 => bif (q1.1 == x0) then some (x1, ()) else impl_ReadCol.L0 n m x0 (IntKind.wrap .i64 (x1 + (1 : Int)))) else impl_ReadCol.J0 n m := by kernel_rfl
noncomputable def impl_ReadCol.B (n : Nat) (a0 : List UInt8) : Option (Int × Unit) :=
  impl_ReadCol.L0 n n a0 (1 : Int)
theorem impl_ReadCol.of (n : Nat) (a0 : List UInt8) : Runs (impl_ReadCol.B n a0) (impl_ReadCol a0) :=
  Eq.mp (by kernel_rfl) (call_runs (P := Tryz.prog) prsEvt n 175 Tryz.f175 [.val .str a0] (by kernel_rfl) (by kernel_rfl))
noncomputable def impl_reader_areaHere.B (n : Nat) (a0 : reader) : Option (FNode × Bool × reader × Unit) :=
  (impl_reader_word (a0.1, a0.2.1, a0.2.2.1, ())).bind fun q1 => (impl_ReadPlace q1.1).bind fun q2 => bif q2.2.1 then ((impl_reader_take q1.2.1 ([58] : List UInt8)).bind fun q3 => bif (!q3.1) then some (((0 : Int), (0 : Int), ((0 : Int), (0 : Int), ([] : List UInt8), ()), (((0 : Int), (0 : Int), ()), false, false, ()), (((0 : Int), (0 : Int), ()), false, false, ()), [], ()), false, (a0.1, q3.2.1.2.1, q3.2.1.2.2.1, ()), ()) else (impl_reader_word q3.2.1).bind fun q4 => (impl_ReadPlace q4.1).bind fun q5 => bif q4.2.1.2.2.1 then some (((3 : Int), (0 : Int), ((0 : Int), (0 : Int), ([] : List UInt8), ()), q2.1, q5.1, [], ()), true, (q4.2.1.1, q4.2.1.2.1, true, ()), ()) else some (((3 : Int), (0 : Int), ((0 : Int), (0 : Int), ([] : List UInt8), ()), q2.1, q5.1, [], ()), true, (q4.2.1.1, q4.2.1.2.1, (!q5.2.1), ()), ())) else some (((0 : Int), (0 : Int), ((0 : Int), (0 : Int), ([] : List UInt8), ()), (((0 : Int), (0 : Int), ()), false, false, ()), (((0 : Int), (0 : Int), ()), false, false, ()), [], ()), false, (a0.1, q1.2.1.2.1, q1.2.1.2.2.1, ()), ())
theorem impl_reader_areaHere.of (n : Nat) (a0 : reader) : Runs (impl_reader_areaHere.B n a0) (impl_reader_areaHere a0) :=
  Eq.mp (by kernel_rfl) (call_runs (P := Tryz.prog) prsEvt n 176 Tryz.f176 [.io timpl_reader a0] (by kernel_rfl) (by kernel_rfl))
noncomputable def impl_AreaOk.B (n : Nat) (a0 : Area) : Option (Bool × Unit) :=
  (impl_RefOk a0.1).bind fun q1 => bif q1.1 then ((impl_RefOk a0.2.1).bind fun q2 => bif q2.1 then (bif (decide (a0.1.1 ≤ a0.2.1.1)) then some ((decide (a0.1.2.1 ≤ a0.2.1.2.1)), ()) else some (false, ())) else some (false, ())) else some (false, ())
theorem impl_AreaOk.of (n : Nat) (a0 : Area) : Runs (impl_AreaOk.B n a0) (impl_AreaOk a0) :=
  Eq.mp (by kernel_rfl) (call_runs (P := Tryz.prog) prsEvt n 177 Tryz.f177 [.val timpl_Area a0] (by kernel_rfl) (by kernel_rfl))
noncomputable def impl_FNode_area.B (n : Nat) (a0 : FNode) : Option (Area × Unit) :=
  bif (a0.1 == (2 : Int)) then some ((a0.2.2.2.1.1, a0.2.2.2.1.1, ()), ()) else some ((a0.2.2.2.1.1, a0.2.2.2.2.1.1, ()), ())
theorem impl_FNode_area.of (n : Nat) (a0 : FNode) : Runs (impl_FNode_area.B n a0) (impl_FNode_area a0) :=
  Eq.mp (by kernel_rfl) (call_runs (P := Tryz.prog) prsEvt n 178 Tryz.f178 [.val timpl_FNode a0] (by kernel_rfl) (by kernel_rfl))
end Go.Proofs.YtmgeeanbecmkbaaGreatDoor.Den
