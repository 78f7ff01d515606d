/- Facts on the types and functions that the symbolic walks ask for (printed by a program). -/
import Derived.Test.YtnbmldnahacnlaaZSP3
import Derived.Test.YtnbmldnahacnlaaProg
import Derived.Below
import Derived.WalkKit
import Derived.WalkSpells
import Derived.RangeFuncNested
import Derived.RangeFuncBound
import Derived.RangeFuncCalls
import Derived.RangeFuncLeaves
import Derived.RangeFuncBox
import Derived.Shelf.Abstract
import Derived.Shelf.RegionOpen
import Derived.OwnWalkIn
import Derived.TacticsInMore
import Derived.LoopNIn
import Derived.LoopIn
import Derived.Maps.AppendAt
/- Facts on the types and functions that the symbolic walks ask for (printed by a program). -/
namespace Go.Proofs.Ytnbmldnahacnlaa
open Go
def tab : Tab := {
  und := [(0, Go.TypeDesc.tuple #[]),
    (1, Go.TypeDesc.func #[] #[] false),
    (2, Go.TypeDesc.int (Go.IntKind.i64)),
    (3, Go.TypeDesc.int (Go.IntKind.i64)),
    (4, Go.TypeDesc.bool),
    (5, Go.TypeDesc.int (Go.IntKind.u8)),
    (6, Go.TypeDesc.int (Go.IntKind.u8)),
    (7, Go.TypeDesc.struct #[{ name := "x", type := 2, offset := 0, embedded := false, tag := "", pkgPath := "runtime", byteOffset := 0 }, { name := "y", type := 3, offset := 1, embedded := false, tag := "", pkgPath := "runtime", byteOffset := 8 }, { name := "signed", type := 4, offset := 2, embedded := false, tag := "", pkgPath := "runtime", byteOffset := 16 }, { name := "code", type := 6, offset := 3, embedded := false, tag := "", pkgPath := "runtime", byteOffset := 17 }]),
    (8, Go.TypeDesc.struct #[{ name := "x", type := 2, offset := 0, embedded := false, tag := "", pkgPath := "runtime", byteOffset := 0 }, { name := "y", type := 3, offset := 1, embedded := false, tag := "", pkgPath := "runtime", byteOffset := 8 }, { name := "signed", type := 4, offset := 2, embedded := false, tag := "", pkgPath := "runtime", byteOffset := 16 }, { name := "code", type := 6, offset := 3, embedded := false, tag := "", pkgPath := "runtime", byteOffset := 17 }]),
    (9, Go.TypeDesc.string),
    (10, Go.TypeDesc.string),
    (11, Go.TypeDesc.string),
    (12, Go.TypeDesc.int (Go.IntKind.u64)),
    (13, Go.TypeDesc.struct #[{ name := "msg", type := 9, offset := 0, embedded := false, tag := "", pkgPath := "runtime", byteOffset := 0 }, { name := "addr", type := 12, offset := 1, embedded := false, tag := "", pkgPath := "runtime", byteOffset := 16 }]),
    (14, Go.TypeDesc.struct #[{ name := "msg", type := 9, offset := 0, embedded := false, tag := "", pkgPath := "runtime", byteOffset := 0 }, { name := "addr", type := 12, offset := 1, embedded := false, tag := "", pkgPath := "runtime", byteOffset := 16 }]),
    (15, Go.TypeDesc.pointer 133),
    (16, Go.TypeDesc.pointer 136),
    (17, Go.TypeDesc.pointer 146),
    (18, Go.TypeDesc.struct #[{ name := "typ", type := 17, offset := 0, embedded := false, tag := "", pkgPath := "internal/runtime/maps", byteOffset := 0 }]),
    (19, Go.TypeDesc.struct #[{ name := "typ", type := 17, offset := 0, embedded := false, tag := "", pkgPath := "internal/runtime/maps", byteOffset := 0 }]),
    (20, Go.TypeDesc.interface #[]),
    (21, Go.TypeDesc.int (Go.IntKind.i32)),
    (22, Go.TypeDesc.slice 5),
    (23, Go.TypeDesc.struct #[{ name := "W", type := 3, offset := 0, embedded := false, tag := "", pkgPath := "", byteOffset := 0 }, { name := "H", type := 3, offset := 1, embedded := false, tag := "", pkgPath := "", byteOffset := 8 }, { name := "Data", type := 22, offset := 2, embedded := false, tag := "", pkgPath := "", byteOffset := 16 }]),
    (24, Go.TypeDesc.struct #[{ name := "W", type := 3, offset := 0, embedded := false, tag := "", pkgPath := "", byteOffset := 0 }, { name := "H", type := 3, offset := 1, embedded := false, tag := "", pkgPath := "", byteOffset := 8 }, { name := "Data", type := 22, offset := 2, embedded := false, tag := "", pkgPath := "", byteOffset := 16 }]),
    (25, Go.TypeDesc.func #[] #[4] false),
    (26, Go.TypeDesc.struct #[{ name := "X", type := 3, offset := 0, embedded := false, tag := "", pkgPath := "", byteOffset := 0 }, { name := "Y", type := 3, offset := 1, embedded := false, tag := "", pkgPath := "", byteOffset := 8 }]),
    (27, Go.TypeDesc.struct #[{ name := "X", type := 3, offset := 0, embedded := false, tag := "", pkgPath := "", byteOffset := 0 }, { name := "Y", type := 3, offset := 1, embedded := false, tag := "", pkgPath := "", byteOffset := 8 }]),
    (28, Go.TypeDesc.int (Go.IntKind.i64)),
    (29, Go.TypeDesc.tuple #[27, 28]),
    (30, Go.TypeDesc.func #[24, 3] #[27, 28] false),
    (31, Go.TypeDesc.tuple #[24, 28]),
    (32, Go.TypeDesc.func #[3] #[24, 28] false),
    (33, Go.TypeDesc.func #[3, 3, 3] #[4] false),
    (34, Go.TypeDesc.func #[24, 28, 28] #[4] false),
    (35, Go.TypeDesc.slice 4),
    (36, Go.TypeDesc.func #[24, 24] #[4] false),
    (37, Go.TypeDesc.func #[3, 3, 35] #[24] false),
    (38, Go.TypeDesc.func #[24] #[28] false),
    (39, Go.TypeDesc.func #[4, 28, 28] #[4] false),
    (40, Go.TypeDesc.func #[24] #[4] false),
    (41, Go.TypeDesc.func #[24, 3, 3] #[4] false),
    (42, Go.TypeDesc.func #[24, 3] #[4] false),
    (43, Go.TypeDesc.slice 48),
    (44, Go.TypeDesc.tuple #[43, 28]),
    (45, Go.TypeDesc.func #[3, 3, 3] #[43, 28] false),
    (46, Go.TypeDesc.func #[3, 3] #[3] false),
    (47, Go.TypeDesc.struct #[{ name := "X", type := 3, offset := 0, embedded := false, tag := "", pkgPath := "", byteOffset := 0 }, { name := "W", type := 3, offset := 1, embedded := false, tag := "", pkgPath := "", byteOffset := 8 }, { name := "Kind", type := 3, offset := 2, embedded := false, tag := "", pkgPath := "", byteOffset := 16 }, { name := "Unit", type := 3, offset := 3, embedded := false, tag := "", pkgPath := "", byteOffset := 24 }, { name := "Zone", type := 3, offset := 4, embedded := false, tag := "", pkgPath := "", byteOffset := 32 }]),
    (48, Go.TypeDesc.struct #[{ name := "X", type := 3, offset := 0, embedded := false, tag := "", pkgPath := "", byteOffset := 0 }, { name := "W", type := 3, offset := 1, embedded := false, tag := "", pkgPath := "", byteOffset := 8 }, { name := "Kind", type := 3, offset := 2, embedded := false, tag := "", pkgPath := "", byteOffset := 16 }, { name := "Unit", type := 3, offset := 3, embedded := false, tag := "", pkgPath := "", byteOffset := 24 }, { name := "Zone", type := 3, offset := 4, embedded := false, tag := "", pkgPath := "", byteOffset := 32 }]),
    (49, Go.TypeDesc.slice 53),
    (50, Go.TypeDesc.tuple #[49, 28]),
    (51, Go.TypeDesc.func #[43, 3, 3, 3] #[49, 28] false),
    (52, Go.TypeDesc.struct #[{ name := "W", type := 3, offset := 0, embedded := false, tag := "", pkgPath := "", byteOffset := 0 }, { name := "H", type := 3, offset := 1, embedded := false, tag := "", pkgPath := "", byteOffset := 8 }, { name := "Pix", type := 22, offset := 2, embedded := false, tag := "", pkgPath := "", byteOffset := 16 }]),
    (53, Go.TypeDesc.struct #[{ name := "W", type := 3, offset := 0, embedded := false, tag := "", pkgPath := "", byteOffset := 0 }, { name := "H", type := 3, offset := 1, embedded := false, tag := "", pkgPath := "", byteOffset := 8 }, { name := "Pix", type := 22, offset := 2, embedded := false, tag := "", pkgPath := "", byteOffset := 16 }]),
    (54, Go.TypeDesc.func #[3, 3, 3, 3] #[4] false),
    (55, Go.TypeDesc.slice 24),
    (56, Go.TypeDesc.slice 63),
    (57, Go.TypeDesc.tuple #[56, 28]),
    (58, Go.TypeDesc.func #[43, 55] #[56, 28] false),
    (59, Go.TypeDesc.func #[43, 3, 3] #[28] false),
    (60, Go.TypeDesc.array 2 3),
    (61, Go.TypeDesc.array 2 48),
    (62, Go.TypeDesc.struct #[{ name := "Unit", type := 3, offset := 0, embedded := false, tag := "", pkgPath := "", byteOffset := 0 }, { name := "Zone", type := 3, offset := 1, embedded := false, tag := "", pkgPath := "", byteOffset := 8 }, { name := "Solid", type := 3, offset := 2, embedded := false, tag := "", pkgPath := "", byteOffset := 16 }, { name := "Tint", type := 3, offset := 3, embedded := false, tag := "", pkgPath := "", byteOffset := 24 }]),
    (63, Go.TypeDesc.struct #[{ name := "Unit", type := 3, offset := 0, embedded := false, tag := "", pkgPath := "", byteOffset := 0 }, { name := "Zone", type := 3, offset := 1, embedded := false, tag := "", pkgPath := "", byteOffset := 8 }, { name := "Solid", type := 3, offset := 2, embedded := false, tag := "", pkgPath := "", byteOffset := 16 }, { name := "Tint", type := 3, offset := 3, embedded := false, tag := "", pkgPath := "", byteOffset := 24 }]),
    (64, Go.TypeDesc.func #[43, 55] #[4] false),
    (65, Go.TypeDesc.func #[24, 3] #[24, 28] false),
    (66, Go.TypeDesc.func #[24, 3] #[24] false),
    (67, Go.TypeDesc.func #[24, 3, 3, 3] #[4] false),
    (68, Go.TypeDesc.tuple #[4, 28]),
    (69, Go.TypeDesc.func #[24, 3, 3] #[4, 28] false),
    (70, Go.TypeDesc.func #[24, 3, 3, 4] #[24, 28] false),
    (71, Go.TypeDesc.tuple #[3, 28]),
    (72, Go.TypeDesc.func #[24] #[3, 28] false),
    (73, Go.TypeDesc.func #[24, 3, 3, 4] #[4] false),
    (74, Go.TypeDesc.slice 77),
    (75, Go.TypeDesc.func #[3, 3, 74] #[24, 28] false),
    (76, Go.TypeDesc.struct #[{ name := "Y", type := 3, offset := 0, embedded := false, tag := "", pkgPath := "", byteOffset := 0 }, { name := "X0", type := 3, offset := 1, embedded := false, tag := "", pkgPath := "", byteOffset := 8 }, { name := "X1", type := 3, offset := 2, embedded := false, tag := "", pkgPath := "", byteOffset := 16 }]),
    (77, Go.TypeDesc.struct #[{ name := "Y", type := 3, offset := 0, embedded := false, tag := "", pkgPath := "", byteOffset := 0 }, { name := "X0", type := 3, offset := 1, embedded := false, tag := "", pkgPath := "", byteOffset := 8 }, { name := "X1", type := 3, offset := 2, embedded := false, tag := "", pkgPath := "", byteOffset := 16 }]),
    (78, Go.TypeDesc.func #[3, 3, 74] #[4] false),
    (79, Go.TypeDesc.func #[24, 3, 3, 3, 3] #[24, 28] false),
    (80, Go.TypeDesc.func #[24, 3, 3] #[24, 28] false),
    (81, Go.TypeDesc.func #[24, 3, 3, 3, 3] #[4] false),
    (82, Go.TypeDesc.func #[53, 3] #[24, 28] false),
    (83, Go.TypeDesc.func #[53] #[28] false),
    (84, Go.TypeDesc.tuple #[53, 28]),
    (85, Go.TypeDesc.func #[24, 5] #[53, 28] false),
    (86, Go.TypeDesc.func #[53, 3, 5] #[4] false),
    (87, Go.TypeDesc.struct #[{ name := "W", type := 3, offset := 0, embedded := false, tag := "", pkgPath := "", byteOffset := 0 }, { name := "H", type := 3, offset := 1, embedded := false, tag := "", pkgPath := "", byteOffset := 8 }, { name := "Pix", type := 22, offset := 2, embedded := false, tag := "", pkgPath := "", byteOffset := 16 }]),
    (88, Go.TypeDesc.func #[87, 87, 3] #[3, 28] false),
    (89, Go.TypeDesc.func #[87] #[28] false),
    (90, Go.TypeDesc.func #[87, 87, 3] #[4] false),
    (91, Go.TypeDesc.slice 3),
    (92, Go.TypeDesc.slice 27),
    (93, Go.TypeDesc.tuple #[87, 28]),
    (94, Go.TypeDesc.func #[55, 91, 92] #[87, 28] false),
    (95, Go.TypeDesc.func #[87, 28, 28] #[4] false),
    (96, Go.TypeDesc.func #[87, 3] #[24, 28] false),
    (97, Go.TypeDesc.func #[55, 91, 92, 3] #[4] false),
    (98, Go.TypeDesc.slice 102),
    (99, Go.TypeDesc.tuple #[91, 28]),
    (100, Go.TypeDesc.func #[87, 3] #[91, 28] false),
    (101, Go.TypeDesc.struct #[{ name := "L", type := 3, offset := 0, embedded := false, tag := "", pkgPath := "", byteOffset := 0 }, { name := "A", type := 3, offset := 1, embedded := false, tag := "", pkgPath := "", byteOffset := 8 }, { name := "B", type := 3, offset := 2, embedded := false, tag := "", pkgPath := "", byteOffset := 16 }]),
    (102, Go.TypeDesc.struct #[{ name := "L", type := 3, offset := 0, embedded := false, tag := "", pkgPath := "", byteOffset := 0 }, { name := "A", type := 3, offset := 1, embedded := false, tag := "", pkgPath := "", byteOffset := 8 }, { name := "B", type := 3, offset := 2, embedded := false, tag := "", pkgPath := "", byteOffset := 16 }]),
    (103, Go.TypeDesc.tuple #[102, 28]),
    (104, Go.TypeDesc.func #[87, 98] #[102, 28] false),
    (105, Go.TypeDesc.func #[102] #[28] false),
    (106, Go.TypeDesc.func #[87, 3, 98] #[4] false),
    (107, Go.TypeDesc.func #[22, 22] #[4] false),
    (108, Go.TypeDesc.func #[109, 3, 3] #[4] false),
    (109, Go.TypeDesc.pointer 24),
    (110, Go.TypeDesc.func #[3, 3] #[24] false),
    (111, Go.TypeDesc.func #[109, 3, 3] #[] false),
    (112, Go.TypeDesc.func #[109, 48] #[3] false),
    (113, Go.TypeDesc.func #[] #[24] false),
    (114, Go.TypeDesc.tuple #[74, 28]),
    (115, Go.TypeDesc.func #[24] #[74, 28] false),
    (116, Go.TypeDesc.func #[109, 3] #[24] false),
    (117, Go.TypeDesc.func #[3] #[3] false),
    (118, Go.TypeDesc.func #[5] #[3] false),
    (119, Go.TypeDesc.func #[3, 3, 120] #[24] false),
    (120, Go.TypeDesc.func #[3, 3] #[4] false),
    (121, Go.TypeDesc.func #[109, 3, 3] #[24] false),
    (122, Go.TypeDesc.func #[130] #[] false),
    (123, Go.TypeDesc.func #[130] #[] false),
    (124, Go.TypeDesc.func #[109, 3] #[123] false),
    (125, Go.TypeDesc.func #[] #[55] false),
    (126, Go.TypeDesc.func #[91, 91] #[4] false),
    (127, Go.TypeDesc.func #[128, 3, 3, 3] #[4] false),
    (128, Go.TypeDesc.pointer 87),
    (129, Go.TypeDesc.func #[55, 91, 92] #[28] false),
    (130, Go.TypeDesc.func #[77] #[4] false),
    (131, Go.TypeDesc.func #[] #[9] false),
    (132, Go.TypeDesc.struct #[{ name := "_interface", type := 17, offset := 0, embedded := false, tag := "", pkgPath := "runtime", byteOffset := 0 }, { name := "concrete", type := 17, offset := 1, embedded := false, tag := "", pkgPath := "runtime", byteOffset := 8 }, { name := "asserted", type := 17, offset := 2, embedded := false, tag := "", pkgPath := "runtime", byteOffset := 16 }, { name := "missingMethod", type := 9, offset := 3, embedded := false, tag := "", pkgPath := "runtime", byteOffset := 24 }]),
    (133, Go.TypeDesc.struct #[{ name := "_interface", type := 17, offset := 0, embedded := false, tag := "", pkgPath := "runtime", byteOffset := 0 }, { name := "concrete", type := 17, offset := 1, embedded := false, tag := "", pkgPath := "runtime", byteOffset := 8 }, { name := "asserted", type := 17, offset := 2, embedded := false, tag := "", pkgPath := "runtime", byteOffset := 16 }, { name := "missingMethod", type := 9, offset := 3, embedded := false, tag := "", pkgPath := "runtime", byteOffset := 24 }]),
    (134, Go.TypeDesc.array 0 16),
    (135, Go.TypeDesc.struct #[{ name := "_", type := 134, offset := 0, embedded := false, tag := "", pkgPath := "runtime", byteOffset := 0 }]),
    (136, Go.TypeDesc.struct #[{ name := "_", type := 134, offset := 0, embedded := false, tag := "", pkgPath := "runtime", byteOffset := 0 }]),
    (137, Go.TypeDesc.func #[] #[3] false),
    (138, Go.TypeDesc.int (Go.IntKind.u32)),
    (139, Go.TypeDesc.int (Go.IntKind.u8)),
    (140, Go.TypeDesc.int (Go.IntKind.u8)),
    (141, Go.TypeDesc.func #[147, 147] #[4] false),
    (142, Go.TypeDesc.pointer 5),
    (143, Go.TypeDesc.int (Go.IntKind.i32)),
    (144, Go.TypeDesc.int (Go.IntKind.i32)),
    (145, Go.TypeDesc.struct #[{ name := "Size_", type := 12, offset := 0, embedded := false, tag := "", pkgPath := "", byteOffset := 0 }, { name := "PtrBytes", type := 12, offset := 1, embedded := false, tag := "", pkgPath := "", byteOffset := 8 }, { name := "Hash", type := 138, offset := 2, embedded := false, tag := "", pkgPath := "", byteOffset := 16 }, { name := "TFlag", type := 139, offset := 3, embedded := false, tag := "", pkgPath := "", byteOffset := 20 }, { name := "Align_", type := 5, offset := 4, embedded := false, tag := "", pkgPath := "", byteOffset := 21 }, { name := "FieldAlign_", type := 5, offset := 5, embedded := false, tag := "", pkgPath := "", byteOffset := 22 }, { name := "Kind_", type := 140, offset := 6, embedded := false, tag := "", pkgPath := "", byteOffset := 23 }, { name := "Equal", type := 141, offset := 7, embedded := false, tag := "", pkgPath := "", byteOffset := 24 }, { name := "GCData", type := 142, offset := 8, embedded := false, tag := "", pkgPath := "", byteOffset := 32 }, { name := "Str", type := 143, offset := 9, embedded := false, tag := "", pkgPath := "", byteOffset := 40 }, { name := "PtrToThis", type := 144, offset := 10, embedded := false, tag := "", pkgPath := "", byteOffset := 44 }]),
    (146, Go.TypeDesc.struct #[{ name := "Size_", type := 12, offset := 0, embedded := false, tag := "", pkgPath := "", byteOffset := 0 }, { name := "PtrBytes", type := 12, offset := 1, embedded := false, tag := "", pkgPath := "", byteOffset := 8 }, { name := "Hash", type := 138, offset := 2, embedded := false, tag := "", pkgPath := "", byteOffset := 16 }, { name := "TFlag", type := 139, offset := 3, embedded := false, tag := "", pkgPath := "", byteOffset := 20 }, { name := "Align_", type := 5, offset := 4, embedded := false, tag := "", pkgPath := "", byteOffset := 21 }, { name := "FieldAlign_", type := 5, offset := 5, embedded := false, tag := "", pkgPath := "", byteOffset := 22 }, { name := "Kind_", type := 140, offset := 6, embedded := false, tag := "", pkgPath := "", byteOffset := 23 }, { name := "Equal", type := 141, offset := 7, embedded := false, tag := "", pkgPath := "", byteOffset := 24 }, { name := "GCData", type := 142, offset := 8, embedded := false, tag := "", pkgPath := "", byteOffset := 32 }, { name := "Str", type := 143, offset := 9, embedded := false, tag := "", pkgPath := "", byteOffset := 40 }, { name := "PtrToThis", type := 144, offset := 10, embedded := false, tag := "", pkgPath := "", byteOffset := 44 }]),
    (147, Go.TypeDesc.unsafePointer)],
  inf := [(1, (some (.nilFunc), 1, 8)),
    (2, (some (.int .i64 0), 1, 8)),
    (3, (some (.int .i64 0), 1, 8)),
    (4, (some (.bool false), 1, 1)),
    (5, (some (.int .u8 0), 1, 1)),
    (6, (some (.int .u8 0), 1, 1)),
    (7, (some (.agg #[.int .i64 0, .int .i64 0, .bool false, .int .u8 0]), 4, 24)),
    (8, (some (.agg #[.int .i64 0, .int .i64 0, .bool false, .int .u8 0]), 4, 24)),
    (9, (some (.string ByteArray.empty), 1, 16)),
    (10, (some (.string ByteArray.empty), 1, 16)),
    (11, (some (.string ByteArray.empty), 1, 16)),
    (12, (some (.int .u64 0), 1, 8)),
    (13, (some (.agg #[.string ByteArray.empty, .int .u64 0]), 2, 24)),
    (14, (some (.agg #[.string ByteArray.empty, .int .u64 0]), 2, 24)),
    (15, (some (.pointer none), 1, 8)),
    (16, (some (.pointer none), 1, 8)),
    (17, (some (.pointer none), 1, 8)),
    (18, (some (.agg #[.pointer none]), 1, 8)),
    (19, (some (.agg #[.pointer none]), 1, 8)),
    (20, (some (.nilIface), 1, 16)),
    (21, (some (.int .i32 0), 1, 4)),
    (22, (some (.slice none 0 0), 1, 24)),
    (23, (some (.agg #[.int .i64 0, .int .i64 0, .slice none 0 0]), 3, 40)),
    (24, (some (.agg #[.int .i64 0, .int .i64 0, .slice none 0 0]), 3, 40)),
    (25, (some (.nilFunc), 1, 8)),
    (26, (some (.agg #[.int .i64 0, .int .i64 0]), 2, 16)),
    (27, (some (.agg #[.int .i64 0, .int .i64 0]), 2, 16)),
    (28, (some (.int .i64 0), 1, 8)),
    (30, (some (.nilFunc), 1, 8)),
    (32, (some (.nilFunc), 1, 8)),
    (33, (some (.nilFunc), 1, 8)),
    (34, (some (.nilFunc), 1, 8)),
    (35, (some (.slice none 0 0), 1, 24)),
    (36, (some (.nilFunc), 1, 8)),
    (37, (some (.nilFunc), 1, 8)),
    (38, (some (.nilFunc), 1, 8)),
    (39, (some (.nilFunc), 1, 8)),
    (40, (some (.nilFunc), 1, 8)),
    (41, (some (.nilFunc), 1, 8)),
    (42, (some (.nilFunc), 1, 8)),
    (43, (some (.slice none 0 0), 1, 24)),
    (45, (some (.nilFunc), 1, 8)),
    (46, (some (.nilFunc), 1, 8)),
    (47, (some (.agg #[.int .i64 0, .int .i64 0, .int .i64 0, .int .i64 0, .int .i64 0]), 5, 40)),
    (48, (some (.agg #[.int .i64 0, .int .i64 0, .int .i64 0, .int .i64 0, .int .i64 0]), 5, 40)),
    (49, (some (.slice none 0 0), 1, 24)),
    (51, (some (.nilFunc), 1, 8)),
    (52, (some (.agg #[.int .i64 0, .int .i64 0, .slice none 0 0]), 3, 40)),
    (53, (some (.agg #[.int .i64 0, .int .i64 0, .slice none 0 0]), 3, 40)),
    (54, (some (.nilFunc), 1, 8)),
    (55, (some (.slice none 0 0), 1, 24)),
    (56, (some (.slice none 0 0), 1, 24)),
    (58, (some (.nilFunc), 1, 8)),
    (59, (some (.nilFunc), 1, 8)),
    (60, (some (.agg #[.int .i64 0, .int .i64 0]), 2, 16)),
    (61, (some (.agg #[.int .i64 0, .int .i64 0, .int .i64 0, .int .i64 0, .int .i64 0, .int .i64 0, .int .i64 0, .int .i64 0, .int .i64 0, .int .i64 0]), 10, 80)),
    (62, (some (.agg #[.int .i64 0, .int .i64 0, .int .i64 0, .int .i64 0]), 4, 32)),
    (63, (some (.agg #[.int .i64 0, .int .i64 0, .int .i64 0, .int .i64 0]), 4, 32)),
    (64, (some (.nilFunc), 1, 8)),
    (65, (some (.nilFunc), 1, 8)),
    (66, (some (.nilFunc), 1, 8)),
    (67, (some (.nilFunc), 1, 8)),
    (69, (some (.nilFunc), 1, 8)),
    (70, (some (.nilFunc), 1, 8)),
    (72, (some (.nilFunc), 1, 8)),
    (73, (some (.nilFunc), 1, 8)),
    (74, (some (.slice none 0 0), 1, 24)),
    (75, (some (.nilFunc), 1, 8)),
    (76, (some (.agg #[.int .i64 0, .int .i64 0, .int .i64 0]), 3, 24)),
    (77, (some (.agg #[.int .i64 0, .int .i64 0, .int .i64 0]), 3, 24)),
    (78, (some (.nilFunc), 1, 8)),
    (79, (some (.nilFunc), 1, 8)),
    (80, (some (.nilFunc), 1, 8)),
    (81, (some (.nilFunc), 1, 8)),
    (82, (some (.nilFunc), 1, 8)),
    (83, (some (.nilFunc), 1, 8)),
    (85, (some (.nilFunc), 1, 8)),
    (86, (some (.nilFunc), 1, 8)),
    (87, (some (.agg #[.int .i64 0, .int .i64 0, .slice none 0 0]), 3, 40)),
    (88, (some (.nilFunc), 1, 8)),
    (89, (some (.nilFunc), 1, 8)),
    (90, (some (.nilFunc), 1, 8)),
    (91, (some (.slice none 0 0), 1, 24)),
    (92, (some (.slice none 0 0), 1, 24)),
    (94, (some (.nilFunc), 1, 8)),
    (95, (some (.nilFunc), 1, 8)),
    (96, (some (.nilFunc), 1, 8)),
    (97, (some (.nilFunc), 1, 8)),
    (98, (some (.slice none 0 0), 1, 24)),
    (100, (some (.nilFunc), 1, 8)),
    (101, (some (.agg #[.int .i64 0, .int .i64 0, .int .i64 0]), 3, 24)),
    (102, (some (.agg #[.int .i64 0, .int .i64 0, .int .i64 0]), 3, 24)),
    (104, (some (.nilFunc), 1, 8)),
    (105, (some (.nilFunc), 1, 8)),
    (106, (some (.nilFunc), 1, 8)),
    (107, (some (.nilFunc), 1, 8)),
    (108, (some (.nilFunc), 1, 8)),
    (109, (some (.pointer none), 1, 8)),
    (110, (some (.nilFunc), 1, 8)),
    (111, (some (.nilFunc), 1, 8)),
    (112, (some (.nilFunc), 1, 8)),
    (113, (some (.nilFunc), 1, 8)),
    (115, (some (.nilFunc), 1, 8)),
    (116, (some (.nilFunc), 1, 8)),
    (117, (some (.nilFunc), 1, 8)),
    (118, (some (.nilFunc), 1, 8)),
    (119, (some (.nilFunc), 1, 8)),
    (120, (some (.nilFunc), 1, 8)),
    (121, (some (.nilFunc), 1, 8)),
    (122, (some (.nilFunc), 1, 8)),
    (123, (some (.nilFunc), 1, 8)),
    (124, (some (.nilFunc), 1, 8)),
    (125, (some (.nilFunc), 1, 8)),
    (126, (some (.nilFunc), 1, 8)),
    (127, (some (.nilFunc), 1, 8)),
    (128, (some (.pointer none), 1, 8)),
    (129, (some (.nilFunc), 1, 8)),
    (130, (some (.nilFunc), 1, 8)),
    (131, (some (.nilFunc), 1, 8)),
    (132, (some (.agg #[.pointer none, .pointer none, .pointer none, .string ByteArray.empty]), 4, 40)),
    (133, (some (.agg #[.pointer none, .pointer none, .pointer none, .string ByteArray.empty]), 4, 40)),
    (134, (some (.agg #[]), 0, 0)),
    (135, (some (.agg #[]), 0, 0)),
    (136, (some (.agg #[]), 0, 0)),
    (137, (some (.nilFunc), 1, 8)),
    (138, (some (.int .u32 0), 1, 4)),
    (139, (some (.int .u8 0), 1, 1)),
    (140, (some (.int .u8 0), 1, 1)),
    (141, (some (.nilFunc), 1, 8)),
    (142, (some (.pointer none), 1, 8)),
    (143, (some (.int .i32 0), 1, 4)),
    (144, (some (.int .i32 0), 1, 4)),
    (145, (some (.agg #[.int .u64 0, .int .u64 0, .int .u32 0, .int .u8 0, .int .u8 0, .int .u8 0, .int .u8 0, .nilFunc, .pointer none, .int .i32 0, .int .i32 0]), 11, 48)),
    (146, (some (.agg #[.int .u64 0, .int .u64 0, .int .u32 0, .int .u8 0, .int .u8 0, .int .u8 0, .int .u8 0, .nilFunc, .pointer none, .int .i32 0, .int .i32 0]), 11, 48)),
    (147, (some (.pointer none), 1, 8))],
  fld := [(7, [(0, (1, false)), (1, (1, false)), (2, (1, false)), (3, (1, false))]),
    (8, [(0, (1, false)), (1, (1, false)), (2, (1, false)), (3, (1, false))]),
    (13, [(0, (1, false)), (1, (1, false))]),
    (14, [(0, (1, false)), (1, (1, false))]),
    (18, [(0, (1, false))]),
    (19, [(0, (1, false))]),
    (23, [(0, (1, false)), (1, (1, false)), (2, (1, false))]),
    (24, [(0, (1, false)), (1, (1, false)), (2, (1, false))]),
    (26, [(0, (1, false)), (1, (1, false))]),
    (27, [(0, (1, false)), (1, (1, false))]),
    (47, [(0, (1, false)), (1, (1, false)), (2, (1, false)), (3, (1, false)), (4, (1, false))]),
    (48, [(0, (1, false)), (1, (1, false)), (2, (1, false)), (3, (1, false)), (4, (1, false))]),
    (52, [(0, (1, false)), (1, (1, false)), (2, (1, false))]),
    (53, [(0, (1, false)), (1, (1, false)), (2, (1, false))]),
    (62, [(0, (1, false)), (1, (1, false)), (2, (1, false)), (3, (1, false))]),
    (63, [(0, (1, false)), (1, (1, false)), (2, (1, false)), (3, (1, false))]),
    (76, [(0, (1, false)), (1, (1, false)), (2, (1, false))]),
    (77, [(0, (1, false)), (1, (1, false)), (2, (1, false))]),
    (87, [(0, (1, false)), (1, (1, false)), (2, (1, false))]),
    (101, [(0, (1, false)), (1, (1, false)), (2, (1, false))]),
    (102, [(0, (1, false)), (1, (1, false)), (2, (1, false))]),
    (132, [(0, (1, false)), (1, (1, false)), (2, (1, false)), (3, (1, false))]),
    (133, [(0, (1, false)), (1, (1, false)), (2, (1, false)), (3, (1, false))]),
    (135, [(0, (0, true))]),
    (136, [(0, (0, true))]),
    (145, [(0, (1, false)), (1, (1, false)), (2, (1, false)), (3, (1, false)), (4, (1, false)), (5, (1, false)), (6, (1, false)), (7, (1, false)), (8, (1, false)), (9, (1, false)), (10, (1, false))]),
    (146, [(0, (1, false)), (1, (1, false)), (2, (1, false)), (3, (1, false)), (4, (1, false)), (5, (1, false)), (6, (1, false)), (7, (1, false)), (8, (1, false)), (9, (1, false)), (10, (1, false))])],
  eqs := [(26, 2), (27, 2), (47, 5), (48, 5), (62, 4), (63, 4), (76, 3), (77, 3), (101, 3), (102, 3)] }
theorem ty_1 : tyI Try.prog 1 = some (some (.nilFunc), 1, 8) := by kernel_rfl
theorem ty_2 : tyI Try.prog 2 = some (some (.int .i64 0), 1, 8) := by kernel_rfl
theorem ty_3 : tyI Try.prog 3 = some (some (.int .i64 0), 1, 8) := by kernel_rfl
theorem ty_4 : tyI Try.prog 4 = some (some (.bool false), 1, 1) := by kernel_rfl
theorem ty_5 : tyI Try.prog 5 = some (some (.int .u8 0), 1, 1) := by kernel_rfl
theorem ty_6 : tyI Try.prog 6 = some (some (.int .u8 0), 1, 1) := by kernel_rfl
theorem ty_7 : tyI Try.prog 7 = some (some (.agg #[.int .i64 0, .int .i64 0, .bool false, .int .u8 0]), 4, 24) := by kernel_rfl
theorem ty_8 : tyI Try.prog 8 = some (some (.agg #[.int .i64 0, .int .i64 0, .bool false, .int .u8 0]), 4, 24) := by kernel_rfl
theorem ty_9 : tyI Try.prog 9 = some (some (.string ByteArray.empty), 1, 16) := by kernel_rfl
theorem ty_10 : tyI Try.prog 10 = some (some (.string ByteArray.empty), 1, 16) := by kernel_rfl
theorem ty_11 : tyI Try.prog 11 = some (some (.string ByteArray.empty), 1, 16) := by kernel_rfl
theorem ty_12 : tyI Try.prog 12 = some (some (.int .u64 0), 1, 8) := by kernel_rfl
theorem ty_13 : tyI Try.prog 13 = some (some (.agg #[.string ByteArray.empty, .int .u64 0]), 2, 24) := by kernel_rfl
theorem ty_14 : tyI Try.prog 14 = some (some (.agg #[.string ByteArray.empty, .int .u64 0]), 2, 24) := by kernel_rfl
theorem ty_15 : tyI Try.prog 15 = some (some (.pointer none), 1, 8) := by kernel_rfl
theorem ty_16 : tyI Try.prog 16 = some (some (.pointer none), 1, 8) := by kernel_rfl
theorem ty_17 : tyI Try.prog 17 = some (some (.pointer none), 1, 8) := by kernel_rfl
theorem ty_18 : tyI Try.prog 18 = some (some (.agg #[.pointer none]), 1, 8) := by kernel_rfl
theorem ty_19 : tyI Try.prog 19 = some (some (.agg #[.pointer none]), 1, 8) := by kernel_rfl
theorem ty_20 : tyI Try.prog 20 = some (some (.nilIface), 1, 16) := by kernel_rfl
theorem ty_21 : tyI Try.prog 21 = some (some (.int .i32 0), 1, 4) := by kernel_rfl
theorem ty_22 : tyI Try.prog 22 = some (some (.slice none 0 0), 1, 24) := by kernel_rfl
theorem ty_23 : tyI Try.prog 23 = some (some (.agg #[.int .i64 0, .int .i64 0, .slice none 0 0]), 3, 40) := by kernel_rfl
theorem ty_24 : tyI Try.prog 24 = some (some (.agg #[.int .i64 0, .int .i64 0, .slice none 0 0]), 3, 40) := by kernel_rfl
theorem ty_25 : tyI Try.prog 25 = some (some (.nilFunc), 1, 8) := by kernel_rfl
theorem ty_26 : tyI Try.prog 26 = some (some (.agg #[.int .i64 0, .int .i64 0]), 2, 16) := by kernel_rfl
theorem ty_27 : tyI Try.prog 27 = some (some (.agg #[.int .i64 0, .int .i64 0]), 2, 16) := by kernel_rfl
theorem ty_28 : tyI Try.prog 28 = some (some (.int .i64 0), 1, 8) := by kernel_rfl
theorem ty_30 : tyI Try.prog 30 = some (some (.nilFunc), 1, 8) := by kernel_rfl
theorem ty_32 : tyI Try.prog 32 = some (some (.nilFunc), 1, 8) := by kernel_rfl
theorem ty_33 : tyI Try.prog 33 = some (some (.nilFunc), 1, 8) := by kernel_rfl
theorem ty_34 : tyI Try.prog 34 = some (some (.nilFunc), 1, 8) := by kernel_rfl
theorem ty_35 : tyI Try.prog 35 = some (some (.slice none 0 0), 1, 24) := by kernel_rfl
theorem ty_36 : tyI Try.prog 36 = some (some (.nilFunc), 1, 8) := by kernel_rfl
theorem ty_37 : tyI Try.prog 37 = some (some (.nilFunc), 1, 8) := by kernel_rfl
theorem ty_38 : tyI Try.prog 38 = some (some (.nilFunc), 1, 8) := by kernel_rfl
theorem ty_39 : tyI Try.prog 39 = some (some (.nilFunc), 1, 8) := by kernel_rfl
theorem ty_40 : tyI Try.prog 40 = some (some (.nilFunc), 1, 8) := by kernel_rfl
theorem ty_41 : tyI Try.prog 41 = some (some (.nilFunc), 1, 8) := by kernel_rfl
theorem ty_42 : tyI Try.prog 42 = some (some (.nilFunc), 1, 8) := by kernel_rfl
theorem ty_43 : tyI Try.prog 43 = some (some (.slice none 0 0), 1, 24) := by kernel_rfl
theorem ty_45 : tyI Try.prog 45 = some (some (.nilFunc), 1, 8) := by kernel_rfl
theorem ty_46 : tyI Try.prog 46 = some (some (.nilFunc), 1, 8) := by kernel_rfl
theorem ty_47 : tyI Try.prog 47 = some (some (.agg #[.int .i64 0, .int .i64 0, .int .i64 0, .int .i64 0, .int .i64 0]), 5, 40) := by kernel_rfl
theorem ty_48 : tyI Try.prog 48 = some (some (.agg #[.int .i64 0, .int .i64 0, .int .i64 0, .int .i64 0, .int .i64 0]), 5, 40) := by kernel_rfl
theorem ty_49 : tyI Try.prog 49 = some (some (.slice none 0 0), 1, 24) := by kernel_rfl
theorem ty_51 : tyI Try.prog 51 = some (some (.nilFunc), 1, 8) := by kernel_rfl
theorem ty_52 : tyI Try.prog 52 = some (some (.agg #[.int .i64 0, .int .i64 0, .slice none 0 0]), 3, 40) := by kernel_rfl
theorem ty_53 : tyI Try.prog 53 = some (some (.agg #[.int .i64 0, .int .i64 0, .slice none 0 0]), 3, 40) := by kernel_rfl
theorem ty_54 : tyI Try.prog 54 = some (some (.nilFunc), 1, 8) := by kernel_rfl
theorem ty_55 : tyI Try.prog 55 = some (some (.slice none 0 0), 1, 24) := by kernel_rfl
theorem ty_56 : tyI Try.prog 56 = some (some (.slice none 0 0), 1, 24) := by kernel_rfl
theorem ty_58 : tyI Try.prog 58 = some (some (.nilFunc), 1, 8) := by kernel_rfl
theorem ty_59 : tyI Try.prog 59 = some (some (.nilFunc), 1, 8) := by kernel_rfl
theorem ty_60 : tyI Try.prog 60 = some (some (.agg #[.int .i64 0, .int .i64 0]), 2, 16) := by kernel_rfl
theorem ty_61 : tyI Try.prog 61 = some (some (.agg #[.int .i64 0, .int .i64 0, .int .i64 0, .int .i64 0, .int .i64 0, .int .i64 0, .int .i64 0, .int .i64 0, .int .i64 0, .int .i64 0]), 10, 80) := by kernel_rfl
theorem ty_62 : tyI Try.prog 62 = some (some (.agg #[.int .i64 0, .int .i64 0, .int .i64 0, .int .i64 0]), 4, 32) := by kernel_rfl
theorem ty_63 : tyI Try.prog 63 = some (some (.agg #[.int .i64 0, .int .i64 0, .int .i64 0, .int .i64 0]), 4, 32) := by kernel_rfl
theorem ty_64 : tyI Try.prog 64 = some (some (.nilFunc), 1, 8) := by kernel_rfl
theorem ty_65 : tyI Try.prog 65 = some (some (.nilFunc), 1, 8) := by kernel_rfl
theorem ty_66 : tyI Try.prog 66 = some (some (.nilFunc), 1, 8) := by kernel_rfl
theorem ty_67 : tyI Try.prog 67 = some (some (.nilFunc), 1, 8) := by kernel_rfl
theorem ty_69 : tyI Try.prog 69 = some (some (.nilFunc), 1, 8) := by kernel_rfl
theorem ty_70 : tyI Try.prog 70 = some (some (.nilFunc), 1, 8) := by kernel_rfl
theorem ty_72 : tyI Try.prog 72 = some (some (.nilFunc), 1, 8) := by kernel_rfl
theorem ty_73 : tyI Try.prog 73 = some (some (.nilFunc), 1, 8) := by kernel_rfl
theorem ty_74 : tyI Try.prog 74 = some (some (.slice none 0 0), 1, 24) := by kernel_rfl
theorem ty_75 : tyI Try.prog 75 = some (some (.nilFunc), 1, 8) := by kernel_rfl
theorem ty_76 : tyI Try.prog 76 = some (some (.agg #[.int .i64 0, .int .i64 0, .int .i64 0]), 3, 24) := by kernel_rfl
theorem ty_77 : tyI Try.prog 77 = some (some (.agg #[.int .i64 0, .int .i64 0, .int .i64 0]), 3, 24) := by kernel_rfl
theorem ty_78 : tyI Try.prog 78 = some (some (.nilFunc), 1, 8) := by kernel_rfl
theorem ty_79 : tyI Try.prog 79 = some (some (.nilFunc), 1, 8) := by kernel_rfl
theorem ty_80 : tyI Try.prog 80 = some (some (.nilFunc), 1, 8) := by kernel_rfl
theorem ty_81 : tyI Try.prog 81 = some (some (.nilFunc), 1, 8) := by kernel_rfl
theorem ty_82 : tyI Try.prog 82 = some (some (.nilFunc), 1, 8) := by kernel_rfl
theorem ty_83 : tyI Try.prog 83 = some (some (.nilFunc), 1, 8) := by kernel_rfl
theorem ty_85 : tyI Try.prog 85 = some (some (.nilFunc), 1, 8) := by kernel_rfl
theorem ty_86 : tyI Try.prog 86 = some (some (.nilFunc), 1, 8) := by kernel_rfl
theorem ty_87 : tyI Try.prog 87 = some (some (.agg #[.int .i64 0, .int .i64 0, .slice none 0 0]), 3, 40) := by kernel_rfl
theorem ty_88 : tyI Try.prog 88 = some (some (.nilFunc), 1, 8) := by kernel_rfl
theorem ty_89 : tyI Try.prog 89 = some (some (.nilFunc), 1, 8) := by kernel_rfl
theorem ty_90 : tyI Try.prog 90 = some (some (.nilFunc), 1, 8) := by kernel_rfl
theorem ty_91 : tyI Try.prog 91 = some (some (.slice none 0 0), 1, 24) := by kernel_rfl
theorem ty_92 : tyI Try.prog 92 = some (some (.slice none 0 0), 1, 24) := by kernel_rfl
theorem ty_94 : tyI Try.prog 94 = some (some (.nilFunc), 1, 8) := by kernel_rfl
theorem ty_95 : tyI Try.prog 95 = some (some (.nilFunc), 1, 8) := by kernel_rfl
theorem ty_96 : tyI Try.prog 96 = some (some (.nilFunc), 1, 8) := by kernel_rfl
theorem ty_97 : tyI Try.prog 97 = some (some (.nilFunc), 1, 8) := by kernel_rfl
theorem ty_98 : tyI Try.prog 98 = some (some (.slice none 0 0), 1, 24) := by kernel_rfl
theorem ty_100 : tyI Try.prog 100 = some (some (.nilFunc), 1, 8) := by kernel_rfl
theorem ty_101 : tyI Try.prog 101 = some (some (.agg #[.int .i64 0, .int .i64 0, .int .i64 0]), 3, 24) := by kernel_rfl
theorem ty_102 : tyI Try.prog 102 = some (some (.agg #[.int .i64 0, .int .i64 0, .int .i64 0]), 3, 24) := by kernel_rfl
theorem ty_104 : tyI Try.prog 104 = some (some (.nilFunc), 1, 8) := by kernel_rfl
theorem ty_105 : tyI Try.prog 105 = some (some (.nilFunc), 1, 8) := by kernel_rfl
theorem ty_106 : tyI Try.prog 106 = some (some (.nilFunc), 1, 8) := by kernel_rfl
theorem ty_107 : tyI Try.prog 107 = some (some (.nilFunc), 1, 8) := by kernel_rfl
theorem ty_108 : tyI Try.prog 108 = some (some (.nilFunc), 1, 8) := by kernel_rfl
theorem ty_109 : tyI Try.prog 109 = some (some (.pointer none), 1, 8) := by kernel_rfl
theorem ty_110 : tyI Try.prog 110 = some (some (.nilFunc), 1, 8) := by kernel_rfl
theorem ty_111 : tyI Try.prog 111 = some (some (.nilFunc), 1, 8) := by kernel_rfl
theorem ty_112 : tyI Try.prog 112 = some (some (.nilFunc), 1, 8) := by kernel_rfl
theorem ty_113 : tyI Try.prog 113 = some (some (.nilFunc), 1, 8) := by kernel_rfl
theorem ty_115 : tyI Try.prog 115 = some (some (.nilFunc), 1, 8) := by kernel_rfl
theorem ty_116 : tyI Try.prog 116 = some (some (.nilFunc), 1, 8) := by kernel_rfl
theorem ty_117 : tyI Try.prog 117 = some (some (.nilFunc), 1, 8) := by kernel_rfl
theorem ty_118 : tyI Try.prog 118 = some (some (.nilFunc), 1, 8) := by kernel_rfl
theorem ty_119 : tyI Try.prog 119 = some (some (.nilFunc), 1, 8) := by kernel_rfl
theorem ty_120 : tyI Try.prog 120 = some (some (.nilFunc), 1, 8) := by kernel_rfl
theorem ty_121 : tyI Try.prog 121 = some (some (.nilFunc), 1, 8) := by kernel_rfl
theorem ty_122 : tyI Try.prog 122 = some (some (.nilFunc), 1, 8) := by kernel_rfl
theorem ty_123 : tyI Try.prog 123 = some (some (.nilFunc), 1, 8) := by kernel_rfl
theorem ty_124 : tyI Try.prog 124 = some (some (.nilFunc), 1, 8) := by kernel_rfl
theorem ty_125 : tyI Try.prog 125 = some (some (.nilFunc), 1, 8) := by kernel_rfl
theorem ty_126 : tyI Try.prog 126 = some (some (.nilFunc), 1, 8) := by kernel_rfl
theorem ty_127 : tyI Try.prog 127 = some (some (.nilFunc), 1, 8) := by kernel_rfl
theorem ty_128 : tyI Try.prog 128 = some (some (.pointer none), 1, 8) := by kernel_rfl
theorem ty_129 : tyI Try.prog 129 = some (some (.nilFunc), 1, 8) := by kernel_rfl
theorem ty_130 : tyI Try.prog 130 = some (some (.nilFunc), 1, 8) := by kernel_rfl
theorem ty_131 : tyI Try.prog 131 = some (some (.nilFunc), 1, 8) := by kernel_rfl
theorem ty_132 : tyI Try.prog 132 = some (some (.agg #[.pointer none, .pointer none, .pointer none, .string ByteArray.empty]), 4, 40) := by kernel_rfl
theorem ty_133 : tyI Try.prog 133 = some (some (.agg #[.pointer none, .pointer none, .pointer none, .string ByteArray.empty]), 4, 40) := by kernel_rfl
theorem ty_134 : tyI Try.prog 134 = some (some (.agg #[]), 0, 0) := by kernel_rfl
theorem ty_135 : tyI Try.prog 135 = some (some (.agg #[]), 0, 0) := by kernel_rfl
theorem ty_136 : tyI Try.prog 136 = some (some (.agg #[]), 0, 0) := by kernel_rfl
theorem ty_137 : tyI Try.prog 137 = some (some (.nilFunc), 1, 8) := by kernel_rfl
theorem ty_138 : tyI Try.prog 138 = some (some (.int .u32 0), 1, 4) := by kernel_rfl
theorem ty_139 : tyI Try.prog 139 = some (some (.int .u8 0), 1, 1) := by kernel_rfl
theorem ty_140 : tyI Try.prog 140 = some (some (.int .u8 0), 1, 1) := by kernel_rfl
theorem ty_141 : tyI Try.prog 141 = some (some (.nilFunc), 1, 8) := by kernel_rfl
theorem ty_142 : tyI Try.prog 142 = some (some (.pointer none), 1, 8) := by kernel_rfl
theorem ty_143 : tyI Try.prog 143 = some (some (.int .i32 0), 1, 4) := by kernel_rfl
theorem ty_144 : tyI Try.prog 144 = some (some (.int .i32 0), 1, 4) := by kernel_rfl
theorem ty_145 : tyI Try.prog 145 = some (some (.agg #[.int .u64 0, .int .u64 0, .int .u32 0, .int .u8 0, .int .u8 0, .int .u8 0, .int .u8 0, .nilFunc, .pointer none, .int .i32 0, .int .i32 0]), 11, 48) := by kernel_rfl
theorem ty_146 : tyI Try.prog 146 = some (some (.agg #[.int .u64 0, .int .u64 0, .int .u32 0, .int .u8 0, .int .u8 0, .int .u8 0, .int .u8 0, .nilFunc, .pointer none, .int .i32 0, .int .i32 0]), 11, 48) := by kernel_rfl
theorem ty_147 : tyI Try.prog 147 = some (some (.pointer none), 1, 8) := by kernel_rfl
theorem fl_7 : fieldsP Try.prog 7 = some [(0, (1, false)), (1, (1, false)), (2, (1, false)), (3, (1, false))] := by kernel_rfl
theorem fl_8 : fieldsP Try.prog 8 = some [(0, (1, false)), (1, (1, false)), (2, (1, false)), (3, (1, false))] := by kernel_rfl
theorem fl_13 : fieldsP Try.prog 13 = some [(0, (1, false)), (1, (1, false))] := by kernel_rfl
theorem fl_14 : fieldsP Try.prog 14 = some [(0, (1, false)), (1, (1, false))] := by kernel_rfl
theorem fl_18 : fieldsP Try.prog 18 = some [(0, (1, false))] := by kernel_rfl
theorem fl_19 : fieldsP Try.prog 19 = some [(0, (1, false))] := by kernel_rfl
theorem fl_23 : fieldsP Try.prog 23 = some [(0, (1, false)), (1, (1, false)), (2, (1, false))] := by kernel_rfl
theorem fl_24 : fieldsP Try.prog 24 = some [(0, (1, false)), (1, (1, false)), (2, (1, false))] := by kernel_rfl
theorem fl_26 : fieldsP Try.prog 26 = some [(0, (1, false)), (1, (1, false))] := by kernel_rfl
theorem fl_27 : fieldsP Try.prog 27 = some [(0, (1, false)), (1, (1, false))] := by kernel_rfl
theorem fl_47 : fieldsP Try.prog 47 = some [(0, (1, false)), (1, (1, false)), (2, (1, false)), (3, (1, false)), (4, (1, false))] := by kernel_rfl
theorem fl_48 : fieldsP Try.prog 48 = some [(0, (1, false)), (1, (1, false)), (2, (1, false)), (3, (1, false)), (4, (1, false))] := by kernel_rfl
theorem fl_52 : fieldsP Try.prog 52 = some [(0, (1, false)), (1, (1, false)), (2, (1, false))] := by kernel_rfl
theorem fl_53 : fieldsP Try.prog 53 = some [(0, (1, false)), (1, (1, false)), (2, (1, false))] := by kernel_rfl
theorem fl_62 : fieldsP Try.prog 62 = some [(0, (1, false)), (1, (1, false)), (2, (1, false)), (3, (1, false))] := by kernel_rfl
theorem fl_63 : fieldsP Try.prog 63 = some [(0, (1, false)), (1, (1, false)), (2, (1, false)), (3, (1, false))] := by kernel_rfl
theorem fl_76 : fieldsP Try.prog 76 = some [(0, (1, false)), (1, (1, false)), (2, (1, false))] := by kernel_rfl
theorem fl_77 : fieldsP Try.prog 77 = some [(0, (1, false)), (1, (1, false)), (2, (1, false))] := by kernel_rfl
theorem fl_87 : fieldsP Try.prog 87 = some [(0, (1, false)), (1, (1, false)), (2, (1, false))] := by kernel_rfl
theorem fl_101 : fieldsP Try.prog 101 = some [(0, (1, false)), (1, (1, false)), (2, (1, false))] := by kernel_rfl
theorem fl_102 : fieldsP Try.prog 102 = some [(0, (1, false)), (1, (1, false)), (2, (1, false))] := by kernel_rfl
theorem fl_132 : fieldsP Try.prog 132 = some [(0, (1, false)), (1, (1, false)), (2, (1, false)), (3, (1, false))] := by kernel_rfl
theorem fl_133 : fieldsP Try.prog 133 = some [(0, (1, false)), (1, (1, false)), (2, (1, false)), (3, (1, false))] := by kernel_rfl
theorem fl_135 : fieldsP Try.prog 135 = some [(0, (0, true))] := by kernel_rfl
theorem fl_136 : fieldsP Try.prog 136 = some [(0, (0, true))] := by kernel_rfl
theorem fl_145 : fieldsP Try.prog 145 = some [(0, (1, false)), (1, (1, false)), (2, (1, false)), (3, (1, false)), (4, (1, false)), (5, (1, false)), (6, (1, false)), (7, (1, false)), (8, (1, false)), (9, (1, false)), (10, (1, false))] := by kernel_rfl
theorem fl_146 : fieldsP Try.prog 146 = some [(0, (1, false)), (1, (1, false)), (2, (1, false)), (3, (1, false)), (4, (1, false)), (5, (1, false)), (6, (1, false)), (7, (1, false)), (8, (1, false)), (9, (1, false)), (10, (1, false))] := by kernel_rfl
theorem eq_26 : eqInts Try.prog 26 = true ∧ (match Try.prog.underlying 26 with | some (.struct fs) => fs.size | _ => 0) = 2 := ⟨by kernel_rfl, by rw [Try.underlying26]; rfl⟩
theorem eq_27 : eqInts Try.prog 27 = true ∧ (match Try.prog.underlying 27 with | some (.struct fs) => fs.size | _ => 0) = 2 := ⟨by kernel_rfl, by rw [Try.underlying27]; rfl⟩
theorem eq_47 : eqInts Try.prog 47 = true ∧ (match Try.prog.underlying 47 with | some (.struct fs) => fs.size | _ => 0) = 5 := ⟨by kernel_rfl, by rw [Try.underlying47]; rfl⟩
theorem eq_48 : eqInts Try.prog 48 = true ∧ (match Try.prog.underlying 48 with | some (.struct fs) => fs.size | _ => 0) = 5 := ⟨by kernel_rfl, by rw [Try.underlying48]; rfl⟩
theorem eq_62 : eqInts Try.prog 62 = true ∧ (match Try.prog.underlying 62 with | some (.struct fs) => fs.size | _ => 0) = 4 := ⟨by kernel_rfl, by rw [Try.underlying62]; rfl⟩
theorem eq_63 : eqInts Try.prog 63 = true ∧ (match Try.prog.underlying 63 with | some (.struct fs) => fs.size | _ => 0) = 4 := ⟨by kernel_rfl, by rw [Try.underlying63]; rfl⟩
theorem eq_76 : eqInts Try.prog 76 = true ∧ (match Try.prog.underlying 76 with | some (.struct fs) => fs.size | _ => 0) = 3 := ⟨by kernel_rfl, by rw [Try.underlying76]; rfl⟩
theorem eq_77 : eqInts Try.prog 77 = true ∧ (match Try.prog.underlying 77 with | some (.struct fs) => fs.size | _ => 0) = 3 := ⟨by kernel_rfl, by rw [Try.underlying77]; rfl⟩
theorem eq_101 : eqInts Try.prog 101 = true ∧ (match Try.prog.underlying 101 with | some (.struct fs) => fs.size | _ => 0) = 3 := ⟨by kernel_rfl, by rw [Try.underlying101]; rfl⟩
theorem eq_102 : eqInts Try.prog 102 = true ∧ (match Try.prog.underlying 102 with | some (.struct fs) => fs.size | _ => 0) = 3 := ⟨by kernel_rfl, by rw [Try.underlying102]; rfl⟩
theorem tab_und : allP (fun k D => Try.prog.underlying k = some D) tab.und := ⟨Try.underlying0, ⟨Try.underlying1, ⟨Try.underlying2, ⟨Try.underlying3, ⟨Try.underlying4, ⟨Try.underlying5, ⟨Try.underlying6, ⟨Try.underlying7, ⟨Try.underlying8, ⟨Try.underlying9, ⟨Try.underlying10, ⟨Try.underlying11, ⟨Try.underlying12, ⟨Try.underlying13, ⟨Try.underlying14, ⟨Try.underlying15, ⟨Try.underlying16, ⟨Try.underlying17, ⟨Try.underlying18, ⟨Try.underlying19, ⟨Try.underlying20, ⟨Try.underlying21, ⟨Try.underlying22, ⟨Try.underlying23, ⟨Try.underlying24, ⟨Try.underlying25, ⟨Try.underlying26, ⟨Try.underlying27, ⟨Try.underlying28, ⟨Try.underlying29, ⟨Try.underlying30, ⟨Try.underlying31, ⟨Try.underlying32, ⟨Try.underlying33, ⟨Try.underlying34, ⟨Try.underlying35, ⟨Try.underlying36, ⟨Try.underlying37, ⟨Try.underlying38, ⟨Try.underlying39, ⟨Try.underlying40, ⟨Try.underlying41, ⟨Try.underlying42, ⟨Try.underlying43, ⟨Try.underlying44, ⟨Try.underlying45, ⟨Try.underlying46, ⟨Try.underlying47, ⟨Try.underlying48, ⟨Try.underlying49, ⟨Try.underlying50, ⟨Try.underlying51, ⟨Try.underlying52, ⟨Try.underlying53, ⟨Try.underlying54, ⟨Try.underlying55, ⟨Try.underlying56, ⟨Try.underlying57, ⟨Try.underlying58, ⟨Try.underlying59, ⟨Try.underlying60, ⟨Try.underlying61, ⟨Try.underlying62, ⟨Try.underlying63, ⟨Try.underlying64, ⟨Try.underlying65, ⟨Try.underlying66, ⟨Try.underlying67, ⟨Try.underlying68, ⟨Try.underlying69, ⟨Try.underlying70, ⟨Try.underlying71, ⟨Try.underlying72, ⟨Try.underlying73, ⟨Try.underlying74, ⟨Try.underlying75, ⟨Try.underlying76, ⟨Try.underlying77, ⟨Try.underlying78, ⟨Try.underlying79, ⟨Try.underlying80, ⟨Try.underlying81, ⟨Try.underlying82, ⟨Try.underlying83, ⟨Try.underlying84, ⟨Try.underlying85, ⟨Try.underlying86, ⟨Try.underlying87, ⟨Try.underlying88, ⟨Try.underlying89, ⟨Try.underlying90, ⟨Try.underlying91, ⟨Try.underlying92, ⟨Try.underlying93, ⟨Try.underlying94, ⟨Try.underlying95, ⟨Try.underlying96, ⟨Try.underlying97, ⟨Try.underlying98, ⟨Try.underlying99, ⟨Try.underlying100, ⟨Try.underlying101, ⟨Try.underlying102, ⟨Try.underlying103, ⟨Try.underlying104, ⟨Try.underlying105, ⟨Try.underlying106, ⟨Try.underlying107, ⟨Try.underlying108, ⟨Try.underlying109, ⟨Try.underlying110, ⟨Try.underlying111, ⟨Try.underlying112, ⟨Try.underlying113, ⟨Try.underlying114, ⟨Try.underlying115, ⟨Try.underlying116, ⟨Try.underlying117, ⟨Try.underlying118, ⟨Try.underlying119, ⟨Try.underlying120, ⟨Try.underlying121, ⟨Try.underlying122, ⟨Try.underlying123, ⟨Try.underlying124, ⟨Try.underlying125, ⟨Try.underlying126, ⟨Try.underlying127, ⟨Try.underlying128, ⟨Try.underlying129, ⟨Try.underlying130, ⟨Try.underlying131, ⟨Try.underlying132, ⟨Try.underlying133, ⟨Try.underlying134, ⟨Try.underlying135, ⟨Try.underlying136, ⟨Try.underlying137, ⟨Try.underlying138, ⟨Try.underlying139, ⟨Try.underlying140, ⟨Try.underlying141, ⟨Try.underlying142, ⟨Try.underlying143, ⟨Try.underlying144, ⟨Try.underlying145, ⟨Try.underlying146, ⟨Try.underlying147, trivial⟩⟩⟩⟩⟩⟩⟩⟩⟩⟩⟩⟩⟩⟩⟩⟩⟩⟩⟩⟩⟩⟩⟩⟩⟩⟩⟩⟩⟩⟩⟩⟩⟩⟩⟩⟩⟩⟩⟩⟩⟩⟩⟩⟩⟩⟩⟩⟩⟩⟩⟩⟩⟩⟩⟩⟩⟩⟩⟩⟩⟩⟩⟩⟩⟩⟩⟩⟩⟩⟩⟩⟩⟩⟩⟩⟩⟩⟩⟩⟩⟩⟩⟩⟩⟩⟩⟩⟩⟩⟩⟩⟩⟩⟩⟩⟩⟩⟩⟩⟩⟩⟩⟩⟩⟩⟩⟩⟩⟩⟩⟩⟩⟩⟩⟩⟩⟩⟩⟩⟩⟩⟩⟩⟩⟩⟩⟩⟩⟩⟩⟩⟩⟩⟩⟩⟩⟩⟩⟩⟩⟩⟩⟩⟩⟩⟩⟩⟩
theorem tab_inf : allP (fun k x => tyI Try.prog k = some x) tab.inf := ⟨ty_1, ⟨ty_2, ⟨ty_3, ⟨ty_4, ⟨ty_5, ⟨ty_6, ⟨ty_7, ⟨ty_8, ⟨ty_9, ⟨ty_10, ⟨ty_11, ⟨ty_12, ⟨ty_13, ⟨ty_14, ⟨ty_15, ⟨ty_16, ⟨ty_17, ⟨ty_18, ⟨ty_19, ⟨ty_20, ⟨ty_21, ⟨ty_22, ⟨ty_23, ⟨ty_24, ⟨ty_25, ⟨ty_26, ⟨ty_27, ⟨ty_28, ⟨ty_30, ⟨ty_32, ⟨ty_33, ⟨ty_34, ⟨ty_35, ⟨ty_36, ⟨ty_37, ⟨ty_38, ⟨ty_39, ⟨ty_40, ⟨ty_41, ⟨ty_42, ⟨ty_43, ⟨ty_45, ⟨ty_46, ⟨ty_47, ⟨ty_48, ⟨ty_49, ⟨ty_51, ⟨ty_52, ⟨ty_53, ⟨ty_54, ⟨ty_55, ⟨ty_56, ⟨ty_58, ⟨ty_59, ⟨ty_60, ⟨ty_61, ⟨ty_62, ⟨ty_63, ⟨ty_64, ⟨ty_65, ⟨ty_66, ⟨ty_67, ⟨ty_69, ⟨ty_70, ⟨ty_72, ⟨ty_73, ⟨ty_74, ⟨ty_75, ⟨ty_76, ⟨ty_77, ⟨ty_78, ⟨ty_79, ⟨ty_80, ⟨ty_81, ⟨ty_82, ⟨ty_83, ⟨ty_85, ⟨ty_86, ⟨ty_87, ⟨ty_88, ⟨ty_89, ⟨ty_90, ⟨ty_91, ⟨ty_92, ⟨ty_94, ⟨ty_95, ⟨ty_96, ⟨ty_97, ⟨ty_98, ⟨ty_100, ⟨ty_101, ⟨ty_102, ⟨ty_104, ⟨ty_105, ⟨ty_106, ⟨ty_107, ⟨ty_108, ⟨ty_109, ⟨ty_110, ⟨ty_111, ⟨ty_112, ⟨ty_113, ⟨ty_115, ⟨ty_116, ⟨ty_117, ⟨ty_118, ⟨ty_119, ⟨ty_120, ⟨ty_121, ⟨ty_122, ⟨ty_123, ⟨ty_124, ⟨ty_125, ⟨ty_126, ⟨ty_127, ⟨ty_128, ⟨ty_129, ⟨ty_130, ⟨ty_131, ⟨ty_132, ⟨ty_133, ⟨ty_134, ⟨ty_135, ⟨ty_136, ⟨ty_137, ⟨ty_138, ⟨ty_139, ⟨ty_140, ⟨ty_141, ⟨ty_142, ⟨ty_143, ⟨ty_144, ⟨ty_145, ⟨ty_146, ⟨ty_147, trivial⟩⟩⟩⟩⟩⟩⟩⟩⟩⟩⟩⟩⟩⟩⟩⟩⟩⟩⟩⟩⟩⟩⟩⟩⟩⟩⟩⟩⟩⟩⟩⟩⟩⟩⟩⟩⟩⟩⟩⟩⟩⟩⟩⟩⟩⟩⟩⟩⟩⟩⟩⟩⟩⟩⟩⟩⟩⟩⟩⟩⟩⟩⟩⟩⟩⟩⟩⟩⟩⟩⟩⟩⟩⟩⟩⟩⟩⟩⟩⟩⟩⟩⟩⟩⟩⟩⟩⟩⟩⟩⟩⟩⟩⟩⟩⟩⟩⟩⟩⟩⟩⟩⟩⟩⟩⟩⟩⟩⟩⟩⟩⟩⟩⟩⟩⟩⟩⟩⟩⟩⟩⟩⟩⟩⟩⟩⟩⟩⟩⟩⟩⟩⟩⟩⟩
theorem tab_fld : allP (fun k x => fieldsP Try.prog k = some x) tab.fld := ⟨fl_7, ⟨fl_8, ⟨fl_13, ⟨fl_14, ⟨fl_18, ⟨fl_19, ⟨fl_23, ⟨fl_24, ⟨fl_26, ⟨fl_27, ⟨fl_47, ⟨fl_48, ⟨fl_52, ⟨fl_53, ⟨fl_62, ⟨fl_63, ⟨fl_76, ⟨fl_77, ⟨fl_87, ⟨fl_101, ⟨fl_102, ⟨fl_132, ⟨fl_133, ⟨fl_135, ⟨fl_136, ⟨fl_145, ⟨fl_146, trivial⟩⟩⟩⟩⟩⟩⟩⟩⟩⟩⟩⟩⟩⟩⟩⟩⟩⟩⟩⟩⟩⟩⟩⟩⟩⟩⟩
set_option maxRecDepth 100000 in
theorem tab_eqs : allP (fun k L => eqInts Try.prog k = true ∧ (match Try.prog.underlying k with | some (.struct fs) => fs.size | _ => 0) = L) tab.eqs := ⟨eq_26, ⟨eq_27, ⟨eq_47, ⟨eq_48, ⟨eq_62, ⟨eq_63, ⟨eq_76, ⟨eq_77, ⟨eq_101, ⟨eq_102, trivial⟩⟩⟩⟩⟩⟩⟩⟩⟩⟩
set_option maxRecDepth 100000 in
theorem tab_ok : tab.ok Try.prog := ⟨tab_und, tab_inf, tab_fld, tab_eqs⟩
def cas : List (Nat × Nat) := [(2, 0), (3, 0), (4, 0), (5, 0), (6, 0), (7, 0), (8, 0), (9, 0), (10, 0), (11, 0), (12, 0), (13, 0), (14, 0), (15, 0), (16, 0), (17, 0), (18, 0), (19, 0), (20, 0), (21, 0), (22, 0), (23, 0), (24, 0), (25, 0), (26, 0), (27, 0), (28, 0), (29, 0), (30, 0), (31, 0), (32, 0), (33, 0), (34, 0), (35, 0), (36, 0), (37, 0), (38, 0), (39, 0), (40, 0), (41, 0), (42, 0), (43, 0), (44, 0), (45, 0), (46, 0), (47, 0), (48, 0), (49, 0), (50, 0), (51, 0), (52, 0), (53, 0), (54, 0), (55, 0), (56, 0), (57, 0), (58, 0), (59, 0), (60, 0), (61, 0), (62, 0), (63, 0), (64, 0), (65, 0), (66, 0), (67, 0), (68, 0), (69, 0), (70, 0), (71, 0), (72, 0), (73, 0), (74, 0), (75, 0), (76, 0), (77, 0), (78, 0), (79, 0), (80, 0), (81, 0), (82, 0), (83, 0), (84, 0), (85, 0), (86, 0), (87, 0)]
theorem ca_2 : callable Try.prog 2 = true := by kernel_rfl
theorem ca_3 : callable Try.prog 3 = true := by kernel_rfl
theorem ca_4 : callable Try.prog 4 = true := by kernel_rfl
theorem ca_5 : callable Try.prog 5 = true := by kernel_rfl
theorem ca_6 : callable Try.prog 6 = true := by kernel_rfl
theorem ca_7 : callable Try.prog 7 = true := by kernel_rfl
theorem ca_8 : callable Try.prog 8 = true := by kernel_rfl
theorem ca_9 : callable Try.prog 9 = true := by kernel_rfl
theorem ca_10 : callable Try.prog 10 = true := by kernel_rfl
theorem ca_11 : callable Try.prog 11 = true := by kernel_rfl
theorem ca_12 : callable Try.prog 12 = true := by kernel_rfl
theorem ca_13 : callable Try.prog 13 = true := by kernel_rfl
theorem ca_14 : callable Try.prog 14 = true := by kernel_rfl
theorem ca_15 : callable Try.prog 15 = true := by kernel_rfl
theorem ca_16 : callable Try.prog 16 = true := by kernel_rfl
theorem ca_17 : callable Try.prog 17 = true := by kernel_rfl
theorem ca_18 : callable Try.prog 18 = true := by kernel_rfl
theorem ca_19 : callable Try.prog 19 = true := by kernel_rfl
theorem ca_20 : callable Try.prog 20 = true := by kernel_rfl
theorem ca_21 : callable Try.prog 21 = true := by kernel_rfl
theorem ca_22 : callable Try.prog 22 = true := by kernel_rfl
theorem ca_23 : callable Try.prog 23 = true := by kernel_rfl
theorem ca_24 : callable Try.prog 24 = true := by kernel_rfl
theorem ca_25 : callable Try.prog 25 = true := by kernel_rfl
theorem ca_26 : callable Try.prog 26 = true := by kernel_rfl
theorem ca_27 : callable Try.prog 27 = true := by kernel_rfl
theorem ca_28 : callable Try.prog 28 = true := by kernel_rfl
theorem ca_29 : callable Try.prog 29 = true := by kernel_rfl
theorem ca_30 : callable Try.prog 30 = true := by kernel_rfl
theorem ca_31 : callable Try.prog 31 = true := by kernel_rfl
theorem ca_32 : callable Try.prog 32 = true := by kernel_rfl
theorem ca_33 : callable Try.prog 33 = true := by kernel_rfl
theorem ca_34 : callable Try.prog 34 = true := by kernel_rfl
theorem ca_35 : callable Try.prog 35 = true := by kernel_rfl
theorem ca_36 : callable Try.prog 36 = true := by kernel_rfl
theorem ca_37 : callable Try.prog 37 = true := by kernel_rfl
theorem ca_38 : callable Try.prog 38 = true := by kernel_rfl
theorem ca_39 : callable Try.prog 39 = true := by kernel_rfl
theorem ca_40 : callable Try.prog 40 = true := by kernel_rfl
theorem ca_41 : callable Try.prog 41 = true := by kernel_rfl
theorem ca_42 : callable Try.prog 42 = true := by kernel_rfl
theorem ca_43 : callable Try.prog 43 = true := by kernel_rfl
theorem ca_44 : callable Try.prog 44 = true := by kernel_rfl
theorem ca_45 : callable Try.prog 45 = true := by kernel_rfl
theorem ca_46 : callable Try.prog 46 = true := by kernel_rfl
theorem ca_47 : callable Try.prog 47 = true := by kernel_rfl
theorem ca_48 : callable Try.prog 48 = true := by kernel_rfl
theorem ca_49 : callable Try.prog 49 = true := by kernel_rfl
theorem ca_50 : callable Try.prog 50 = true := by kernel_rfl
theorem ca_51 : callable Try.prog 51 = true := by kernel_rfl
theorem ca_52 : callable Try.prog 52 = true := by kernel_rfl
theorem ca_53 : callable Try.prog 53 = true := by kernel_rfl
theorem ca_54 : callable Try.prog 54 = true := by kernel_rfl
theorem ca_55 : callable Try.prog 55 = true := by kernel_rfl
theorem ca_56 : callable Try.prog 56 = true := by kernel_rfl
theorem ca_57 : callable Try.prog 57 = true := by kernel_rfl
theorem ca_58 : callable Try.prog 58 = true := by kernel_rfl
theorem ca_59 : callable Try.prog 59 = true := by kernel_rfl
theorem ca_60 : callable Try.prog 60 = true := by kernel_rfl
theorem ca_61 : callable Try.prog 61 = true := by kernel_rfl
theorem ca_62 : callable Try.prog 62 = true := by kernel_rfl
theorem ca_63 : callable Try.prog 63 = true := by kernel_rfl
theorem ca_64 : callable Try.prog 64 = true := by kernel_rfl
theorem ca_65 : callable Try.prog 65 = true := by kernel_rfl
theorem ca_66 : callable Try.prog 66 = true := by kernel_rfl
theorem ca_67 : callable Try.prog 67 = true := by kernel_rfl
theorem ca_68 : callable Try.prog 68 = true := by kernel_rfl
theorem ca_69 : callable Try.prog 69 = true := by kernel_rfl
theorem ca_70 : callable Try.prog 70 = true := by kernel_rfl
theorem ca_71 : callable Try.prog 71 = true := by kernel_rfl
theorem ca_72 : callable Try.prog 72 = true := by kernel_rfl
theorem ca_73 : callable Try.prog 73 = true := by kernel_rfl
theorem ca_74 : callable Try.prog 74 = true := by kernel_rfl
theorem ca_75 : callable Try.prog 75 = true := by kernel_rfl
theorem ca_76 : callable Try.prog 76 = true := by kernel_rfl
theorem ca_77 : callable Try.prog 77 = true := by kernel_rfl
theorem ca_78 : callable Try.prog 78 = true := by kernel_rfl
theorem ca_79 : callable Try.prog 79 = true := by kernel_rfl
theorem ca_80 : callable Try.prog 80 = true := by kernel_rfl
theorem ca_81 : callable Try.prog 81 = true := by kernel_rfl
theorem ca_82 : callable Try.prog 82 = true := by kernel_rfl
theorem ca_83 : callable Try.prog 83 = true := by kernel_rfl
theorem ca_84 : callable Try.prog 84 = true := by kernel_rfl
theorem ca_85 : callable Try.prog 85 = true := by kernel_rfl
theorem ca_86 : callable Try.prog 86 = true := by kernel_rfl
theorem ca_87 : callable Try.prog 87 = true := by kernel_rfl
theorem cas_ok : allP (fun k _ => callable Try.prog k = true) cas := ⟨ca_2, ⟨ca_3, ⟨ca_4, ⟨ca_5, ⟨ca_6, ⟨ca_7, ⟨ca_8, ⟨ca_9, ⟨ca_10, ⟨ca_11, ⟨ca_12, ⟨ca_13, ⟨ca_14, ⟨ca_15, ⟨ca_16, ⟨ca_17, ⟨ca_18, ⟨ca_19, ⟨ca_20, ⟨ca_21, ⟨ca_22, ⟨ca_23, ⟨ca_24, ⟨ca_25, ⟨ca_26, ⟨ca_27, ⟨ca_28, ⟨ca_29, ⟨ca_30, ⟨ca_31, ⟨ca_32, ⟨ca_33, ⟨ca_34, ⟨ca_35, ⟨ca_36, ⟨ca_37, ⟨ca_38, ⟨ca_39, ⟨ca_40, ⟨ca_41, ⟨ca_42, ⟨ca_43, ⟨ca_44, ⟨ca_45, ⟨ca_46, ⟨ca_47, ⟨ca_48, ⟨ca_49, ⟨ca_50, ⟨ca_51, ⟨ca_52, ⟨ca_53, ⟨ca_54, ⟨ca_55, ⟨ca_56, ⟨ca_57, ⟨ca_58, ⟨ca_59, ⟨ca_60, ⟨ca_61, ⟨ca_62, ⟨ca_63, ⟨ca_64, ⟨ca_65, ⟨ca_66, ⟨ca_67, ⟨ca_68, ⟨ca_69, ⟨ca_70, ⟨ca_71, ⟨ca_72, ⟨ca_73, ⟨ca_74, ⟨ca_75, ⟨ca_76, ⟨ca_77, ⟨ca_78, ⟨ca_79, ⟨ca_80, ⟨ca_81, ⟨ca_82, ⟨ca_83, ⟨ca_84, ⟨ca_85, ⟨ca_86, ⟨ca_87, trivial⟩⟩⟩⟩⟩⟩⟩⟩⟩⟩⟩⟩⟩⟩⟩⟩⟩⟩⟩⟩⟩⟩⟩⟩⟩⟩⟩⟩⟩⟩⟩⟩⟩⟩⟩⟩⟩⟩⟩⟩⟩⟩⟩⟩⟩⟩⟩⟩⟩⟩⟩⟩⟩⟩⟩⟩⟩⟩⟩⟩⟩⟩⟩⟩⟩⟩⟩⟩⟩⟩⟩⟩⟩⟩⟩⟩⟩⟩⟩⟩⟩⟩⟩⟩⟩⟩
end Go.Proofs.Ytnbmldnahacnlaa
/- What a run of the abstract machine asks of the program (printed by a program). -/
namespace Go.Proofs.Ytnbmldnahacnlaa
open Go
noncomputable def ctx : Ctx := ⟨tab, [(2, Try.f2), (3, Try.f3), (4, Try.f4), (5, Try.f5), (6, Try.f6), (7, Try.f7), (8, Try.f8), (9, Try.f9), (10, Try.f10), (11, Try.f11), (12, Try.f12), (13, Try.f13), (14, Try.f14), (15, Try.f15), (16, Try.f16), (17, Try.f17), (18, Try.f18), (19, Try.f19), (20, Try.f20), (21, Try.f21), (22, Try.f22), (23, Try.f23), (24, Try.f24), (25, Try.f25), (26, Try.f26), (27, Try.f27), (28, Try.f28), (29, Try.f29), (30, Try.f30), (31, Try.f31), (32, Try.f32), (33, Try.f33), (34, Try.f34), (35, Try.f35), (36, Try.f36), (37, Try.f37), (38, Try.f38), (39, Try.f39), (40, Try.f40), (41, Try.f41), (42, Try.f42), (43, Try.f43), (44, Try.f44), (45, Try.f45), (46, Try.f46), (47, Try.f47), (48, Try.f48), (49, Try.f49), (50, Try.f50), (51, Try.f51), (52, Try.f52), (53, Try.f53), (54, Try.f54), (55, Try.f55), (56, Try.f56), (57, Try.f57), (58, Try.f58), (59, Try.f59), (60, Try.f60), (61, Try.f61), (62, Try.f62), (63, Try.f63), (64, Try.f64), (65, Try.f65), (66, Try.f66), (67, Try.f67), (68, Try.f68), (69, Try.f69), (70, Try.f70), (71, Try.f71), (72, Try.f72), (73, Try.f73), (74, Try.f74), (75, Try.f75), (76, Try.f76), (77, Try.f77), (78, Try.f78), (79, Try.f79), (80, Try.f80), (81, Try.f81), (82, Try.f82), (83, Try.f83), (84, Try.f84), (85, Try.f85), (86, Try.f86), (87, Try.f87)], cas⟩
set_option maxRecDepth 100000 in
theorem fns_ok : allP (fun k f => Try.prog.funcs[k]? = some f) ctx.fns := ⟨Try.func2, ⟨Try.func3, ⟨Try.func4, ⟨Try.func5, ⟨Try.func6, ⟨Try.func7, ⟨Try.func8, ⟨Try.func9, ⟨Try.func10, ⟨Try.func11, ⟨Try.func12, ⟨Try.func13, ⟨Try.func14, ⟨Try.func15, ⟨Try.func16, ⟨Try.func17, ⟨Try.func18, ⟨Try.func19, ⟨Try.func20, ⟨Try.func21, ⟨Try.func22, ⟨Try.func23, ⟨Try.func24, ⟨Try.func25, ⟨Try.func26, ⟨Try.func27, ⟨Try.func28, ⟨Try.func29, ⟨Try.func30, ⟨Try.func31, ⟨Try.func32, ⟨Try.func33, ⟨Try.func34, ⟨Try.func35, ⟨Try.func36, ⟨Try.func37, ⟨Try.func38, ⟨Try.func39, ⟨Try.func40, ⟨Try.func41, ⟨Try.func42, ⟨Try.func43, ⟨Try.func44, ⟨Try.func45, ⟨Try.func46, ⟨Try.func47, ⟨Try.func48, ⟨Try.func49, ⟨Try.func50, ⟨Try.func51, ⟨Try.func52, ⟨Try.func53, ⟨Try.func54, ⟨Try.func55, ⟨Try.func56, ⟨Try.func57, ⟨Try.func58, ⟨Try.func59, ⟨Try.func60, ⟨Try.func61, ⟨Try.func62, ⟨Try.func63, ⟨Try.func64, ⟨Try.func65, ⟨Try.func66, ⟨Try.func67, ⟨Try.func68, ⟨Try.func69, ⟨Try.func70, ⟨Try.func71, ⟨Try.func72, ⟨Try.func73, ⟨Try.func74, ⟨Try.func75, ⟨Try.func76, ⟨Try.func77, ⟨Try.func78, ⟨Try.func79, ⟨Try.func80, ⟨Try.func81, ⟨Try.func82, ⟨Try.func83, ⟨Try.func84, ⟨Try.func85, ⟨Try.func86, ⟨Try.func87, trivial⟩⟩⟩⟩⟩⟩⟩⟩⟩⟩⟩⟩⟩⟩⟩⟩⟩⟩⟩⟩⟩⟩⟩⟩⟩⟩⟩⟩⟩⟩⟩⟩⟩⟩⟩⟩⟩⟩⟩⟩⟩⟩⟩⟩⟩⟩⟩⟩⟩⟩⟩⟩⟩⟩⟩⟩⟩⟩⟩⟩⟩⟩⟩⟩⟩⟩⟩⟩⟩⟩⟩⟩⟩⟩⟩⟩⟩⟩⟩⟩⟩⟩⟩⟩⟩⟩
theorem ctx_ok : ctx.ok Try.prog := ⟨tab_ok, fns_ok, cas_ok, by kernel_rfl⟩
end Go.Proofs.Ytnbmldnahacnlaa
/- Decompiling: the program's functions as the machine over terms takes them. -/
namespace Go.Proofs.Ytnbmldnahacnlaa
open Go Go.RowKit
noncomputable def dc (l : List (Nat × Ctr)) : DC := ⟨tab, ctx.fns, ctx.cas, l⟩
theorem dc_ok {l : List (Nat × Ctr)} (h : allP (CtrOk Try.prog) l) : (dc l).ok Try.prog := ⟨ctx_ok.T, ctx_ok.fns, ctx_ok.cas, ctx_ok.mixed, h⟩
theorem ctr_ok {l : List (Nat × Ctr)} (hl : allP (CtrOk Try.prog) l) {f : Nat} {an : An} {Fn : Nat} {σ ρ : Ty} {g : Nat → σ.den → Option ρ.den} (h : ∀ fu x, (topG (ρ := ρ) (dc l) (drR (dc l)) f an Fn σ (.var x)).den fu = g fu x) : CtrOk Try.prog Fn ⟨σ, ρ, g, Fn⟩ :=
  fun fu x _ hy => topG_ok (dc_ok hl) (fun _ _ hS => drR_ok (dc_ok hl) hS) ((h fu x).trans hy)
end Go.Proofs.Ytnbmldnahacnlaa
/- Residual programs of functions (printed by a program out of the code), checked by the kernel, and the contracts that follow. -/
namespace Go.Proofs.Ytnbmldnahacnlaa
open Go Go.RowKit
set_option linter.unusedVariables false
def R_Within_r (fu : Nat) (a : (Int) × ((Int) × ((Int) × (Unit)))) : Option ((Bool) × (Unit)) :=
  bif (decide (a.2.1 ≤ a.1)) then
    let v0 : Bool := (decide (a.1 ≤ a.2.2.1))
    some ((v0, ()))
  else
  some ((false, ()))
def R_Within_an : An := (.n none .z (.n none .z .z))
noncomputable def R_Within_dc : List (Nat × Ctr) := []
def R_Within_ctr : Ctr := ⟨(.pair (.int .i64) (.pair (.int .i64) (.pair (.int .i64) .unit))), (.pair .bool .unit), R_Within_r, 17⟩
theorem R_Within_ok : CtrOk Try.prog 17 R_Within_ctr := ctr_ok (l := R_Within_dc) (f := 12) (an := R_Within_an) trivial fun fu x => by kernel_rfl
def R_Bit_j1 (fu : Nat) (a : ((Int) × ((Int) × (List (Int)))) × ((Int) × ((Int) × (Unit)))) (v0 : Bool) : Option ((Bool) × (Unit)) :=
  bif v0 then
    some ((false, ()))
  else
  bif ((decide ((0 : Int) ≤ (IntKind.i64.wrap ((IntKind.i64.wrap (a.2.2.1 * (IntKind.i64.wrap (Int.tdiv (IntKind.i64.wrap (a.1.1 + (7 : Int))) (8 : Int))))) + (IntKind.i64.wrap (Int.tdiv a.2.1 (8 : Int))))))) && (decide ((IntKind.i64.wrap ((IntKind.i64.wrap (a.2.2.1 * (IntKind.i64.wrap (Int.tdiv (IntKind.i64.wrap (a.1.1 + (7 : Int))) (8 : Int))))) + (IntKind.i64.wrap (Int.tdiv a.2.1 (8 : Int))))) < (List.length a.1.2.2 : Int)))) then
  let v1 : Int := (List.getD a.1.2.2 (Int.toNat (IntKind.i64.wrap ((IntKind.i64.wrap (a.2.2.1 * (IntKind.i64.wrap (Int.tdiv (IntKind.i64.wrap (a.1.1 + (7 : Int))) (8 : Int))))) + (IntKind.i64.wrap (Int.tdiv a.2.1 (8 : Int)))))) 0)
  bif ((decide ((0 : Int) ≤ (Int.tmod a.2.1 (8 : Int)))) && (decide ((Int.tmod a.2.1 (8 : Int)) ≤ (8 : Int)))) then
  let v2 : Bool := (decide ((bits BinOp.and IntKind.u8 (IntKind.u8.wrap (v1 * 2 ^ (Int.toNat (Int.tmod a.2.1 (8 : Int))))) (128 : Int)) ≠ (0 : Int)))
  some ((v2, ()))
  else none
  else none
def R_Bit_r (fu : Nat) (a : ((Int) × ((Int) × (List (Int)))) × ((Int) × ((Int) × (Unit)))) : Option ((Bool) × (Unit)) :=
  joinF (R_Bit_j1 fu a) fun j0 =>
  bindO (R_Within_r fu ((a.2.1, ((0 : Int), ((IntKind.i64.wrap (a.1.1 - (1 : Int))), ()))))) fun v1 =>
  bif (!v1.1) then
    j0 (true)
  else
  bindO (R_Within_r fu ((a.2.2.1, ((0 : Int), ((IntKind.i64.wrap (a.1.2.1 - (1 : Int))), ()))))) fun v2 =>
  j0 ((!v2.1))
def R_Bit_an : An := (.n none .z (.n none (.n (some ⟨[2, 3, 1, 6], [0], [], [.reg 20 .bool], 0, []⟩) .z (.n none (.n none .z .z) .z)) (.n none .z .z)))
noncomputable def R_Bit_dc : List (Nat × Ctr) := [(17, R_Within_ctr)]
def R_Bit_ctr : Ctr := ⟨(.pair (.agg (.pair (.int .i64) (.pair (.int .i64) (.list (.int .u8))))) (.pair (.int .i64) (.pair (.int .i64) .unit))), (.pair .bool .unit), R_Bit_r, 24⟩
theorem R_Bit_ok : CtrOk Try.prog 24 R_Bit_ctr := ctr_ok (l := R_Bit_dc) (f := 12) (an := R_Bit_an) ⟨R_Within_ok, trivial⟩ fun fu x => by kernel_rfl
def R_BitsErr_j4 (fu : Nat) (v4 : Int) (j4 : (Int) → Option ((Int) × (Unit))) (v5 : Bool) : Option ((Int) × (Unit)) :=
  bif v5 then
    some (((4 : Int), ()))
  else
  j4 ((IntKind.i64.wrap (v4 + (1 : Int))))
def R_BitsErr_l3 (fu : Nat) (a : ((Int) × ((Int) × (List (Int)))) × (Unit)) (v1 : Int) (v2 : Int) (v3 : Int) (j2 : (Int) → Option ((Int) × (Unit))) (j4 : (Int) → Option ((Int) × (Unit))) (v4 : Int) : Option ((Int) × (Unit)) :=
  bif (decide (v4 < (8 : Int))) then
    joinF (R_BitsErr_j4 fu v4 j4) fun j5 =>
    bif (decide (v1 ≠ (0 : Int))) then
    bif (decide (a.1.1 ≤ (IntKind.i64.wrap ((IntKind.i64.wrap ((Int.tmod v2 v1) * (8 : Int))) + v4)))) then
      bif ((decide ((0 : Int) ≤ v4)) && (decide (v4 ≤ (8 : Int)))) then
      j5 ((decide ((bits BinOp.and IntKind.u8 (IntKind.u8.wrap (v3 * 2 ^ (Int.toNat v4))) (128 : Int)) ≠ (0 : Int))))
      else none
    else
    j5 (false)
    else none
  else
  j2 ((IntKind.i64.wrap (v2 + (1 : Int))))
def R_BitsErr_l2 (fu : Nat) (a : ((Int) × ((Int) × (List (Int)))) × (Unit)) (v1 : Int) (j2 : (Int) → Option ((Int) × (Unit))) (v2 : Int) : Option ((Int) × (Unit)) :=
  bif (decide (v2 < (List.length a.1.2.2 : Int))) then
    bif ((decide ((0 : Int) ≤ v2)) && (decide (v2 < (List.length a.1.2.2 : Int)))) then
    let v3 : Int := (List.getD a.1.2.2 (Int.toNat v2) 0)
    loopF (R_BitsErr_l3 fu a v1 v2 v3 j2) fu ((0 : Int))
    else none
  else
  some (((0 : Int), ()))
def R_BitsErr_j1 (fu : Nat) (a : ((Int) × ((Int) × (List (Int)))) × (Unit)) (v0 : Bool) : Option ((Int) × (Unit)) :=
  bif v0 then
    some (((3 : Int), ()))
  else
  let v1 : Int := (IntKind.i64.wrap (Int.tdiv (IntKind.i64.wrap (a.1.1 + (7 : Int))) (8 : Int)))
  bif (decide ((List.length a.1.2.2 : Int) ≠ (IntKind.i64.wrap (v1 * a.1.2.1)))) then
    some (((4 : Int), ()))
  else
  loopF (R_BitsErr_l2 fu a v1) fu ((0 : Int))
def R_BitsErr_r (fu : Nat) (a : ((Int) × ((Int) × (List (Int)))) × (Unit)) : Option ((Int) × (Unit)) :=
  joinF (R_BitsErr_j1 fu a) fun j0 =>
  bindO (R_Within_r fu ((a.1.1, ((1 : Int), ((1024 : Int), ()))))) fun v1 =>
  bif (!v1.1) then
    j0 (true)
  else
  bindO (R_Within_r fu ((a.1.2.1, ((1 : Int), ((1024 : Int), ()))))) fun v2 =>
  j0 ((!v2.1))
def R_BitsErr_an : An := (.n none .z (.n none (.n (some ⟨[1, 2], [0], [], [.reg 16 .bool], 0, []⟩) .z (.n none (.n none .z .z) .z)) (.n none .z (.n none (.n none .z (.n none (.n none .z .z) .z)) (.n none (.n none .z (.n none (.n (some ⟨[30, 3, 1, 31], [0], [], [.reg 32 (.int .i64)], 0, []⟩) (.n none .z (.n none .z (.n none (.n none (.n none .z (.n none .z (.n none (.n (some ⟨[32, 4, 5], [], [], [.reg 37 (.int .i64)], 0, []⟩) (.n none .z (.n none .z (.n none (.n none (.n none .z (.n (some ⟨[37], [], [], [.reg 55 .bool], 0, []⟩) (.dr [] []) (.n none (.n none .z .z) .z))) .z) .z))) .z) .z))) .z) .z))) .z) .z)) (.n none .z .z))))))
noncomputable def R_BitsErr_dc : List (Nat × Ctr) := [(17, R_Within_ctr)]
def R_BitsErr_ctr : Ctr := ⟨(.pair (.agg (.pair (.int .i64) (.pair (.int .i64) (.list (.int .u8))))) .unit), (.pair (.int .i64) .unit), R_BitsErr_r, 21⟩
theorem R_BitsErr_ok : CtrOk Try.prog 21 R_BitsErr_ctr := ctr_ok (l := R_BitsErr_dc) (f := 12) (an := R_BitsErr_an) ⟨R_Within_ok, trivial⟩ fun fu x => by kernel_rfl
def bitmap_stride_r (fu : Nat) (a : (Int) × (Unit)) : Option ((Int) × (Unit)) :=
  let v0 : Int := (IntKind.i64.wrap (Int.tdiv (IntKind.i64.wrap (a.1 + (7 : Int))) (8 : Int)))
  some ((v0, ()))
def bitmap_stride_an : An := (.n none .z (.n none .z .z))
noncomputable def bitmap_stride_dc : List (Nat × Ctr) := []
def bitmap_stride_ctr : Ctr := ⟨(.pair (.int .i64) .unit), (.pair (.int .i64) .unit), bitmap_stride_r, 69⟩
theorem bitmap_stride_ok : CtrOk Try.prog 69 bitmap_stride_ctr := ctr_ok (l := bitmap_stride_dc) (f := 12) (an := bitmap_stride_an) trivial fun fu x => by kernel_rfl
def bitmap_Check_j2 (fu : Nat) (v3 : Unit) : Option ((Int) × (Unit)) :=
  some (((0 : Int), ()))
def bitmap_Check_l3 (fu : Nat) (a : ((Int) × ((Int) × (List (Int)))) × (Unit)) (v2 : Int) (v4 : Int) (j3 : (Unit) → Option ((Int) × (Unit))) (j5 : (Int) → Option ((Int) × (Unit))) (v5 : Int) : Option ((Int) × (Unit)) :=
  bif (decide (v5 < a.1.2.1)) then
    bif ((decide ((0 : Int) ≤ (IntKind.i64.wrap ((IntKind.i64.wrap ((IntKind.i64.wrap (v5 * v2)) + v2)) - (1 : Int))))) && (decide ((IntKind.i64.wrap ((IntKind.i64.wrap ((IntKind.i64.wrap (v5 * v2)) + v2)) - (1 : Int))) < (List.length a.1.2.2 : Int)))) then
    let v6 : Int := (List.getD a.1.2.2 (Int.toNat (IntKind.i64.wrap ((IntKind.i64.wrap ((IntKind.i64.wrap (v5 * v2)) + v2)) - (1 : Int)))) 0)
    bif (decide ((bits BinOp.and IntKind.u8 v6 v4) ≠ (0 : Int))) then
      some (((4 : Int), ()))
    else
    j5 ((IntKind.i64.wrap (v5 + (1 : Int))))
    else none
  else
  j3 (())
def bitmap_Check_j1 (fu : Nat) (a : ((Int) × ((Int) × (List (Int)))) × (Unit)) (v0 : Bool) : Option ((Int) × (Unit)) :=
  bif v0 then
    some (((3 : Int), ()))
  else
  bindO (bitmap_stride_r fu ((a.1.1, ()))) fun v1 =>
  let v2 : Int := v1.1
  bif (decide ((List.length a.1.2.2 : Int) ≠ (IntKind.i64.wrap (v2 * a.1.2.1)))) then
    some (((4 : Int), ()))
  else
  joinF (bitmap_Check_j2 fu) fun j3 =>
  bif ((decide ((0 : Int) ≤ (IntKind.i64.wrap ((IntKind.i64.wrap ((8 : Int) * v2)) - a.1.1)))) && (decide ((IntKind.i64.wrap ((IntKind.i64.wrap ((8 : Int) * v2)) - a.1.1)) ≤ (8 : Int)))) then
  let v4 : Int := (IntKind.u8.wrap ((IntKind.u8.wrap ((1 : Int) * 2 ^ (Int.toNat (IntKind.i64.wrap ((IntKind.i64.wrap ((8 : Int) * v2)) - a.1.1))))) - (1 : Int)))
  bif (decide (v4 ≠ (0 : Int))) then
    loopF (bitmap_Check_l3 fu a v2 v4 j3) fu ((0 : Int))
  else
  j3 (())
  else none
def bitmap_Check_r (fu : Nat) (a : ((Int) × ((Int) × (List (Int)))) × (Unit)) : Option ((Int) × (Unit)) :=
  joinF (bitmap_Check_j1 fu a) fun j0 =>
  bif (decide (a.1.1 < (1 : Int))) then
    j0 (true)
  else
  bif (decide ((1024 : Int) < a.1.1)) then
    j0 (true)
  else
  bif (decide (a.1.2.1 < (1 : Int))) then
    j0 (true)
  else
  j0 ((decide ((1024 : Int) < a.1.2.1)))
def bitmap_Check_an : An := (.n none .z (.n none (.n (some ⟨[1, 2], [0], [], [.reg 23 .bool], 0, []⟩) .z (.n none (.n none .z .z) .z)) (.n none .z (.n none (.n none .z (.n none (.n none .z .z) .z)) (.n (some ⟨[], [0], [], [], 0, []⟩) (.n none .z (.n none .z (.n none (.n none .z (.n none (.n (some ⟨[1, 3, 4, 45], [], [], [.reg 46 (.int .i64)], 0, []⟩) (.n none .z (.n none .z (.n none (.n none (.n none .z (.n none .z (.n none (.n none .z .z) .z))) .z) .z))) .z) .z)) .z))) (.n none .z .z))))))
noncomputable def bitmap_Check_dc : List (Nat × Ctr) := [(69, bitmap_stride_ctr)]
def bitmap_Check_ctr : Ctr := ⟨(.pair (.agg (.pair (.int .i64) (.pair (.int .i64) (.list (.int .u8))))) .unit), (.pair (.int .i64) .unit), bitmap_Check_r, 38⟩
theorem bitmap_Check_ok : CtrOk Try.prog 38 bitmap_Check_ctr := ctr_ok (l := bitmap_Check_dc) (f := 12) (an := bitmap_Check_an) ⟨bitmap_stride_ok, trivial⟩ fun fu x => by kernel_rfl
def bitmap_Is_r (fu : Nat) (a : ((Int) × ((Int) × (List (Int)))) × ((Int) × ((Int) × (Unit)))) : Option ((Bool) × (Unit)) :=
  bif (decide ((0 : Int) ≤ a.2.1)) then
    bif (decide (a.2.1 < a.1.1)) then
      bif (decide ((0 : Int) ≤ a.2.2.1)) then
        bif (decide (a.2.2.1 < a.1.2.1)) then
          bindO (bitmap_stride_r fu ((a.1.1, ()))) fun v0 =>
          bif ((decide ((0 : Int) ≤ (IntKind.i64.wrap ((IntKind.i64.wrap (a.2.2.1 * v0.1)) + (IntKind.i64.wrap (Int.tdiv a.2.1 (8 : Int))))))) && (decide ((IntKind.i64.wrap ((IntKind.i64.wrap (a.2.2.1 * v0.1)) + (IntKind.i64.wrap (Int.tdiv a.2.1 (8 : Int))))) < (List.length a.1.2.2 : Int)))) then
          let v1 : Int := (List.getD a.1.2.2 (Int.toNat (IntKind.i64.wrap ((IntKind.i64.wrap (a.2.2.1 * v0.1)) + (IntKind.i64.wrap (Int.tdiv a.2.1 (8 : Int)))))) 0)
          bif ((decide ((0 : Int) ≤ (Int.tmod a.2.1 (8 : Int)))) && (decide ((Int.tmod a.2.1 (8 : Int)) ≤ (8 : Int)))) then
          let v2 : Bool := (decide ((bits BinOp.and IntKind.u8 v1 ((128 : Int) / 2 ^ (Int.toNat (Int.tmod a.2.1 (8 : Int))))) ≠ (0 : Int)))
          some ((v2, ()))
          else none
          else none
        else
        some ((false, ()))
      else
      some ((false, ()))
    else
    some ((false, ()))
  else
  some ((false, ()))
def bitmap_Is_an : An := (.n none .z (.n none (.dr [] []) .z))
noncomputable def bitmap_Is_dc : List (Nat × Ctr) := [(69, bitmap_stride_ctr)]
def bitmap_Is_ctr : Ctr := ⟨(.pair (.ptr (.pair (.int .i64) (.pair (.int .i64) (.list (.int .u8))))) (.pair (.int .i64) (.pair (.int .i64) .unit))), (.pair .bool .unit), bitmap_Is_r, 60⟩
theorem bitmap_Is_ok : CtrOk Try.prog 60 bitmap_Is_ctr := ctr_ok (l := bitmap_Is_dc) (f := 12) (an := bitmap_Is_an) ⟨bitmap_stride_ok, trivial⟩ fun fu x => by kernel_rfl
def R_SameBytes_r (fu : Nat) (a : (List (Int)) × ((List (Int)) × (Unit))) : Option ((Bool) × (Unit)) :=
  let v0 : Bool := (decide ((bytesOf a.1) = (bytesOf a.2.1)))
  some ((v0, ()))
def R_SameBytes_an : An := (.n none .z (.n none .z .z))
noncomputable def R_SameBytes_dc : List (Nat × Ctr) := []
def R_SameBytes_ctr : Ctr := ⟨(.pair (.list (.int .u8)) (.pair (.list (.int .u8)) .unit)), (.pair .bool .unit), R_SameBytes_r, 59⟩
theorem R_SameBytes_ok : CtrOk Try.prog 59 R_SameBytes_ctr := ctr_ok (l := R_SameBytes_dc) (f := 12) (an := R_SameBytes_an) trivial fun fu x => by kernel_rfl
def R_SameBits_r (fu : Nat) (a : ((Int) × ((Int) × (List (Int)))) × (((Int) × ((Int) × (List (Int)))) × (Unit))) : Option ((Bool) × (Unit)) :=
  bif (decide (a.1.1 = a.2.1.1)) then
    bif (decide (a.1.2.1 = a.2.1.2.1)) then
      bindO (R_SameBytes_r fu ((a.1.2.2, (a.2.1.2.2, ())))) fun v0 =>
      let v1 : Bool := v0.1
      some ((v1, ()))
    else
    some ((false, ()))
  else
  some ((false, ()))
def R_SameBits_an : An := (.n none .z (.n none .z .z))
noncomputable def R_SameBits_dc : List (Nat × Ctr) := [(59, R_SameBytes_ctr)]
def R_SameBits_ctr : Ctr := ⟨(.pair (.agg (.pair (.int .i64) (.pair (.int .i64) (.list (.int .u8))))) (.pair (.agg (.pair (.int .i64) (.pair (.int .i64) (.list (.int .u8))))) .unit)), (.pair .bool .unit), R_SameBits_r, 19⟩
theorem R_SameBits_ok : CtrOk Try.prog 19 R_SameBits_ctr := ctr_ok (l := R_SameBits_dc) (f := 12) (an := R_SameBits_an) ⟨R_SameBytes_ok, trivial⟩ fun fu x => by kernel_rfl
def bitmap_Grown_j4 (fu : Nat) (v4 : (Int) × (List (Int))) (j4 : ((Int) × (List (Int))) → Option (((Int) × ((Int) × (List (Int)))) × (Unit))) (v5 : List (Int)) : Option (((Int) × ((Int) × (List (Int)))) × (Unit)) :=
  j4 (((IntKind.i64.wrap (v4.1 + (1 : Int))), v5))
def bitmap_Grown_j5 (fu : Nat) (v0 : (Int) × ((Int) × ((Int) × (List (Int))))) (v3 : Int) (v4 : (Int) × (List (Int))) (v6 : Int) (j5 : (List (Int)) → Option (((Int) × ((Int) × (List (Int)))) × (Unit))) (v7 : Bool) : Option (((Int) × ((Int) × (List (Int)))) × (Unit)) :=
  bif v7 then
    bindO (bitmap_stride_r fu ((v0.2.1, ()))) fun v8 =>
    bif ((decide ((0 : Int) ≤ (IntKind.i64.wrap ((IntKind.i64.wrap (v3 * v8.1)) + (IntKind.i64.wrap (Int.tdiv v6 (8 : Int))))))) && (decide ((IntKind.i64.wrap ((IntKind.i64.wrap (v3 * v8.1)) + (IntKind.i64.wrap (Int.tdiv v6 (8 : Int))))) < (List.length v4.2 : Int)))) then
    bif ((decide ((0 : Int) ≤ (Int.tmod v6 (8 : Int)))) && (decide ((Int.tmod v6 (8 : Int)) ≤ (8 : Int)))) then
    bif ((decide ((0 : Int) ≤ (IntKind.i64.wrap ((IntKind.i64.wrap (v3 * v8.1)) + (IntKind.i64.wrap (Int.tdiv v6 (8 : Int))))))) && (decide ((IntKind.i64.wrap ((IntKind.i64.wrap (v3 * v8.1)) + (IntKind.i64.wrap (Int.tdiv v6 (8 : Int))))) < (List.length v4.2 : Int)))) then
    j5 ((List.set v4.2 (Int.toNat (IntKind.i64.wrap ((IntKind.i64.wrap (v3 * v8.1)) + (IntKind.i64.wrap (Int.tdiv v6 (8 : Int)))))) (bits BinOp.or IntKind.u8 (List.getD v4.2 (Int.toNat (IntKind.i64.wrap ((IntKind.i64.wrap (v3 * v8.1)) + (IntKind.i64.wrap (Int.tdiv v6 (8 : Int)))))) 0) ((128 : Int) / 2 ^ (Int.toNat (Int.tmod v6 (8 : Int)))))))
    else none
    else none
    else none
  else
  j5 (v4.2)
def bitmap_Grown_l3 (fu : Nat) (v0 : (Int) × ((Int) × ((Int) × (List (Int))))) (v2 : (Int) × (List (Int))) (v3 : Int) (j2 : ((Int) × (List (Int))) → Option (((Int) × ((Int) × (List (Int)))) × (Unit))) (j4 : ((Int) × (List (Int))) → Option (((Int) × ((Int) × (List (Int)))) × (Unit))) (v4 : (Int) × (List (Int))) : Option (((Int) × ((Int) × (List (Int)))) × (Unit)) :=
  bif (decide (v4.1 < v0.2.1)) then
    joinF (bitmap_Grown_j4 fu v4 j4) fun j5 =>
    let v6 : Int := v4.1
    joinF (bitmap_Grown_j5 fu v0 v3 v4 v6 j5) fun j7 =>
    bindO (bitmap_Is_r fu (((v0.2.1, (v0.2.2.1, v0.2.2.2)), (v6, (v3, ()))))) fun v8 =>
    bif v8.1 then
      j7 (true)
    else
    bindO (bitmap_Is_r fu (((v0.2.1, (v0.2.2.1, v0.2.2.2)), ((IntKind.i64.wrap (v6 - (1 : Int))), (v3, ()))))) fun v9 =>
    bif v9.1 then
      j7 (true)
    else
    bindO (bitmap_Is_r fu (((v0.2.1, (v0.2.2.1, v0.2.2.2)), ((IntKind.i64.wrap (v6 + (1 : Int))), (v3, ()))))) fun v10 =>
    bif v10.1 then
      j7 (true)
    else
    bindO (bitmap_Is_r fu (((v0.2.1, (v0.2.2.1, v0.2.2.2)), (v6, ((IntKind.i64.wrap (v3 - (1 : Int))), ()))))) fun v11 =>
    bif v11.1 then
      j7 (true)
    else
    bindO (bitmap_Is_r fu (((v0.2.1, (v0.2.2.1, v0.2.2.2)), (v6, ((IntKind.i64.wrap (v3 + (1 : Int))), ()))))) fun v12 =>
    let v13 : Bool := v12.1
    j7 (v13)
  else
  j2 (((IntKind.i64.wrap (v2.1 + (1 : Int))), v4.2))
def bitmap_Grown_l2 (fu : Nat) (v0 : (Int) × ((Int) × ((Int) × (List (Int))))) (j0 : ((Int) × ((Int) × ((Int) × (List (Int))))) → Option (((Int) × ((Int) × (List (Int)))) × (Unit))) (j2 : ((Int) × (List (Int))) → Option (((Int) × ((Int) × (List (Int)))) × (Unit))) (v2 : (Int) × (List (Int))) : Option (((Int) × ((Int) × (List (Int)))) × (Unit)) :=
  bif (decide (v2.1 < v0.2.2.1)) then
    let v3 : Int := v2.1
    loopF (bitmap_Grown_l3 fu v0 v2 v3 j2) fu (((0 : Int), v2.2))
  else
  j0 (((IntKind.i64.wrap (v0.1 + (1 : Int))), (v0.2.1, (v0.2.2.1, v2.2))))
def bitmap_Grown_l1 (fu : Nat) (a : ((Int) × ((Int) × (List (Int)))) × ((Int) × (Unit))) (j0 : ((Int) × ((Int) × ((Int) × (List (Int))))) → Option (((Int) × ((Int) × (List (Int)))) × (Unit))) (v0 : (Int) × ((Int) × ((Int) × (List (Int))))) : Option (((Int) × ((Int) × (List (Int)))) × (Unit)) :=
  bif (decide (v0.1 < a.2.1)) then
    bindO (bitmap_stride_r fu ((v0.2.1, ()))) fun v1 =>
    bif ((decide ((0 : Int) ≤ (IntKind.i64.wrap (v1.1 * v0.2.2.1)))) && (decide (((1 : Int) * (IntKind.i64.wrap (v1.1 * v0.2.2.1))) ≤ (281474976710656 : Int)))) then
    loopF (bitmap_Grown_l2 fu v0 j0) fu (((0 : Int), (List.replicate (Int.toNat (IntKind.i64.wrap (v1.1 * v0.2.2.1))) (0 : Int))))
    else none
  else
  some (((v0.2.1, (v0.2.2.1, v0.2.2.2)), ()))
def bitmap_Grown_r (fu : Nat) (a : ((Int) × ((Int) × (List (Int)))) × ((Int) × (Unit))) : Option (((Int) × ((Int) × (List (Int)))) × (Unit)) :=
  bif (decide (((List.length a.1.2.2 : Int) * (2 : Int)) ≤ (140737488355328 : Int))) then
  loopF (bitmap_Grown_l1 fu a) fu (((0 : Int), (a.1.1, (a.1.2.1, a.1.2.2))))
  else none
def bitmap_Grown_an : An := (.n none .z (.n none .z (.n none .z (.n none (.n none .z (.n none (.n (some ⟨[4, 5, 16], [0], [], [.reg 17 (.int .i64), .box 1 [(.int .i64), (.int .i64), (.ro true (.int .u8))] 24], 0, []⟩) (.n none .z (.n none .z (.n none (.n none (.n none .z (.ops [(5, (.n none (.n none .z (.n none (.ops [(2, (.n none (.n none .z (.n none .z .z)) .z))]) (.n none (.n none .z (.n none (.n (some ⟨[6, 7, 0, 2, 13], [1, 3, 4, 7], [], [.reg 14 (.int .i64), .row 6 true (.int .u8) 5 0], 0, []⟩) (.n none .z (.n none .z (.n none (.n none (.n none .z (.n none .z (.n none (.n (some ⟨[14, 8, 17], [], [], [.reg 18 (.int .i64), .row 6 true (.int .u8) 5 0], 0, []⟩) (.n none .z (.n none .z (.n (some ⟨[18], [], [], [.row 6 true (.int .u8) 5 0], 0, []⟩) (.n none (.n none .z (.n (some ⟨[9], [6], [], [.reg 24 .bool], 0, []⟩) (.ops [(3, (.n none (.n none .z (.n none .z .z)) .z))]) (.n none (.ops [(2, (.n none (.dr [] []) .z))]) .z))) .z) .z))) .z) .z))) .z) .z))) .z) .z)) (.n none .z .z)))) .z))])) .z) .z))) .z) .z)) (.n none .z .z)))))
noncomputable def bitmap_Grown_dc : List (Nat × Ctr) := [(60, bitmap_Is_ctr), (69, bitmap_stride_ctr)]
def bitmap_Grown_ctr : Ctr := ⟨(.pair (.ptr (.pair (.int .i64) (.pair (.int .i64) (.list (.int .u8))))) (.pair (.int .i64) .unit)), (.pair (.agg (.pair (.int .i64) (.pair (.int .i64) (.list (.int .u8))))) .unit), bitmap_Grown_r, 67⟩
theorem bitmap_Grown_ok : CtrOk Try.prog 67 bitmap_Grown_ctr := ctr_ok (l := bitmap_Grown_dc) (f := 12) (an := bitmap_Grown_an) ⟨bitmap_Is_ok, ⟨bitmap_stride_ok, trivial⟩⟩ fun fu x => by kernel_rfl
def R_Drawn_j2 (fu : Nat) (v1 : (Int) × (List (Int))) (j1 : ((Int) × (List (Int))) → Option (((Int) × ((Int) × (List (Int)))) × (Unit))) (v2 : List (Int)) : Option (((Int) × ((Int) × (List (Int)))) × (Unit)) :=
  j1 (((IntKind.i64.wrap (v1.1 + (1 : Int))), v2))
def R_Drawn_l1 (fu : Nat) (a : (Int) × ((Int) × ((List (Bool)) × (Unit)))) (v0 : Int) (j1 : ((Int) × (List (Int))) → Option (((Int) × ((Int) × (List (Int)))) × (Unit))) (v1 : (Int) × (List (Int))) : Option (((Int) × ((Int) × (List (Int)))) × (Unit)) :=
  bif (decide (v1.1 < (List.length a.2.2.1 : Int))) then
    joinF (R_Drawn_j2 fu v1 j1) fun j2 =>
    bif ((decide ((0 : Int) ≤ v1.1)) && (decide (v1.1 < (List.length a.2.2.1 : Int)))) then
    let v3 : Bool := (List.getD a.2.2.1 (Int.toNat v1.1) false)
    let v4 : Int := v1.1
    bif v3 then
      bif (decide (a.1 ≠ (0 : Int))) then
      bif (decide (a.1 ≠ (0 : Int))) then
      bif ((decide ((0 : Int) ≤ (IntKind.i64.wrap ((IntKind.i64.wrap ((IntKind.i64.wrap (Int.tdiv v4 a.1)) * v0)) + (IntKind.i64.wrap (Int.tdiv (Int.tmod v4 a.1) (8 : Int))))))) && (decide ((IntKind.i64.wrap ((IntKind.i64.wrap ((IntKind.i64.wrap (Int.tdiv v4 a.1)) * v0)) + (IntKind.i64.wrap (Int.tdiv (Int.tmod v4 a.1) (8 : Int))))) < (List.length v1.2 : Int)))) then
      bif (decide (a.1 ≠ (0 : Int))) then
      bif ((decide ((0 : Int) ≤ (Int.tmod (Int.tmod v4 a.1) (8 : Int)))) && (decide ((Int.tmod (Int.tmod v4 a.1) (8 : Int)) ≤ (8 : Int)))) then
      bif ((decide ((0 : Int) ≤ (IntKind.i64.wrap ((IntKind.i64.wrap ((IntKind.i64.wrap (Int.tdiv v4 a.1)) * v0)) + (IntKind.i64.wrap (Int.tdiv (Int.tmod v4 a.1) (8 : Int))))))) && (decide ((IntKind.i64.wrap ((IntKind.i64.wrap ((IntKind.i64.wrap (Int.tdiv v4 a.1)) * v0)) + (IntKind.i64.wrap (Int.tdiv (Int.tmod v4 a.1) (8 : Int))))) < (List.length v1.2 : Int)))) then
      j2 ((List.set v1.2 (Int.toNat (IntKind.i64.wrap ((IntKind.i64.wrap ((IntKind.i64.wrap (Int.tdiv v4 a.1)) * v0)) + (IntKind.i64.wrap (Int.tdiv (Int.tmod v4 a.1) (8 : Int)))))) (bits BinOp.or IntKind.u8 (List.getD v1.2 (Int.toNat (IntKind.i64.wrap ((IntKind.i64.wrap ((IntKind.i64.wrap (Int.tdiv v4 a.1)) * v0)) + (IntKind.i64.wrap (Int.tdiv (Int.tmod v4 a.1) (8 : Int)))))) 0) ((128 : Int) / 2 ^ (Int.toNat (Int.tmod (Int.tmod v4 a.1) (8 : Int)))))))
      else none
      else none
      else none
      else none
      else none
      else none
    else
    j2 (v1.2)
    else none
  else
  some (((a.1, (a.2.1, v1.2)), ()))
def R_Drawn_r (fu : Nat) (a : (Int) × ((Int) × ((List (Bool)) × (Unit)))) : Option (((Int) × ((Int) × (List (Int)))) × (Unit)) :=
  let v0 : Int := (IntKind.i64.wrap (Int.tdiv (IntKind.i64.wrap (a.1 + (7 : Int))) (8 : Int)))
  bif ((decide ((0 : Int) ≤ (IntKind.i64.wrap (v0 * a.2.1)))) && (decide (((1 : Int) * (IntKind.i64.wrap (v0 * a.2.1))) ≤ (281474976710656 : Int)))) then
  loopF (R_Drawn_l1 fu a v0) fu (((0 : Int), (List.replicate (Int.toNat (IntKind.i64.wrap (v0 * a.2.1))) (0 : Int))))
  else none
def R_Drawn_an : An := (.n none .z (.n none .z (.n none .z (.n none (.n none .z (.n none (.n (some ⟨[6, 8, 21, 0, 7, 22], [0, 2], [], [.reg 23 (.int .i64), .row 1 true (.int .u8) 5 0], 0, []⟩) (.n none .z (.n none .z (.n (some ⟨[23], [], [], [.row 1 true (.int .u8) 5 0], 0, []⟩) (.n none (.n none .z (.n none .z (.n none (.dr [] []) .z))) .z) .z))) .z) .z)) (.n none .z .z)))))
noncomputable def R_Drawn_dc : List (Nat × Ctr) := []
def R_Drawn_ctr : Ctr := ⟨(.pair (.int .i64) (.pair (.int .i64) (.pair (.list .bool) .unit))), (.pair (.agg (.pair (.int .i64) (.pair (.int .i64) (.list (.int .u8))))) .unit), R_Drawn_r, 20⟩
theorem R_Drawn_ok : CtrOk Try.prog 20 R_Drawn_ctr := ctr_ok (l := R_Drawn_dc) (f := 12) (an := R_Drawn_an) trivial fun fu x => by kernel_rfl
def law_big_r (fu : Nat) (a : ((Int) × ((Int) × (List (Int)))) × (Unit)) : Option ((Bool) × (Unit)) :=
  bif (decide ((48 : Int) < a.1.1)) then
    some ((true, ()))
  else
  let v0 : Bool := (decide ((24 : Int) < a.1.2.1))
  some ((v0, ()))
def law_big_an : An := (.n none .z (.n none .z .z))
noncomputable def law_big_dc : List (Nat × Ctr) := []
def law_big_ctr : Ctr := ⟨(.pair (.agg (.pair (.int .i64) (.pair (.int .i64) (.list (.int .u8))))) .unit), (.pair .bool .unit), law_big_r, 23⟩
theorem law_big_ok : CtrOk Try.prog 23 law_big_ctr := ctr_ok (l := law_big_dc) (f := 12) (an := law_big_an) trivial fun fu x => by kernel_rfl
def R_Spread_l3 (fu : Nat) (a : ((Int) × ((Int) × (List (Int)))) × ((Int) × ((Int) × ((Int) × (Unit))))) (v1 : Int) (v3 : Int) (j1 : (Int) → Option ((Bool) × (Unit))) (j5 : (Int) → Option ((Bool) × (Unit))) (v5 : Int) : Option ((Bool) × (Unit)) :=
  bif (decide (v5 ≤ (IntKind.i64.wrap ((IntKind.i64.wrap (a.2.1 + a.2.2.2.1)) - v3)))) then
    bindO (R_Bit_r fu (((a.1.1, (a.1.2.1, a.1.2.2)), (v5, (v1, ()))))) fun v6 =>
    bif v6.1 then
      some ((true, ()))
    else
    let v7 : Int := (IntKind.i64.wrap (v5 + (1 : Int)))
    j5 (v7)
  else
  let v6 : Int := (IntKind.i64.wrap (v1 + (1 : Int)))
  j1 (v6)
def R_Spread_j2 (fu : Nat) (a : ((Int) × ((Int) × (List (Int)))) × ((Int) × ((Int) × ((Int) × (Unit))))) (v1 : Int) (j1 : (Int) → Option ((Bool) × (Unit))) (v3 : Int) : Option ((Bool) × (Unit)) :=
  let v4 : Int := (IntKind.i64.wrap ((IntKind.i64.wrap (a.2.1 - a.2.2.2.1)) + v3))
  loopF (R_Spread_l3 fu a v1 v3 j1) fu (v4)
def R_Spread_l1 (fu : Nat) (a : ((Int) × ((Int) × (List (Int)))) × ((Int) × ((Int) × ((Int) × (Unit))))) (j1 : (Int) → Option ((Bool) × (Unit))) (v1 : Int) : Option ((Bool) × (Unit)) :=
  bif (decide (v1 ≤ (IntKind.i64.wrap (a.2.2.1 + a.2.2.2.1)))) then
    let v2 : Int := (IntKind.i64.wrap (v1 - a.2.2.1))
    joinF (R_Spread_j2 fu a v1 j1) fun j3 =>
    bif (decide (v2 < (0 : Int))) then
      let v4 : Int := (IntKind.i64.wrap (-v2))
      j3 (v4)
    else
    j3 (v2)
  else
  some ((false, ()))
def R_Spread_r (fu : Nat) (a : ((Int) × ((Int) × (List (Int)))) × ((Int) × ((Int) × ((Int) × (Unit))))) : Option ((Bool) × (Unit)) :=
  let v0 : Int := (IntKind.i64.wrap (a.2.2.1 - a.2.2.2.1))
  loopF (R_Spread_l1 fu a) fu (v0)
def R_Spread_an : An := (.n none .z (.n none (.n none .z (.n none (.n (some ⟨[2, 4, 3, 1], [0], [], [.reg 9 (.int .i64)], 0, []⟩) (.n none (.n none .z .z) (.n none (.n none (.n none .z (.n (some ⟨[9], [], [], [.reg 10 (.int .i64)], 0, []⟩) (.n none .z (.n none .z .z)) (.n none .z (.n none (.n (some ⟨[10], [], [], [.reg 11 (.int .i64)], 0, []⟩) (.n none (.n none .z .z) (.n none (.n none (.n none .z (.n none (.n none .z .z) .z)) .z) .z)) .z) .z)))) .z) .z)) .z) .z)) (.n none .z .z)))
noncomputable def R_Spread_dc : List (Nat × Ctr) := [(24, R_Bit_ctr)]
def R_Spread_ctr : Ctr := ⟨(.pair (.agg (.pair (.int .i64) (.pair (.int .i64) (.list (.int .u8))))) (.pair (.int .i64) (.pair (.int .i64) (.pair (.int .i64) .unit)))), (.pair .bool .unit), R_Spread_r, 37⟩
theorem R_Spread_ok : CtrOk Try.prog 37 R_Spread_ctr := ctr_ok (l := R_Spread_dc) (f := 12) (an := R_Spread_an) ⟨R_Bit_ok, trivial⟩ fun fu x => by kernel_rfl
end Go.Proofs.Ytnbmldnahacnlaa
/- Plain facts for residual programs. No program in sight. -/
namespace Go.Proofs.Ytnbmldnahacnlaa
open Go Go.RowKit
theorem loopF_spec {α β : Type} {f : (α → Option β) → α → Option β} (μ : α → Nat) (I : α → Prop) (S : α → Option β) (h : ∀ j x, I x → (∀ x', I x' → μ x' < μ x → j x' = S x') → f j x = S x) : ∀ (fu : Nat) (x : α), I x → μ x < fu → loopF f fu x = S x
  | 0, _, _, h0 => absurd h0 (Nat.not_lt_zero _)
  | fu + 1, x, hI, hm => by
    rw [loopF]
    exact h _ x hI fun x' h1 h2 => loopF_spec μ I S h fu x' h1 (by omega)
theorem bif_pos {α : Type} {p : Prop} [Decidable p] {a b : α} (h : p) : (bif decide p then a else b) = a := by rw [decide_eq_true h]; rfl
theorem bif_neg {α : Type} {p : Prop} [Decidable p] {a b : α} (h : ¬ p) : (bif decide p then a else b) = b := by rw [decide_eq_false h]; rfl
theorem bif_and {α : Type} {p q : Prop} [Decidable p] [Decidable q] {a b : α} (h : p) (k : q) : (bif decide p && decide q then a else b) = a := by rw [decide_eq_true h, decide_eq_true k]; rfl
theorem joinF_eq {α β : Type} (J : α → Option β) (b : (α → Option β) → Option β) : joinF J b = b J := rfl
theorem bindO_some {α β : Type} (x : α) (k : α → Option β) : bindO (some x) k = k x := rfl
/-- the fuel -/
def FU : Nat := 18446744073709551616
/-! ### What is left of a loop -/
def allFrom (p : Nat → Bool) (n i : Nat) : Bool := (List.range' i (n - i)).all p
theorem allFrom_lt {p : Nat → Bool} {n i : Nat} (h : i < n) : allFrom p n i = (p i && allFrom p n (i + 1)) := by
  unfold allFrom
  rw [show n - i = (n - (i + 1)) + 1 by omega, List.range'_succ, List.all_cons]
theorem allFrom_ge {p : Nat → Bool} {n i : Nat} (h : n ≤ i) : allFrom p n i = true := by
  unfold allFrom
  rw [show n - i = 0 by omega]; rfl
theorem allFrom_zero (p : Nat → Bool) (n : Nat) : allFrom p n 0 = (List.range n).all p := by
  unfold allFrom
  rw [Nat.sub_zero, List.range_eq_range']
end Go.Proofs.Ytnbmldnahacnlaa
/- Plain facts on whole numbers: rounding, floor division. No program in sight. -/
namespace Go.Proofs.Ytnbmldnahacnlaa

theorem div_uniq {a b q r : Int} (hb : 0 < b) (h : r + b * q = a) (h0 : 0 ≤ r) (h1 : r < b) : a / b = q :=
  ((Int.ediv_emod_unique hb).2 ⟨h, h0, h1⟩).1

theorem tdiv_neg {a b : Int} (hb : 0 < b) (h : a.tmod b < 0) : a.tdiv b - 1 = a / b := by
  have h1 := Int.tmod_add_mul_tdiv a b
  have h2 : -b < a.tmod b := by
    have := Int.lt_tmod_of_pos a hb
    omega
  refine (div_uniq (r := a.tmod b + b) hb ?_ (by omega) (by omega)).symm
  rw [Int.mul_sub]; omega

theorem tdiv_pos {a b : Int} (hb : 0 < b) (h : 0 ≤ a.tmod b) : a.tdiv b = a / b := by
  have h1 := Int.tmod_add_mul_tdiv a b
  have h2 : a.tmod b < b := Int.tmod_lt_of_pos a hb
  exact (div_uniq (r := a.tmod b) hb (by omega) (by omega) (by omega)).symm

theorem tdiv_over {a b : Int} (hb : 0 < b) (h : a < a.tdiv b * b) : a.tdiv b - 1 = a / b := by
  have h1 := Int.tmod_add_mul_tdiv a b
  refine tdiv_neg hb ?_
  rw [Int.mul_comm] at h1; omega

theorem tdiv_under {a b : Int} (hb : 0 < b) (h : a.tdiv b * b ≤ a) : a.tdiv b = a / b := by
  have h1 := Int.tmod_add_mul_tdiv a b
  refine tdiv_pos hb ?_
  rw [Int.mul_comm] at h1; omega

theorem tdiv_abs {n m : Int} (d : Int) (h1 : -m ≤ n) (h2 : n ≤ m) : -m ≤ n.tdiv d ∧ n.tdiv d ≤ m := by
  have := Int.natAbs_tdiv_le_natAbs n d
  omega

end Go.Proofs.Ytnbmldnahacnlaa
/- Bits of bytes, bitmaps as lists of bytes. No program in sight. -/
namespace Go.Proofs.Ytnbmldnahacnlaa
open Go Go.RowKit

/-- the pixel j of a byte, from the left -/
def bitAt (v : Int) (j : Nat) : Bool := v / 2 ^ (7 - j) % 2 == 1
theorem fin_byte {p : Int → Prop} (h : ∀ v : Fin 256, p (v.val : Int)) {v : Int} (h0 : 0 ≤ v) (h1 : v ≤ 255) : p v := by
  have := h ⟨v.toNat, by omega⟩
  rwa [show ((⟨v.toNat, by omega⟩ : Fin 256).val : Int) = v from Int.toNat_of_nonneg h0] at this
theorem shl_bit {v : Int} (h0 : 0 ≤ v) (h1 : v ≤ 255) {k : Nat} (hk : k < 8) : bits .and .u8 (IntKind.wrap .u8 (v * 2 ^ k)) 128 = (if bitAt v k = true then 128 else 0) :=
  fin_byte (p := fun v => ∀ k : Fin 8, bits .and .u8 (IntKind.wrap .u8 (v * 2 ^ k.val)) 128 = (if bitAt v k.val = true then 128 else 0)) (by decide +kernel) h0 h1 ⟨k, hk⟩
theorem and_mask {v : Int} (h0 : 0 ≤ v) (h1 : v ≤ 255) {k : Nat} (hk : k < 8) : bits .and .u8 v (128 / 2 ^ k) = (if bitAt v k = true then 128 / 2 ^ k else 0) :=
  fin_byte (p := fun v => ∀ k : Fin 8, bits .and .u8 v (128 / 2 ^ k.val) = (if bitAt v k.val = true then 128 / 2 ^ k.val else 0)) (by decide +kernel) h0 h1 ⟨k, hk⟩
theorem mask_ne {k : Nat} (hk : k < 8) : (128 : Int) / 2 ^ k ≠ 0 := (show ∀ k : Fin 8, (128 : Int) / 2 ^ k.val ≠ 0 by decide) ⟨k, hk⟩
/-- the lowest u bits of a byte -/
def lowOk (v : Int) (u : Nat) : Bool := v % 2 ^ u == 0
theorem and_low {v : Int} (h0 : 0 ≤ v) (h1 : v ≤ 255) {u : Nat} (hu : u < 8) : bits .and .u8 v (2 ^ u - 1) = v % 2 ^ u :=
  fin_byte (p := fun v => ∀ u : Fin 8, bits .and .u8 v (2 ^ u.val - 1) = v % 2 ^ u.val) (by decide +kernel) h0 h1 ⟨u, hu⟩
theorem low_bits {v : Int} (h0 : 0 ≤ v) (h1 : v ≤ 255) {u : Nat} (hu : u < 8) : lowOk v u = true ↔ ∀ k, k < 8 → 8 - u ≤ k → bitAt v k = false := by
  have h := fin_byte (p := fun v => ∀ u : Fin 8, lowOk v u.val = true ↔ ∀ k : Fin 8, 8 - u.val ≤ k.val → bitAt v k.val = false) (by decide +kernel) h0 h1 ⟨u, hu⟩
  exact h.trans ⟨fun g k hk hu => g ⟨k, hk⟩ hu, fun g k hu => g k.val k.isLt hu⟩
theorem wrap_pow {u : Nat} (hu : u < 8) : IntKind.wrap .u8 (IntKind.wrap .u8 (1 * 2 ^ u) - 1) = 2 ^ u - 1 := (show ∀ u : Fin 8, IntKind.wrap .u8 (IntKind.wrap .u8 (1 * 2 ^ u.val) - 1) = 2 ^ u.val - 1 by decide +kernel) ⟨u, hu⟩
/-- bytes -/
def Bytes (ds : List Int) : Prop := ∀ d ∈ ds, 0 ≤ d ∧ d ≤ 255
/-- a row's bytes -/
def strideN (w : Nat) : Nat := (w + 7) / 8
def tailOk (w h : Nat) (ds : List Int) : Bool := (List.range h).all fun y => lowOk (ds.getD (y * strideN w + strideN w - 1) 0) (8 * strideN w - w)
def bitsE (w h : Int) (ds : List Int) : Int := if 1 ≤ w ∧ w ≤ 1024 ∧ 1 ≤ h ∧ h ≤ 1024 then (if ds.length = strideN w.toNat * h.toNat then (if tailOk w.toNat h.toNat ds = true then 0 else 4) else 4) else 3
/-- no pixel beyond a row's end, byte by byte -/
def pixOk (w n i : Nat) (d : Int) (k : Nat) : Bool := !(decide (w ≤ i % n * 8 + k) && bitAt d k)
def byteOk (w n i : Nat) (d : Int) : Bool := (List.range 8).all (pixOk w n i d)
def rowsOk (w n : Nat) (ds : List Int) (m : Nat) : Bool := (List.range m).all fun i => byteOk w n i (ds.getD i 0)
theorem rows_tail {w h : Nat} {ds : List Int} (hb : Bytes ds) (hw : 1 ≤ w) (hl : ds.length = strideN w * h) : rowsOk w (strideN w) ds ds.length = tailOk w h ds := by
  have hn : 1 ≤ strideN w ∧ w ≤ 8 * strideN w ∧ 8 * strideN w ≤ w + 7 := by unfold strideN; omega
  unfold tailOk
  generalize strideN w = n at *
  obtain ⟨n0, n2, n3⟩ := hn
  have hg : ∀ i, i < ds.length → 0 ≤ ds.getD i 0 ∧ ds.getD i 0 ≤ 255 := fun i hi => by
    rw [List.getD_eq_getElem?_getD, List.getElem?_eq_getElem hi]
    exact hb _ (List.getElem_mem hi)
  rw [Bool.eq_iff_iff]
  constructor
  · intro ha
    refine List.all_eq_true.2 fun y hy => ?_
    have hy := List.mem_range.1 hy
    have h1 : (y + 1) * n ≤ h * n := Nat.mul_le_mul_right n hy
    rw [Nat.add_mul, Nat.one_mul, Nat.mul_comm h n] at h1
    have hi : y * n + n - 1 < ds.length := by omega
    have hmod : (y * n + n - 1) % n = n - 1 := by
      rw [show y * n + n - 1 = (n - 1) + n * y by rw [Nat.mul_comm y n]; omega, Nat.add_mul_mod_self_left, Nat.mod_eq_of_lt (by omega)]
    have hrow := List.all_eq_true.1 ha (y * n + n - 1) (List.mem_range.2 hi)
    obtain ⟨g0, g1⟩ := hg _ hi
    refine (low_bits g0 g1 (u := 8 * n - w) (by omega)).2 fun k hk hu => ?_
    have := List.all_eq_true.1 hrow k (List.mem_range.2 hk)
    unfold pixOk at this
    rw [hmod, show decide (w ≤ (n - 1) * 8 + k) = true by simp; omega] at this
    simpa using this
  · intro ha
    refine List.all_eq_true.2 fun i hi => List.all_eq_true.2 fun k hk => ?_
    have hi := List.mem_range.1 hi
    have hk := List.mem_range.1 hk
    unfold pixOk
    by_cases hw : w ≤ i % n * 8 + k
    · have hm : i % n < n := Nat.mod_lt _ (by omega)
      have hmod : i % n = n - 1 := by omega
      have hdm := Nat.div_add_mod i n
      have hy : i / n < h := by
        apply Nat.div_lt_of_lt_mul
        omega
      have hrow := List.all_eq_true.1 ha (i / n) (List.mem_range.2 hy)
      have he : i / n * n + n - 1 = i := by rw [Nat.mul_comm]; omega
      rw [he] at hrow
      obtain ⟨g0, g1⟩ := hg _ hi
      have := (low_bits g0 g1 (u := 8 * n - w) (by omega)).1 hrow k hk (by omega)
      rw [this]
      simp
    · rw [show decide (w ≤ i % n * 8 + k) = false by simp; omega]
      rfl
end Go.Proofs.Ytnbmldnahacnlaa
/- Strips: what the small functions compute. -/
namespace Go.Proofs.Ytnbmldnahacnlaa
open Go Go.RowKit

theorem within_r (fu : Nat) (x lo hi : Int) : R_Within_r fu (x, (lo, (hi, ()))) = some (decide (lo ≤ x) && decide (x ≤ hi), ()) := by
  unfold R_Within_r
  by_cases h : lo ≤ x
  · rw [bif_pos h, decide_eq_true h]; rfl
  · rw [bif_neg h, decide_eq_false h]; rfl
theorem big_r (fu : Nat) (w h : Int) (ds : List Int) : law_big_r fu ((w, (h, ds)), ()) = some (decide (48 < w) || decide (24 < h), ()) := by
  unfold law_big_r
  by_cases g : 48 < w
  · rw [bif_pos g, decide_eq_true g]; rfl
  · rw [bif_neg g, decide_eq_false g]; rfl
/-- a row's bytes -/
def strd (w : Int) : Int := (w + 7) / 8
theorem stride_r (fu : Nat) {w : Int} (h0 : 0 ≤ w) (h1 : w ≤ 1000000) : bitmap_stride_r fu (w, ()) = some (strd w, ()) := by
  unfold bitmap_stride_r strd
  simp only
  rw [wr64 (x := w + 7) (by omega) (by omega), Int.tdiv_eq_ediv_of_nonneg (by omega), wr64 (x := (w + 7) / 8) (by omega) (by omega)]
theorem strd_N {w : Int} (h0 : 0 ≤ w) : strd w = (strideN w.toNat : Int) := by
  unfold strd strideN
  omega
/-- the pixel (x, y) -/
def pixB (w h : Int) (ds : List Int) (x y : Int) : Bool := decide (0 ≤ x ∧ x < w ∧ 0 ≤ y ∧ y < h) && bitAt (ds.getD (y * strd w + x / 8).toNat 0) (x % 8).toNat
theorem at_ok {w h : Int} (hw : 0 ≤ w) {x y : Int} {l : Nat} (hx0 : 0 ≤ x) (hx1 : x < w) (hy0 : 0 ≤ y) (hy1 : y < h) (hl : (l : Int) = strd w * h) : 0 ≤ y * strd w ∧ 0 ≤ y * strd w + x / 8 ∧ y * strd w + x / 8 < l := by
  have h1 : x / 8 < strd w := by unfold strd; omega
  have h2 : y * strd w ≤ (h - 1) * strd w := Int.mul_le_mul_of_nonneg_right (by omega) (by unfold strd; omega)
  have h3 : (h - 1) * strd w = strd w * h - strd w := by rw [Int.sub_mul, Int.one_mul, Int.mul_comm]
  have h4 : 0 ≤ y * strd w := Int.mul_nonneg hy0 (by unfold strd; omega)
  omega
theorem Bytes.at {ds : List Int} (h : Bytes ds) (i : Nat) : 0 ≤ ds.getD i 0 ∧ ds.getD i 0 ≤ 255 := by
  rw [List.getD_eq_getElem?_getD]
  cases e : ds[i]? with
  | none => simp
  | some d => exact h d (List.mem_of_getElem? e)
theorem is_r (fu : Nat) {w h : Int} {ds : List Int} (hw0 : 0 ≤ w) (hw1 : w ≤ 1024) (hh : h ≤ 1024) (hl : (ds.length : Int) = strd w * h) (hb : Bytes ds) (x y : Int) : bitmap_Is_r fu ((w, (h, ds)), (x, (y, ()))) = some (pixB w h ds x y, ()) := by
  unfold bitmap_Is_r pixB
  simp only
  by_cases h1 : 0 ≤ x
  · rw [bif_pos h1]
    by_cases h2 : x < w
    · rw [bif_pos h2]
      by_cases h3 : 0 ≤ y
      · rw [bif_pos h3]
        by_cases h4 : y < h
        · rw [bif_pos h4, stride_r fu hw0 (by omega)]
          simp only [bindO_some]
          obtain ⟨g0, g1, g2⟩ := at_ok hw0 h1 h2 h3 h4 hl
          have hs : strd w * h ≤ 128 * 1024 := by
            have a1 : strd w ≤ 128 := by unfold strd; omega
            have a2 : 0 ≤ strd w := by unfold strd; omega
            have := Int.mul_le_mul a1 hh (by omega : 0 ≤ h) (by omega : (0 : Int) ≤ 128)
            omega
          rw [Int.tdiv_eq_ediv_of_nonneg h1, Int.tmod_eq_emod_of_nonneg h1, wr64 (x := x / 8) (by omega) (by omega), wr64 (x := y * strd w) (by omega) (by omega), wr64 (x := y * strd w + x / 8) (by omega) (by omega)]
          rw [bif_and g1 g2, bif_and (by omega) (by omega), and_mask (hb.at _).1 (hb.at _).2 (by omega)]
          rw [decide_eq_true (show 0 ≤ x ∧ x < w ∧ 0 ≤ y ∧ y < h from ⟨h1, h2, h3, h4⟩), Bool.true_and]
          have := mask_ne (k := (x % 8).toNat) (by omega)
          cases bitAt (ds.getD (y * strd w + x / 8).toNat 0) (x % 8).toNat with
          | true => rw [if_pos rfl, decide_eq_true this]
          | false => rw [if_neg (by simp)]; rfl
        · rw [bif_neg h4, decide_eq_false (by omega)]; rfl
      · rw [bif_neg h3, decide_eq_false (by omega)]; rfl
    · rw [bif_neg h2, decide_eq_false (by omega)]; rfl
  · rw [bif_neg h1, decide_eq_false (by omega)]; rfl
theorem bit_r (fu : Nat) {w h : Int} {ds : List Int} (hw0 : 1 ≤ w) (hw1 : w ≤ 1024) (hh0 : 1 ≤ h) (hh : h ≤ 1024) (hl : (ds.length : Int) = strd w * h) (hb : Bytes ds) (x y : Int) : R_Bit_r fu ((w, (h, ds)), (x, (y, ()))) = some (pixB w h ds x y, ()) := by
  unfold R_Bit_r
  simp only [joinF_eq, within_r, bindO_some]
  rw [wr64 (x := w - 1) (by omega) (by omega), wr64 (x := h - 1) (by omega) (by omega)]
  by_cases h1 : 0 ≤ x ∧ x < w
  · rw [decide_eq_true h1.1, decide_eq_true (show x ≤ w - 1 by omega)]
    by_cases h2 : 0 ≤ y ∧ y < h
    · rw [decide_eq_true h2.1, decide_eq_true (show y ≤ h - 1 by omega)]
      show R_Bit_j1 fu ((w, (h, ds)), (x, (y, ()))) false = _
      unfold R_Bit_j1 pixB
      simp only [cond_false]
      have hs : strd w * h ≤ 128 * 1024 := by
        have a1 : strd w ≤ 128 := by unfold strd; omega
        have a2 : 0 ≤ strd w := by unfold strd; omega
        have := Int.mul_le_mul a1 hh (by omega : 0 ≤ h) (by omega : (0 : Int) ≤ 128)
        omega
      obtain ⟨g0, g1, g2⟩ := at_ok (w := w) (by omega) h1.1 h1.2 h2.1 h2.2 hl
      have e1 : IntKind.i64.wrap (Int.tdiv (IntKind.i64.wrap (w + 7)) 8) = strd w := by
        rw [wr64 (x := w + 7) (by omega) (by omega), Int.tdiv_eq_ediv_of_nonneg (by omega), wr64 (x := (w + 7) / 8) (by omega) (by omega)]; rfl
      have h10 := h1.1
      rw [e1, Int.tdiv_eq_ediv_of_nonneg h1.1, Int.tmod_eq_emod_of_nonneg h1.1, wr64 (x := x / 8) (by omega) (by omega), wr64 (x := y * strd w) (by omega) (by omega), wr64 (x := y * strd w + x / 8) (by omega) (by omega)]
      rw [bif_and g1 g2, bif_and (by omega) (by omega), shl_bit (hb.at _).1 (hb.at _).2 (by omega)]
      rw [decide_eq_true (show 0 ≤ x ∧ x < w ∧ 0 ≤ y ∧ y < h from ⟨h1.1, h1.2, h2.1, h2.2⟩), Bool.true_and]
      cases bitAt (ds.getD (y * strd w + x / 8).toNat 0) (x % 8).toNat <;> rfl
    · have : (decide (0 ≤ y) && decide (y ≤ h - 1)) = false := by
        rw [← Bool.not_eq_true, Bool.and_eq_true]
        simp; omega
      rw [this]
      show R_Bit_j1 fu ((w, (h, ds)), (x, (y, ()))) true = _
      unfold R_Bit_j1 pixB
      rw [decide_eq_false (show ¬ (0 ≤ x ∧ x < w ∧ 0 ≤ y ∧ y < h) by omega)]; rfl
  · have : (decide (0 ≤ x) && decide (x ≤ w - 1)) = false := by
      rw [← Bool.not_eq_true, Bool.and_eq_true]
      simp; omega
    rw [this]
    show R_Bit_j1 fu ((w, (h, ds)), (x, (y, ()))) true = _
    unfold R_Bit_j1 pixB
    rw [decide_eq_false (show ¬ (0 ≤ x ∧ x < w ∧ 0 ≤ y ∧ y < h) by omega)]; rfl
end Go.Proofs.Ytnbmldnahacnlaa
/- Bitmaps: the list of bytes of a picture. No program in sight. -/
namespace Go.Proofs.Ytnbmldnahacnlaa
open Go Go.RowKit

def byteB (b0 b1 b2 b3 b4 b5 b6 b7 : Bool) : Int := (bif b0 then 128 else 0) + (bif b1 then 64 else 0) + (bif b2 then 32 else 0) + (bif b3 then 16 else 0) + (bif b4 then 8 else 0) + (bif b5 then 4 else 0) + (bif b6 then 2 else 0) + (bif b7 then 1 else 0)
/-- the byte with the given pixels -/
def byteOf (p : Nat → Bool) : Int := byteB (p 0) (p 1) (p 2) (p 3) (p 4) (p 5) (p 6) (p 7)
theorem byteOf_congr {p q : Nat → Bool} (h : ∀ k, k < 8 → p k = q k) : byteOf p = byteOf q := by
  unfold byteOf
  rw [h 0 (by omega), h 1 (by omega), h 2 (by omega), h 3 (by omega), h 4 (by omega), h 5 (by omega), h 6 (by omega), h 7 (by omega)]
theorem byteOf_bd (p : Nat → Bool) : 0 ≤ byteOf p ∧ byteOf p ≤ 255 := by
  unfold byteOf
  generalize p 0 = a0; generalize p 1 = a1; generalize p 2 = a2; generalize p 3 = a3; generalize p 4 = a4; generalize p 5 = a5; generalize p 6 = a6; generalize p 7 = a7
  revert a0 a1 a2 a3 a4 a5 a6 a7
  decide +kernel
theorem bool_fun {p : Nat → Bool} {a0 a1 a2 a3 a4 a5 a6 a7 : Bool} (h0 : p 0 = a0) (h1 : p 1 = a1) (h2 : p 2 = a2) (h3 : p 3 = a3) (h4 : p 4 = a4) (h5 : p 5 = a5) (h6 : p 6 = a6) (h7 : p 7 = a7) : ∀ k, k < 8 → p k = [a0, a1, a2, a3, a4, a5, a6, a7].getD k false
  | 0, _ => h0 | 1, _ => h1 | 2, _ => h2 | 3, _ => h3 | 4, _ => h4 | 5, _ => h5 | 6, _ => h6 | 7, _ => h7
  | k + 8, h => by omega
theorem byteOf_bit (p : Nat → Bool) {k : Nat} (hk : k < 8) : bitAt (byteOf p) k = p k := by
  rw [bool_fun (p := p) rfl rfl rfl rfl rfl rfl rfl rfl k hk]
  unfold byteOf
  generalize p 0 = a0; generalize p 1 = a1; generalize p 2 = a2; generalize p 3 = a3; generalize p 4 = a4; generalize p 5 = a5; generalize p 6 = a6; generalize p 7 = a7
  exact (show ∀ (k : Fin 8) (a0 a1 a2 a3 a4 a5 a6 a7 : Bool), bitAt (byteB a0 a1 a2 a3 a4 a5 a6 a7) k.val = [a0, a1, a2, a3, a4, a5, a6, a7].getD k.val false by decide +kernel) ⟨k, hk⟩ a0 a1 a2 a3 a4 a5 a6 a7
theorem byteOf_self {v : Int} (h0 : 0 ≤ v) (h1 : v ≤ 255) : byteOf (bitAt v) = v :=
  fin_byte (p := fun v => byteOf (bitAt v) = v) (by decide +kernel) h0 h1
theorem or_byte {v : Int} (h0 : 0 ≤ v) (h1 : v ≤ 255) {k : Nat} (hk : k < 8) : bits .or .u8 v (128 / 2 ^ k) = byteOf (fun j => bitAt v j || j == k) :=
  fin_byte (p := fun v => bits .or .u8 v (128 / 2 ^ k) = byteOf (fun j => bitAt v j || j == k)) (fun v => (show ∀ (k : Fin 8) (v : Fin 256), bits .or .u8 (v.val : Int) (128 / 2 ^ k.val) = byteOf (fun j => bitAt (v.val : Int) j || j == k.val) by decide +kernel) ⟨k, hk⟩ v) h0 h1
theorem byteOf_or (p : Nat → Bool) {k : Nat} (hk : k < 8) : bits .or .u8 (byteOf p) (128 / 2 ^ k) = byteOf (fun j => p j || j == k) := by
  rw [or_byte (byteOf_bd p).1 (byteOf_bd p).2 hk]
  exact byteOf_congr fun j hj => by rw [byteOf_bit p hj]
/-- byte i of a picture -/
def cbyte (w : Int) (P : Int → Int → Bool) (i : Int) : Int := byteOf fun k => decide (8 * (i % strd w) + k < w) && P (8 * (i % strd w) + k) (i / strd w)
/-- the bytes of the picture P -/
def canon (w h : Int) (P : Int → Int → Bool) : List Int := (List.range (strd w * h).toNat).map fun i : Nat => cbyte w P (i : Int)
theorem canon_length (w h : Int) (P : Int → Int → Bool) : (canon w h P).length = (strd w * h).toNat := by rw [canon, List.length_map, List.length_range]
theorem canon_len {w h : Int} (hw : 0 ≤ w) (hh : 0 ≤ h) (P : Int → Int → Bool) : ((canon w h P).length : Int) = strd w * h := by
  rw [canon_length, Int.toNat_of_nonneg (Int.mul_nonneg (by unfold strd; omega) hh)]
theorem canon_get {w h : Int} {P : Int → Int → Bool} {i : Nat} (hi : i < (canon w h P).length) : (canon w h P)[i] = cbyte w P i := by
  simp only [canon, List.getElem_map, List.getElem_range]
theorem canon_getD {w h : Int} {P : Int → Int → Bool} {i : Nat} (hi : i < (strd w * h).toNat) : (canon w h P).getD i 0 = cbyte w P i := by
  rw [← canon_length w h P] at hi
  rw [List.getD_eq_getElem?_getD, List.getElem?_eq_getElem hi, Option.getD_some, canon_get]
theorem canon_bytes (w h : Int) (P : Int → Int → Bool) : Bytes (canon w h P) := by
  intro d hd
  obtain ⟨i, _, rfl⟩ := List.mem_map.1 hd
  exact byteOf_bd _
theorem canon_congr {w h : Int} {P Q : Int → Int → Bool} (hw : 0 < w) (hp : ∀ x y, 0 ≤ x → x < w → 0 ≤ y → y < h → P x y = Q x y) : canon w h P = canon w h Q := by
  unfold canon
  refine List.map_congr_left fun i hi => byteOf_congr fun k _ => ?_
  have hi := List.mem_range.1 hi
  have hs : 0 < strd w := by unfold strd; omega
  have hi' : (i : Int) < strd w * h := by omega
  have e1 : 0 ≤ (i : Int) % strd w := Int.emod_nonneg _ (by omega)
  have e2 : (i : Int) / strd w < h := Int.ediv_lt_of_lt_mul hs (by rw [Int.mul_comm]; exact hi')
  have e3 : 0 ≤ (i : Int) / strd w := Int.ediv_nonneg (by omega) (by omega)
  by_cases g : 8 * ((i : Int) % strd w) + k < w
  · rw [hp _ _ (by omega) g e3 e2]
  · rw [decide_eq_false g]; rfl
theorem div_of {s a b : Int} (h0 : 0 ≤ b) (h1 : b < s) : (a * s + b) / s = a ∧ (a * s + b) % s = b := by
  have hs : s ≠ 0 := by omega
  constructor
  · rw [Int.add_comm, Int.add_mul_ediv_right _ _ hs, Int.ediv_eq_zero_of_lt h0 h1, Int.zero_add]
  · rw [Int.add_comm, Int.add_mul_emod_self_right, Int.emod_eq_of_lt h0 h1]
theorem mul_div_mod (i s : Int) : i / s * s + i % s = i := by rw [Int.mul_comm]; exact Int.mul_ediv_add_emod i s
section
variable {w h x y : Int} {P : Int → Int → Bool}
theorem at_lt (hx0 : 0 ≤ x) (hx1 : x < w) (hy0 : 0 ≤ y) (hy1 : y < h) : (y * strd w + x / 8).toNat < (strd w * h).toNat ∧ ((y * strd w + x / 8).toNat : Int) = y * strd w + x / 8 := by
  have h1 : 0 ≤ strd w * h := Int.mul_nonneg (by unfold strd; omega) (by omega)
  obtain ⟨g0, g1, g2⟩ := at_ok (w := w) (h := h) (x := x) (y := y) (l := (strd w * h).toNat) (by omega) hx0 hx1 hy0 hy1 (by omega)
  omega
theorem cbyte_at (hx0 : 0 ≤ x) (hx1 : x < w) (hy0 : 0 ≤ y) : cbyte w P (y * strd w + x / 8) = byteOf fun k => decide (8 * (x / 8) + k < w) && P (8 * (x / 8) + k) y := by
  have h1 : x / 8 < strd w := by unfold strd; omega
  have := hy0
  unfold cbyte
  rw [(div_of (by omega) h1).1, (div_of (by omega) h1).2]
/-- one byte of a picture turned -/
theorem canon_upd {Q : Int → Int → Bool} {v : Int} (hx0 : 0 ≤ x) (hx1 : x < w) (hy0 : 0 ≤ y) (hy1 : y < h) (hv : v = byteOf fun k => decide (8 * (x / 8) + k < w) && Q (8 * (x / 8) + k) y)
    (hq : ∀ a b, 0 ≤ a → ¬ (a / 8 = x / 8 ∧ b = y) → Q a b = P a b) : (canon w h P).set (y * strd w + x / 8).toNat v = canon w h Q := by
  obtain ⟨hlt, hcast⟩ := at_lt hx0 hx1 hy0 hy1
  refine List.ext_getElem (by rw [List.length_set, canon_length, canon_length]) fun i h1 h2 => ?_
  rw [List.getElem_set]
  split
  · rename_i e
    subst e
    rw [canon_get, hcast, cbyte_at hx0 hx1 hy0]
    exact hv
  · rename_i e
    rw [canon_get, canon_get]
    refine byteOf_congr fun k hk => ?_
    have hs : 0 < strd w := by unfold strd; omega
    have e1 : 0 ≤ (i : Int) % strd w := Int.emod_nonneg _ (by omega)
    congr 1
    refine (hq _ _ (by omega) ?_).symm
    rintro ⟨g1, g2⟩
    have g3 : (i : Int) % strd w = x / 8 := by omega
    have := mul_div_mod (i : Int) (strd w)
    rw [g2, g3] at this
    omega
theorem canon_set (hx0 : 0 ≤ x) (hx1 : x < w) (hy0 : 0 ≤ y) (hy1 : y < h) :
    (canon w h P).set (y * strd w + x / 8).toNat (bits .or .u8 ((canon w h P).getD (y * strd w + x / 8).toNat 0) (128 / 2 ^ (x % 8).toNat)) = canon w h (fun a b => P a b || (decide (a = x) && decide (b = y))) := by
  obtain ⟨hlt, hcast⟩ := at_lt hx0 hx1 hy0 hy1
  refine canon_upd hx0 hx1 hy0 hy1 ?_ (fun a b ha hn => ?_)
  · rw [canon_getD hlt, hcast, cbyte_at hx0 hx1 hy0, byteOf_or _ (by omega)]
    refine byteOf_congr fun k hk => ?_
    rw [decide_eq_true (rfl : y = y), Bool.and_true]
    by_cases e : k = (x % 8).toNat
    · subst e
      have e1 : 8 * (x / 8) + ((x % 8).toNat : Int) = x := by omega
      rw [e1, decide_eq_true hx1, decide_eq_true (rfl : x = x)]
      simp
    · rw [decide_eq_false (show ¬ 8 * (x / 8) + (k : Int) = x by omega)]
      simp [e]
  · have : ¬ (a = x ∧ b = y) := fun g => hn (by rw [g.1]; exact ⟨rfl, g.2⟩)
    by_cases e : a = x
    · rw [decide_eq_false (show ¬ b = y from fun g => this ⟨e, g⟩)]; simp
    · rw [decide_eq_false e]; simp
/-- the pixels of a picture -/
theorem canon_pix (hw : 0 ≤ w) : pixB w h (canon w h P) x y = (decide (0 ≤ x ∧ x < w ∧ 0 ≤ y ∧ y < h) && P x y) := by
  have := hw
  unfold pixB
  by_cases g : 0 ≤ x ∧ x < w ∧ 0 ≤ y ∧ y < h
  · obtain ⟨g1, g2, g3, g4⟩ := g
    obtain ⟨hlt, hcast⟩ := at_lt g1 g2 g3 g4
    rw [canon_getD hlt, hcast, cbyte_at g1 g2 g3, byteOf_bit _ (by omega)]
    have e1 : 8 * (x / 8) + ((x % 8).toNat : Int) = x := by omega
    rw [e1, decide_eq_true g2, Bool.true_and]
  · rw [decide_eq_false g]; rfl
/-- a valid bitmap is the bytes of its pixels -/
theorem canon_self {ds : List Int} (hb : Bytes ds) (h0 : bitsE w h ds = 0) : ds = canon w h (pixB w h ds) := by
  unfold bitsE at h0
  split at h0
  · rename_i hr
    obtain ⟨r1, r2, r3, r4⟩ := hr
    split at h0
    · rename_i hl
      split at h0
      · rename_i ht
        have hs := strd_N (w := w) (by omega)
        have hsp : 0 < strd w := by unfold strd; omega
        have hlI : (ds.length : Int) = strd w * h := by rw [hl, hs, Int.natCast_mul, Int.toNat_of_nonneg (by omega : 0 ≤ h)]
        refine List.ext_getElem (by rw [canon_length]; omega) fun i h1 h2 => ?_
        have hbi := hb.at i
        rw [List.getD_eq_getElem?_getD, List.getElem?_eq_getElem h1, Option.getD_some] at hbi
        rw [canon_get, ← byteOf_self hbi.1 hbi.2]
        refine byteOf_congr fun k hk => ?_
        have e1 : 0 ≤ (i : Int) % strd w := Int.emod_nonneg _ (by omega)
        have e1' : (i : Int) % strd w < strd w := Int.emod_lt_of_pos _ hsp
        have e2 : (i : Int) / strd w < h := Int.ediv_lt_of_lt_mul hsp (by rw [Int.mul_comm]; omega)
        have e3 : 0 ≤ (i : Int) / strd w := Int.ediv_nonneg (by omega) (by omega)
        have hmd := mul_div_mod (i : Int) (strd w)
        by_cases g : 8 * ((i : Int) % strd w) + k < w
        · rw [decide_eq_true g, Bool.true_and]
          unfold pixB
          rw [decide_eq_true (show 0 ≤ 8 * ((i : Int) % strd w) + k ∧ 8 * ((i : Int) % strd w) + k < w ∧ 0 ≤ (i : Int) / strd w ∧ (i : Int) / strd w < h from ⟨by omega, g, e3, e2⟩), Bool.true_and]
          have q1 : (8 * ((i : Int) % strd w) + (k : Int)) / 8 = (i : Int) % strd w := by omega
          have q2 : ((8 * ((i : Int) % strd w) + (k : Int)) % 8).toNat = k := by omega
          rw [q1, q2, hmd, Int.toNat_natCast, List.getD_eq_getElem?_getD, List.getElem?_eq_getElem h1, Option.getD_some]
        · rw [decide_eq_false g, Bool.false_and]
          -- the last byte of a row: its low bits are clear
          have hlast : (i : Int) % strd w = strd w - 1 := by unfold strd at *; omega
          have hrow := (List.all_eq_true.1 ht) ((i : Int) / strd w).toNat (List.mem_range.2 (by omega))
          have hidx : ((i : Int) / strd w).toNat * strideN w.toNat + strideN w.toNat - 1 = i := by
            have : ((((i : Int) / strd w).toNat * strideN w.toNat : Nat) : Int) = (i : Int) / strd w * strd w := by
              rw [Int.natCast_mul, Int.toNat_of_nonneg e3, hs]
            omega
          rw [hidx, List.getD_eq_getElem?_getD, List.getElem?_eq_getElem h1, Option.getD_some] at hrow
          have hu : 8 * strideN w.toNat - w.toNat < 8 := by unfold strideN; omega
          refine (low_bits hbi.1 hbi.2 hu).1 hrow k hk ?_
          omega
      · omega
    · omega
  · omega
end
end Go.Proofs.Ytnbmldnahacnlaa
/- Bitmaps: what bitmap.from, R.Drawn, R.SameBits compute. -/
namespace Go.Proofs.Ytnbmldnahacnlaa
open Go Go.RowKit

section
variable {β : Type}
/-- one pixel set -/
def markF (fu : Nat) (w y x : Int) (ds : List Int) (k : List Int → Option β) : Option β :=
  bindO (bitmap_stride_r fu ((w, ()))) fun v8 =>
  bif ((decide ((0 : Int) ≤ (IntKind.i64.wrap ((IntKind.i64.wrap (y * v8.1)) + (IntKind.i64.wrap (Int.tdiv x (8 : Int))))))) && (decide ((IntKind.i64.wrap ((IntKind.i64.wrap (y * v8.1)) + (IntKind.i64.wrap (Int.tdiv x (8 : Int))))) < (List.length ds : Int)))) then
  bif ((decide ((0 : Int) ≤ (Int.tmod x (8 : Int)))) && (decide ((Int.tmod x (8 : Int)) ≤ (8 : Int)))) then
  bif ((decide ((0 : Int) ≤ (IntKind.i64.wrap ((IntKind.i64.wrap (y * v8.1)) + (IntKind.i64.wrap (Int.tdiv x (8 : Int))))))) && (decide ((IntKind.i64.wrap ((IntKind.i64.wrap (y * v8.1)) + (IntKind.i64.wrap (Int.tdiv x (8 : Int))))) < (List.length ds : Int)))) then
  k ((List.set ds (Int.toNat (IntKind.i64.wrap ((IntKind.i64.wrap (y * v8.1)) + (IntKind.i64.wrap (Int.tdiv x (8 : Int)))))) (bits BinOp.or IntKind.u8 (List.getD ds (Int.toNat (IntKind.i64.wrap ((IntKind.i64.wrap (y * v8.1)) + (IntKind.i64.wrap (Int.tdiv x (8 : Int)))))) 0) ((128 : Int) / 2 ^ (Int.toNat (Int.tmod x (8 : Int)))))))
  else none
  else none
  else none
theorem strd_bd {w h : Int} (hw0 : 0 ≤ w) (hw1 : w ≤ 1024) (hh0 : 0 ≤ h) (hh1 : h ≤ 1024) : 0 ≤ strd w ∧ strd w ≤ 128 ∧ 0 ≤ strd w * h ∧ strd w * h ≤ 131072 := by
  have a1 : strd w ≤ 128 := by unfold strd; omega
  have a2 : 0 ≤ strd w := by unfold strd; omega
  have := Int.mul_le_mul a1 hh1 hh0 (by omega : (0 : Int) ≤ 128)
  have := Int.mul_nonneg a2 hh0
  omega
theorem idx_bd {w h x y : Int} (hx0 : 0 ≤ x) (hx1 : x < w) (hw1 : w ≤ 1024) (hy0 : 0 ≤ y) (hy1 : y < h) (hh1 : h ≤ 1024) : 0 ≤ y * strd w ∧ y * strd w + x / 8 < strd w * h ∧ strd w * h ≤ 131072 := by
  obtain ⟨b1, b2, b3, b4⟩ := strd_bd (w := w) (h := h) (by omega) hw1 (by omega) hh1
  obtain ⟨g0, g1, g2⟩ := at_ok (w := w) (h := h) (x := x) (y := y) (l := (strd w * h).toNat) (by omega) hx0 hx1 hy0 hy1 (by omega)
  omega
theorem markF_eq (fu : Nat) {w h x y : Int} {P : Int → Int → Bool} {k : List Int → Option β} (hx0 : 0 ≤ x) (hx1 : x < w) (hw1 : w ≤ 1024) (hy0 : 0 ≤ y) (hy1 : y < h) (hh1 : h ≤ 1024) :
    markF fu w y x (canon w h P) k = k (canon w h (fun a b => P a b || (decide (a = x) && decide (b = y)))) := by
  obtain ⟨g0, g1, g2⟩ := idx_bd hx0 hx1 hw1 hy0 hy1 hh1
  have hl := canon_len (w := w) (h := h) (by omega) (by omega) P
  unfold markF
  rw [stride_r fu (by omega) (by omega), bindO_some]
  simp only
  rw [Int.tdiv_eq_ediv_of_nonneg hx0, Int.tmod_eq_emod_of_nonneg hx0, wr64 (x := x / 8) (by omega) (by omega), wr64 (x := y * strd w) (by omega) (by omega), wr64 (x := y * strd w + x / 8) (by omega) (by omega)]
  rw [bif_and (by omega) (by omega), bif_and (by omega) (by omega), bif_and (by omega) (by omega), canon_set hx0 hx1 hy0 hy1]
/-- one row of bitmap.from -/
def fromI (fu : Nat) (w y y1 : Int) (cl : Int → Option (Bool × Unit)) (out : Int × List Int → Option β) (j : Int × List Int → Option β) (v : Int × List Int) : Option β :=
  bif (decide (v.1 < w)) then
    joinF (fun d => j ((IntKind.i64.wrap (v.1 + (1 : Int))), d)) fun j4 =>
    bindO (cl v.1) fun b =>
    bif b.1 then
      markF fu w y v.1 v.2 j4
    else
    j4 (v.2)
  else
  out (((IntKind.i64.wrap (y1 + (1 : Int))), v.2))
theorem canon_zero (w h : Int) {P : Int → Int → Bool} (hp : ∀ x y, P x y = false) : canon w h P = List.replicate (strd w * h).toNat 0 := by
  refine List.ext_getElem (by rw [canon_length, List.length_replicate]) fun i h1 h2 => ?_
  rw [canon_get, List.getElem_replicate]
  show byteOf _ = 0
  rw [byteOf_congr (q := fun _ => false) (fun k _ => by rw [hp, Bool.and_false])]
  rfl
variable {fu : Nat} (hf : 18446744073709551616 ≤ fu) {w h : Int} {F : Int → Int → Bool}
include hf
theorem fromI_spec {y : Int} {cl : Int → Option (Bool × Unit)} {out : Int × List Int → Option β} (hw0 : 0 < w) (hw1 : w ≤ 1024) (hy0 : 0 ≤ y) (hy1 : y < h) (hh1 : h ≤ 1024) (hcl : ∀ x, 0 ≤ x → x < w → cl x = some (F x y, ())) :
    loopF (fromI fu w y y cl out) fu (0, canon w h (fun a b => F a b && decide (b < y))) = out (y + 1, canon w h (fun a b => F a b && decide (b < y + 1))) := by
  refine loopF_spec (fun v => (w - v.1).toNat) (fun v => 0 ≤ v.1 ∧ v.1 ≤ w ∧ v.2 = canon w h (fun a b => F a b && (decide (b < y) || (decide (b = y) && decide (a < v.1))))) (fun _ => out (y + 1, canon w h (fun a b => F a b && decide (b < y + 1)))) ?_ fu (0, _) ⟨by omega, by omega, ?_⟩ (by simp only; omega)
  · rintro j ⟨x, ds⟩ ⟨h0, h1, hd⟩ ih
    simp only at h0 h1 hd
    unfold fromI
    simp only [joinF_eq]
    by_cases hx : x < w
    · rw [bif_pos hx, hcl x h0 hx, bindO_some, wr64 (x := x + 1) (by omega) (by omega)]
      cases hF : F x y with
      | true =>
        simp only [cond_true]
        rw [hd, markF_eq fu h0 hx hw1 hy0 hy1 hh1]
        refine ih (x + 1, _) ⟨by simp only; omega, by simp only; omega, ?_⟩ (by simp only; omega)
        refine canon_congr hw0 fun a b _ _ _ _ => ?_
        simp only
        by_cases e : a = x ∧ b = y
        · obtain ⟨rfl, rfl⟩ := e
          rw [hF]; simp; omega
        · have e2 : (decide (a = x) && decide (b = y)) = false := by
            rw [← Bool.not_eq_true, Bool.and_eq_true]; simpa using e
          rw [e2, Bool.or_false]
          by_cases g : b = y
          · have : ¬ a = x := fun q => e ⟨q, g⟩
            have g2 : decide (a < x) = decide (a < x + 1) := by
              by_cases q : a < x
              · rw [decide_eq_true q, decide_eq_true (by omega)]
              · rw [decide_eq_false q, decide_eq_false (by omega)]
            rw [g2]
          · rw [decide_eq_false g]; simp
      | false =>
        simp only [cond_false]
        refine ih (x + 1, ds) ⟨by simp only; omega, by simp only; omega, ?_⟩ (by simp only; omega)
        simp only
        rw [hd]
        refine canon_congr hw0 fun a b _ _ _ _ => ?_
        by_cases g : b = y
        · subst g
          by_cases q : a = x
          · subst q; rw [hF]; rfl
          · have g2 : decide (a < x) = decide (a < x + 1) := by
              by_cases q : a < x
              · rw [decide_eq_true q, decide_eq_true (by omega)]
              · rw [decide_eq_false q, decide_eq_false (by omega)]
            rw [g2]
        · rw [decide_eq_false g]; simp
    · rw [bif_neg hx, wr64 (x := y + 1) (by omega) (by omega), hd]
      congr 2
      refine canon_congr hw0 fun a b _ ha _ _ => ?_
      rw [decide_eq_true (show a < x by omega), Bool.and_true]
      congr 1
      by_cases g : b < y
      · rw [decide_eq_true g, decide_eq_true (show b < y + 1 by omega)]; rfl
      · by_cases g2 : b = y
        · rw [decide_eq_true g2, decide_eq_true (show b < y + 1 by omega)]; simp
        · rw [decide_eq_false g, decide_eq_false g2, decide_eq_false (show ¬ b < y + 1 by omega)]; rfl
  · refine canon_congr hw0 fun a b ha _ _ _ => ?_
    rw [decide_eq_false (show ¬ a < 0 by omega)]; simp
/-- a list of pixels drawn -/
theorem drawn_r {on : List Bool} (hw0 : 0 < w) (hw1 : w ≤ 1024) (hh0 : 0 < h) (hh1 : h ≤ 1024) (hl : (on.length : Int) = w * h) :
    R_Drawn_r fu (w, (h, (on, ()))) = some ((w, (h, canon w h (fun x y => on.getD (y * w + x).toNat false))), ()) := by
  obtain ⟨b1, b2, b3, b4⟩ := strd_bd (w := w) (h := h) (by omega) hw1 (by omega) hh1
  have hwh : w * h ≤ 1048576 := by
    have := Int.mul_le_mul hw1 hh1 (by omega : 0 ≤ h) (by omega : (0 : Int) ≤ 1024)
    omega
  unfold R_Drawn_r
  simp only
  have e1 : IntKind.i64.wrap (Int.tdiv (IntKind.i64.wrap (w + 7)) 8) = strd w := by
    rw [wr64 (x := w + 7) (by omega) (by omega), Int.tdiv_eq_ediv_of_nonneg (by omega), wr64 (x := (w + 7) / 8) (by omega) (by omega)]; rfl
  rw [e1, wr64 (x := strd w * h) (by omega) (by omega), bif_and (by omega) (by omega), ← canon_zero w h (P := fun _ _ => false) (fun _ _ => rfl)]
  refine loopF_spec (fun v => (w * h - v.1).toNat) (fun v => 0 ≤ v.1 ∧ v.1 ≤ w * h ∧ v.2 = canon w h (fun x y => on.getD (y * w + x).toNat false && decide (y * w + x < v.1))) (fun _ => some ((w, (h, canon w h (fun x y => on.getD (y * w + x).toNat false))), ())) ?_ fu (0, _) ⟨by omega, by simp only; omega, ?_⟩ (by simp only; omega)
  · rintro j ⟨i, ds⟩ ⟨h0, h1, hd⟩ ih
    simp only at h0 h1 hd
    unfold R_Drawn_l1 R_Drawn_j2
    simp only [joinF_eq]
    by_cases hi : i < w * h
    · rw [bif_pos (by omega), bif_and (by omega) (by omega), wr64 (x := i + 1) (by omega) (by omega)]
      have hx0 : 0 ≤ i % w := Int.emod_nonneg _ (by omega)
      have hx1 : i % w < w := Int.emod_lt_of_pos _ hw0
      have hy0 : 0 ≤ i / w := Int.ediv_nonneg h0 (by omega)
      have hy1 : i / w < h := Int.ediv_lt_of_lt_mul hw0 (by rw [Int.mul_comm]; exact hi)
      have hmd := mul_div_mod i w
      cases hF : on.getD i.toNat false with
      | true =>
        simp only [cond_true]
        obtain ⟨g0, g1, g2⟩ := idx_bd hx0 hx1 hw1 hy0 hy1 hh1
        have hcl := canon_len (w := w) (h := h) (by omega) (by omega) (fun x y => on.getD (y * w + x).toNat false && decide (y * w + x < i))
        have hwn : w ≠ 0 := by omega
        rw [Int.tdiv_eq_ediv_of_nonneg h0, Int.tmod_eq_emod_of_nonneg h0, Int.tdiv_eq_ediv_of_nonneg hx0, Int.tmod_eq_emod_of_nonneg hx0, wr64 (x := i / w) (by omega) (by omega), wr64 (x := i / w * strd w) (by omega) (by omega), wr64 (x := i % w / 8) (by omega) (by omega), wr64 (x := i / w * strd w + i % w / 8) (by omega) (by omega)]
        rw [hd, bif_pos hwn, bif_pos hwn, bif_and (by omega) (by omega), bif_pos hwn, bif_and (by omega) (by omega), bif_and (by omega) (by omega), canon_set hx0 hx1 hy0 hy1]
        refine ih (i + 1, _) ⟨by simp only; omega, by simp only; omega, ?_⟩ (by simp only; omega)
        simp only
        refine canon_congr hw0 fun a b ha ha1 _ _ => ?_
        by_cases e : a = i % w ∧ b = i / w
        · obtain ⟨rfl, rfl⟩ := e
          rw [hmd, hF]; simp; omega
        · have e2 : (decide (a = i % w) && decide (b = i / w)) = false := by
            rw [← Bool.not_eq_true, Bool.and_eq_true]; simpa using e
          have e3 : ¬ b * w + a = i := by
            intro q
            have := div_of (a := b) ha ha1
            rw [q] at this
            exact e ⟨this.2.symm, this.1.symm⟩
          have g2 : decide (b * w + a < i) = decide (b * w + a < i + 1) := by
            by_cases q : b * w + a < i
            · rw [decide_eq_true q, decide_eq_true (by omega)]
            · rw [decide_eq_false q, decide_eq_false (by omega)]
          rw [e2, Bool.or_false, g2]
      | false =>
        simp only [cond_false]
        refine ih (i + 1, ds) ⟨by simp only; omega, by simp only; omega, ?_⟩ (by simp only; omega)
        simp only
        rw [hd]
        refine canon_congr hw0 fun a b ha ha1 _ _ => ?_
        by_cases q : b * w + a = i
        · rw [q, hF]; rfl
        · have g2 : decide (b * w + a < i) = decide (b * w + a < i + 1) := by
            by_cases q : b * w + a < i
            · rw [decide_eq_true q, decide_eq_true (by omega)]
            · rw [decide_eq_false q, decide_eq_false (by omega)]
          rw [g2]
    · rw [bif_neg (by omega), hd]
      congr 4
      refine canon_congr hw0 fun a b ha ha1 hb hb1 => ?_
      have : b * w ≤ (h - 1) * w := Int.mul_le_mul_of_nonneg_right (by omega) (by omega)
      have e2 : (h - 1) * w = w * h - w := by rw [Int.sub_mul, Int.one_mul, Int.mul_comm]
      rw [decide_eq_true (show b * w + a < i by omega), Bool.and_true]
  · refine canon_congr hw0 fun a b ha _ hb _ => ?_
    have := Int.mul_nonneg hb (by omega : 0 ≤ w)
    rw [decide_eq_false (show ¬ b * w + a < 0 by omega), Bool.and_false]
end
theorem same_r (fu : Nat) (w h : Int) (ds : List Int) : R_SameBits_r fu ((w, (h, ds)), ((w, (h, ds)), ())) = some (true, ()) := by
  unfold R_SameBits_r R_SameBytes_r
  simp [bindO_some]
end Go.Proofs.Ytnbmldnahacnlaa
/- Strips: Check and BitsErr. -/
namespace Go.Proofs.Ytnbmldnahacnlaa
open Go Go.RowKit

theorem and_neg_lo {v : Int} : (decide (1 ≤ v) && decide (v ≤ 1024)) = decide (1 ≤ v ∧ v ≤ 1024) := by
  by_cases h : 1 ≤ v <;> by_cases h' : v ≤ 1024 <;> simp [h, h']
theorem check_r {fu : Nat} (hf : 18446744073709551616 ≤ fu) {w h : Int} {ds : List Int} (hb : Bytes ds) : bitmap_Check_r fu ((w, (h, ds)), ()) = some (bitsE w h ds, ()) := by
  unfold bitmap_Check_r bitsE
  simp only [joinF_eq]
  have bad : ∀ p : Prop, ¬ (1 ≤ w ∧ w ≤ 1024 ∧ 1 ≤ h ∧ h ≤ 1024) → bitmap_Check_j1 fu ((w, (h, ds)), ()) true = some (if 1 ≤ w ∧ w ≤ 1024 ∧ 1 ≤ h ∧ h ≤ 1024 then (if ds.length = strideN w.toNat * h.toNat then (if tailOk w.toNat h.toNat ds = true then 0 else 4) else 4) else 3, ()) := by
    intro _ hn
    rw [if_neg hn]; rfl
  by_cases h1 : w < 1
  · rw [bif_pos h1]; exact bad True (by omega)
  rw [bif_neg h1]
  by_cases h2 : 1024 < w
  · rw [bif_pos h2]; exact bad True (by omega)
  rw [bif_neg h2]
  by_cases h3 : h < 1
  · rw [bif_pos h3]; exact bad True (by omega)
  rw [bif_neg h3]
  by_cases h4 : 1024 < h
  · rw [decide_eq_true h4]; exact bad True (by omega)
  rw [decide_eq_false h4, if_pos (by omega)]
  clear bad
  unfold bitmap_Check_j1
  simp only [cond_false]
  rw [stride_r fu (by omega) (by omega)]
  simp only [bindO_some, joinF_eq]
  have hs0 : 1 ≤ strd w ∧ strd w ≤ 128 ∧ w ≤ 8 * strd w ∧ 8 * strd w ≤ w + 7 := by unfold strd; omega
  have hN : strd w = (strideN w.toNat : Int) := strd_N (by omega)
  have hs : 0 ≤ strd w * h ∧ strd w * h ≤ 128 * 1024 := ⟨Int.mul_nonneg (by omega) (by omega), by
    have := Int.mul_le_mul hs0.2.1 (show h ≤ 1024 by omega) (by omega : 0 ≤ h) (by omega : (0 : Int) ≤ 128)
    omega⟩
  rw [wr64 (x := strd w * h) (by omega) (by omega), wr64 (x := 8 * strd w) (by omega) (by omega), wr64 (x := 8 * strd w - w) (by omega) (by omega)]
  have hmul : strd w * h = ((strideN w.toNat * h.toNat : Nat) : Int) := by rw [hN, Int.natCast_mul]; congr 1; omega
  by_cases hl : ds.length = strideN w.toNat * h.toNat
  · rw [bif_neg (by rw [hmul, hl]; simp), if_pos hl, bif_and (by omega) (by omega)]
    have e4 : IntKind.u8.wrap (IntKind.u8.wrap (1 * 2 ^ (8 * strd w - w).toNat) - 1) = 2 ^ (8 * strd w - w).toNat - 1 := wrap_pow (by omega)
    rw [e4]
    have hu : (8 * strd w - w).toNat = 8 * strideN w.toNat - w.toNat := by omega
    by_cases hz : w = 8 * strd w
    · have : (2 : Int) ^ (8 * strd w - w).toNat - 1 = 0 := by rw [show (8 * strd w - w).toNat = 0 by omega]; rfl
      rw [this, bif_neg (by simp)]
      have ht : tailOk w.toNat h.toNat ds = true := by
        refine List.all_eq_true.2 fun y _ => ?_
        rw [show 8 * strideN w.toNat - w.toNat = 0 by omega]
        unfold lowOk
        simp [Int.emod_one]
      rw [if_pos ht]; rfl
    · have hne : (2 : Int) ^ (8 * strd w - w).toNat - 1 ≠ 0 := by
        have : ∀ u : Fin 8, 0 < u.val → (2 : Int) ^ u.val - 1 ≠ 0 := by decide
        exact this ⟨(8 * strd w - w).toNat, by omega⟩ (by show 0 < (8 * strd w - w).toNat; omega)
      rw [bif_pos hne]
      let p : Nat → Bool := fun y => lowOk (ds.getD (y * strideN w.toNat + strideN w.toNat - 1) 0) (8 * strideN w.toNat - w.toNat)
      have := loopF_spec (f := bitmap_Check_l3 fu ((w, (h, ds)), ()) (strd w) (2 ^ (8 * strd w - w).toNat - 1) (bitmap_Check_j2 fu)) (fun y : Int => (h - y).toNat) (fun y => 0 ≤ y ∧ y ≤ h) (fun y => some (if allFrom p h.toNat y.toNat = true then 0 else 4, ())) (fun j y ⟨i0, i1⟩ hj => ?_) fu 0 ⟨by omega, by omega⟩ (by omega)
      · rw [this]
        show some (if allFrom p h.toNat 0 = true then (0 : Int) else 4, ()) = _
        rw [allFrom_zero]; rfl
      · unfold bitmap_Check_l3
        simp only
        by_cases hy : y < h
        · obtain ⟨g0, g1, g2⟩ := at_ok (w := w) (h := h) (x := w - 1) (y := y) (l := ds.length) (by omega) (by omega) (by omega) i0 hy (by rw [hmul, hl])
          have g3 : y * strd w + strd w ≤ strd w * h := by
            have := Int.mul_le_mul_of_nonneg_right (show y + 1 ≤ h by omega) (show 0 ≤ strd w by omega)
            rw [Int.add_mul, Int.one_mul, Int.mul_comm h] at this
            exact this
          rw [bif_pos hy, wr64 (x := y * strd w) (by omega) (by omega), wr64 (x := y * strd w + strd w) (by omega) (by omega), wr64 (x := y * strd w + strd w - 1) (by omega) (by omega), bif_and (by omega) (by rw [hl, ← hmul]; omega)]
          rw [and_low (hb.at _).1 (hb.at _).2 (by omega), allFrom_lt (by omega)]
          have ei : (y * strd w + strd w - 1).toNat = y.toNat * strideN w.toNat + strideN w.toNat - 1 := by
            have : y * strd w = ((y.toNat * strideN w.toNat : Nat) : Int) := by rw [hN, Int.natCast_mul]; congr 1; omega
            omega
          have ep : p y.toNat = decide (ds.getD (y * strd w + strd w - 1).toNat 0 % 2 ^ (8 * strd w - w).toNat = 0) := by
            show lowOk _ _ = _
            unfold lowOk
            rw [ei, hu]; rfl
          by_cases hd : ds.getD (y * strd w + strd w - 1).toNat 0 % 2 ^ (8 * strd w - w).toNat = 0
          · rw [bif_neg (by simpa using hd), wr64 (x := y + 1) (by omega) (by omega), hj (y + 1) ⟨by omega, by omega⟩ (by omega), ep, decide_eq_true hd, Bool.true_and]
            rw [show (y + 1).toNat = y.toNat + 1 by omega]
          · rw [bif_pos hd, ep, decide_eq_false hd, Bool.false_and]; rfl
        · rw [bif_neg hy, allFrom_ge (by omega)]; rfl
  · rw [bif_pos (by rw [hmul]; omega), if_neg hl]
theorem bitsErr_r {fu : Nat} (hf : 18446744073709551616 ≤ fu) {w h : Int} {ds : List Int} (hb : Bytes ds) : R_BitsErr_r fu ((w, (h, ds)), ()) = some (bitsE w h ds, ()) := by
  unfold R_BitsErr_r bitsE
  simp only [joinF_eq, within_r, bindO_some, and_neg_lo]
  by_cases h1 : 1 ≤ w ∧ w ≤ 1024
  · rw [decide_eq_true h1]
    by_cases h2 : 1 ≤ h ∧ h ≤ 1024
    · rw [decide_eq_true h2, if_pos (by omega)]
      show R_BitsErr_j1 fu ((w, (h, ds)), ()) false = _
      unfold R_BitsErr_j1
      simp only [cond_false]
      have e1 : IntKind.i64.wrap (Int.tdiv (IntKind.i64.wrap (w + 7)) 8) = strd w := by
        rw [wr64 (x := w + 7) (by omega) (by omega), Int.tdiv_eq_ediv_of_nonneg (by omega), wr64 (x := (w + 7) / 8) (by omega) (by omega)]; rfl
      have hs0 : 1 ≤ strd w ∧ strd w ≤ 128 ∧ w ≤ 8 * strd w ∧ 8 * strd w ≤ w + 7 := by unfold strd; omega
      have hN : strd w = (strideN w.toNat : Int) := strd_N (by omega)
      have hs : 0 ≤ strd w * h ∧ strd w * h ≤ 128 * 1024 := ⟨Int.mul_nonneg (by omega) (by omega), by
        have := Int.mul_le_mul hs0.2.1 (show h ≤ 1024 by omega) (by omega : 0 ≤ h) (by omega : (0 : Int) ≤ 128)
        omega⟩
      have hmul : strd w * h = ((strideN w.toNat * h.toNat : Nat) : Int) := by rw [hN, Int.natCast_mul]; congr 1; omega
      rw [e1, wr64 (x := strd w * h) (by omega) (by omega)]
      by_cases hl : ds.length = strideN w.toNat * h.toNat
      · rw [bif_neg (by rw [hmul, hl]; simp), if_pos hl, ← rows_tail hb (by omega) hl]
        unfold rowsOk
        rw [← allFrom_zero]
        let p : Nat → Bool := fun i => byteOk w.toNat (strideN w.toNat) i (ds.getD i 0)
        refine loopF_spec (f := R_BitsErr_l2 fu ((w, (h, ds)), ()) (strd w)) (fun i : Int => ((ds.length : Int) - i).toNat) (fun i => 0 ≤ i ∧ i ≤ ds.length) (fun i => some (if allFrom p ds.length i.toNat = true then 0 else 4, ())) (fun j i ⟨i0, i1⟩ hj => ?_) fu 0 ⟨by omega, by omega⟩ (by omega)
        unfold R_BitsErr_l2
        simp only
        by_cases hi : i < ds.length
        · rw [bif_pos hi, bif_and i0 hi, allFrom_lt (by omega)]
          let q : Nat → Bool := pixOk w.toNat (strideN w.toNat) i.toNat (ds.getD i.toNat 0)
          have hp : p i.toNat = allFrom q 8 0 := by rw [allFrom_zero]; rfl
          rw [hp]
          refine (loopF_spec (f := R_BitsErr_l3 fu ((w, (h, ds)), ()) (strd w) i (ds.getD i.toNat 0) j) (fun k : Int => (8 - k).toNat) (fun k => 0 ≤ k ∧ k ≤ 8) (fun k => some (if (allFrom q 8 k.toNat && allFrom p ds.length (i.toNat + 1)) = true then 0 else 4, ())) (fun j' k ⟨k0, k1⟩ hj' => ?_) fu 0 ⟨by omega, by omega⟩ (by omega))
          unfold R_BitsErr_l3
          simp only
          by_cases hk : k < 8
          · rw [bif_pos hk, allFrom_lt (by omega)]
            simp only [joinF_eq]
            rw [bif_pos (by omega), Int.tmod_eq_emod_of_nonneg i0]
            have em : i % strd w = ((i.toNat % strideN w.toNat : Nat) : Int) := by rw [hN, Int.natCast_emod, Int.toNat_of_nonneg i0]
            have hlt : i.toNat % strideN w.toNat < strideN w.toNat := Nat.mod_lt _ (by omega)
            rw [em, wr64 (x := ((i.toNat % strideN w.toNat : Nat) : Int) * 8) (by omega) (by omega), wr64 (x := ((i.toNat % strideN w.toNat : Nat) : Int) * 8 + k) (by omega) (by omega)]
            have good : q k.toNat = true → R_BitsErr_j4 fu k j' false = some (if (q k.toNat && allFrom q 8 (k.toNat + 1) && allFrom p ds.length (i.toNat + 1)) = true then 0 else 4, ()) := by
              intro hq
              unfold R_BitsErr_j4
              simp only [cond_false]
              rw [wr64 (x := k + 1) (by omega) (by omega), hj' (k + 1) ⟨by omega, by omega⟩ (by omega), hq, Bool.true_and]
              rw [show (k + 1).toNat = k.toNat + 1 by omega]
            by_cases hle : w ≤ ((i.toNat % strideN w.toNat : Nat) : Int) * 8 + k
            · rw [bif_pos hle, bif_and k0 (by omega), shl_bit (hb.at _).1 (hb.at _).2 (by omega)]
              have hq : q k.toNat = !bitAt (ds.getD i.toNat 0) k.toNat := by
                show pixOk _ _ _ _ _ = _
                unfold pixOk
                rw [decide_eq_true (by omega), Bool.true_and]
              cases hbt : bitAt (ds.getD i.toNat 0) k.toNat with
              | true =>
                rw [hbt] at hq
                rw [if_pos rfl, hq]; rfl
              | false =>
                rw [hbt] at hq
                rw [if_neg (by simp)]
                exact good hq
            · rw [bif_neg hle]
              refine good ?_
              show pixOk _ _ _ _ _ = _
              unfold pixOk
              rw [decide_eq_false (by omega)]; rfl
          · rw [bif_neg hk, allFrom_ge (i := k.toNat) (by omega), Bool.true_and, wr64 (x := i + 1) (by omega) (by omega), hj (i + 1) ⟨by omega, by omega⟩ (by omega)]
            rw [show (i + 1).toNat = i.toNat + 1 by omega]
        · rw [bif_neg hi, allFrom_ge (by omega)]; rfl
      · rw [bif_pos (by rw [hmul]; omega), if_neg hl]
    · rw [decide_eq_false h2, if_neg (by omega)]; rfl
  · rw [decide_eq_false h1, if_neg (by omega)]; rfl
end Go.Proofs.Ytnbmldnahacnlaa
/- bitmap.Runs: what a bitmap in memory is; bitmap.Is as the walks take it; bitmap.Row. -/
namespace Go.Proofs.Ytnbmldnahacnlaa
open Go Go.RowKit Go.Shelf
attribute [local go_sem] Oper.semAt_some

/-- a bitmap in a box -/
structure Pic (w h : Int) (ds : List Int) (Bb n0 : Nat) (W : World) : Prop where
  c0 : W.cell? ⟨Bb, 0, none⟩ = some (.int .i64 w)
  c1 : W.cell? ⟨Bb, 1, none⟩ = some (.int .i64 h)
  sl : ∃ A c, W.cell? ⟨Bb, 2, none⟩ = some (.slice A ds.length c) ∧ ds.length ≤ c ∧ c ≤ maxLen ∧ (∀ i, i < ds.length → A ≠ none) ∧
    ∀ (i : Nat) (v : Int), ds[i]? = some v → ∃ b o, A = some ⟨b, o, none⟩ ∧ b < n0 ∧ W.cell? ⟨b, o + i, none⟩ = some (.int .u8 v)
section
variable {w h : Int} {ds : List Int} {Bb n0 : Nat} {W W' : World}
theorem Pic.kept {row : Option Nat} (p : Pic w h ds Bb n0 W) (hg : W.grownBy W' row) (hr : ∀ r, row = some r → ∃ o : Obj, W.heap[r]? = some o ∧ o.isCells = false) : Pic w h ds Bb n0 W' := by
  obtain ⟨A, c, h1, h2, h3, h4, h5⟩ := p.sl
  refine ⟨Go.cell_kept p.c0 hg hr, Go.cell_kept p.c1 hg hr, A, c, Go.cell_kept h1 hg hr, h2, h3, h4, fun i v hv => ?_⟩
  obtain ⟨b, o, e1, e0, e2⟩ := h5 i v hv
  exact ⟨b, o, e1, e0, Go.cell_kept e2 hg hr⟩
theorem grown_of_below (hb : Below W.heap.size W W') : W.grownBy W' none := ⟨hb.os, hb.tape, hb.output, hb.size, fun k hk _ => hb.block k hk⟩
/-- what a round of the caller's loop keeps -/
def Kp3 (n0 Bb B1 B2 : Nat) (A B : World) : Prop := Below n0 A B ∧ ∀ b, (b = Bb ∨ b = B1 ∨ b = B2) → B.heap[b]? = A.heap[b]?
theorem Pic.is (p : Pic w h ds Bb n0 W) (hb : Below W.heap.size W W') : Pic w h ds Bb n0 W' := p.kept (grown_of_below hb) (fun r e => by cases e)
theorem Pic.rel (p : Pic w h ds Bb n0 W) : RelV W (Gh.none W.heap.size) (.peek (Ty.cells false (.pair (.int .i64) (.pair (.int .i64) (.list (.int .u8)))) (w, (h, ds))) 0) (.pointer (some ⟨Bb, 0, none⟩)) := by
  obtain ⟨A, c, h1, h2, h3, h4, h5⟩ := p.sl
  have hro : RelD W (Gh.none W.heap.size).own (Gh.none W.heap.size).bs (.ro false 1 (ds.map (Ty.cells false (.int .u8)))) (.slice A ds.length c) := by
    have hl : (ds.map (Ty.cells false (.int .u8))).length = ds.length := List.length_map ..
    have hr := RelD.ro (w := W) (own := (Gh.none W.heap.size).own) (bs := (Gh.none W.heap.size).bs) false 1 (ds.map (Ty.cells false (.int .u8))) A c (fun i _ => .int .u8 (ds.getD i 0)) (by rw [hl]; exact h2) h3 (fun i hi => h4 i (by rw [hl] at hi; exact hi)) (fun i row j a g1 g2 => ?_) (fun i row j a g1 g2 => ?_)
    · rw [hl] at hr; exact hr
    · rw [List.getElem?_map] at g1
      obtain ⟨v, hv, e⟩ := Option.map_eq_some_iff.1 g1
      subst e
      rw [Ty.cells] at g2
      cases j with
      | succ j => simp at g2
      | zero =>
        obtain ⟨b, o, e1, _, e2⟩ := h5 i v hv
        refine ⟨b, o, e1, fun h => h, (fun e => by cases e), ?_⟩
        rw [Nat.mul_one, Nat.add_zero, e2, List.getD_eq_getElem?_getD, hv]; rfl
    · rw [List.getElem?_map] at g1
      obtain ⟨v, hv, e⟩ := Option.map_eq_some_iff.1 g1
      subst e
      rw [Ty.cells] at g2
      cases j with
      | succ j => simp at g2
      | zero =>
        simp only [List.getElem?_cons_zero, Option.some.injEq] at g2
        subst g2
        rw [List.getD_eq_getElem?_getD, hv]
        exact .int .u8 v
  have ec : Ty.cells false (.pair (.int .i64) (.pair (.int .i64) (.list (.int .u8)))) (w, (h, ds)) = [.int .i64 w, .int .i64 h, .ro false 1 (ds.map (Ty.cells false (.int .u8)))] := by
    simp only [Ty.cells, Ty.size, List.cons_append, List.nil_append]
  rw [ec]
  refine .peek _ 0 Bb 0 (fun t => match t with | 0 => .int .i64 w | 1 => .int .i64 h | _ => .slice A ds.length c) (by simp) (fun h => h) (fun t a g => ?_) (fun t a g => ?_)
  · match t, g with
    | 0, _ => exact p.c0
    | 1, _ => exact p.c1
    | 2, _ => exact h1
    | t + 3, g => simp at g
  · match t, g with
    | 0, g => simp at g; subst g; exact .int .i64 w
    | 1, g => simp at g; subst g; exact .int .i64 h
    | 2, g => simp at g; subst g; exact hro
    | t + 3, g => simp at g
end
/-- the runs of a row from x on -/
inductive RF (p : Int → Bool) (w y : Int) : Int → List (Int × Int × Int) → Prop
  | done (x : Int) (h : w ≤ x) : RF p w y x []
  | skip (x : Int) (l : List (Int × Int × Int)) (h : x < w) (hp : p x = false) (t : RF p w y (x + 1) l) : RF p w y x l
  | run (x x' : Int) (l : List (Int × Int × Int)) (h : x < x') (h' : x' ≤ w) (hp : ∀ i, x ≤ i → i < x' → p i = true) (hq : x' < w → p x' = false) (t : RF p w y x' l) : RF p w y x ((y, x, x') :: l)
end Go.Proofs.Ytnbmldnahacnlaa
/- bitmap.Runs at one bitmap. -/
namespace Go.Proofs.Ytnbmldnahacnlaa
open Go Go.RowKit Go.Shelf
attribute [local go_sem] Oper.semAt_some

/-- bytes in memory -/
def SlD (ds : List Int) (n0 : Nat) (W : World) (A : Option Addr) (c : Nat) : Prop := ds.length ≤ c ∧ c ≤ maxLen ∧ (∀ i, i < ds.length → A ≠ none) ∧ ∀ (i : Nat) (v : Int), ds[i]? = some v → ∃ b o, A = some ⟨b, o, none⟩ ∧ b < n0 ∧ W.cell? ⟨b, o + i, none⟩ = some (.int .u8 v)
theorem SlD.is {ds : List Int} {n0 : Nat} {W W' : World} {A : Option Addr} {c : Nat} (p : SlD ds n0 W A c) (hb : Below n0 W W') : SlD ds n0 W' A c := by
  obtain ⟨h2, h3, h4, h5⟩ := p
  refine ⟨h2, h3, h4, fun i v hv => ?_⟩
  obtain ⟨b, o, e1, e0, e2⟩ := h5 i v hv
  exact ⟨b, o, e1, e0, (hb.cell (p := ⟨b, o + i, none⟩) e0).trans e2⟩
theorem SlD.rel {ds : List Int} {n0 m : Nat} {W : World} {A : Option Addr} {c : Nat} (p : SlD ds n0 W A c) (w h : Int) : RelV W (Gh.none m) (.agg (Ty.cells false (.pair (.int .i64) (.pair (.int .i64) (.list (.int .u8)))) (w, (h, ds)))) (.agg #[.int .i64 w, .int .i64 h, .slice A ds.length c]) := by
  obtain ⟨h2, h3, h4, h5⟩ := p
  have hro : RelD W (Gh.none m).own (Gh.none m).bs (.ro false 1 (ds.map (Ty.cells false (.int .u8)))) (.slice A ds.length c) := by
    have hl : (ds.map (Ty.cells false (.int .u8))).length = ds.length := List.length_map ..
    have hr := RelD.ro (w := W) (own := (Gh.none m).own) (bs := (Gh.none m).bs) false 1 (ds.map (Ty.cells false (.int .u8))) A c (fun i _ => .int .u8 (ds.getD i 0)) (by rw [hl]; exact h2) h3 (fun i hi => h4 i (by rw [hl] at hi; exact hi)) (fun i row j a g1 g2 => ?_) (fun i row j a g1 g2 => ?_)
    · rw [hl] at hr; exact hr
    · rw [List.getElem?_map] at g1
      obtain ⟨v, hv, e⟩ := Option.map_eq_some_iff.1 g1
      subst e
      rw [Ty.cells] at g2
      cases j with
      | succ j => simp at g2
      | zero =>
        obtain ⟨b, o, e1, _, e2⟩ := h5 i v hv
        refine ⟨b, o, e1, fun h => h, (fun e => by cases e), ?_⟩
        rw [Nat.mul_one, Nat.add_zero, e2, List.getD_eq_getElem?_getD, hv]; rfl
    · rw [List.getElem?_map] at g1
      obtain ⟨v, hv, e⟩ := Option.map_eq_some_iff.1 g1
      subst e
      rw [Ty.cells] at g2
      cases j with
      | succ j => simp at g2
      | zero =>
        simp only [List.getElem?_cons_zero, Option.some.injEq] at g2
        subst g2
        rw [List.getD_eq_getElem?_getD, hv]
        exact .int .u8 v
  have ec : Ty.cells false (.pair (.int .i64) (.pair (.int .i64) (.list (.int .u8)))) (w, (h, ds)) = [.int .i64 w, .int .i64 h, .ro false 1 (ds.map (Ty.cells false (.int .u8)))] := by
    simp only [Ty.cells, Ty.size, List.cons_append, List.nil_append]
  rw [ec]
  refine .agg _ _ (by simp) fun t a v ga gv => ?_
  match t, ga, gv with
  | 0, ga, gv => simp at ga gv; subst ga; subst gv; exact rI _ _ _ _
  | 1, ga, gv => simp at ga gv; subst ga; subst gv; exact rI _ _ _ _
  | 2, ga, gv => simp at ga gv; subst ga; subst gv; exact .dat hro
  | t + 3, ga, gv => simp at ga
/-- what the caller's cells hold -/
def RB (Bb B1 B2 : Nat) (A : Option Addr) (c : Nat) (y : Int) (W : World) : Prop := W.heap[Bb]? = some (.cells #[.int .i64 5, .int .i64 2, .slice A 2 c] 24 (0, 0)) ∧ Boxed W B1 109 (.pointer (some ⟨Bb, 0, none⟩)) ∧ Boxed W B2 3 (.int .i64 y)
theorem cells_own {W W' : World} {row : Option Nat} {b : Nat} {cs : Array Value} {t : TypeId} {z : Nat × Nat} (h : W.heap[b]? = some (.cells cs t z)) (hg : W.grownBy W' row) (hr : ∀ r, row = some r → ∃ o : Obj, W.heap[r]? = some o ∧ o.isCells = false) : W'.heap[b]? = some (.cells cs t z) := by
  refine (hg.block b (Array.getElem?_eq_some_iff.1 h).1 fun e => ?_).trans h
  obtain ⟨o, ho, hc⟩ := hr b e.symm
  rw [h] at ho
  injection ho with ho
  subst ho
  cases hc
theorem RB.own {Bb B1 B2 : Nat} {A : Option Addr} {c : Nat} {y : Int} {W W' : World} {row : Option Nat} (p : RB Bb B1 B2 A c y W) (hg : W.grownBy W' row) (hr : ∀ r, row = some r → ∃ o : Obj, W.heap[r]? = some o ∧ o.isCells = false) : RB Bb B1 B2 A c y W' :=
  ⟨cells_own p.1 hg hr, cells_own p.2.1 hg hr, cells_own p.2.2 hg hr⟩
theorem RB.lt {Bb B1 B2 : Nat} {A : Option Addr} {c : Nat} {y : Int} {W : World} (p : RB Bb B1 B2 A c y W) : ∀ b, (b = Bb ∨ b = B1 ∨ b = B2) → b < W.heap.size := by
  rintro b (rfl | rfl | rfl)
  · exact (Array.getElem?_eq_some_iff.1 p.1).1
  · exact p.2.1.lt
  · exact p.2.2.lt
/-- the caller's cells over an append to its list -/
theorem RB.app {Bb B1 B2 Bl : Nat} {A : Option Addr} {c k : Nat} {y : Int} {W w1 : World} {v v' : Value} {xs : List Value} {tmp : Obj} (p : RB Bb B1 B2 A c y W) (hrow : W.ownsRow Bb 77 3 v k xs) (hg : (W.alloc tmp).grownBy w1 v.ownBlock) (h0 : Bb < Bl) (h1 : Bl < B1) (h2 : B1 < B2) (hb : Below Bb W (w1.setCell ⟨Bl, 0, none⟩ v')) :
    Kp3 Bb Bb B1 B2 W (w1.setCell ⟨Bl, 0, none⟩ v') ∧ RB Bb B1 B2 A c y (w1.setCell ⟨Bl, 0, none⟩ v') := by
  have ne : ∀ (b : Nat) (cs : Array Value) (t : TypeId), W.heap[b]? = some (.cells cs t (0, 0)) → t ≠ 77 → some b ≠ v.ownBlock := by
    intro b cs t hb ht e
    rcases hrow.2 with ⟨rfl, _⟩ | ⟨g, cap, cur, rfl, _, hgb, _⟩
    · cases e
    · injection e with e
      have e : b = g := e
      subst e
      rw [hgb] at hb
      injection hb with hb
      injection hb with _ hb _
      exact ht hb.symm
  have key : ∀ b, (b = Bb ∨ b = B1 ∨ b = B2) → (w1.setCell ⟨Bl, 0, none⟩ v').heap[b]? = W.heap[b]? := by
    intro b hb
    have hlt := p.lt b hb
    have e1 : (w1.setCell ⟨Bl, 0, none⟩ v').heap[b]? = w1.heap[b]? := Below.heap_setCell _ _ _ _ (show b ≠ Bl by rcases hb with rfl | rfl | rfl <;> omega)
    rw [e1, hg.block b (by rw [World.size_alloc]; omega) ?_]
    · exact Below.heap_alloc W tmp b hlt
    · rcases hb with rfl | rfl | rfl
      · exact ne _ _ _ p.1 (by decide)
      · exact ne _ _ _ p.2.1 (by decide)
      · exact ne _ _ _ p.2.2 (by decide)
  exact ⟨⟨hb, key⟩, (key Bb (.inl rfl)).trans p.1, (key B1 (.inr (.inl rfl))).trans p.2.1, (key B2 (.inr (.inr rfl))).trans p.2.2⟩
end Go.Proofs.Ytnbmldnahacnlaa
/- Residual programs of functions (printed by a program out of the code), checked by the kernel, and the contracts that follow. -/
namespace Go.Proofs.Ytnbmldnahacnlaa
open Go Go.RowKit
set_option linter.unusedVariables false
end Go.Proofs.Ytnbmldnahacnlaa
/- BitmapMoves: what the law computes. -/
namespace Go.Proofs.Ytnbmldnahacnlaa
open Go Go.RowKit

theorem bitsE_dim {w h : Int} {ds : List Int} (h0 : bitsE w h ds = 0) : 1 ≤ w ∧ w ≤ 1024 ∧ 1 ≤ h ∧ h ≤ 1024 ∧ (ds.length : Int) = strd w * h := by
  unfold bitsE at h0
  split at h0
  · rename_i hr
    split at h0
    · rename_i hl
      refine ⟨hr.1, hr.2.1, hr.2.2.1, hr.2.2.2, ?_⟩
      rw [hl, strd_N (by omega), Int.natCast_mul, Int.toNat_of_nonneg (by omega : 0 ≤ h)]
    · omega
  · omega
section
variable {β : Type}
/-- the list of a picture's pixels -/
def onL (n : Nat) (G : Int → Bool) : List Bool := (List.range n).map fun i : Nat => G (i : Int)
theorem onL_length (n : Nat) (G : Int → Bool) : (onL n G).length = n := by rw [onL, List.length_map, List.length_range]
theorem onL_getD {n : Nat} {G : Int → Bool} {i : Int} (h0 : 0 ≤ i) (h1 : i < n) : (onL n G).getD i.toNat false = G i := by
  have hi : i.toNat < n := by omega
  have : (onL n G)[i.toNat]? = some (G i) := by
    unfold onL
    rw [List.getElem?_map, List.getElem?_range hi, Option.map_some, Int.toNat_of_nonneg h0]
  rw [List.getD_eq_getElem?_getD, this, Option.getD_some]
end
/-- a drawn list of pixels is the picture -/
theorem drawn_on {fu : Nat} (hf : 18446744073709551616 ≤ fu) {w h : Int} {F : Int → Int → Bool} (hw0 : 0 < w) (hw1 : w ≤ 1024) (hh0 : 0 < h) (hh1 : h ≤ 1024) :
    R_Drawn_r fu (w, (h, (onL (w * h).toNat (fun i => F (i % w) (i / w)), ()))) = some ((w, (h, canon w h F)), ()) := by
  have hwh : 0 < w * h := Int.mul_pos hw0 hh0
  rw [drawn_r hf hw0 hw1 hh0 hh1 (by rw [onL_length]; omega)]
  congr 4
  refine canon_congr hw0 fun x y hx hx1 hy hy1 => ?_
  have h1 := Int.mul_nonneg hy (by omega : 0 ≤ w)
  have h2 : y * w ≤ (h - 1) * w := Int.mul_le_mul_of_nonneg_right (by omega) (by omega)
  have e2 : (h - 1) * w = w * h - w := by rw [Int.sub_mul, Int.one_mul, Int.mul_comm]
  rw [onL_getD (by omega) (by omega), (div_of hx hx1).1, (div_of hx hx1).2]
section
variable {fu : Nat} (hf : 18446744073709551616 ≤ fu) {w h : Int} {ds : List Int} (hb : Bytes ds)
include hf hb
end
section
variable {fu : Nat} (hf : 18446744073709551616 ≤ fu) {w h x y cw ch : Int} {ds : List Int} (hb : Bytes ds)
include hf hb
end
end Go.Proofs.Ytnbmldnahacnlaa
/- Rewriting of residual programs by facts of arithmetic. No program in sight. -/
namespace Go.Proofs.Ytnbmldnahacnlaa
open Go Go.RowKit
theorem s_pos {p : Prop} [Decidable p] (h : p) : decide p = true := decide_eq_true h
theorem s_neg {p : Prop} [Decidable p] (h : ¬ p) : decide p = false := decide_eq_false h
theorem s_wr {x : Int} (h0 : -9223372036854775808 ≤ x) (h1 : x ≤ 9223372036854775807) : IntKind.i64.wrap x = x := wr64 h0 h1
theorem s_td {a b : Int} (h : 0 ≤ a) : Int.tdiv a b = a / b := Int.tdiv_eq_ediv_of_nonneg h
theorem s_tm {a b : Int} (h : 0 ≤ a) : Int.tmod a b = a % b := Int.tmod_eq_emod_of_nonneg h
/-- the first error of n steps from step i on -/
def firstE (E : Nat → Int) : Nat → Nat → Int
  | 0, _ => 0
  | n + 1, i => if E i = 0 then firstE E n (i + 1) else E i
theorem firstE_step {E : Nat → Int} {i m : Nat} (hi : i < m) : firstE E (m - i) i = if E i = 0 then firstE E (m - (i + 1)) (i + 1) else E i := by
  rw [show m - i = (m - (i + 1)) + 1 by omega, firstE]
theorem firstE_ok {E : Nat → Int} : ∀ (n i : Nat), firstE E n i = 0 → ∀ k, i ≤ k → k < i + n → E k = 0
  | 0, _, _, _, _, _ => by omega
  | n + 1, i, h0, k, h1, h2 => by
    rw [firstE] at h0
    by_cases c : E i = 0
    · rw [if_pos c] at h0
      by_cases e : k = i
      · subst e; exact c
      · exact firstE_ok n (i + 1) h0 k (by omega) (by omega)
    · rw [if_neg c] at h0
      exact absurd h0 c
/-- a list by its values -/
def tabL {α : Type} (n : Nat) (G : Int → α) : List α := (List.range n).map fun i : Nat => G (i : Int)
section
variable {α : Type} {n : Nat} {G G' : Int → α}
theorem tabL_length (n : Nat) (G : Int → α) : (tabL n G).length = n := by rw [tabL, List.length_map, List.length_range]
theorem tabL_getElem {q : Nat} (h : q < (tabL n G).length) : (tabL n G)[q] = G q := by simp only [tabL, List.getElem_map, List.getElem_range]
theorem tabL_getD {d : α} {i : Int} (h0 : 0 ≤ i) (h1 : i < n) : (tabL n G).getD i.toNat d = G i := by
  rw [List.getD_eq_getElem?_getD, List.getElem?_eq_getElem (by rw [tabL_length]; omega), Option.getD_some, tabL_getElem, Int.toNat_of_nonneg h0]
theorem tabL_congr (h : ∀ i : Int, 0 ≤ i → i < (n : Int) → G i = G' i) : tabL n G = tabL n G' := List.map_congr_left fun i hi => h i (by omega) (by have := List.mem_range.1 hi; omega)
theorem tabL_set {k : Int} {v : α} (h0 : 0 ≤ k) (hk : G' k = v) (h : ∀ i : Int, 0 ≤ i → i < (n : Int) → i ≠ k → G i = G' i) : (tabL n G).set k.toNat v = tabL n G' := by
  refine List.ext_getElem (by rw [List.length_set, tabL_length, tabL_length]) fun q g1 g2 => ?_
  rw [List.getElem_set, tabL_getElem, tabL_getElem]
  rw [tabL_length] at g2
  split
  · rename_i e
    rw [← hk, ← e, Int.toNat_of_nonneg h0]
  · exact h q (by omega) (by omega) (by omega)
theorem tabL_rep {d : α} (h : ∀ i : Int, 0 ≤ i → i < (n : Int) → G i = d) : tabL n G = List.replicate n d := by
  refine List.ext_getElem (by rw [tabL_length, List.length_replicate]) fun q g1 g2 => ?_
  rw [tabL_getElem, List.getElem_replicate]
  rw [tabL_length] at g1
  exact h q (by omega) (by omega)
end
theorem and_false_iff {p q : Prop} [Decidable p] [Decidable q] (h : ¬ (p ∧ q)) : (decide p && decide q) = false := by
  rw [← Bool.not_eq_true, Bool.and_eq_true, decide_eq_true_eq, decide_eq_true_eq]; exact h
theorem and_true_iff {p q : Prop} [Decidable p] [Decidable q] (h : p ∧ q) : (decide p && decide q) = true := by
  rw [decide_eq_true h.1, decide_eq_true h.2]; rfl
end Go.Proofs.Ytnbmldnahacnlaa
/- BitmapGrowth: what Spread and Turn compute. -/
namespace Go.Proofs.Ytnbmldnahacnlaa
open Go Go.RowKit
set_option linter.unusedSimpArgs false
set_option linter.unusedSectionVars false
set_option linter.unusedVariables false

theorem loopF_congr {α β : Type} {f g : (α → Option β) → α → Option β} (I : α → Prop) (h : ∀ j j' x, I x → (∀ x', I x' → j x' = j' x') → f j x = g j' x) : ∀ (fu : Nat) (x : α), I x → loopF f fu x = loopF g fu x
  | 0, _, _ => rfl
  | fu + 1, x, hI => by
    rw [loopF, loopF]
    exact h _ _ x hI fun x' h1 => loopF_congr I h fu x' h1
section
variable {fu : Nat} (hf : 18446744073709551616 ≤ fu) {w h : Int} {β : Type}
include hf
/-- a picture drawn pixel by pixel, whatever the loops' texts -/
theorem row_spec {y : Int} {F : Int → Int → Bool} {f : (Int × List Int → Option β) → Int × List Int → Option β} {out : Int × List Int → Option β} (hw0 : 0 < w) (hw1 : w ≤ 1024) (hy0 : 0 ≤ y) (hy1 : y < h) (hh1 : h ≤ 1024)
    (h1 : ∀ (j : Int × List Int → Option β) (x : Int) (ds : List Int), 0 ≤ x → x < w → f j (x, ds) = bif F x y then markF fu w y x ds (fun d => j (x + 1, d)) else j (x + 1, ds))
    (h2 : ∀ (j : Int × List Int → Option β) (x : Int) (ds : List Int), w ≤ x → f j (x, ds) = out (y + 1, ds)) :
    loopF f fu (0, canon w h (fun a b => F a b && decide (b < y))) = out (y + 1, canon w h (fun a b => F a b && decide (b < y + 1))) := by
  rw [← fromI_spec hf hw0 hw1 hy0 hy1 hh1 (cl := fun x => some (F x y, ())) (out := out) (fun x _ _ => rfl)]
  refine loopF_congr (fun v => 0 ≤ v.1) ?_ fu _ (by simp)
  rintro j j' ⟨x, ds⟩ h0 ih
  simp only at h0
  unfold fromI
  by_cases hx : x < w
  · rw [h1 j x ds h0 hx]
    simp (disch := omega) only [joinF_eq, bindO_some, s_wr, s_td, s_tm, s_pos, s_neg, cond_true, cond_false, Bool.not_true, Bool.not_false, Bool.true_and, Bool.and_true, Bool.false_and, Bool.and_false, bne_self_eq_false, decide_true, decide_false, Int.toNat_natCast]
    cases F x y with
    | true =>
      simp (disch := omega) only [joinF_eq, bindO_some, s_wr, s_td, s_tm, s_pos, s_neg, cond_true, cond_false, Bool.not_true, Bool.not_false, Bool.true_and, Bool.and_true, Bool.false_and, Bool.and_false, bne_self_eq_false, decide_true, decide_false, Int.toNat_natCast]
      congr 1
      funext d
      exact ih (x + 1, d) (by simp only; omega)
    | false =>
      simp (disch := omega) only [joinF_eq, bindO_some, s_wr, s_td, s_tm, s_pos, s_neg, cond_true, cond_false, Bool.not_true, Bool.not_false, Bool.true_and, Bool.and_true, Bool.false_and, Bool.and_false, bne_self_eq_false, decide_true, decide_false, Int.toNat_natCast]
      exact ih (x + 1, ds) (by simp only; omega)
  · rw [h2 j x ds (by omega)]
    simp (disch := omega) only [joinF_eq, bindO_some, s_wr, s_td, s_tm, s_pos, s_neg, cond_true, cond_false, Bool.not_true, Bool.not_false, Bool.true_and, Bool.and_true, Bool.false_and, Bool.and_false, bne_self_eq_false, decide_true, decide_false, Int.toNat_natCast]
theorem all_spec {F : Int → Int → Bool} {f : (Int × List Int → Option β) → Int × List Int → Option β} {fin : List Int → Option β} (hw0 : 0 < w) (hh0 : 0 < h)
    (h1 : ∀ (j : Int × List Int → Option β) (y : Int), 0 ≤ y → y < h → f j (y, canon w h (fun a b => F a b && decide (b < y))) = j (y + 1, canon w h (fun a b => F a b && decide (b < y + 1))))
    (h2 : ∀ (j : Int × List Int → Option β) (y : Int) (ds : List Int), h ≤ y → f j (y, ds) = fin ds) (hh1 : h ≤ 1024) :
    loopF f fu (0, List.replicate (strd w * h).toNat 0) = fin (canon w h F) := by
  rw [← canon_zero w h (P := fun _ _ => false) (fun _ _ => rfl)]
  refine loopF_spec (fun v => (h - v.1).toNat) (fun v => 0 ≤ v.1 ∧ v.1 ≤ h ∧ v.2 = canon w h (fun a b => F a b && decide (b < v.1))) (fun _ => fin (canon w h F)) ?_ fu (0, _) ⟨by omega, by omega, ?_⟩ (by simp only; omega)
  · rintro j ⟨y, ds⟩ ⟨k0, k1, hd⟩ ih
    simp only at k0 k1 hd
    by_cases hy : y < h
    · rw [hd, h1 j y k0 hy]
      exact ih (y + 1, _) ⟨by simp only; omega, by simp only; omega, rfl⟩ (by simp only; omega)
    · rw [h2 j y ds (by omega), hd]
      congr 1
      refine canon_congr hw0 fun a b _ _ _ hb => ?_
      rw [decide_eq_true (show b < y by omega), Bool.and_true]
  · refine canon_congr hw0 fun a b _ _ hb _ => ?_
    rw [decide_eq_false (show ¬ b < 0 by omega), Bool.and_false]
end
/-- pixels within a bitmap -/
def inB (w h : Int) (P : Int → Int → Bool) (x y : Int) : Bool := decide (0 ≤ x ∧ x < w ∧ 0 ≤ y ∧ y < h) && P x y
def grow (P : Int → Int → Bool) (x y : Int) : Bool := P x y || (P (x - 1) y || (P (x + 1) y || (P x (y - 1) || P x (y + 1))))
def grown (w h : Int) (P : Int → Int → Bool) : Nat → Int → Int → Bool
  | 0 => P
  | n + 1 => grow (inB w h (grown w h P n))
/-- is_r on a drawn picture -/
theorem is_c (fu : Nat) {w h : Int} (hw0 : 0 ≤ w) (hw1 : w ≤ 1024) (hh0 : 0 ≤ h) (hh : h ≤ 1024) (P : Int → Int → Bool) (x y : Int) : bitmap_Is_r fu ((w, (h, canon w h P)), (x, (y, ()))) = some (inB w h P x y, ()) := by
  rw [is_r fu hw0 hw1 hh (canon_len hw0 hh0 _) (canon_bytes _ _ _), canon_pix hw0]; rfl
section
variable {fu : Nat} (hf : 18446744073709551616 ≤ fu) {w h : Int}
include hf
theorem grown_l3 {y : Int} {P : Int → Int → Bool} {i : Int} {j2 : Int × List Int → Option ((Int × Int × List Int) × Unit)} {v2 : Int × List Int} (hw0 : 0 < w) (hw1 : w ≤ 1024) (hy0 : 0 ≤ y) (hy1 : y < h) (hh1 : h ≤ 1024) (hv : v2.1 = y) :
    loopF (bitmap_Grown_l3 fu (i, (w, (h, canon w h P))) v2 y j2) fu (0, canon w h (fun a b => grow (inB w h P) a b && decide (b < y))) = j2 (y + 1, canon w h (fun a b => grow (inB w h P) a b && decide (b < y + 1))) := by
  refine row_spec hf hw0 hw1 hy0 hy1 hh1 (fun j x ds h0 h1 => ?_) (fun j x ds h1 => ?_)
  · unfold bitmap_Grown_l3
    simp (disch := omega) only [joinF_eq, bindO_some, s_wr, s_td, s_tm, s_pos, s_neg, cond_true, cond_false, Bool.not_true, Bool.not_false, Bool.true_and, Bool.and_true, Bool.false_and, Bool.and_false, bne_self_eq_false, decide_true, decide_false, Int.toNat_natCast, is_c]
    unfold grow bitmap_Grown_j4
    cases inB w h P x y <;> cases inB w h P (x - 1) y <;> cases inB w h P (x + 1) y <;> cases inB w h P x (y - 1) <;> cases inB w h P x (y + 1) <;>
      simp (disch := omega) only [joinF_eq, bindO_some, s_wr, s_td, s_tm, s_pos, s_neg, cond_true, cond_false, Bool.not_true, Bool.not_false, Bool.true_and, Bool.and_true, Bool.false_and, Bool.and_false, bne_self_eq_false, decide_true, decide_false, Int.toNat_natCast, bitmap_Grown_j5, markF, Bool.true_or, Bool.false_or]
  · unfold bitmap_Grown_l3
    simp (disch := omega) only [joinF_eq, bindO_some, s_wr, s_td, s_tm, s_pos, s_neg, cond_true, cond_false, Bool.not_true, Bool.not_false, Bool.true_and, Bool.and_true, Bool.false_and, Bool.and_false, bne_self_eq_false, decide_true, decide_false, Int.toNat_natCast]
    rw [hv]
theorem grown_r {n : Int} {ds : List Int} (hb : Bytes ds) (h0 : bitsE w h ds = 0) (hn : 0 ≤ n ∧ n ≤ 16) :
    bitmap_Grown_r fu ((w, (h, ds)), (n, ())) = some ((w, (h, canon w h (grown w h (pixB w h ds) n.toNat))), ()) := by
  obtain ⟨d1, d2, d3, d4, d5⟩ := bitsE_dim h0
  obtain ⟨b1, b2, b3, b4⟩ := strd_bd (w := w) (h := h) (by omega) d2 (by omega) d4
  unfold bitmap_Grown_r
  simp (disch := omega) only [joinF_eq, bindO_some, s_wr, s_td, s_tm, s_pos, s_neg, cond_true, cond_false, Bool.not_true, Bool.not_false, Bool.true_and, Bool.and_true, Bool.false_and, Bool.and_false, bne_self_eq_false, decide_true, decide_false, Int.toNat_natCast]
  refine loopF_spec (fun v => (n - v.1).toNat) (fun v : Int × Int × Int × List Int => 0 ≤ v.1 ∧ v.1 ≤ n ∧ v.2 = (w, (h, canon w h (grown w h (pixB w h ds) v.1.toNat)))) (fun _ => some ((w, (h, canon w h (grown w h (pixB w h ds) n.toNat))), ())) ?_ fu (0, (w, (h, ds))) ⟨by omega, by simp only; omega, ?_⟩ (by simp only; omega)
  · rintro j ⟨i, v⟩ ⟨k0, k1, kv⟩ ih
    simp only at k0 k1 kv
    subst kv
    unfold bitmap_Grown_l1
    by_cases hi : i < n
    · simp (disch := omega) only [joinF_eq, bindO_some, s_wr, s_td, s_tm, s_pos, s_neg, cond_true, cond_false, Bool.not_true, Bool.not_false, Bool.true_and, Bool.and_true, Bool.false_and, Bool.and_false, bne_self_eq_false, decide_true, decide_false, Int.toNat_natCast]
      rw [stride_r fu (by omega) (by omega)]
      simp (disch := omega) only [joinF_eq, bindO_some, s_wr, s_td, s_tm, s_pos, s_neg, cond_true, cond_false, Bool.not_true, Bool.not_false, Bool.true_and, Bool.and_true, Bool.false_and, Bool.and_false, bne_self_eq_false, decide_true, decide_false, Int.toNat_natCast]
      rw [all_spec hf (F := grow (inB w h (grown w h (pixB w h ds) i.toNat))) (fin := fun ds => j (i + 1, (w, (h, ds)))) (by omega) (by omega) (fun j y hy0 hy1 => ?_) (fun j y ds hy => ?_) d4]
      · exact ih (i + 1, _) ⟨by simp only; omega, by simp only; omega, by simp only; rw [show (i + 1).toNat = i.toNat + 1 by omega]; rfl⟩ (by simp only; omega)
      · unfold bitmap_Grown_l2
        simp (disch := omega) only [joinF_eq, bindO_some, s_wr, s_td, s_tm, s_pos, s_neg, cond_true, cond_false, Bool.not_true, Bool.not_false, Bool.true_and, Bool.and_true, Bool.false_and, Bool.and_false, bne_self_eq_false, decide_true, decide_false, Int.toNat_natCast]
        exact grown_l3 hf (by omega) d2 hy0 hy1 d4 rfl
      · unfold bitmap_Grown_l2
        simp (disch := omega) only [joinF_eq, bindO_some, s_wr, s_td, s_tm, s_pos, s_neg, cond_true, cond_false, Bool.not_true, Bool.not_false, Bool.true_and, Bool.and_true, Bool.false_and, Bool.and_false, bne_self_eq_false, decide_true, decide_false, Int.toNat_natCast]
    · have e : i = n := by omega
      subst e
      simp (disch := omega) only [joinF_eq, bindO_some, s_wr, s_td, s_tm, s_pos, s_neg, cond_true, cond_false, Bool.not_true, Bool.not_false, Bool.true_and, Bool.and_true, Bool.false_and, Bool.and_false, bne_self_eq_false, decide_true, decide_false, Int.toNat_natCast]
  · show (w, (h, ds)) = (w, (h, canon w h (pixB w h ds)))
    rw [← canon_self hb h0]
end
end Go.Proofs.Ytnbmldnahacnlaa
/- BitmapGrowth: the reference's Spread and Turned; Turn. -/
namespace Go.Proofs.Ytnbmldnahacnlaa
open Go Go.RowKit
set_option linter.unusedSimpArgs false
set_option linter.unusedSectionVars false
set_option linter.unusedVariables false

/-- a set pixel at most n steps away -/
def near (P : Int → Int → Bool) (n : Nat) (x y : Int) : Prop := ∃ i j, P i j = true ∧ (i - x).natAbs + (j - y).natAbs ≤ n
theorem inB_true {w h : Int} {P : Int → Int → Bool} {x y : Int} : inB w h P x y = true ↔ (0 ≤ x ∧ x < w ∧ 0 ≤ y ∧ y < h) ∧ P x y = true := by
  unfold inB
  rw [Bool.and_eq_true, decide_eq_true_eq]
theorem grown_near {w h : Int} {P : Int → Int → Bool} (hP : ∀ i j, P i j = true → 0 ≤ i ∧ i < w ∧ 0 ≤ j ∧ j < h) : ∀ (n : Nat) (x y : Int), 0 ≤ x → x < w → 0 ≤ y → y < h → (grown w h P n x y = true ↔ near P n x y)
  | 0, x, y, _, _, _, _ => ⟨fun h => ⟨x, y, h, by omega⟩, fun ⟨i, j, h1, h2⟩ => by
      have e1 : i = x := by omega
      have e2 : j = y := by omega
      subst e1; subst e2; exact h1⟩
  | n + 1, x, y, hx0, hx1, hy0, hy1 => by
    have step : ∀ a b, inB w h (grown w h P n) a b = true ↔ (0 ≤ a ∧ a < w ∧ 0 ≤ b ∧ b < h) ∧ near P n a b := by
      intro a b
      rw [inB_true]
      constructor
      · rintro ⟨h1, h2⟩
        exact ⟨h1, (grown_near hP n a b h1.1 h1.2.1 h1.2.2.1 h1.2.2.2).1 h2⟩
      · rintro ⟨h1, h2⟩
        exact ⟨h1, (grown_near hP n a b h1.1 h1.2.1 h1.2.2.1 h1.2.2.2).2 h2⟩
    show grow (inB w h (grown w h P n)) x y = true ↔ _
    unfold grow
    simp only [Bool.or_eq_true, step]
    constructor
    · rintro (⟨_, i, j, h1, h2⟩ | ⟨_, i, j, h1, h2⟩ | ⟨_, i, j, h1, h2⟩ | ⟨_, i, j, h1, h2⟩ | ⟨_, i, j, h1, h2⟩) <;> exact ⟨i, j, h1, by omega⟩
    · rintro ⟨i, j, h1, h2⟩
      obtain ⟨b1, b2, b3, b4⟩ := hP i j h1
      by_cases g : (i - x).natAbs + (j - y).natAbs ≤ n
      · exact .inl ⟨⟨hx0, hx1, hy0, hy1⟩, i, j, h1, g⟩
      by_cases c1 : i < x
      · exact .inr (.inl ⟨by omega, i, j, h1, by omega⟩)
      by_cases c2 : x < i
      · exact .inr (.inr (.inl ⟨by omega, i, j, h1, by omega⟩))
      by_cases c3 : j < y
      · exact .inr (.inr (.inr (.inl ⟨by omega, i, j, h1, by omega⟩)))
      · exact .inr (.inr (.inr (.inr ⟨by omega, i, j, h1, by omega⟩)))
section
variable {fu : Nat} (hf : 18446744073709551616 ≤ fu) {w h : Int} {ds : List Int} (hb : Bytes ds)
include hf hb
open Classical in
theorem spread_l3 (d1 : 1 ≤ w) (d2 : w ≤ 1024) (d3 : 1 ≤ h) (d4 : h ≤ 1024) (d5 : (ds.length : Int) = strd w * h) {x y n v f : Int} {j1 : Int → Option (Bool × Unit)} (hx0 : 0 ≤ x) (hx1 : x < 1024) (hy0 : 0 ≤ y) (hy1 : y < 1024) (hn0 : 0 ≤ n) (hn1 : n ≤ 16) (hv0 : -16 ≤ v) (hv1 : v ≤ 1040) (hf0 : 0 ≤ f) (hf1 : f ≤ n) :
    loopF (R_Spread_l3 fu ((w, (h, ds)), (x, (y, (n, ())))) v f j1) fu (x - n + f) = if ∃ i, x - n + f ≤ i ∧ i ≤ x + n - f ∧ pixB w h ds i v = true then some (true, ()) else j1 (v + 1) := by
  refine loopF_spec (fun u : Int => (x + n - f + 1 - u).toNat) (fun u => x - n + f ≤ u ∧ u ≤ x + n - f + 1) (fun u => if ∃ i, u ≤ i ∧ i ≤ x + n - f ∧ pixB w h ds i v = true then some (true, ()) else j1 (v + 1)) ?_ fu _ ⟨by omega, by omega⟩ (by omega)
  rintro j u ⟨k0, k1⟩ ih
  unfold R_Spread_l3
  by_cases hu : u ≤ x + n - f
  · simp (disch := omega) only [joinF_eq, bindO_some, s_wr, s_td, s_tm, s_pos, s_neg, cond_true, cond_false, Bool.not_true, Bool.not_false, Bool.true_and, Bool.and_true, Bool.false_and, Bool.and_false, bne_self_eq_false, decide_true, decide_false, Int.toNat_natCast]
    rw [bit_r fu d1 d2 d3 d4 d5 hb]
    simp (disch := omega) only [joinF_eq, bindO_some, s_wr, s_td, s_tm, s_pos, s_neg, cond_true, cond_false, Bool.not_true, Bool.not_false, Bool.true_and, Bool.and_true, Bool.false_and, Bool.and_false, bne_self_eq_false, decide_true, decide_false, Int.toNat_natCast]
    cases hp : pixB w h ds u v with
    | true =>
      simp (disch := omega) only [joinF_eq, bindO_some, s_wr, s_td, s_tm, s_pos, s_neg, cond_true, cond_false, Bool.not_true, Bool.not_false, Bool.true_and, Bool.and_true, Bool.false_and, Bool.and_false, bne_self_eq_false, decide_true, decide_false, Int.toNat_natCast]
      rw [if_pos ⟨u, by omega, by omega, hp⟩]
    | false =>
      simp (disch := omega) only [joinF_eq, bindO_some, s_wr, s_td, s_tm, s_pos, s_neg, cond_true, cond_false, Bool.not_true, Bool.not_false, Bool.true_and, Bool.and_true, Bool.false_and, Bool.and_false, bne_self_eq_false, decide_true, decide_false, Int.toNat_natCast]
      rw [ih (u + 1) ⟨by omega, by omega⟩ (by omega)]
      congr 1
      refine propext ⟨fun ⟨i, h1, h2, h3⟩ => ⟨i, by omega, h2, h3⟩, fun ⟨i, h1, h2, h3⟩ => ⟨i, ?_, h2, h3⟩⟩
      by_cases e : i = u
      · subst e; rw [hp] at h3; cases h3
      · omega
  · simp (disch := omega) only [joinF_eq, bindO_some, s_wr, s_td, s_tm, s_pos, s_neg, cond_true, cond_false, Bool.not_true, Bool.not_false, Bool.true_and, Bool.and_true, Bool.false_and, Bool.and_false, bne_self_eq_false, decide_true, decide_false, Int.toNat_natCast]
    rw [if_neg]
    rintro ⟨i, h1, h2, _⟩
    omega
open Classical in
theorem spread_r (h0 : bitsE w h ds = 0) {x y n : Int} (hx0 : 0 ≤ x) (hx1 : x < 1024) (hy0 : 0 ≤ y) (hy1 : y < 1024) (hn0 : 0 ≤ n) (hn1 : n ≤ 16) :
    R_Spread_r fu ((w, (h, ds)), (x, (y, (n, ())))) = some (decide (near (pixB w h ds) n.toNat x y), ()) := by
  obtain ⟨d1, d2, d3, d4, d5⟩ := bitsE_dim h0
  unfold R_Spread_r
  simp (disch := omega) only [joinF_eq, bindO_some, s_wr, s_td, s_tm, s_pos, s_neg, cond_true, cond_false, Bool.not_true, Bool.not_false, Bool.true_and, Bool.and_true, Bool.false_and, Bool.and_false, bne_self_eq_false, decide_true, decide_false, Int.toNat_natCast]
  have key := loopF_spec (f := R_Spread_l1 fu ((w, (h, ds)), (x, (y, (n, ()))))) (fun v : Int => (y + n + 1 - v).toNat) (fun v => y - n ≤ v ∧ v ≤ y + n + 1) (fun v => if ∃ j, v ≤ j ∧ ∃ i, pixB w h ds i j = true ∧ (i - x).natAbs + (j - y).natAbs ≤ n.toNat then some (true, ()) else some (false, ())) ?_ fu (y - n) ⟨by omega, by omega⟩ (by omega)
  · rw [key]
    by_cases g : near (pixB w h ds) n.toNat x y
    · rw [if_pos, decide_eq_true g]
      obtain ⟨i, j, h1, h2⟩ := g
      exact ⟨j, by omega, i, h1, h2⟩
    · rw [if_neg, decide_eq_false g]
      rintro ⟨j, _, i, h1, h2⟩
      exact g ⟨i, j, h1, h2⟩
  · rintro j v ⟨k0, k1⟩ ih
    unfold R_Spread_l1
    by_cases hv : v ≤ y + n
    · have fin : ∀ f : Int, f = (v - y).natAbs → R_Spread_j2 fu ((w, (h, ds)), (x, (y, (n, ())))) v j f = if ∃ j, v ≤ j ∧ ∃ i, pixB w h ds i j = true ∧ (i - x).natAbs + (j - y).natAbs ≤ n.toNat then some (true, ()) else some (false, ()) := by
        intro f hf'
        unfold R_Spread_j2
        simp (disch := omega) only [joinF_eq, bindO_some, s_wr, s_td, s_tm, s_pos, s_neg, cond_true, cond_false, Bool.not_true, Bool.not_false, Bool.true_and, Bool.and_true, Bool.false_and, Bool.and_false, bne_self_eq_false, decide_true, decide_false, Int.toNat_natCast]
        rw [spread_l3 hf hb d1 d2 d3 d4 d5 hx0 hx1 hy0 hy1 hn0 hn1 (by omega) (by omega) (by omega) (by omega), ih (v + 1) ⟨by omega, by omega⟩ (by omega)]
        by_cases g : ∃ i, x - n + f ≤ i ∧ i ≤ x + n - f ∧ pixB w h ds i v = true
        · rw [if_pos g]
          obtain ⟨i, h1, h2, h3⟩ := g
          rw [if_pos ⟨v, by omega, i, h3, by omega⟩]
        · rw [if_neg g]
          congr 1
          refine propext ⟨fun ⟨j, h1, h2⟩ => ⟨j, by omega, h2⟩, fun ⟨j, h1, i, h2, h3⟩ => ⟨j, ?_, i, h2, h3⟩⟩
          by_cases e : j = v
          · subst e
            exact absurd ⟨i, by omega, by omega, h2⟩ g
          · omega
      simp (disch := omega) only [joinF_eq, bindO_some, s_wr, s_td, s_tm, s_pos, s_neg, cond_true, cond_false, Bool.not_true, Bool.not_false, Bool.true_and, Bool.and_true, Bool.false_and, Bool.and_false, bne_self_eq_false, decide_true, decide_false, Int.toNat_natCast]
      by_cases g : v - y < 0
      · simp (disch := omega) only [joinF_eq, bindO_some, s_wr, s_td, s_tm, s_pos, s_neg, cond_true, cond_false, Bool.not_true, Bool.not_false, Bool.true_and, Bool.and_true, Bool.false_and, Bool.and_false, bne_self_eq_false, decide_true, decide_false, Int.toNat_natCast]
        exact fin _ (by omega)
      · simp (disch := omega) only [joinF_eq, bindO_some, s_wr, s_td, s_tm, s_pos, s_neg, cond_true, cond_false, Bool.not_true, Bool.not_false, Bool.true_and, Bool.and_true, Bool.false_and, Bool.and_false, bne_self_eq_false, decide_true, decide_false, Int.toNat_natCast]
        exact fin _ (by omega)
    · simp (disch := omega) only [joinF_eq, bindO_some, s_wr, s_td, s_tm, s_pos, s_neg, cond_true, cond_false, Bool.not_true, Bool.not_false, Bool.true_and, Bool.and_true, Bool.false_and, Bool.and_false, bne_self_eq_false, decide_true, decide_false, Int.toNat_natCast]
      rw [if_neg]
      rintro ⟨j, h1, i, h2, h3⟩
      omega
end
end Go.Proofs.Ytnbmldnahacnlaa
/- BitmapGrowth: Turn, the reference's Turned, the law. -/
namespace Go.Proofs.Ytnbmldnahacnlaa
open Go Go.RowKit
set_option linter.unusedSimpArgs false
set_option linter.unusedSectionVars false
set_option linter.unusedVariables false

theorem onL_set {n : Nat} {G : Int → Bool} {k : Int} (h0 : 0 ≤ k) (h1 : k < n) : (onL n (fun i => G i && decide (i < k))).set k.toNat (G k) = onL n (fun i => G i && decide (i < k + 1)) := by
  refine List.ext_getElem (by rw [List.length_set, onL_length, onL_length]) fun q g1 g2 => ?_
  rw [List.getElem_set]
  have hq : q < n := by rw [onL_length] at g2; exact g2
  have get : ∀ (G' : Int → Bool) (hh : q < (onL n G').length), (onL n G')[q] = G' q := by
    intro G' hh
    simp only [onL, List.getElem_map, List.getElem_range]
  rw [get, get]
  split
  · rename_i e
    subst e
    rw [Int.toNat_of_nonneg h0, decide_eq_true (by omega), Bool.and_true]
  · by_cases g : (q : Int) < k
    · rw [decide_eq_true g, decide_eq_true (by omega)]
    · rw [decide_eq_false g, decide_eq_false (by omega)]
theorem onL_none {n : Nat} {G : Int → Bool} (h : ∀ i, 0 ≤ i → G i = false) : onL n G = List.replicate n false := by
  refine List.ext_getElem (by rw [onL_length, List.length_replicate]) fun q g1 g2 => ?_
  simp only [onL, List.getElem_map, List.getElem_range, List.getElem_replicate]
  exact h _ (by omega)
theorem onL_congr {n : Nat} {G G' : Int → Bool} (h : ∀ i : Int, 0 ≤ i → i < (n : Int) → G i = G' i) : onL n G = onL n G' := List.map_congr_left fun i hi => h i (by omega) (by have := List.mem_range.1 hi; omega)
section
variable {fu : Nat} (hf : 18446744073709551616 ≤ fu) {w h : Int} {ds : List Int} (hb : Bytes ds)
include hf hb
end
end Go.Proofs.Ytnbmldnahacnlaa
/- BitmapGrowth: Turn, Spread, the law. -/
namespace Go.Proofs.Ytnbmldnahacnlaa
open Go Go.RowKit
set_option linter.unusedSimpArgs false
set_option linter.unusedSectionVars false
set_option linter.unusedVariables false

section
variable {fu : Nat} (hf : 18446744073709551616 ≤ fu) {w h : Int} {ds : List Int} (hb : Bytes ds)
include hf
include hb
end
end Go.Proofs.Ytnbmldnahacnlaa
/- sheetWorks returns true. -/
namespace Go.Proofs.Ytnbmldnahacnlaa
open Go Go.RowKit

theorem sheetWorks_f : AF Try.prog 48 [] (.bool true) := AF.run ctx_ok 1000 20 (by kernel_rfl)
def law_sheetWorks_r (_ : Nat) (_ : Unit) : Option (Bool × Unit) := some (true, ())
def law_sheetWorks_ctr : Ctr := ⟨.unit, .pair .bool .unit, law_sheetWorks_r, 48⟩
theorem law_sheetWorks_ok : CtrOk Try.prog 48 law_sheetWorks_ctr := fun _ _ y h => by
  have h : some (true, ()) = some y := h
  injection h with h
  subst h
  exact sheetWorks_f
end Go.Proofs.Ytnbmldnahacnlaa
/- Residual programs of functions (printed by a program out of the code), checked by the kernel, and the contracts that follow. -/
namespace Go.Proofs.Ytnbmldnahacnlaa
open Go Go.RowKit
set_option linter.unusedVariables false
def sheet_Check_j1 (fu : Nat) (a : ((Int) × ((Int) × (List (Int)))) × (Unit)) (v0 : Bool) : Option ((Int) × (Unit)) :=
  bif v0 then
    some (((3 : Int), ()))
  else
  bif (decide ((List.length a.1.2.2 : Int) ≠ (IntKind.i64.wrap (a.1.1 * a.1.2.1)))) then
    some (((4 : Int), ()))
  else
  some (((0 : Int), ()))
def sheet_Check_r (fu : Nat) (a : ((Int) × ((Int) × (List (Int)))) × (Unit)) : Option ((Int) × (Unit)) :=
  joinF (sheet_Check_j1 fu a) fun j0 =>
  bif (decide (a.1.1 < (1 : Int))) then
    j0 (true)
  else
  bif (decide ((1024 : Int) < a.1.1)) then
    j0 (true)
  else
  bif (decide (a.1.2.1 < (1 : Int))) then
    j0 (true)
  else
  j0 ((decide ((1024 : Int) < a.1.2.1)))
def sheet_Check_an : An := (.n none .z (.n none (.n (some ⟨[1], [0], [], [.reg 20 .bool], 0, []⟩) .z (.n none (.n none .z .z) .z)) (.n none (.n none .z (.n none (.n none .z .z) .z)) (.n none .z .z))))
noncomputable def sheet_Check_dc : List (Nat × Ctr) := []
def sheet_Check_ctr : Ctr := ⟨(.pair (.agg (.pair (.int .i64) (.pair (.int .i64) (.list (.int .u8))))) .unit), (.pair (.int .i64) .unit), sheet_Check_r, 56⟩
theorem sheet_Check_ok : CtrOk Try.prog 56 sheet_Check_ctr := ctr_ok (l := sheet_Check_dc) (f := 12) (an := sheet_Check_an) trivial fun fu x => by kernel_rfl
def sheet_Ink_j3 (fu : Nat) (j4 : ((Int) × (List (Int))) → Option (((Int) × ((Int) × (List (Int)))) × ((Int) × (Unit)))) (v5 : (Int) × (List (Int))) : Option (((Int) × ((Int) × (List (Int)))) × ((Int) × (Unit))) :=
  j4 (((IntKind.i64.wrap (v5.1 + (1 : Int))), v5.2))
def sheet_Ink_l2 (fu : Nat) (a : ((Int) × ((Int) × (List (Int)))) × ((Int) × (Unit))) (j4 : ((Int) × (List (Int))) → Option (((Int) × ((Int) × (List (Int)))) × ((Int) × (Unit)))) (v4 : (Int) × (List (Int))) : Option (((Int) × ((Int) × (List (Int)))) × ((Int) × (Unit))) :=
  bif (decide (v4.1 < (List.length a.1.2.2 : Int))) then
    joinF (sheet_Ink_j3 fu j4) fun j5 =>
    bif ((decide ((0 : Int) ≤ v4.1)) && (decide (v4.1 < (List.length a.1.2.2 : Int)))) then
    let v6 : Int := (List.getD a.1.2.2 (Int.toNat v4.1) 0)
    let v7 : Int := v4.1
    bif ((decide ((0 : Int) ≤ a.2.1)) && (decide (a.2.1 ≤ (8 : Int)))) then
    bif (decide ((bits BinOp.and IntKind.u8 (v6 / 2 ^ (Int.toNat a.2.1)) (1 : Int)) = (1 : Int))) then
      bif (decide (a.1.1 ≠ (0 : Int))) then
      bif (decide (a.1.1 ≠ (0 : Int))) then
      bindO (bitmap_stride_r fu ((a.1.1, ()))) fun v8 =>
      bif ((decide ((0 : Int) ≤ (IntKind.i64.wrap ((IntKind.i64.wrap ((IntKind.i64.wrap (Int.tdiv v7 a.1.1)) * v8.1)) + (IntKind.i64.wrap (Int.tdiv (Int.tmod v7 a.1.1) (8 : Int))))))) && (decide ((IntKind.i64.wrap ((IntKind.i64.wrap ((IntKind.i64.wrap (Int.tdiv v7 a.1.1)) * v8.1)) + (IntKind.i64.wrap (Int.tdiv (Int.tmod v7 a.1.1) (8 : Int))))) < (List.length v4.2 : Int)))) then
      bif ((decide ((0 : Int) ≤ (Int.tmod (Int.tmod v7 a.1.1) (8 : Int)))) && (decide ((Int.tmod (Int.tmod v7 a.1.1) (8 : Int)) ≤ (8 : Int)))) then
      bif ((decide ((0 : Int) ≤ (IntKind.i64.wrap ((IntKind.i64.wrap ((IntKind.i64.wrap (Int.tdiv v7 a.1.1)) * v8.1)) + (IntKind.i64.wrap (Int.tdiv (Int.tmod v7 a.1.1) (8 : Int))))))) && (decide ((IntKind.i64.wrap ((IntKind.i64.wrap ((IntKind.i64.wrap (Int.tdiv v7 a.1.1)) * v8.1)) + (IntKind.i64.wrap (Int.tdiv (Int.tmod v7 a.1.1) (8 : Int))))) < (List.length v4.2 : Int)))) then
      j5 ((v4.1, (List.set v4.2 (Int.toNat (IntKind.i64.wrap ((IntKind.i64.wrap ((IntKind.i64.wrap (Int.tdiv v7 a.1.1)) * v8.1)) + (IntKind.i64.wrap (Int.tdiv (Int.tmod v7 a.1.1) (8 : Int)))))) (bits BinOp.or IntKind.u8 (List.getD v4.2 (Int.toNat (IntKind.i64.wrap ((IntKind.i64.wrap ((IntKind.i64.wrap (Int.tdiv v7 a.1.1)) * v8.1)) + (IntKind.i64.wrap (Int.tdiv (Int.tmod v7 a.1.1) (8 : Int)))))) 0) ((128 : Int) / 2 ^ (Int.toNat (Int.tmod (Int.tmod v7 a.1.1) (8 : Int))))))))
      else none
      else none
      else none
      else none
      else none
    else
    j5 ((v4.1, v4.2))
    else none
    else none
  else
  some (((a.1.1, (a.1.2.1, v4.2)), ((0 : Int), ())))
def sheet_Ink_j1 (fu : Nat) (a : ((Int) × ((Int) × (List (Int)))) × ((Int) × (Unit))) (v2 : Bool) : Option (((Int) × ((Int) × (List (Int)))) × ((Int) × (Unit))) :=
  bif v2 then
    some ((((0 : Int), ((0 : Int), ([] : List (Int)))), ((3 : Int), ())))
  else
  bindO (bitmap_stride_r fu ((a.1.1, ()))) fun v3 =>
  bif ((decide ((0 : Int) ≤ (IntKind.i64.wrap (v3.1 * a.1.2.1)))) && (decide (((1 : Int) * (IntKind.i64.wrap (v3.1 * a.1.2.1))) ≤ (281474976710656 : Int)))) then
  loopF (sheet_Ink_l2 fu a) fu (((0 : Int), (List.replicate (Int.toNat (IntKind.i64.wrap (v3.1 * a.1.2.1))) (0 : Int))))
  else none
def sheet_Ink_r (fu : Nat) (a : ((Int) × ((Int) × (List (Int)))) × ((Int) × (Unit))) : Option (((Int) × ((Int) × (List (Int)))) × ((Int) × (Unit))) :=
  bindO (sheet_Check_r fu (((a.1.1, (a.1.2.1, a.1.2.2)), ()))) fun v0 =>
  let v1 : Int := v0.1
  bif (decide (v1 ≠ (0 : Int))) then
    some ((((0 : Int), ((0 : Int), ([] : List (Int)))), (v1, ())))
  else
  joinF (sheet_Ink_j1 fu a) fun j2 =>
  bif (decide (a.2.1 < (0 : Int))) then
    j2 (true)
  else
  j2 ((decide ((8 : Int) ≤ a.2.1)))
def sheet_Ink_an : An := (.n none .z (.n none (.n none .z (.n none .z (.n none (.n none .z .z) .z))) (.n none (.n (some ⟨[4, 1, 2], [0, 1], [], [.reg 21 .bool], 0, []⟩) .z (.n none (.n none .z .z) .z)) (.n none (.ops [(4, (.n none (.n none .z (.n none .z .z)) .z))]) (.n none (.n none .z (.n none (.n (some ⟨[4, 7, 29, 1, 2, 30], [1, 4, 0], [], [.reg 31 (.int .i64), .row 3 true (.int .u8) 5 0], 0, []⟩) (.n none .z (.n none .z (.n (some ⟨[], [], [], [.reg 31 (.int .i64), .row 3 true (.int .u8) 5 0], 0, []⟩) (.n none (.n none .z (.n none .z (.n none (.dr [] [(8, (.n none (.dr [] []) .z))]) .z))) .z) .z))) .z) .z)) (.n none .z .z))))))
noncomputable def sheet_Ink_dc : List (Nat × Ctr) := [(56, sheet_Check_ctr), (69, bitmap_stride_ctr)]
def sheet_Ink_ctr : Ctr := ⟨(.pair (.agg (.pair (.int .i64) (.pair (.int .i64) (.list (.int .u8))))) (.pair (.int .i64) .unit)), (.pair (.agg (.pair (.int .i64) (.pair (.int .i64) (.list (.int .u8))))) (.pair (.int .i64) .unit)), sheet_Ink_r, 53⟩
theorem sheet_Ink_ok : CtrOk Try.prog 53 sheet_Ink_ctr := ctr_ok (l := sheet_Ink_dc) (f := 12) (an := sheet_Ink_an) ⟨sheet_Check_ok, ⟨bitmap_stride_ok, trivial⟩⟩ fun fu x => by kernel_rfl
def R_Floor_j1 (fu : Nat) (v1 : Int) : Option ((Int) × (Unit)) :=
  some ((v1, ()))
def R_Floor_r (fu : Nat) (a : (Int) × ((Int) × (Unit))) : Option ((Int) × (Unit)) :=
  bif (decide (a.2.1 ≠ (0 : Int))) then
  let v0 : Int := (IntKind.i64.wrap (Int.tdiv a.1 a.2.1))
  joinF (R_Floor_j1 fu) fun j1 =>
  bif (decide (a.1 < (IntKind.i64.wrap (v0 * a.2.1)))) then
    let v2 : Int := (IntKind.i64.wrap (v0 - (1 : Int)))
    j1 (v2)
  else
  j1 (v0)
  else none
def R_Floor_an : An := (.n none .z (.n none .z (.n (some ⟨[], [], [], [.reg 5 (.int .i64)], 0, []⟩) (.n none .z (.n none .z .z)) (.n none .z .z))))
noncomputable def R_Floor_dc : List (Nat × Ctr) := []
def R_Floor_ctr : Ctr := ⟨(.pair (.int .i64) (.pair (.int .i64) .unit)), (.pair (.int .i64) .unit), R_Floor_r, 26⟩
theorem R_Floor_ok : CtrOk Try.prog 26 R_Floor_ctr := ctr_ok (l := R_Floor_dc) (f := 12) (an := R_Floor_an) trivial fun fu x => by kernel_rfl
def R_Mod_r (fu : Nat) (a : (Int) × ((Int) × (Unit))) : Option ((Int) × (Unit)) :=
  bindO (R_Floor_r fu ((a.1, (a.2.1, ())))) fun v0 =>
  let v1 : Int := (IntKind.i64.wrap (a.1 - (IntKind.i64.wrap (a.2.1 * v0.1))))
  some ((v1, ()))
def R_Mod_an : An := (.n none .z (.n none .z .z))
noncomputable def R_Mod_dc : List (Nat × Ctr) := [(26, R_Floor_ctr)]
def R_Mod_ctr : Ctr := ⟨(.pair (.int .i64) (.pair (.int .i64) .unit)), (.pair (.int .i64) .unit), R_Mod_r, 27⟩
theorem R_Mod_ok : CtrOk Try.prog 27 R_Mod_ctr := ctr_ok (l := R_Mod_dc) (f := 12) (an := R_Mod_an) ⟨R_Floor_ok, trivial⟩ fun fu x => by kernel_rfl
def law_blank_r (fu : Nat) (a : ((Int) × ((Int) × (List (Int)))) × ((Int) × ((Int) × (Unit)))) : Option ((Bool) × (Unit)) :=
  bif (decide (a.1.1 = (0 : Int))) then
    bif (decide (a.1.2.1 = (0 : Int))) then
      bif (decide ((List.length a.1.2.2 : Int) = (0 : Int))) then
        let v0 : Bool := (decide (a.2.1 = a.2.2.1))
        some ((v0, ()))
      else
      some ((false, ()))
    else
    some ((false, ()))
  else
  some ((false, ()))
def law_blank_an : An := (.n none .z (.n none .z .z))
noncomputable def law_blank_dc : List (Nat × Ctr) := []
def law_blank_ctr : Ctr := ⟨(.pair (.agg (.pair (.int .i64) (.pair (.int .i64) (.list (.int .u8))))) (.pair (.int .i64) (.pair (.int .i64) .unit))), (.pair .bool .unit), law_blank_r, 52⟩
theorem law_blank_ok : CtrOk Try.prog 52 law_blank_ctr := ctr_ok (l := law_blank_dc) (f := 12) (an := law_blank_an) trivial fun fu x => by kernel_rfl
def sheet_check_j5 (fu : Nat) (v3 : Int) (j3 : (Int) → Option ((Int) × (Unit))) (v10 : Bool) : Option ((Int) × (Unit)) :=
  bif v10 then
    some (((3 : Int), ()))
  else
  j3 ((IntKind.i64.wrap (v3 + (1 : Int))))
def sheet_check_j4 (fu : Nat) (a : (List ((Int) × ((Int) × (List (Int))))) × ((List (Int)) × ((List ((Int) × (Int))) × (Unit)))) (v3 : Int) (j3 : (Int) → Option ((Int) × (Unit))) (v8 : Bool) : Option ((Int) × (Unit)) :=
  bif v8 then
    some (((3 : Int), ()))
  else
  bif ((decide ((0 : Int) ≤ v3)) && (decide (v3 < (List.length a.2.2.1 : Int)))) then
  let v9 : (Int) × (Int) := (List.getD a.2.2.1 (Int.toNat v3) (0, 0))
  joinF (sheet_check_j5 fu v3 j3) fun j10 =>
  bif (decide (v9.1 < (-1024 : Int))) then
    j10 (true)
  else
  bif (decide ((1024 : Int) < v9.1)) then
    j10 (true)
  else
  bif (decide (v9.2 < (-1024 : Int))) then
    j10 (true)
  else
  j10 ((decide ((1024 : Int) < v9.2)))
  else none
def sheet_check_j3 (fu : Nat) (a : (List ((Int) × ((Int) × (List (Int))))) × ((List (Int)) × ((List ((Int) × (Int))) × (Unit)))) (v3 : Int) (j3 : (Int) → Option ((Int) × (Unit))) (v7 : Bool) : Option ((Int) × (Unit)) :=
  bif v7 then
    some (((4 : Int), ()))
  else
  joinF (sheet_check_j4 fu a v3 j3) fun j8 =>
  bif ((decide ((0 : Int) ≤ v3)) && (decide (v3 < (List.length a.2.1 : Int)))) then
  let v9 : Int := (List.getD a.2.1 (Int.toNat v3) 0)
  bif (decide (v9 < (0 : Int))) then
    j8 (true)
  else
  bif ((decide ((0 : Int) ≤ v3)) && (decide (v3 < (List.length a.2.1 : Int)))) then
  let v10 : Int := (List.getD a.2.1 (Int.toNat v3) 0)
  j8 ((decide ((16 : Int) < v10)))
  else none
  else none
def sheet_check_l2 (fu : Nat) (a : (List ((Int) × ((Int) × (List (Int))))) × ((List (Int)) × ((List ((Int) × (Int))) × (Unit)))) (j3 : (Int) → Option ((Int) × (Unit))) (v3 : Int) : Option ((Int) × (Unit)) :=
  bif (decide (v3 < (List.length a.1 : Int))) then
    bif ((decide ((0 : Int) ≤ v3)) && (decide (v3 < (List.length a.1 : Int)))) then
    let v4 : (Int) × ((Int) × (List (Int))) := (List.getD a.1 (Int.toNat v3) (0, (0, [])))
    bindO (bitmap_Check_r fu (((v4.1, (v4.2.1, v4.2.2)), ()))) fun v5 =>
    let v6 : Int := v5.1
    bif (decide (v6 ≠ (0 : Int))) then
      some ((v6, ()))
    else
    joinF (sheet_check_j3 fu a v3 j3) fun j7 =>
    bif (decide ((0 : Int) < (List.length a.1 : Int))) then
    let v8 : (Int) × ((Int) × (List (Int))) := (List.getD a.1 (Int.toNat (0 : Int)) (0, (0, [])))
    bif (decide (v4.1 ≠ v8.1)) then
      j7 (true)
    else
    bif (decide ((0 : Int) < (List.length a.1 : Int))) then
    let v9 : (Int) × ((Int) × (List (Int))) := (List.getD a.1 (Int.toNat (0 : Int)) (0, (0, [])))
    j7 ((decide (v4.2.1 ≠ v9.2.1)))
    else none
    else none
    else none
  else
  some (((0 : Int), ()))
def sheet_check_j1 (fu : Nat) (a : (List ((Int) × ((Int) × (List (Int))))) × ((List (Int)) × ((List ((Int) × (Int))) × (Unit)))) (v2 : Bool) : Option ((Int) × (Unit)) :=
  bif v2 then
    some (((4 : Int), ()))
  else
  loopF (sheet_check_l2 fu a) fu ((0 : Int))
def sheet_check_r (fu : Nat) (a : (List ((Int) × ((Int) × (List (Int))))) × ((List (Int)) × ((List ((Int) × (Int))) × (Unit)))) : Option ((Int) × (Unit)) :=
  let v0 : Bool := (decide ((8 : Int) < (List.length a.1 : Int)))
  bif v0 then
    some (((2 : Int), ()))
  else
  let v1 : Bool := (decide ((List.length a.1 : Int) = (0 : Int)))
  bif v1 then
    some (((1 : Int), ()))
  else
  joinF (sheet_check_j1 fu a) fun j2 =>
  bif (decide ((List.length a.2.1 : Int) ≠ (List.length a.1 : Int))) then
    j2 (true)
  else
  let v3 : Bool := (decide ((List.length a.2.2.1 : Int) ≠ (List.length a.1 : Int)))
  j2 (v3)
def sheet_check_an : An := (.n none .z (.n none (.n none (.n none .z (.n none (.n none .z .z) (.n none .z (.n none (.n none .z .z) (.n (some ⟨[0, 1, 2], [], [], [.reg 19 .bool], 0, []⟩) .z (.n none (.n none .z .z) .z)))))) .z) (.n none (.n none .z (.n none (.n (some ⟨[32, 0, 1, 2, 33], [], [], [.reg 34 (.int .i64)], 0, []⟩) (.n none .z (.n none .z (.n none (.n none (.n none .z (.n none (.n none .z (.n none .z (.n none (.n none .z .z) .z))) (.n none (.n (some ⟨[7, 34], [0], [], [.reg 59 .bool], 0, []⟩) (.dr [] []) (.n none (.n none .z .z) .z)) (.n none (.n (some ⟨[7, 34], [], [], [.reg 71 .bool], 0, []⟩) .z (.n none (.n none .z .z) .z)) (.n none .z (.n (some ⟨[34], [1], [], [.reg 93 .bool], 0, []⟩) .z (.n none (.n none .z .z) .z))))))) .z) .z))) .z) .z)) (.n none .z .z))))
noncomputable def sheet_check_dc : List (Nat × Ctr) := [(38, bitmap_Check_ctr)]
def sheet_check_ctr : Ctr := ⟨(.pair (.list (.pair (.int .i64) (.pair (.int .i64) (.list (.int .u8))))) (.pair (.list (.int .i64)) (.pair (.list (.pair (.int .i64) (.int .i64))) .unit))), (.pair (.int .i64) .unit), sheet_check_r, 80⟩
theorem sheet_check_ok : CtrOk Try.prog 80 sheet_check_ctr := ctr_ok (l := sheet_check_dc) (f := 12) (an := sheet_check_an) ⟨bitmap_Check_ok, trivial⟩ fun fu x => by kernel_rfl
def sheet_Print_j4 (fu : Nat) (j13 : ((Int) × (List (Int))) → Option (((Int) × ((Int) × (List (Int)))) × ((Int) × (Unit)))) (v14 : (Int) × (List (Int))) : Option (((Int) × ((Int) × (List (Int)))) × ((Int) × (Unit))) :=
  j13 (((IntKind.i64.wrap (v14.1 + (1 : Int))), v14.2))
def sheet_Print_l3 (fu : Nat) (a : (List ((Int) × ((Int) × (List (Int))))) × ((List (Int)) × ((List ((Int) × (Int))) × (Unit)))) (v2 : (Int) × ((Int) × (List (Int)))) (v7 : Int) (v10 : ((Int) × ((Int) × (List (Int)))) × (Unit)) (v11 : (Int) × (List (Int))) (v12 : Int) (j11 : ((Int) × (List (Int))) → Option (((Int) × ((Int) × (List (Int)))) × ((Int) × (Unit)))) (j13 : ((Int) × (List (Int))) → Option (((Int) × ((Int) × (List (Int)))) × ((Int) × (Unit)))) (v13 : (Int) × (List (Int))) : Option (((Int) × ((Int) × (List (Int)))) × ((Int) × (Unit))) :=
  bif (decide (v13.1 < v2.1)) then
    joinF (sheet_Print_j4 fu j13) fun j14 =>
    let v15 : Int := v13.1
    bif ((decide ((0 : Int) ≤ v7)) && (decide (v7 < (List.length a.2.2.1 : Int)))) then
    let v16 : (Int) × (Int) := (List.getD a.2.2.1 (Int.toNat v7) (0, 0))
    bif ((decide ((0 : Int) ≤ v7)) && (decide (v7 < (List.length a.2.2.1 : Int)))) then
    let v17 : (Int) × (Int) := (List.getD a.2.2.1 (Int.toNat v7) (0, 0))
    bindO (bitmap_Is_r fu (((v10.1.1, (v10.1.2.1, v10.1.2.2)), ((IntKind.i64.wrap (v15 - v16.1)), ((IntKind.i64.wrap (v12 - v17.2)), ()))))) fun v18 =>
    bif v18.1 then
      bif ((decide ((0 : Int) ≤ (IntKind.i64.wrap ((IntKind.i64.wrap (v12 * v2.1)) + v15)))) && (decide ((IntKind.i64.wrap ((IntKind.i64.wrap (v12 * v2.1)) + v15)) < (List.length v13.2 : Int)))) then
      bif ((decide ((0 : Int) ≤ v7)) && (decide (v7 ≤ (8 : Int)))) then
      bif ((decide ((0 : Int) ≤ (IntKind.i64.wrap ((IntKind.i64.wrap (v12 * v2.1)) + v15)))) && (decide ((IntKind.i64.wrap ((IntKind.i64.wrap (v12 * v2.1)) + v15)) < (List.length v13.2 : Int)))) then
      j14 ((v13.1, (List.set v13.2 (Int.toNat (IntKind.i64.wrap ((IntKind.i64.wrap (v12 * v2.1)) + v15))) (bits BinOp.or IntKind.u8 (List.getD v13.2 (Int.toNat (IntKind.i64.wrap ((IntKind.i64.wrap (v12 * v2.1)) + v15))) 0) (IntKind.u8.wrap ((1 : Int) * 2 ^ (Int.toNat v7)))))))
      else none
      else none
      else none
    else
    j14 ((v13.1, v13.2))
    else none
    else none
  else
  j11 (((IntKind.i64.wrap (v11.1 + (1 : Int))), v13.2))
def sheet_Print_l2 (fu : Nat) (a : (List ((Int) × ((Int) × (List (Int))))) × ((List (Int)) × ((List ((Int) × (Int))) × (Unit)))) (v2 : (Int) × ((Int) × (List (Int)))) (v3 : (Int) × ((Int) × (List (Int)))) (v6 : (Int) × (List (Int))) (v7 : Int) (v10 : ((Int) × ((Int) × (List (Int)))) × (Unit)) (j6 : ((Int) × (List (Int))) → Option (((Int) × ((Int) × (List (Int)))) × ((Int) × (Unit)))) (j11 : ((Int) × (List (Int))) → Option (((Int) × ((Int) × (List (Int)))) × ((Int) × (Unit)))) (v11 : (Int) × (List (Int))) : Option (((Int) × ((Int) × (List (Int)))) × ((Int) × (Unit))) :=
  bif (decide (v11.1 < v3.2.1)) then
    let v12 : Int := v11.1
    loopF (sheet_Print_l3 fu a v2 v7 v10 v11 v12 j11) fu (((0 : Int), v11.2))
  else
  j6 (((IntKind.i64.wrap (v6.1 + (1 : Int))), v11.2))
def sheet_Print_l1 (fu : Nat) (a : (List ((Int) × ((Int) × (List (Int))))) × ((List (Int)) × ((List ((Int) × (Int))) × (Unit)))) (v2 : (Int) × ((Int) × (List (Int)))) (v3 : (Int) × ((Int) × (List (Int)))) (j6 : ((Int) × (List (Int))) → Option (((Int) × ((Int) × (List (Int)))) × ((Int) × (Unit)))) (v6 : (Int) × (List (Int))) : Option (((Int) × ((Int) × (List (Int)))) × ((Int) × (Unit))) :=
  bif (decide (v6.1 < (List.length a.1 : Int))) then
    let v7 : Int := v6.1
    bif ((decide ((0 : Int) ≤ v7)) && (decide (v7 < (List.length a.1 : Int)))) then
    let v8 : (Int) × ((Int) × (List (Int))) := (List.getD a.1 (Int.toNat v7) (0, (0, [])))
    bif ((decide ((0 : Int) ≤ v7)) && (decide (v7 < (List.length a.2.1 : Int)))) then
    let v9 : Int := (List.getD a.2.1 (Int.toNat v7) 0)
    bindO (bitmap_Grown_r fu ((v8, (v9, ())))) fun v10 =>
    loopF (sheet_Print_l2 fu a v2 v3 v6 v7 v10 j6) fu (((0 : Int), v6.2))
    else none
    else none
  else
  some (((v2.1, (v3.2.1, v6.2)), ((0 : Int), ())))
def sheet_Print_r (fu : Nat) (a : (List ((Int) × ((Int) × (List (Int))))) × ((List (Int)) × ((List ((Int) × (Int))) × (Unit)))) : Option (((Int) × ((Int) × (List (Int)))) × ((Int) × (Unit))) :=
  bindO (sheet_check_r fu ((a.1, (a.2.1, (a.2.2.1, ()))))) fun v0 =>
  let v1 : Int := v0.1
  bif (decide (v1 ≠ (0 : Int))) then
    some ((((0 : Int), ((0 : Int), ([] : List (Int)))), (v1, ())))
  else
  bif (decide ((0 : Int) < (List.length a.1 : Int))) then
  let v2 : (Int) × ((Int) × (List (Int))) := (List.getD a.1 (Int.toNat (0 : Int)) (0, (0, [])))
  bif (decide ((0 : Int) < (List.length a.1 : Int))) then
  let v3 : (Int) × ((Int) × (List (Int))) := (List.getD a.1 (Int.toNat (0 : Int)) (0, (0, [])))
  bif (decide ((0 : Int) < (List.length a.1 : Int))) then
  let v4 : (Int) × ((Int) × (List (Int))) := (List.getD a.1 (Int.toNat (0 : Int)) (0, (0, [])))
  bif (decide ((0 : Int) < (List.length a.1 : Int))) then
  let v5 : (Int) × ((Int) × (List (Int))) := (List.getD a.1 (Int.toNat (0 : Int)) (0, (0, [])))
  bif ((decide ((0 : Int) ≤ (IntKind.i64.wrap (v4.1 * v5.2.1)))) && (decide (((1 : Int) * (IntKind.i64.wrap (v4.1 * v5.2.1))) ≤ (281474976710656 : Int)))) then
  loopF (sheet_Print_l1 fu a v2 v3) fu (((0 : Int), (List.replicate (Int.toNat (IntKind.i64.wrap (v4.1 * v5.2.1))) (0 : Int))))
  else none
  else none
  else none
  else none
  else none
def sheet_Print_an : An := (.n none .z (.n none (.n none .z (.n none .z (.n none (.n none .z .z) .z))) (.n none (.dr [] []) (.n none (.n none .z (.n none (.n (some ⟨[6, 9, 0, 1, 2, 42, 7], [0, 2], [], [.reg 43 (.int .i64), .row 1 true (.int .u8) 5 0], 0, []⟩) (.n none .z (.n none .z (.n none (.n none (.n none .z (.n none (.dr [] []) (.n none .z (.n none (.n (some ⟨[43, 11, 10, 55], [3], [], [.reg 56 (.int .i64), .row 1 true (.int .u8) 5 0], 0, []⟩) (.n none .z (.n none .z (.n none (.n none (.n none .z (.n none .z (.n none (.n (some ⟨[56, 12, 60], [], [], [.reg 61 (.int .i64), .row 1 true (.int .u8) 5 0], 0, []⟩) (.n none .z (.n none .z (.n (some ⟨[], [], [], [.reg 61 (.int .i64), .row 1 true (.int .u8) 5 0], 0, []⟩) (.n none (.n none .z (.n none (.dr [] []) (.n none (.dr [] []) .z))) .z) .z))) .z) .z))) .z) .z))) .z) .z)))) .z) .z))) .z) .z)) (.n none .z .z)))))
noncomputable def sheet_Print_dc : List (Nat × Ctr) := [(60, bitmap_Is_ctr), (67, bitmap_Grown_ctr), (80, sheet_check_ctr)]
def sheet_Print_ctr : Ctr := ⟨(.pair (.list (.pair (.int .i64) (.pair (.int .i64) (.list (.int .u8))))) (.pair (.list (.int .i64)) (.pair (.list (.pair (.int .i64) (.int .i64))) .unit))), (.pair (.agg (.pair (.int .i64) (.pair (.int .i64) (.list (.int .u8))))) (.pair (.int .i64) .unit)), sheet_Print_r, 51⟩
theorem sheet_Print_ok : CtrOk Try.prog 51 sheet_Print_ctr := ctr_ok (l := sheet_Print_dc) (f := 12) (an := sheet_Print_an) ⟨bitmap_Is_ok, ⟨bitmap_Grown_ok, ⟨sheet_check_ok, trivial⟩⟩⟩ fun fu x => by kernel_rfl
def law_SheetPrints_j6 (fu : Nat) (j13 : ((Int) × (Int)) → Option ((Bool) × (Unit))) (v14 : (Int) × (Int)) : Option ((Bool) × (Unit)) :=
  j13 ((v14.2, (IntKind.i64.wrap (v14.1 + (1 : Int)))))
def law_SheetPrints_j7 (fu : Nat) (v13 : (Int) × (Int)) (v16 : Int) (j14 : ((Int) × (Int)) → Option ((Bool) × (Unit))) (v21 : (Bool) × (Int)) : Option ((Bool) × (Unit)) :=
  bif v21.1 then
    bif ((decide ((0 : Int) ≤ v16)) && (decide (v16 ≤ (64 : Int)))) then
    let v22 : Int := (bits BinOp.or IntKind.i64 v21.2 (IntKind.i64.wrap ((1 : Int) * 2 ^ (Int.toNat v16))))
    j14 ((v13.2, v22))
    else none
  else
  j14 ((v13.2, v21.2))
def law_SheetPrints_l5 (fu : Nat) (a : (List ((Int) × ((Int) × (List (Int))))) × ((List (Int)) × ((List ((Int) × (Int))) × ((Int) × (Unit))))) (v1 : ((Int) × ((Int) × (List (Int)))) × ((Int) × (Unit))) (v9 : Int) (v10 : (Int) × (List (Bool))) (v11 : Int) (v12 : Int) (j10 : ((Int) × (List (Bool))) → Option ((Bool) × (Unit))) (j13 : ((Int) × (Int)) → Option ((Bool) × (Unit))) (v13 : (Int) × (Int)) : Option ((Bool) × (Unit)) :=
  bif (decide (v13.2 < (List.length a.1 : Int))) then
    joinF (law_SheetPrints_j6 fu j13) fun j14 =>
    bif ((decide ((0 : Int) ≤ v13.2)) && (decide (v13.2 < (List.length a.1 : Int)))) then
    let v15 : (Int) × ((Int) × (List (Int))) := (List.getD a.1 (Int.toNat v13.2) (0, (0, [])))
    let v16 : Int := v13.2
    bif (decide (v1.1.1 ≠ (0 : Int))) then
    bif ((decide ((0 : Int) ≤ v16)) && (decide (v16 < (List.length a.2.2.1 : Int)))) then
    let v17 : (Int) × (Int) := (List.getD a.2.2.1 (Int.toNat v16) (0, 0))
    bif (decide (v1.1.1 ≠ (0 : Int))) then
    bif ((decide ((0 : Int) ≤ v16)) && (decide (v16 < (List.length a.2.2.1 : Int)))) then
    let v18 : (Int) × (Int) := (List.getD a.2.2.1 (Int.toNat v16) (0, 0))
    let v19 : Int := (IntKind.i64.wrap ((Int.tmod v12 v1.1.1) - v17.1))
    let v20 : Int := (IntKind.i64.wrap ((IntKind.i64.wrap (Int.tdiv v12 v1.1.1)) - v18.2))
    joinF (law_SheetPrints_j7 fu v13 v16 j14) fun j21 =>
    bindO (R_Within_r fu ((v19, ((0 : Int), ((IntKind.i64.wrap (v1.1.1 - (1 : Int))), ()))))) fun v22 =>
    bif v22.1 then
      bindO (R_Within_r fu ((v20, ((0 : Int), ((IntKind.i64.wrap (v1.1.2.1 - (1 : Int))), ()))))) fun v23 =>
      bif v23.1 then
        bif ((decide ((0 : Int) ≤ v16)) && (decide (v16 < (List.length a.2.1 : Int)))) then
        let v24 : Int := (List.getD a.2.1 (Int.toNat v16) 0)
        bindO (R_Spread_r fu (((v15.1, (v15.2.1, v15.2.2)), (v19, (v20, (v24, ())))))) fun v25 =>
        j21 ((v25.1, v13.1))
        else none
      else
      j21 ((false, v13.1))
    else
    j21 ((false, v13.1))
    else none
    else none
    else none
    else none
    else none
  else
  bif (decide ((IntKind.i64.wrap v11) ≠ v13.1)) then
    some ((false, ()))
  else
  bif ((decide ((0 : Int) ≤ v9)) && (decide (v9 ≤ (64 : Int)))) then
  bif ((decide ((0 : Int) ≤ v12)) && (decide (v12 < (List.length v10.2 : Int)))) then
  j10 (((IntKind.i64.wrap (v10.1 + (1 : Int))), (List.set v10.2 (Int.toNat v12) (decide ((bits BinOp.and IntKind.i64 (v13.1 / 2 ^ (Int.toNat v9)) (1 : Int)) = (1 : Int))))))
  else none
  else none
def law_SheetPrints_l4 (fu : Nat) (a : (List ((Int) × ((Int) × (List (Int))))) × ((List (Int)) × ((List ((Int) × (Int))) × ((Int) × (Unit))))) (v1 : ((Int) × ((Int) × (List (Int)))) × ((Int) × (Unit))) (v9 : Int) (j10 : ((Int) × (List (Bool))) → Option ((Bool) × (Unit))) (v10 : (Int) × (List (Bool))) : Option ((Bool) × (Unit)) :=
  bif (decide (v10.1 < (List.length v1.1.2.2 : Int))) then
    bif ((decide ((0 : Int) ≤ v10.1)) && (decide (v10.1 < (List.length v1.1.2.2 : Int)))) then
    let v11 : Int := (List.getD v1.1.2.2 (Int.toNat v10.1) 0)
    let v12 : Int := v10.1
    loopF (law_SheetPrints_l5 fu a v1 v9 v10 v11 v12 j10) fu (((0 : Int), (0 : Int)))
    else none
  else
  bindO (sheet_Ink_r fu (((v1.1.1, (v1.1.2.1, v1.1.2.2)), (v9, ())))) fun v11 =>
  let v12 : Int := v11.2.1
  bif (decide (v12 = (0 : Int))) then
    bindO (R_Drawn_r fu ((v1.1.1, (v1.1.2.1, (v10.2, ()))))) fun v13 =>
    bindO (R_SameBits_r fu (((v11.1.1, (v11.1.2.1, v11.1.2.2)), ((v13.1.1, (v13.1.2.1, v13.1.2.2)), ())))) fun v14 =>
    let v15 : Bool := v14.1
    some ((v15, ()))
  else
  some ((false, ()))
def law_SheetPrints_j3 (fu : Nat) (a : (List ((Int) × ((Int) × (List (Int))))) × ((List (Int)) × ((List ((Int) × (Int))) × ((Int) × (Unit))))) (v1 : ((Int) × ((Int) × (List (Int)))) × ((Int) × (Unit))) (v4 : (Int) × (Int)) (v7 : Bool) : Option ((Bool) × (Unit)) :=
  bif v7 then
    some ((false, ()))
  else
  bif ((decide ((0 : Int) ≤ (List.length v1.1.2.2 : Int))) && (decide (((1 : Int) * (List.length v1.1.2.2 : Int)) ≤ (281474976710656 : Int)))) then
  bindO (R_Mod_r fu ((v4.2, ((List.length a.1 : Int), ())))) fun v8 =>
  let v9 : Int := v8.1
  loopF (law_SheetPrints_l4 fu a v1 v9) fu (((0 : Int), (List.replicate (Int.toNat (List.length v1.1.2.2 : Int)) false)))
  else none
def law_SheetPrints_j2 (fu : Nat) (a : (List ((Int) × ((Int) × (List (Int))))) × ((List (Int)) × ((List ((Int) × (Int))) × ((Int) × (Unit))))) (v1 : ((Int) × ((Int) × (List (Int)))) × ((Int) × (Unit))) (v2 : Int) (v4 : (Int) × (Int)) : Option ((Bool) × (Unit)) :=
  bif (decide (v4.1 ≠ (0 : Int))) then
    bindO (law_blank_r fu (((v1.1.1, (v1.1.2.1, v1.1.2.2)), (v2, (v4.1, ()))))) fun v5 =>
    let v6 : Bool := v5.1
    some ((v6, ()))
  else
  bif (decide ((0 : Int) < (List.length a.1 : Int))) then
  let v5 : (Int) × ((Int) × (List (Int))) := (List.getD a.1 (Int.toNat (0 : Int)) (0, (0, [])))
  bindO (law_big_r fu (((v5.1, (v5.2.1, v5.2.2)), ()))) fun v6 =>
  bif v6.1 then
    some ((true, ()))
  else
  joinF (law_SheetPrints_j3 fu a v1 v4) fun j7 =>
  bif (decide (v2 ≠ (0 : Int))) then
    j7 (true)
  else
  bif (decide ((0 : Int) < (List.length a.1 : Int))) then
  let v8 : (Int) × ((Int) × (List (Int))) := (List.getD a.1 (Int.toNat (0 : Int)) (0, (0, [])))
  bif (decide (v1.1.1 ≠ v8.1)) then
    j7 (true)
  else
  bif (decide ((0 : Int) < (List.length a.1 : Int))) then
  let v9 : (Int) × ((Int) × (List (Int))) := (List.getD a.1 (Int.toNat (0 : Int)) (0, (0, [])))
  bif (decide (v1.1.2.1 ≠ v9.2.1)) then
    j7 (true)
  else
  j7 ((decide ((List.length v1.1.2.2 : Int) ≠ (IntKind.i64.wrap (v1.1.1 * v1.1.2.1)))))
  else none
  else none
  else none
def law_SheetPrints_j10 (fu : Nat) (j5 : ((Int) × (Int)) → Option ((Bool) × (Unit))) (v7 : (Int) × (Int)) : Option ((Bool) × (Unit)) :=
  let v8 : Int := (IntKind.i64.wrap (v7.1 + (1 : Int)))
  j5 ((v7.2, v8))
def law_SheetPrints_j12 (fu : Nat) (v5 : (Int) × (Int)) (j7 : ((Int) × (Int)) → Option ((Bool) × (Unit))) (v12 : (Bool) × (Int)) : Option ((Bool) × (Unit)) :=
  bif v12.1 then
    j7 ((v5.2, (3 : Int)))
  else
  j7 ((v5.2, v12.2))
def law_SheetPrints_j11 (fu : Nat) (a : (List ((Int) × ((Int) × (List (Int))))) × ((List (Int)) × ((List ((Int) × (Int))) × ((Int) × (Unit))))) (v5 : (Int) × (Int)) (j7 : ((Int) × (Int)) → Option ((Bool) × (Unit))) (v11 : (Bool) × (Int)) : Option ((Bool) × (Unit)) :=
  bif v11.1 then
    j7 ((v5.2, (4 : Int)))
  else
  joinF (law_SheetPrints_j12 fu v5 j7) fun j12 =>
  bif ((decide ((0 : Int) ≤ v5.2)) && (decide (v5.2 < (List.length a.2.1 : Int)))) then
  let v13 : Int := (List.getD a.2.1 (Int.toNat v5.2) 0)
  bindO (R_Within_r fu ((v13, ((0 : Int), ((16 : Int), ()))))) fun v14 =>
  let v15 : Bool := (!v14.1)
  bif v15 then
    j12 ((v15, v11.2))
  else
  bif ((decide ((0 : Int) ≤ v5.2)) && (decide (v5.2 < (List.length a.2.2.1 : Int)))) then
  let v16 : (Int) × (Int) := (List.getD a.2.2.1 (Int.toNat v5.2) (0, 0))
  bindO (R_Within_r fu ((v16.1, ((-1024 : Int), ((1024 : Int), ()))))) fun v17 =>
  let v18 : Bool := (!v17.1)
  bif v18 then
    j12 ((v18, v11.2))
  else
  bif ((decide ((0 : Int) ≤ v5.2)) && (decide (v5.2 < (List.length a.2.2.1 : Int)))) then
  let v19 : (Int) × (Int) := (List.getD a.2.2.1 (Int.toNat v5.2) (0, 0))
  bindO (R_Within_r fu ((v19.2, ((-1024 : Int), ((1024 : Int), ()))))) fun v20 =>
  let v21 : Bool := (!v20.1)
  j12 ((v21, v11.2))
  else none
  else none
  else none
def law_SheetPrints_j9 (fu : Nat) (a : (List ((Int) × ((Int) × (List (Int))))) × ((List (Int)) × ((List ((Int) × (Int))) × ((Int) × (Unit))))) (v3 : (Int) × (Int)) (v5 : (Int) × (Int)) (j4 : ((Int) × (Int)) → Option ((Bool) × (Unit))) (j5 : ((Int) × (Int)) → Option ((Bool) × (Unit))) (v6 : Bool) : Option ((Bool) × (Unit)) :=
  bif v6 then
    joinF (law_SheetPrints_j10 fu j5) fun j7 =>
    bif ((decide ((0 : Int) ≤ v5.2)) && (decide (v5.2 < (List.length a.1 : Int)))) then
    let v8 : (Int) × ((Int) × (List (Int))) := (List.getD a.1 (Int.toNat v5.2) (0, (0, [])))
    bindO (R_BitsErr_r fu (((v8.1, (v8.2.1, v8.2.2)), ()))) fun v9 =>
    let v10 : Int := v9.1
    bif (decide (v10 ≠ (0 : Int))) then
      j4 ((v10, v3.1))
    else
    joinF (law_SheetPrints_j11 fu a v5 j7) fun j11 =>
    bif ((decide ((0 : Int) ≤ v5.2)) && (decide (v5.2 < (List.length a.1 : Int)))) then
    let v12 : (Int) × ((Int) × (List (Int))) := (List.getD a.1 (Int.toNat v5.2) (0, (0, [])))
    bif (decide ((0 : Int) < (List.length a.1 : Int))) then
    let v13 : (Int) × ((Int) × (List (Int))) := (List.getD a.1 (Int.toNat (0 : Int)) (0, (0, [])))
    let v14 : Bool := (decide (v12.1 ≠ v13.1))
    bif v14 then
      j11 ((v14, v10))
    else
    bif ((decide ((0 : Int) ≤ v5.2)) && (decide (v5.2 < (List.length a.1 : Int)))) then
    let v15 : (Int) × ((Int) × (List (Int))) := (List.getD a.1 (Int.toNat v5.2) (0, (0, [])))
    bif (decide ((0 : Int) < (List.length a.1 : Int))) then
    let v16 : (Int) × ((Int) × (List (Int))) := (List.getD a.1 (Int.toNat (0 : Int)) (0, (0, [])))
    let v17 : Bool := (decide (v15.2.1 ≠ v16.2.1))
    j11 ((v17, v10))
    else none
    else none
    else none
    else none
    else none
  else
  j4 ((v5.1, v3.1))
def law_SheetPrints_l8 (fu : Nat) (a : (List ((Int) × ((Int) × (List (Int))))) × ((List (Int)) × ((List ((Int) × (Int))) × ((Int) × (Unit))))) (v3 : (Int) × (Int)) (j4 : ((Int) × (Int)) → Option ((Bool) × (Unit))) (j5 : ((Int) × (Int)) → Option ((Bool) × (Unit))) (v5 : (Int) × (Int)) : Option ((Bool) × (Unit)) :=
  joinF (law_SheetPrints_j9 fu a v3 v5 j4 j5) fun j6 =>
  bif (decide (v5.2 < (List.length a.1 : Int))) then
    j6 ((decide (v5.1 = (0 : Int))))
  else
  j6 (false)
def law_SheetPrints_j1 (fu : Nat) (a : (List ((Int) × ((Int) × (List (Int))))) × ((List (Int)) × ((List ((Int) × (Int))) × ((Int) × (Unit))))) (v1 : ((Int) × ((Int) × (List (Int)))) × ((Int) × (Unit))) (v2 : Int) (v3 : (Int) × (Int)) : Option ((Bool) × (Unit)) :=
  joinF (law_SheetPrints_j2 fu a v1 v2) fun j4 =>
  loopF (law_SheetPrints_l8 fu a v3 j4) fu ((v3.2, (0 : Int)))
def law_SheetPrints_j13 (fu : Nat) (a : (List ((Int) × ((Int) × (List (Int))))) × ((List (Int)) × ((List ((Int) × (Int))) × ((Int) × (Unit))))) (j3 : ((Int) × (Int)) → Option ((Bool) × (Unit))) (v6 : (Bool) × (Int)) : Option ((Bool) × (Unit)) :=
  bif v6.1 then
    j3 ((a.2.2.2.1, (4 : Int)))
  else
  j3 ((a.2.2.2.1, v6.2))
def law_SheetPrints_r (fu : Nat) (a : (List ((Int) × ((Int) × (List (Int))))) × ((List (Int)) × ((List ((Int) × (Int))) × ((Int) × (Unit))))) : Option ((Bool) × (Unit)) :=
  bindO (law_sheetWorks_r fu (())) fun v0 =>
  bif (!v0.1) then
    some ((false, ()))
  else
  bindO (sheet_Print_r fu ((a.1, (a.2.1, (a.2.2.1, ()))))) fun v1 =>
  let v2 : Int := v1.2.1
  joinF (law_SheetPrints_j1 fu a v1 v2) fun j3 =>
  let v4 : Bool := (decide ((8 : Int) < (List.length a.1 : Int)))
  bif v4 then
    j3 ((a.2.2.2.1, (2 : Int)))
  else
  let v5 : Bool := (decide ((List.length a.1 : Int) = (0 : Int)))
  bif v5 then
    j3 ((a.2.2.2.1, (1 : Int)))
  else
  joinF (law_SheetPrints_j13 fu a j3) fun j6 =>
  let v7 : Bool := (decide ((List.length a.2.1 : Int) ≠ (List.length a.1 : Int)))
  bif v7 then
    j6 ((v7, (0 : Int)))
  else
  let v8 : Bool := (decide ((List.length a.2.2.1 : Int) ≠ (List.length a.1 : Int)))
  j6 ((v8, (0 : Int)))
def law_SheetPrints_an : An := (.n none .z (.n none (.n none .z (.n none (.n none .z .z) .z)) (.n none .z (.n none .z (.n (some ⟨[1, 2, 0, 9, 10], [0], [], [.reg 3 (.int .i64), .reg 11 (.int .i64)], 0, []⟩) (.n none (.n none .z (.n none .z (.n none .z (.n none .z (.n (some ⟨[3, 8], [], [], [.reg 40 .bool, .reg 11 (.int .i64)], 0, []⟩) (.n none .z (.n none .z .z)) (.n none .z .z)))))) .z) (.n (some ⟨[], [], [], [.reg 11 (.int .i64), .reg 3 (.int .i64)], 0, []⟩) (.n none .z (.n none (.n (some ⟨[3], [], [], [.reg 11 (.int .i64), .reg 12 (.int .i64)], 0, []⟩) (.n none (.n (some ⟨[12, 11], [], [], [.reg 58 .bool], 0, []⟩) .z .z) (.n (some ⟨[], [], [], [.reg 12 (.int .i64), .reg 11 (.int .i64)], 0, []⟩) (.n none (.n none (.n none .z (.n none .z .z)) (.n none (.n (some ⟨[12], [], [], [.reg 68 .bool, .reg 11 (.int .i64)], 0, []⟩) (.n none (.dr [] []) (.n none .z (.dr [] []))) (.n none .z (.n (some ⟨[], [], [], [.reg 89 .bool, .reg 11 (.int .i64)], 0, []⟩) (.n none .z (.n none .z (.n none .z (.n none .z .z)))) (.n none .z .z)))) .z)) .z) .z)) .z) .z)) (.n none (.n none .z (.n none (.n none .z .z) .z)) (.n none (.n none .z (.n none (.n none .z .z) .z)) (.n none (.n (some ⟨[3], [], [], [.reg 150 .bool], 0, []⟩) (.dr [] []) (.n none (.n none .z .z) .z)) (.n none .z (.n none .z (.n none (.n none .z (.n none (.n (some ⟨[13, 3, 160, 161], [], [], [.reg 162 (.int .i64), .row 1 true .bool 4 0], 0, []⟩) (.n none .z (.n none .z (.n none (.n none (.n none .z (.n none .z (.n none (.n none .z (.n none (.n (some ⟨[162, 14, 15, 167, 168], [1], [], [.reg 16 (.int .i64), .reg 169 (.int .i64)], 0, []⟩) (.n none .z (.n none .z (.n (some ⟨[], [], [], [.reg 169 (.int .i64), .reg 16 (.int .i64)], 0, []⟩) (.n none (.n none .z (.n none (.dr [] []) (.n (some ⟨[17, 169], [2], [], [.reg 215 .bool, .reg 16 (.int .i64)], 0, []⟩) (.dr [] []) (.n none .z .z)))) .z) .z))) .z) .z)) (.n none (.n none .z (.n none (.n none .z .z) .z)) .z)))) .z) .z))) .z) .z)) (.n none .z (.n none (.dr [] []) .z))))))))))))))
noncomputable def law_SheetPrints_dc : List (Nat × Ctr) := [(17, R_Within_ctr), (19, R_SameBits_ctr), (20, R_Drawn_ctr), (21, R_BitsErr_ctr), (23, law_big_ctr), (27, R_Mod_ctr), (37, R_Spread_ctr), (48, law_sheetWorks_ctr), (51, sheet_Print_ctr), (52, law_blank_ctr), (53, sheet_Ink_ctr)]
def law_SheetPrints_ctr : Ctr := ⟨(.pair (.list (.pair (.int .i64) (.pair (.int .i64) (.list (.int .u8))))) (.pair (.list (.int .i64)) (.pair (.list (.pair (.int .i64) (.int .i64))) (.pair (.int .i64) .unit)))), (.pair .bool .unit), law_SheetPrints_r, 12⟩
theorem law_SheetPrints_ok : CtrOk Try.prog 12 law_SheetPrints_ctr := ctr_ok (l := law_SheetPrints_dc) (f := 12) (an := law_SheetPrints_an) ⟨R_Within_ok, ⟨R_SameBits_ok, ⟨R_Drawn_ok, ⟨R_BitsErr_ok, ⟨law_big_ok, ⟨R_Mod_ok, ⟨R_Spread_ok, ⟨law_sheetWorks_ok, ⟨sheet_Print_ok, ⟨law_blank_ok, ⟨sheet_Ink_ok, trivial⟩⟩⟩⟩⟩⟩⟩⟩⟩⟩⟩ fun fu x => by kernel_rfl
end Go.Proofs.Ytnbmldnahacnlaa
/- SheetPrints: masks as numbers; a picture scanned pixel by pixel. -/
namespace Go.Proofs.Ytnbmldnahacnlaa
open Go Go.RowKit
set_option linter.unusedSimpArgs false
set_option linter.unusedSectionVars false
set_option linter.unusedVariables false

/-- the number with the bits f, of n -/
def msk (f : Nat → Bool) : Nat → Int
  | 0 => 0
  | n + 1 => msk f n + (bif f n then 2 ^ n else 0)
theorem msk_bd (f : Nat → Bool) : ∀ n, 0 ≤ msk f n ∧ msk f n < 2 ^ n
  | 0 => by simp [msk]
  | n + 1 => by
    have := msk_bd f n
    rw [msk, Int.pow_succ]
    cases f n with
    | true => simp only [cond_true]; omega
    | false => simp only [cond_false]; omega
theorem msk_bit (f : Nat → Bool) : ∀ (n k : Nat), k < n → msk f n / 2 ^ k % 2 = (bif f k then 1 else 0)
  | 0, _, h => by omega
  | n + 1, k, h => by
    have hb := msk_bd f n
    have hp : (0 : Int) < 2 ^ k := Int.pow_pos (by decide)
    by_cases e : k = n
    · subst e
      rw [msk]
      cases f k with
      | true =>
        simp only [cond_true]
        rw [Int.add_ediv_of_dvd_right (Int.dvd_refl _), Int.ediv_eq_zero_of_lt hb.1 hb.2, Int.ediv_self (by omega)]; rfl
      | false =>
        simp only [cond_false]
        rw [Int.add_zero, Int.ediv_eq_zero_of_lt hb.1 hb.2]; rfl
    · have ih := msk_bit f n k (by omega)
      rw [msk]
      cases f n with
      | true =>
        simp only [cond_true]
        obtain ⟨c, rfl⟩ : ∃ c, n = k + (c + 1) := ⟨n - k - 1, by omega⟩
        have e2 : (2 : Int) ^ (k + (c + 1)) = 2 ^ k * (2 * 2 ^ c) := by rw [Int.pow_add, Int.pow_succ, Int.mul_comm (2 ^ c)]
        rw [e2, Int.add_mul_ediv_left _ _ (by omega), Int.add_mul_emod_self_left]
        exact ih
      | false =>
        simp only [cond_false, Int.add_zero]
        exact ih
theorem msk_lt (f : Nat → Bool) {n : Nat} (hn : n ≤ 8) : 0 ≤ msk f n ∧ msk f n ≤ 255 := by
  have := msk_bd f n
  have h2 : (2 : Int) ^ n ≤ 2 ^ 8 := (show ∀ n : Fin 9, (2 : Int) ^ n.val ≤ 2 ^ 8 by decide) ⟨n, by omega⟩
  omega
theorem or_bit8 {v : Int} {n : Nat} (hn : n < 8) (h0 : 0 ≤ v) (h1 : v < 2 ^ n) : bits .or .u8 v (IntKind.u8.wrap (1 * 2 ^ n)) = v + 2 ^ n := by
  have h2 : (2 : Int) ^ n ≤ 2 ^ 8 := (show ∀ n : Fin 9, (2 : Int) ^ n.val ≤ 2 ^ 8 by decide) ⟨n, by omega⟩
  have := fin_byte (p := fun v => ∀ n : Fin 8, v < 2 ^ n.val → bits .or .u8 v (IntKind.u8.wrap (1 * 2 ^ n.val)) = v + 2 ^ n.val) (by decide +kernel) h0 (by omega)
  exact this ⟨n, hn⟩ h1
theorem or_bit64 {v : Int} {n : Nat} (hn : n < 8) (h0 : 0 ≤ v) (h1 : v < 2 ^ n) : bits .or .i64 v (IntKind.i64.wrap (1 * 2 ^ n)) = v + 2 ^ n := by
  have h2 : (2 : Int) ^ n ≤ 2 ^ 8 := (show ∀ n : Fin 9, (2 : Int) ^ n.val ≤ 2 ^ 8 by decide) ⟨n, by omega⟩
  have := fin_byte (p := fun v => ∀ n : Fin 8, v < 2 ^ n.val → bits .or .i64 v (IntKind.i64.wrap (1 * 2 ^ n.val)) = v + 2 ^ n.val) (by decide +kernel) h0 (by omega)
  exact this ⟨n, hn⟩ h1
theorem and_one8 {v : Int} (h0 : 0 ≤ v) (h1 : v ≤ 255) : bits .and .u8 v 1 = v % 2 := fin_byte (p := fun v => bits .and .u8 v 1 = v % 2) (by decide +kernel) h0 h1
theorem and_one64 {v : Int} (h0 : 0 ≤ v) (h1 : v ≤ 255) : bits .and .i64 v 1 = v % 2 := fin_byte (p := fun v => bits .and .i64 v 1 = v % 2) (by decide +kernel) h0 h1
theorem div_pow_bd {v : Int} (k : Nat) (h0 : 0 ≤ v) (h1 : v ≤ 255) : 0 ≤ v / 2 ^ k ∧ v / 2 ^ k ≤ 255 := by
  have hp : (0 : Int) < 2 ^ k := Int.pow_pos (by decide)
  exact ⟨Int.ediv_nonneg h0 (by omega), Int.le_trans (Int.ediv_le_self _ h0) h1⟩
theorem test8 (f : Nat → Bool) {n k : Nat} (hn : n ≤ 8) (hk : k < n) : decide (bits .and .u8 (msk f n / 2 ^ k) 1 = 1) = f k := by
  have hb := msk_lt f hn
  have hd := div_pow_bd k hb.1 hb.2
  rw [and_one8 hd.1 hd.2, msk_bit f n k hk]
  cases f k <;> rfl
theorem test64 (f : Nat → Bool) {n k : Nat} (hn : n ≤ 8) (hk : k < n) : decide (bits .and .i64 (msk f n / 2 ^ k) 1 = 1) = f k := by
  have hb := msk_lt f hn
  have hd := div_pow_bd k hb.1 hb.2
  rw [and_one64 hd.1 hd.2, msk_bit f n k hk]
  cases f k <;> rfl
/-- a picture scanned: pixel i is set if T i -/
theorem scan_spec {β : Type} {fu : Nat} (hf : 18446744073709551616 ≤ fu) {w h : Int} {T : Int → Bool} {f : (Int × List Int → Option β) → Int × List Int → Option β} {fin : List Int → Option β} (hw0 : 0 < w) (hw1 : w ≤ 1024) (hh0 : 0 < h) (hh1 : h ≤ 1024)
    (h1 : ∀ (j : Int × List Int → Option β) (i : Int) (ds : List Int), 0 ≤ i → i < w * h → f j (i, ds) = bif T i then markF fu w (i / w) (i % w) ds (fun d => j (i + 1, d)) else j (i + 1, ds))
    (h2 : ∀ (j : Int × List Int → Option β) (i : Int) (ds : List Int), w * h ≤ i → f j (i, ds) = fin ds) :
    loopF f fu (0, List.replicate (strd w * h).toNat 0) = fin (canon w h (fun x y => T (y * w + x))) := by
  have hwh : w * h ≤ 1048576 := by
    have := Int.mul_le_mul hw1 hh1 (by omega : 0 ≤ h) (by omega : (0 : Int) ≤ 1024)
    omega
  rw [← canon_zero w h (P := fun _ _ => false) (fun _ _ => rfl)]
  have hp : 0 < w * h := Int.mul_pos hw0 hh0
  refine loopF_spec (fun v => (w * h - v.1).toNat) (fun v => 0 ≤ v.1 ∧ v.1 ≤ w * h ∧ v.2 = canon w h (fun x y => T (y * w + x) && decide (y * w + x < v.1))) (fun _ => fin (canon w h (fun x y => T (y * w + x)))) ?_ fu (0, _) ⟨by omega, by simp only; omega, ?_⟩ (by simp only; omega)
  · rintro j ⟨i, ds⟩ ⟨k0, k1, hd⟩ ih
    simp only at k0 k1 hd
    by_cases hi : i < w * h
    · have hx0 : 0 ≤ i % w := Int.emod_nonneg _ (by omega)
      have hx1 : i % w < w := Int.emod_lt_of_pos _ hw0
      have hy0 : 0 ≤ i / w := Int.ediv_nonneg k0 (by omega)
      have hy1 : i / w < h := Int.ediv_lt_of_lt_mul hw0 (by rw [Int.mul_comm]; exact hi)
      have hmd := mul_div_mod i w
      have up : ∀ a b, 0 ≤ a → a < w → ¬ b * w + a = i → decide (b * w + a < i) = decide (b * w + a < i + 1) := by
        intro a b _ _ g
        by_cases q : b * w + a < i
        · rw [decide_eq_true q, decide_eq_true (by omega)]
        · rw [decide_eq_false q, decide_eq_false (by omega)]
      rw [h1 j i ds k0 hi]
      cases hT : T i with
      | true =>
        simp only [cond_true]
        rw [hd, markF_eq fu hx0 hx1 hw1 hy0 hy1 hh1]
        refine ih (i + 1, _) ⟨by simp only; omega, by simp only; omega, ?_⟩ (by simp only; omega)
        simp only
        refine canon_congr hw0 fun a b ha ha1 _ _ => ?_
        by_cases e : a = i % w ∧ b = i / w
        · obtain ⟨rfl, rfl⟩ := e
          rw [hmd, hT]; simp; omega
        · have e3 : ¬ b * w + a = i := by
            intro q
            have := div_of (a := b) ha ha1
            rw [q] at this
            exact e ⟨this.2.symm, this.1.symm⟩
          rw [and_false_iff e, Bool.or_false, up a b ha ha1 e3]
      | false =>
        simp only [cond_false]
        refine ih (i + 1, ds) ⟨by simp only; omega, by simp only; omega, ?_⟩ (by simp only; omega)
        simp only
        rw [hd]
        refine canon_congr hw0 fun a b ha ha1 _ _ => ?_
        by_cases q : b * w + a = i
        · rw [q, hT]; rfl
        · rw [up a b ha ha1 q]
    · rw [h2 j i ds (by omega), hd]
      congr 1
      refine canon_congr hw0 fun a b ha ha1 hb hb1 => ?_
      have : b * w ≤ (h - 1) * w := Int.mul_le_mul_of_nonneg_right (by omega) (by omega)
      have e2 : (h - 1) * w = w * h - w := by rw [Int.sub_mul, Int.one_mul, Int.mul_comm]
      rw [decide_eq_true (show b * w + a < i by omega), Bool.and_true]
  · refine canon_congr hw0 fun a b ha _ hb _ => ?_
    have := Int.mul_nonneg hb (by omega : 0 ≤ w)
    rw [decide_eq_false (show ¬ b * w + a < 0 by omega), Bool.and_false]
end Go.Proofs.Ytnbmldnahacnlaa
/- SheetPrints: what Print and Ink compute. -/
namespace Go.Proofs.Ytnbmldnahacnlaa
open Go Go.RowKit
set_option linter.unusedSimpArgs false
set_option linter.unusedSectionVars false
set_option linter.unusedVariables false

abbrev BitsT := Int × Int × List Int
def bAt (l : List BitsT) (i : Nat) : BitsT := l.getD i (0, (0, []))
def gAt (g : List Int) (i : Nat) : Int := g.getD i 0
def sAt (s : List (Int × Int)) (i : Nat) : Int × Int := s.getD i (0, 0)
def dimOk (b c : BitsT) : Prop := b.1 = c.1 ∧ b.2.1 = c.2.1
def rngOk (g : Int) (s : Int × Int) : Prop := (0 ≤ g ∧ g ≤ 16) ∧ (-1024 ≤ s.1 ∧ s.1 ≤ 1024) ∧ (-1024 ≤ s.2 ∧ s.2 ≤ 1024)
instance (b c : BitsT) : Decidable (dimOk b c) := by unfold dimOk; infer_instance
instance (g : Int) (s : Int × Int) : Decidable (rngOk g s) := by unfold rngOk; infer_instance
/-- the error of plate i -/
def prE (l : List BitsT) (g : List Int) (s : List (Int × Int)) (i : Nat) : Int :=
  if bitsE (bAt l i).1 (bAt l i).2.1 (bAt l i).2.2 = 0 then (if dimOk (bAt l i) (bAt l 0) then (if rngOk (gAt g i) (sAt s i) then 0 else 3) else 4) else bitsE (bAt l i).1 (bAt l i).2.1 (bAt l i).2.2
def prErr (l : List BitsT) (g : List Int) (s : List (Int × Int)) : Int :=
  if 8 < l.length then 2 else if l.length = 0 then 1 else if g.length = l.length ∧ s.length = l.length then firstE (prE l g s) l.length 0 else 4
def AllB (l : List BitsT) : Prop := ∀ b ∈ l, Bytes b.2.2
theorem AllB.at {l : List BitsT} (h : AllB l) (i : Nat) : Bytes (bAt l i).2.2 := by
  unfold bAt
  rw [List.getD_eq_getElem?_getD]
  cases e : l[i]? with
  | none => intro d hd; simp at hd
  | some b => exact h b (List.mem_of_getElem? e)
section
variable {fu : Nat} (hf : 18446744073709551616 ≤ fu) {l : List BitsT} {g : List Int} {s : List (Int × Int)} (hb : AllB l)
include hf hb
theorem prcheck_r : sheet_check_r fu (l, (g, (s, ()))) = some (prErr l g s, ()) := by
  unfold sheet_check_r prErr
  by_cases c1 : 8 < l.length
  · rw [if_pos c1]; simp (disch := omega) only [joinF_eq, bindO_some, s_wr, s_td, s_tm, s_pos, s_neg, cond_true, cond_false, Bool.not_true, Bool.not_false, Bool.true_and, Bool.and_true, Bool.false_and, Bool.and_false, bne_self_eq_false, decide_true, decide_false, Int.toNat_natCast]
  rw [if_neg c1]
  by_cases c2 : l.length = 0
  · rw [if_pos c2]; simp (disch := omega) only [joinF_eq, bindO_some, s_wr, s_td, s_tm, s_pos, s_neg, cond_true, cond_false, Bool.not_true, Bool.not_false, Bool.true_and, Bool.and_true, Bool.false_and, Bool.and_false, bne_self_eq_false, decide_true, decide_false, Int.toNat_natCast]
  rw [if_neg c2]
  by_cases c3 : g.length = l.length ∧ s.length = l.length
  · rw [if_pos c3]
    obtain ⟨c3, c4⟩ := c3
    simp (disch := omega) only [joinF_eq, bindO_some, s_wr, s_td, s_tm, s_pos, s_neg, cond_true, cond_false, Bool.not_true, Bool.not_false, Bool.true_and, Bool.and_true, Bool.false_and, Bool.and_false, bne_self_eq_false, decide_true, decide_false, Int.toNat_natCast]
    unfold sheet_check_j1
    simp (disch := omega) only [joinF_eq, bindO_some, s_wr, s_td, s_tm, s_pos, s_neg, cond_true, cond_false, Bool.not_true, Bool.not_false, Bool.true_and, Bool.and_true, Bool.false_and, Bool.and_false, bne_self_eq_false, decide_true, decide_false, Int.toNat_natCast]
    refine loopF_spec (fun i : Int => ((l.length : Int) - i).toNat) (fun i => 0 ≤ i ∧ i ≤ l.length) (fun i => some (firstE (prE l g s) (l.length - i.toNat) i.toNat, ())) ?_ fu 0 ⟨by omega, by omega⟩ (by omega)
    rintro j i ⟨k0, k1⟩ ih
    obtain ⟨i, rfl⟩ := Int.eq_ofNat_of_zero_le k0
    unfold sheet_check_l2
    by_cases hi : i < l.length
    · have hbi := hb.at i
      have ih' := ih ((i : Int) + 1) ⟨by omega, by omega⟩ (by omega)
      rw [show ((i : Int) + 1).toNat = i + 1 by omega] at ih'
      simp (disch := omega) only [joinF_eq, bindO_some, s_wr, s_td, s_tm, s_pos, s_neg, cond_true, cond_false, Bool.not_true, Bool.not_false, Bool.true_and, Bool.and_true, Bool.false_and, Bool.and_false, bne_self_eq_false, decide_true, decide_false, Int.toNat_natCast]
      rw [firstE_step hi]
      show bindO (bitmap_Check_r fu (((bAt l i).1, ((bAt l i).2.1, (bAt l i).2.2)), ())) _ = _
      rw [check_r hf hbi]
      simp (disch := omega) only [joinF_eq, bindO_some, s_wr, s_td, s_tm, s_pos, s_neg, cond_true, cond_false, Bool.not_true, Bool.not_false, Bool.true_and, Bool.and_true, Bool.false_and, Bool.and_false, bne_self_eq_false, decide_true, decide_false, Int.toNat_natCast]
      by_cases e0 : bitsE (bAt l i).1 (bAt l i).2.1 (bAt l i).2.2 = 0
      · simp (disch := omega) only [joinF_eq, bindO_some, s_wr, s_td, s_tm, s_pos, s_neg, cond_true, cond_false, Bool.not_true, Bool.not_false, Bool.true_and, Bool.and_true, Bool.false_and, Bool.and_false, bne_self_eq_false, decide_true, decide_false, Int.toNat_natCast]
        show (bif decide ((bAt l i).1 ≠ (bAt l 0).1) then _ else sheet_check_j3 fu _ _ _ (decide ((bAt l i).2.1 ≠ (bAt l 0).2.1))) = _
        have d4 : ¬ dimOk (bAt l i) (bAt l 0) → sheet_check_j3 fu (l, (g, (s, ()))) (i : Int) j true = some (if prE l g s i = 0 then firstE (prE l g s) (l.length - (i + 1)) (i + 1) else prE l g s i, ()) := by
          intro hd
          have : prE l g s i = 4 := by unfold prE; rw [if_pos e0, if_neg hd]
          rw [this]; rfl
        have d3 : dimOk (bAt l i) (bAt l 0) → sheet_check_j3 fu (l, (g, (s, ()))) (i : Int) j false = some (if prE l g s i = 0 then firstE (prE l g s) (l.length - (i + 1)) (i + 1) else prE l g s i, ()) := by
          intro hd
          have r3 : ¬ rngOk (gAt g i) (sAt s i) → some ((3 : Int), ()) = some (if prE l g s i = 0 then firstE (prE l g s) (l.length - (i + 1)) (i + 1) else prE l g s i, ()) := by
            intro hr
            have : prE l g s i = 3 := by unfold prE; rw [if_pos e0, if_pos hd, if_neg hr]
            rw [this]; rfl
          have r0 : rngOk (gAt g i) (sAt s i) → j ((i : Int) + 1) = some (if prE l g s i = 0 then firstE (prE l g s) (l.length - (i + 1)) (i + 1) else prE l g s i, ()) := by
            intro hr
            have : prE l g s i = 0 := by unfold prE; rw [if_pos e0, if_pos hd, if_pos hr]
            rw [this, if_pos rfl]; exact ih'
          unfold sheet_check_j3
          simp (disch := omega) only [joinF_eq, bindO_some, s_wr, s_td, s_tm, s_pos, s_neg, cond_true, cond_false, Bool.not_true, Bool.not_false, Bool.true_and, Bool.and_true, Bool.false_and, Bool.and_false, bne_self_eq_false, decide_true, decide_false, Int.toNat_natCast]
          show (bif decide (gAt g i < 0) then _ else sheet_check_j4 fu _ _ _ (decide (16 < gAt g i))) = _
          unfold rngOk at r3 r0
          by_cases g1 : gAt g i < 0
          · simp (disch := omega) only [joinF_eq, bindO_some, s_wr, s_td, s_tm, s_pos, s_neg, cond_true, cond_false, Bool.not_true, Bool.not_false, Bool.true_and, Bool.and_true, Bool.false_and, Bool.and_false, bne_self_eq_false, decide_true, decide_false, Int.toNat_natCast]; exact r3 (by omega)
          by_cases g2 : 16 < gAt g i
          · simp (disch := omega) only [joinF_eq, bindO_some, s_wr, s_td, s_tm, s_pos, s_neg, cond_true, cond_false, Bool.not_true, Bool.not_false, Bool.true_and, Bool.and_true, Bool.false_and, Bool.and_false, bne_self_eq_false, decide_true, decide_false, Int.toNat_natCast]; exact r3 (by omega)
          unfold sheet_check_j4
          simp (disch := omega) only [joinF_eq, bindO_some, s_wr, s_td, s_tm, s_pos, s_neg, cond_true, cond_false, Bool.not_true, Bool.not_false, Bool.true_and, Bool.and_true, Bool.false_and, Bool.and_false, bne_self_eq_false, decide_true, decide_false, Int.toNat_natCast]
          show (bif decide ((sAt s i).1 < -1024) then _ else bif decide (1024 < (sAt s i).1) then _ else bif decide ((sAt s i).2 < -1024) then _ else sheet_check_j5 fu _ _ (decide (1024 < (sAt s i).2))) = _
          unfold sheet_check_j5
          by_cases g3 : (sAt s i).1 < -1024
          · simp (disch := omega) only [joinF_eq, bindO_some, s_wr, s_td, s_tm, s_pos, s_neg, cond_true, cond_false, Bool.not_true, Bool.not_false, Bool.true_and, Bool.and_true, Bool.false_and, Bool.and_false, bne_self_eq_false, decide_true, decide_false, Int.toNat_natCast]; exact r3 (by omega)
          by_cases g4 : 1024 < (sAt s i).1
          · simp (disch := omega) only [joinF_eq, bindO_some, s_wr, s_td, s_tm, s_pos, s_neg, cond_true, cond_false, Bool.not_true, Bool.not_false, Bool.true_and, Bool.and_true, Bool.false_and, Bool.and_false, bne_self_eq_false, decide_true, decide_false, Int.toNat_natCast]; exact r3 (by omega)
          by_cases g5 : (sAt s i).2 < -1024
          · simp (disch := omega) only [joinF_eq, bindO_some, s_wr, s_td, s_tm, s_pos, s_neg, cond_true, cond_false, Bool.not_true, Bool.not_false, Bool.true_and, Bool.and_true, Bool.false_and, Bool.and_false, bne_self_eq_false, decide_true, decide_false, Int.toNat_natCast]; exact r3 (by omega)
          by_cases g6 : 1024 < (sAt s i).2
          · simp (disch := omega) only [joinF_eq, bindO_some, s_wr, s_td, s_tm, s_pos, s_neg, cond_true, cond_false, Bool.not_true, Bool.not_false, Bool.true_and, Bool.and_true, Bool.false_and, Bool.and_false, bne_self_eq_false, decide_true, decide_false, Int.toNat_natCast]; exact r3 (by omega)
          · simp (disch := omega) only [joinF_eq, bindO_some, s_wr, s_td, s_tm, s_pos, s_neg, cond_true, cond_false, Bool.not_true, Bool.not_false, Bool.true_and, Bool.and_true, Bool.false_and, Bool.and_false, bne_self_eq_false, decide_true, decide_false, Int.toNat_natCast]; exact r0 (by omega)
        unfold dimOk at d3 d4
        by_cases q1 : (bAt l i).1 = (bAt l 0).1
        · by_cases q2 : (bAt l i).2.1 = (bAt l 0).2.1
          · simp (disch := omega) only [joinF_eq, bindO_some, s_wr, s_td, s_tm, s_pos, s_neg, cond_true, cond_false, Bool.not_true, Bool.not_false, Bool.true_and, Bool.and_true, Bool.false_and, Bool.and_false, bne_self_eq_false, decide_true, decide_false, Int.toNat_natCast]; exact d3 ⟨q1, q2⟩
          · simp (disch := omega) only [joinF_eq, bindO_some, s_wr, s_td, s_tm, s_pos, s_neg, cond_true, cond_false, Bool.not_true, Bool.not_false, Bool.true_and, Bool.and_true, Bool.false_and, Bool.and_false, bne_self_eq_false, decide_true, decide_false, Int.toNat_natCast]; exact d4 fun q => q2 q.2
        · simp (disch := omega) only [joinF_eq, bindO_some, s_wr, s_td, s_tm, s_pos, s_neg, cond_true, cond_false, Bool.not_true, Bool.not_false, Bool.true_and, Bool.and_true, Bool.false_and, Bool.and_false, bne_self_eq_false, decide_true, decide_false, Int.toNat_natCast]; exact d4 fun q => q1 q.1
      · have : prE l g s i = bitsE (bAt l i).1 (bAt l i).2.1 (bAt l i).2.2 := by unfold prE; rw [if_neg e0]
        simp (disch := omega) only [joinF_eq, bindO_some, s_wr, s_td, s_tm, s_pos, s_neg, cond_true, cond_false, Bool.not_true, Bool.not_false, Bool.true_and, Bool.and_true, Bool.false_and, Bool.and_false, bne_self_eq_false, decide_true, decide_false, Int.toNat_natCast]
        rw [this, if_neg e0]
    · have e : i = l.length := by omega
      subst e
      simp (disch := omega) only [joinF_eq, bindO_some, s_wr, s_td, s_tm, s_pos, s_neg, cond_true, cond_false, Bool.not_true, Bool.not_false, Bool.true_and, Bool.and_true, Bool.false_and, Bool.and_false, bne_self_eq_false, decide_true, decide_false, Int.toNat_natCast]
      rw [Nat.sub_self]; rfl
  · rw [if_neg c3]
    by_cases c4 : g.length = l.length
    · simp (disch := omega) only [joinF_eq, bindO_some, s_wr, s_td, s_tm, s_pos, s_neg, cond_true, cond_false, Bool.not_true, Bool.not_false, Bool.true_and, Bool.and_true, Bool.false_and, Bool.and_false, bne_self_eq_false, decide_true, decide_false, Int.toNat_natCast, sheet_check_j1]
    · simp (disch := omega) only [joinF_eq, bindO_some, s_wr, s_td, s_tm, s_pos, s_neg, cond_true, cond_false, Bool.not_true, Bool.not_false, Bool.true_and, Bool.and_true, Bool.false_and, Bool.and_false, bne_self_eq_false, decide_true, decide_false, Int.toNat_natCast, sheet_check_j1]
end
/-- what the good case says of each plate -/
structure PrOk (w h : Int) (l : List BitsT) (g : List Int) (s : List (Int × Int)) : Prop where
  n0 : 1 ≤ l.length
  n8 : l.length ≤ 8
  gl : g.length = l.length
  sl : s.length = l.length
  w0 : (bAt l 0).1 = w
  h0 : (bAt l 0).2.1 = h
  bs : ∀ k, k < l.length → bitsE w h (bAt l k).2.2 = 0 ∧ (bAt l k).1 = w ∧ (bAt l k).2.1 = h
  rg : ∀ k, k < l.length → rngOk (gAt g k) (sAt s k)
theorem prOk {l : List BitsT} {g : List Int} {s : List (Int × Int)} (h0 : prErr l g s = 0) : PrOk (bAt l 0).1 (bAt l 0).2.1 l g s := by
  unfold prErr at h0
  by_cases c1 : 8 < l.length
  · rw [if_pos c1] at h0; omega
  rw [if_neg c1] at h0
  by_cases c2 : l.length = 0
  · rw [if_pos c2] at h0; omega
  rw [if_neg c2] at h0
  by_cases c3 : g.length = l.length ∧ s.length = l.length
  · rw [if_pos c3] at h0
    have hE := firstE_ok _ _ h0
    have key : ∀ k, k < l.length → bitsE (bAt l k).1 (bAt l k).2.1 (bAt l k).2.2 = 0 ∧ dimOk (bAt l k) (bAt l 0) ∧ rngOk (gAt g k) (sAt s k) := by
      intro k hk
      have := hE k (by omega) (by omega)
      unfold prE at this
      split at this
      · rename_i e0
        split at this
        · rename_i e1
          split at this
          · rename_i e2
            exact ⟨e0, e1, e2⟩
          · omega
        · omega
      · rename_i e0; exact absurd this e0
    refine ⟨by omega, by omega, c3.1, c3.2, rfl, rfl, fun k hk => ?_, fun k hk => (key k hk).2.2⟩
    obtain ⟨e0, e1, _⟩ := key k hk
    unfold dimOk at e1
    rw [← e1.1, ← e1.2]
    exact ⟨e0, rfl, rfl⟩
  · rw [if_neg c3] at h0; omega
/-- whether ink k is printed at (x, y) -/
def onK (w h : Int) (l : List BitsT) (g : List Int) (s : List (Int × Int)) (k : Nat) (x y : Int) : Bool := inB w h (grown w h (pixB w h (bAt l k).2.2) (gAt g k).toNat) (x - (sAt s k).1) (y - (sAt s k).2)
def mskAt (w h : Int) (l : List BitsT) (g : List Int) (s : List (Int × Int)) (n : Nat) (q : Int) : Int := msk (fun k => onK w h l g s k (q % w) (q / w)) n
section
variable {fu : Nat} (hf : 18446744073709551616 ≤ fu) {w h : Int} {l : List BitsT} {g : List Int} {s : List (Int × Int)} (hb : AllB l) (hp : PrOk w h l g s)
include hf hb hp
theorem dims : 1 ≤ w ∧ w ≤ 1024 ∧ 1 ≤ h ∧ h ≤ 1024 ∧ 0 < w * h ∧ w * h ≤ 1048576 := by
  obtain ⟨e0, e1, e2⟩ := hp.bs 0 hp.n0
  obtain ⟨d1, d2, d3, d4, d5⟩ := bitsE_dim e0
  have := Int.mul_le_mul d2 d4 (by omega : 0 ≤ h) (by omega : (0 : Int) ≤ 1024)
  exact ⟨d1, d2, d3, d4, Int.mul_pos (by omega) (by omega), by omega⟩
theorem print_l3 {i : Nat} (hi : i < l.length) {y : Int} (hy0 : 0 ≤ y) (hy1 : y < h) {v2 : BitsT} (hv2 : v2.1 = w) {v11 : Int × List Int} (hv11 : v11.1 = y) {j11 : Int × List Int → Option (BitsT × Int × Unit)} :
    loopF (sheet_Print_l3 fu (l, (g, (s, ()))) v2 (i : Int) ((w, (h, canon w h (grown w h (pixB w h (bAt l i).2.2) (gAt g i).toNat))), ()) v11 y j11) fu (0, tabL (w * h).toNat (fun q => mskAt w h l g s (if q < y * w then i + 1 else i) q))
      = j11 (y + 1, tabL (w * h).toNat (fun q => mskAt w h l g s (if q < (y + 1) * w then i + 1 else i) q)) := by
  obtain ⟨d1, d2, d3, d4, d5, d6⟩ := dims hf hb hp
  obtain ⟨r1, r2, r3⟩ := hp.rg i hi
  have h8 := hp.n8
  have hsl := hp.sl
  have m1 : 0 ≤ y * w := Int.mul_nonneg hy0 (by omega)
  have m2 : (y + 1) * w ≤ h * w := Int.mul_le_mul_of_nonneg_right (by omega) (by omega)
  have m3 : (y + 1) * w = y * w + w := by rw [Int.add_mul, Int.one_mul]
  have m4 : h * w = w * h := Int.mul_comm _ _
  refine loopF_spec (fun v : Int × List Int => (w - v.1).toNat) (fun v => 0 ≤ v.1 ∧ v.1 ≤ w ∧ v.2 = tabL (w * h).toNat (fun q => mskAt w h l g s (if q < y * w + v.1 then i + 1 else i) q)) (fun _ => j11 (y + 1, tabL (w * h).toNat (fun q => mskAt w h l g s (if q < (y + 1) * w then i + 1 else i) q))) ?_ fu _ ⟨by omega, by simp only; omega, by simp only [Int.add_zero]⟩ (by simp only; omega)
  rintro j ⟨x, on⟩ ⟨k0, k1, kv⟩ ih
  simp only at k0 k1 kv
  unfold sheet_Print_l3
  by_cases hx : x < w
  · have hlen : on.length = (w * h).toNat := by rw [kv, tabL_length]
    simp (disch := omega) only [joinF_eq, bindO_some, s_wr, s_td, s_tm, s_pos, s_neg, cond_true, cond_false, Bool.not_true, Bool.not_false, Bool.true_and, Bool.and_true, Bool.false_and, Bool.and_false, bne_self_eq_false, decide_true, decide_false, Int.toNat_natCast]
    rw [hv2]
    simp (disch := omega) only [joinF_eq, bindO_some, s_wr, s_td, s_tm, s_pos, s_neg, cond_true, cond_false, Bool.not_true, Bool.not_false, Bool.true_and, Bool.and_true, Bool.false_and, Bool.and_false, bne_self_eq_false, decide_true, decide_false, Int.toNat_natCast]
    show bindO (bitmap_Is_r fu ((w, (h, canon w h (grown w h (pixB w h (bAt l i).2.2) (gAt g i).toNat))), (IntKind.i64.wrap (x - (sAt s i).1), (IntKind.i64.wrap (y - (sAt s i).2), ())))) _ = _
    simp (disch := omega) only [joinF_eq, bindO_some, s_wr, s_td, s_tm, s_pos, s_neg, cond_true, cond_false, Bool.not_true, Bool.not_false, Bool.true_and, Bool.and_true, Bool.false_and, Bool.and_false, bne_self_eq_false, decide_true, decide_false, Int.toNat_natCast, is_c]
    have e1 : onK w h l g s i x y = inB w h (grown w h (pixB w h (bAt l i).2.2) (gAt g i).toNat) (x - (sAt s i).1) (y - (sAt s i).2) := rfl
    rw [← e1]
    have hq : (y * w + x) % w = x ∧ (y * w + x) / w = y := ⟨(div_of k0 hx).2, (div_of k0 hx).1⟩
    have hold : on.getD (y * w + x).toNat 0 = mskAt w h l g s i (y * w + x) := by
      rw [kv, tabL_getD (by omega) (by omega), if_neg (by omega)]
    have hnew : mskAt w h l g s (i + 1) (y * w + x) = mskAt w h l g s i (y * w + x) + (bif onK w h l g s i x y then 2 ^ i else 0) := by
      unfold mskAt
      rw [msk, hq.1, hq.2]
    have hbd : 0 ≤ mskAt w h l g s i (y * w + x) ∧ mskAt w h l g s i (y * w + x) < 2 ^ i := msk_bd (fun k => onK w h l g s k ((y * w + x) % w) ((y * w + x) / w)) i
    cases ho : onK w h l g s i x y with
    | true =>
      simp (disch := omega) only [joinF_eq, bindO_some, s_wr, s_td, s_tm, s_pos, s_neg, cond_true, cond_false, Bool.not_true, Bool.not_false, Bool.true_and, Bool.and_true, Bool.false_and, Bool.and_false, bne_self_eq_false, decide_true, decide_false, Int.toNat_natCast]
      unfold sheet_Print_j4
      rw [hold, or_bit8 (by omega) hbd.1 hbd.2]
      simp (disch := omega) only [joinF_eq, bindO_some, s_wr, s_td, s_tm, s_pos, s_neg, cond_true, cond_false, Bool.not_true, Bool.not_false, Bool.true_and, Bool.and_true, Bool.false_and, Bool.and_false, bne_self_eq_false, decide_true, decide_false, Int.toNat_natCast]
      refine ih (x + 1, _) ⟨by simp only; omega, by simp only; omega, ?_⟩ (by simp only; omega)
      simp only
      rw [kv]
      refine tabL_set (by omega) ?_ (fun q q0 q1 qn => ?_)
      · rw [if_pos (by omega), hnew, ho]; rfl
      · by_cases c : q < y * w + x
        · rw [if_pos c, if_pos (by omega)]
        · rw [if_neg c, if_neg (by omega)]
    | false =>
      simp (disch := omega) only [joinF_eq, bindO_some, s_wr, s_td, s_tm, s_pos, s_neg, cond_true, cond_false, Bool.not_true, Bool.not_false, Bool.true_and, Bool.and_true, Bool.false_and, Bool.and_false, bne_self_eq_false, decide_true, decide_false, Int.toNat_natCast]
      unfold sheet_Print_j4
      simp (disch := omega) only [joinF_eq, bindO_some, s_wr, s_td, s_tm, s_pos, s_neg, cond_true, cond_false, Bool.not_true, Bool.not_false, Bool.true_and, Bool.and_true, Bool.false_and, Bool.and_false, bne_self_eq_false, decide_true, decide_false, Int.toNat_natCast]
      refine ih (x + 1, _) ⟨by simp only; omega, by simp only; omega, ?_⟩ (by simp only; omega)
      simp only
      rw [kv]
      refine tabL_congr fun q q0 q1 => ?_
      by_cases c : q < y * w + x
      · rw [if_pos c, if_pos (by omega)]
      · by_cases c2 : q = y * w + x
        · subst c2
          rw [if_neg c, if_pos (by omega), hnew, ho]
          exact (Int.add_zero _).symm
        · rw [if_neg c, if_neg (by omega)]
  · simp (disch := omega) only [joinF_eq, bindO_some, s_wr, s_td, s_tm, s_pos, s_neg, cond_true, cond_false, Bool.not_true, Bool.not_false, Bool.true_and, Bool.and_true, Bool.false_and, Bool.and_false, bne_self_eq_false, decide_true, decide_false, Int.toNat_natCast]
    rw [kv, hv11, m3, show x = w by omega]
theorem print_r (h0 : prErr l g s = 0) : sheet_Print_r fu (l, (g, (s, ()))) = some ((w, (h, tabL (w * h).toNat (fun q => mskAt w h l g s l.length q))), (0, ())) := by
  obtain ⟨d1, d2, d3, d4, d5, d6⟩ := dims hf hb hp
  have h1 := hp.n0
  have h8 := hp.n8
  have hgl := hp.gl
  unfold sheet_Print_r
  rw [prcheck_r hf hb, h0]
  simp (disch := omega) only [joinF_eq, bindO_some, s_wr, s_td, s_tm, s_pos, s_neg, cond_true, cond_false, Bool.not_true, Bool.not_false, Bool.true_and, Bool.and_true, Bool.false_and, Bool.and_false, bne_self_eq_false, decide_true, decide_false, Int.toNat_natCast]
  have ew : (l.getD (Int.toNat 0) (0, (0, []))).1 = w := hp.w0
  have eh : (l.getD (Int.toNat 0) (0, (0, []))).2.1 = h := hp.h0
  rw [ew, eh]
  simp (disch := omega) only [joinF_eq, bindO_some, s_wr, s_td, s_tm, s_pos, s_neg, cond_true, cond_false, Bool.not_true, Bool.not_false, Bool.true_and, Bool.and_true, Bool.false_and, Bool.and_false, bne_self_eq_false, decide_true, decide_false, Int.toNat_natCast]
  generalize hv2 : l.getD (Int.toNat 0) (0, (0, [])) = v2 at *
  refine loopF_spec (fun v : Int × List Int => ((l.length : Int) - v.1).toNat) (fun v => 0 ≤ v.1 ∧ v.1 ≤ l.length ∧ v.2 = tabL (w * h).toNat (fun q => mskAt w h l g s v.1.toNat q)) (fun _ => some ((w, (h, tabL (w * h).toNat (fun q => mskAt w h l g s l.length q))), (0, ()))) ?_ fu (0, _) ⟨by omega, by simp only; omega, ?_⟩ (by simp only; omega)
  · rintro j ⟨i, on⟩ ⟨k0, k1, kv⟩ ih
    simp only at k0 k1 kv
    obtain ⟨i, rfl⟩ := Int.eq_ofNat_of_zero_le k0
    simp only [Int.toNat_natCast] at kv
    rw [kv]
    unfold sheet_Print_l1
    by_cases hi : i < l.length
    · obtain ⟨b0, b1, b2⟩ := hp.bs i hi
      obtain ⟨r1, r2, r3⟩ := hp.rg i hi
      simp (disch := omega) only [joinF_eq, bindO_some, s_wr, s_td, s_tm, s_pos, s_neg, cond_true, cond_false, Bool.not_true, Bool.not_false, Bool.true_and, Bool.and_true, Bool.false_and, Bool.and_false, bne_self_eq_false, decide_true, decide_false, Int.toNat_natCast]
      have eb : l.getD i (0, (0, [])) = (w, (h, (bAt l i).2.2)) := by
        show bAt l i = _
        rw [← b1, ← b2]
      have eg : g.getD i 0 = gAt g i := rfl
      rw [eb, eg, grown_r hf (hb.at i) b0 r1]
      simp (disch := omega) only [joinF_eq, bindO_some, s_wr, s_td, s_tm, s_pos, s_neg, cond_true, cond_false, Bool.not_true, Bool.not_false, Bool.true_and, Bool.and_true, Bool.false_and, Bool.and_false, bne_self_eq_false, decide_true, decide_false, Int.toNat_natCast]
      refine loopF_spec (fun v : Int × List Int => (h - v.1).toNat) (fun v => 0 ≤ v.1 ∧ v.1 ≤ h ∧ v.2 = tabL (w * h).toNat (fun q => mskAt w h l g s (if q < v.1 * w then i + 1 else i) q)) (fun _ => some ((w, (h, tabL (w * h).toNat (fun q => mskAt w h l g s l.length q))), (0, ()))) ?_ fu (0, _) ⟨by omega, by simp only; omega, ?_⟩ (by simp only; omega)
      · rintro j' ⟨y, on'⟩ ⟨p0, p1, pv⟩ ih'
        simp only at p0 p1 pv
        rw [pv]
        unfold sheet_Print_l2
        rw [eh]
        by_cases hy : y < h
        · simp (disch := omega) only [joinF_eq, bindO_some, s_wr, s_td, s_tm, s_pos, s_neg, cond_true, cond_false, Bool.not_true, Bool.not_false, Bool.true_and, Bool.and_true, Bool.false_and, Bool.and_false, bne_self_eq_false, decide_true, decide_false, Int.toNat_natCast]
          rw [print_l3 hf hb hp hi p0 hy ew rfl]
          exact ih' (y + 1, _) ⟨by simp only; omega, by simp only; omega, rfl⟩ (by simp only; omega)
        · simp (disch := omega) only [joinF_eq, bindO_some, s_wr, s_td, s_tm, s_pos, s_neg, cond_true, cond_false, Bool.not_true, Bool.not_false, Bool.true_and, Bool.and_true, Bool.false_and, Bool.and_false, bne_self_eq_false, decide_true, decide_false, Int.toNat_natCast]
          refine ih ((i : Int) + 1, _) ⟨by simp only; omega, by simp only; omega, ?_⟩ (by simp only; omega)
          simp only
          refine tabL_congr fun q q0 q1 => ?_
          have : y * w = w * h := by rw [show y = h by omega, Int.mul_comm]
          rw [if_pos (by omega), show ((i : Int) + 1).toNat = i + 1 by omega]
      · simp only
        refine tabL_congr fun q q0 q1 => ?_
        rw [if_neg (by omega)]
    · have e : i = l.length := by omega
      subst e
      simp (disch := omega) only [joinF_eq, bindO_some, s_wr, s_td, s_tm, s_pos, s_neg, cond_true, cond_false, Bool.not_true, Bool.not_false, Bool.true_and, Bool.and_true, Bool.false_and, Bool.and_false, bne_self_eq_false, decide_true, decide_false, Int.toNat_natCast]
      rw [ew, eh]
  · simp only
    exact (tabL_rep fun q _ _ => rfl).symm
/-- one ink taken off -/
theorem ink_r {k : Nat} (hk : k < l.length) : sheet_Ink_r fu ((w, (h, tabL (w * h).toNat (fun q => mskAt w h l g s l.length q))), ((k : Int), ())) = some ((w, (h, canon w h (fun x y => onK w h l g s k x y))), (0, ())) := by
  obtain ⟨d1, d2, d3, d4, d5, d6⟩ := dims hf hb hp
  obtain ⟨b1, b2, b3, b4⟩ := strd_bd (w := w) (h := h) (by omega) d2 (by omega) d4
  have h8 := hp.n8
  have hlen : (tabL (w * h).toNat (fun q => mskAt w h l g s l.length q)).length = (w * h).toNat := tabL_length _ _
  generalize hM : tabL (w * h).toNat (fun q => mskAt w h l g s l.length q) = M at *
  have hc : sheet_Check_r fu ((w, (h, M)), ()) = some (0, ()) := by
    unfold sheet_Check_r sheet_Check_j1
    simp (disch := omega) only [joinF_eq, bindO_some, s_wr, s_td, s_tm, s_pos, s_neg, cond_true, cond_false, Bool.not_true, Bool.not_false, Bool.true_and, Bool.and_true, Bool.false_and, Bool.and_false, bne_self_eq_false, decide_true, decide_false, Int.toNat_natCast]
  unfold sheet_Ink_r sheet_Ink_j1
  rw [hc]
  simp (disch := omega) only [joinF_eq, bindO_some, s_wr, s_td, s_tm, s_pos, s_neg, cond_true, cond_false, Bool.not_true, Bool.not_false, Bool.true_and, Bool.and_true, Bool.false_and, Bool.and_false, bne_self_eq_false, decide_true, decide_false, Int.toNat_natCast]
  rw [stride_r fu (by omega) (by omega)]
  simp (disch := omega) only [joinF_eq, bindO_some, s_wr, s_td, s_tm, s_pos, s_neg, cond_true, cond_false, Bool.not_true, Bool.not_false, Bool.true_and, Bool.and_true, Bool.false_and, Bool.and_false, bne_self_eq_false, decide_true, decide_false, Int.toNat_natCast]
  rw [scan_spec hf (T := fun q => onK w h l g s k (q % w) (q / w)) (fin := fun ds => some ((w, (h, ds)), (0, ()))) (by omega) d2 (by omega) d4 (fun j i ds i0 i1 => ?_) (fun j i ds i1 => ?_)]
  · congr 4
    refine canon_congr (by omega) fun x y hx hx1 hy hy1 => ?_
    rw [(div_of hx hx1).1, (div_of hx hx1).2]
  · unfold sheet_Ink_l2 sheet_Ink_j3
    have hq0 : 0 ≤ i % w := Int.emod_nonneg _ (by omega)
    have hq1 : i % w < w := Int.emod_lt_of_pos _ (by omega)
    have hy0 : 0 ≤ i / w := Int.ediv_nonneg i0 (by omega)
    have hy1 : i / w < h := Int.ediv_lt_of_lt_mul (by omega) (by rw [Int.mul_comm]; exact i1)
    have hv : M.getD i.toNat 0 = msk (fun k => onK w h l g s k (i % w) (i / w)) l.length := by
      rw [← hM, tabL_getD (by omega) (by omega)]; rfl
    simp (disch := omega) only [joinF_eq, bindO_some, s_wr, s_td, s_tm, s_pos, s_neg, cond_true, cond_false, Bool.not_true, Bool.not_false, Bool.true_and, Bool.and_true, Bool.false_and, Bool.and_false, bne_self_eq_false, decide_true, decide_false, Int.toNat_natCast]
    rw [hv, test8 _ h8 hk]
    cases onK w h l g s k (i % w) (i / w) <;> simp (disch := omega) only [joinF_eq, bindO_some, s_wr, s_td, s_tm, s_pos, s_neg, cond_true, cond_false, Bool.not_true, Bool.not_false, Bool.true_and, Bool.and_true, Bool.false_and, Bool.and_false, bne_self_eq_false, decide_true, decide_false, Int.toNat_natCast, markF]
  · unfold sheet_Ink_l2
    simp (disch := omega) only [joinF_eq, bindO_some, s_wr, s_td, s_tm, s_pos, s_neg, cond_true, cond_false, Bool.not_true, Bool.not_false, Bool.true_and, Bool.and_true, Bool.false_and, Bool.and_false, bne_self_eq_false, decide_true, decide_false, Int.toNat_natCast]
end
end Go.Proofs.Ytnbmldnahacnlaa
