/- Facts on the types and functions that the symbolic walks ask for (printed by a program). -/
import Derived.Test.YtnbmldnahacnlaaZBD3
import Derived.Test.YtnbmldnahacnlaaProg
import Derived.Below
import Derived.WalkKit
import Derived.WalkSpells
import Derived.RangeFuncNested
import Derived.RangeFuncBound
import Derived.RangeFuncCalls
import Derived.RangeFuncLeaves
import Derived.RangeFuncBox
import Derived.Shelf.Abstract
import Derived.Shelf.RegionOpen
import Derived.OwnWalkIn
import Derived.TacticsInMore
import Derived.LoopNIn
import Derived.LoopIn
import Derived.Maps.AppendAt
import Derived.Test.YtnbmldnahacnlaaRows
import Derived.ProofKit
import Derived.SizedLaws
import Derived.BigQuiet
import Derived.Deep.QuietTactic
import Derived.Deep.Slices
/- Facts on the types and functions that the symbolic walks ask for (printed by a program). -/
namespace Go.Proofs.Ytnbmldnahacnlaa
open Go
def tab : Tab := {
  und := [(0, Go.TypeDesc.tuple #[]),
    (1, Go.TypeDesc.func #[] #[] false),
    (2, Go.TypeDesc.int (Go.IntKind.i64)),
    (3, Go.TypeDesc.int (Go.IntKind.i64)),
    (4, Go.TypeDesc.bool),
    (5, Go.TypeDesc.int (Go.IntKind.u8)),
    (6, Go.TypeDesc.int (Go.IntKind.u8)),
    (7, Go.TypeDesc.struct #[{ name := "x", type := 2, offset := 0, embedded := false, tag := "", pkgPath := "runtime", byteOffset := 0 }, { name := "y", type := 3, offset := 1, embedded := false, tag := "", pkgPath := "runtime", byteOffset := 8 }, { name := "signed", type := 4, offset := 2, embedded := false, tag := "", pkgPath := "runtime", byteOffset := 16 }, { name := "code", type := 6, offset := 3, embedded := false, tag := "", pkgPath := "runtime", byteOffset := 17 }]),
    (8, Go.TypeDesc.struct #[{ name := "x", type := 2, offset := 0, embedded := false, tag := "", pkgPath := "runtime", byteOffset := 0 }, { name := "y", type := 3, offset := 1, embedded := false, tag := "", pkgPath := "runtime", byteOffset := 8 }, { name := "signed", type := 4, offset := 2, embedded := false, tag := "", pkgPath := "runtime", byteOffset := 16 }, { name := "code", type := 6, offset := 3, embedded := false, tag := "", pkgPath := "runtime", byteOffset := 17 }]),
    (9, Go.TypeDesc.string),
    (10, Go.TypeDesc.string),
    (11, Go.TypeDesc.string),
    (12, Go.TypeDesc.int (Go.IntKind.u64)),
    (13, Go.TypeDesc.struct #[{ name := "msg", type := 9, offset := 0, embedded := false, tag := "", pkgPath := "runtime", byteOffset := 0 }, { name := "addr", type := 12, offset := 1, embedded := false, tag := "", pkgPath := "runtime", byteOffset := 16 }]),
    (14, Go.TypeDesc.struct #[{ name := "msg", type := 9, offset := 0, embedded := false, tag := "", pkgPath := "runtime", byteOffset := 0 }, { name := "addr", type := 12, offset := 1, embedded := false, tag := "", pkgPath := "runtime", byteOffset := 16 }]),
    (15, Go.TypeDesc.pointer 133),
    (16, Go.TypeDesc.pointer 136),
    (17, Go.TypeDesc.pointer 146),
    (18, Go.TypeDesc.struct #[{ name := "typ", type := 17, offset := 0, embedded := false, tag := "", pkgPath := "internal/runtime/maps", byteOffset := 0 }]),
    (19, Go.TypeDesc.struct #[{ name := "typ", type := 17, offset := 0, embedded := false, tag := "", pkgPath := "internal/runtime/maps", byteOffset := 0 }]),
    (20, Go.TypeDesc.interface #[]),
    (21, Go.TypeDesc.int (Go.IntKind.i32)),
    (22, Go.TypeDesc.slice 5),
    (23, Go.TypeDesc.struct #[{ name := "W", type := 3, offset := 0, embedded := false, tag := "", pkgPath := "", byteOffset := 0 }, { name := "H", type := 3, offset := 1, embedded := false, tag := "", pkgPath := "", byteOffset := 8 }, { name := "Data", type := 22, offset := 2, embedded := false, tag := "", pkgPath := "", byteOffset := 16 }]),
    (24, Go.TypeDesc.struct #[{ name := "W", type := 3, offset := 0, embedded := false, tag := "", pkgPath := "", byteOffset := 0 }, { name := "H", type := 3, offset := 1, embedded := false, tag := "", pkgPath := "", byteOffset := 8 }, { name := "Data", type := 22, offset := 2, embedded := false, tag := "", pkgPath := "", byteOffset := 16 }]),
    (25, Go.TypeDesc.func #[] #[4] false),
    (26, Go.TypeDesc.struct #[{ name := "X", type := 3, offset := 0, embedded := false, tag := "", pkgPath := "", byteOffset := 0 }, { name := "Y", type := 3, offset := 1, embedded := false, tag := "", pkgPath := "", byteOffset := 8 }]),
    (27, Go.TypeDesc.struct #[{ name := "X", type := 3, offset := 0, embedded := false, tag := "", pkgPath := "", byteOffset := 0 }, { name := "Y", type := 3, offset := 1, embedded := false, tag := "", pkgPath := "", byteOffset := 8 }]),
    (28, Go.TypeDesc.int (Go.IntKind.i64)),
    (29, Go.TypeDesc.tuple #[27, 28]),
    (30, Go.TypeDesc.func #[24, 3] #[27, 28] false),
    (31, Go.TypeDesc.tuple #[24, 28]),
    (32, Go.TypeDesc.func #[3] #[24, 28] false),
    (33, Go.TypeDesc.func #[3, 3, 3] #[4] false),
    (34, Go.TypeDesc.func #[24, 28, 28] #[4] false),
    (35, Go.TypeDesc.slice 4),
    (36, Go.TypeDesc.func #[24, 24] #[4] false),
    (37, Go.TypeDesc.func #[3, 3, 35] #[24] false),
    (38, Go.TypeDesc.func #[24] #[28] false),
    (39, Go.TypeDesc.func #[4, 28, 28] #[4] false),
    (40, Go.TypeDesc.func #[24] #[4] false),
    (41, Go.TypeDesc.func #[24, 3, 3] #[4] false),
    (42, Go.TypeDesc.func #[24, 3] #[4] false),
    (43, Go.TypeDesc.slice 48),
    (44, Go.TypeDesc.tuple #[43, 28]),
    (45, Go.TypeDesc.func #[3, 3, 3] #[43, 28] false),
    (46, Go.TypeDesc.func #[3, 3] #[3] false),
    (47, Go.TypeDesc.struct #[{ name := "X", type := 3, offset := 0, embedded := false, tag := "", pkgPath := "", byteOffset := 0 }, { name := "W", type := 3, offset := 1, embedded := false, tag := "", pkgPath := "", byteOffset := 8 }, { name := "Kind", type := 3, offset := 2, embedded := false, tag := "", pkgPath := "", byteOffset := 16 }, { name := "Unit", type := 3, offset := 3, embedded := false, tag := "", pkgPath := "", byteOffset := 24 }, { name := "Zone", type := 3, offset := 4, embedded := false, tag := "", pkgPath := "", byteOffset := 32 }]),
    (48, Go.TypeDesc.struct #[{ name := "X", type := 3, offset := 0, embedded := false, tag := "", pkgPath := "", byteOffset := 0 }, { name := "W", type := 3, offset := 1, embedded := false, tag := "", pkgPath := "", byteOffset := 8 }, { name := "Kind", type := 3, offset := 2, embedded := false, tag := "", pkgPath := "", byteOffset := 16 }, { name := "Unit", type := 3, offset := 3, embedded := false, tag := "", pkgPath := "", byteOffset := 24 }, { name := "Zone", type := 3, offset := 4, embedded := false, tag := "", pkgPath := "", byteOffset := 32 }]),
    (49, Go.TypeDesc.slice 53),
    (50, Go.TypeDesc.tuple #[49, 28]),
    (51, Go.TypeDesc.func #[43, 3, 3, 3] #[49, 28] false),
    (52, Go.TypeDesc.struct #[{ name := "W", type := 3, offset := 0, embedded := false, tag := "", pkgPath := "", byteOffset := 0 }, { name := "H", type := 3, offset := 1, embedded := false, tag := "", pkgPath := "", byteOffset := 8 }, { name := "Pix", type := 22, offset := 2, embedded := false, tag := "", pkgPath := "", byteOffset := 16 }]),
    (53, Go.TypeDesc.struct #[{ name := "W", type := 3, offset := 0, embedded := false, tag := "", pkgPath := "", byteOffset := 0 }, { name := "H", type := 3, offset := 1, embedded := false, tag := "", pkgPath := "", byteOffset := 8 }, { name := "Pix", type := 22, offset := 2, embedded := false, tag := "", pkgPath := "", byteOffset := 16 }]),
    (54, Go.TypeDesc.func #[3, 3, 3, 3] #[4] false),
    (55, Go.TypeDesc.slice 24),
    (56, Go.TypeDesc.slice 63),
    (57, Go.TypeDesc.tuple #[56, 28]),
    (58, Go.TypeDesc.func #[43, 55] #[56, 28] false),
    (59, Go.TypeDesc.func #[43, 3, 3] #[28] false),
    (60, Go.TypeDesc.array 2 3),
    (61, Go.TypeDesc.array 2 48),
    (62, Go.TypeDesc.struct #[{ name := "Unit", type := 3, offset := 0, embedded := false, tag := "", pkgPath := "", byteOffset := 0 }, { name := "Zone", type := 3, offset := 1, embedded := false, tag := "", pkgPath := "", byteOffset := 8 }, { name := "Solid", type := 3, offset := 2, embedded := false, tag := "", pkgPath := "", byteOffset := 16 }, { name := "Tint", type := 3, offset := 3, embedded := false, tag := "", pkgPath := "", byteOffset := 24 }]),
    (63, Go.TypeDesc.struct #[{ name := "Unit", type := 3, offset := 0, embedded := false, tag := "", pkgPath := "", byteOffset := 0 }, { name := "Zone", type := 3, offset := 1, embedded := false, tag := "", pkgPath := "", byteOffset := 8 }, { name := "Solid", type := 3, offset := 2, embedded := false, tag := "", pkgPath := "", byteOffset := 16 }, { name := "Tint", type := 3, offset := 3, embedded := false, tag := "", pkgPath := "", byteOffset := 24 }]),
    (64, Go.TypeDesc.func #[43, 55] #[4] false),
    (65, Go.TypeDesc.func #[24, 3] #[24, 28] false),
    (66, Go.TypeDesc.func #[24, 3] #[24] false),
    (67, Go.TypeDesc.func #[24, 3, 3, 3] #[4] false),
    (68, Go.TypeDesc.tuple #[4, 28]),
    (69, Go.TypeDesc.func #[24, 3, 3] #[4, 28] false),
    (70, Go.TypeDesc.func #[24, 3, 3, 4] #[24, 28] false),
    (71, Go.TypeDesc.tuple #[3, 28]),
    (72, Go.TypeDesc.func #[24] #[3, 28] false),
    (73, Go.TypeDesc.func #[24, 3, 3, 4] #[4] false),
    (74, Go.TypeDesc.slice 77),
    (75, Go.TypeDesc.func #[3, 3, 74] #[24, 28] false),
    (76, Go.TypeDesc.struct #[{ name := "Y", type := 3, offset := 0, embedded := false, tag := "", pkgPath := "", byteOffset := 0 }, { name := "X0", type := 3, offset := 1, embedded := false, tag := "", pkgPath := "", byteOffset := 8 }, { name := "X1", type := 3, offset := 2, embedded := false, tag := "", pkgPath := "", byteOffset := 16 }]),
    (77, Go.TypeDesc.struct #[{ name := "Y", type := 3, offset := 0, embedded := false, tag := "", pkgPath := "", byteOffset := 0 }, { name := "X0", type := 3, offset := 1, embedded := false, tag := "", pkgPath := "", byteOffset := 8 }, { name := "X1", type := 3, offset := 2, embedded := false, tag := "", pkgPath := "", byteOffset := 16 }]),
    (78, Go.TypeDesc.func #[3, 3, 74] #[4] false),
    (79, Go.TypeDesc.func #[24, 3, 3, 3, 3] #[24, 28] false),
    (80, Go.TypeDesc.func #[24, 3, 3] #[24, 28] false),
    (81, Go.TypeDesc.func #[24, 3, 3, 3, 3] #[4] false),
    (82, Go.TypeDesc.func #[53, 3] #[24, 28] false),
    (83, Go.TypeDesc.func #[53] #[28] false),
    (84, Go.TypeDesc.tuple #[53, 28]),
    (85, Go.TypeDesc.func #[24, 5] #[53, 28] false),
    (86, Go.TypeDesc.func #[53, 3, 5] #[4] false),
    (87, Go.TypeDesc.struct #[{ name := "W", type := 3, offset := 0, embedded := false, tag := "", pkgPath := "", byteOffset := 0 }, { name := "H", type := 3, offset := 1, embedded := false, tag := "", pkgPath := "", byteOffset := 8 }, { name := "Pix", type := 22, offset := 2, embedded := false, tag := "", pkgPath := "", byteOffset := 16 }]),
    (88, Go.TypeDesc.func #[87, 87, 3] #[3, 28] false),
    (89, Go.TypeDesc.func #[87] #[28] false),
    (90, Go.TypeDesc.func #[87, 87, 3] #[4] false),
    (91, Go.TypeDesc.slice 3),
    (92, Go.TypeDesc.slice 27),
    (93, Go.TypeDesc.tuple #[87, 28]),
    (94, Go.TypeDesc.func #[55, 91, 92] #[87, 28] false),
    (95, Go.TypeDesc.func #[87, 28, 28] #[4] false),
    (96, Go.TypeDesc.func #[87, 3] #[24, 28] false),
    (97, Go.TypeDesc.func #[55, 91, 92, 3] #[4] false),
    (98, Go.TypeDesc.slice 102),
    (99, Go.TypeDesc.tuple #[91, 28]),
    (100, Go.TypeDesc.func #[87, 3] #[91, 28] false),
    (101, Go.TypeDesc.struct #[{ name := "L", type := 3, offset := 0, embedded := false, tag := "", pkgPath := "", byteOffset := 0 }, { name := "A", type := 3, offset := 1, embedded := false, tag := "", pkgPath := "", byteOffset := 8 }, { name := "B", type := 3, offset := 2, embedded := false, tag := "", pkgPath := "", byteOffset := 16 }]),
    (102, Go.TypeDesc.struct #[{ name := "L", type := 3, offset := 0, embedded := false, tag := "", pkgPath := "", byteOffset := 0 }, { name := "A", type := 3, offset := 1, embedded := false, tag := "", pkgPath := "", byteOffset := 8 }, { name := "B", type := 3, offset := 2, embedded := false, tag := "", pkgPath := "", byteOffset := 16 }]),
    (103, Go.TypeDesc.tuple #[102, 28]),
    (104, Go.TypeDesc.func #[87, 98] #[102, 28] false),
    (105, Go.TypeDesc.func #[102] #[28] false),
    (106, Go.TypeDesc.func #[87, 3, 98] #[4] false),
    (107, Go.TypeDesc.func #[22, 22] #[4] false),
    (108, Go.TypeDesc.func #[109, 3, 3] #[4] false),
    (109, Go.TypeDesc.pointer 24),
    (110, Go.TypeDesc.func #[3, 3] #[24] false),
    (111, Go.TypeDesc.func #[109, 3, 3] #[] false),
    (112, Go.TypeDesc.func #[109, 48] #[3] false),
    (113, Go.TypeDesc.func #[] #[24] false),
    (114, Go.TypeDesc.tuple #[74, 28]),
    (115, Go.TypeDesc.func #[24] #[74, 28] false),
    (116, Go.TypeDesc.func #[109, 3] #[24] false),
    (117, Go.TypeDesc.func #[3] #[3] false),
    (118, Go.TypeDesc.func #[5] #[3] false),
    (119, Go.TypeDesc.func #[3, 3, 120] #[24] false),
    (120, Go.TypeDesc.func #[3, 3] #[4] false),
    (121, Go.TypeDesc.func #[109, 3, 3] #[24] false),
    (122, Go.TypeDesc.func #[130] #[] false),
    (123, Go.TypeDesc.func #[130] #[] false),
    (124, Go.TypeDesc.func #[109, 3] #[123] false),
    (125, Go.TypeDesc.func #[] #[55] false),
    (126, Go.TypeDesc.func #[91, 91] #[4] false),
    (127, Go.TypeDesc.func #[128, 3, 3, 3] #[4] false),
    (128, Go.TypeDesc.pointer 87),
    (129, Go.TypeDesc.func #[55, 91, 92] #[28] false),
    (130, Go.TypeDesc.func #[77] #[4] false),
    (131, Go.TypeDesc.func #[] #[9] false),
    (132, Go.TypeDesc.struct #[{ name := "_interface", type := 17, offset := 0, embedded := false, tag := "", pkgPath := "runtime", byteOffset := 0 }, { name := "concrete", type := 17, offset := 1, embedded := false, tag := "", pkgPath := "runtime", byteOffset := 8 }, { name := "asserted", type := 17, offset := 2, embedded := false, tag := "", pkgPath := "runtime", byteOffset := 16 }, { name := "missingMethod", type := 9, offset := 3, embedded := false, tag := "", pkgPath := "runtime", byteOffset := 24 }]),
    (133, Go.TypeDesc.struct #[{ name := "_interface", type := 17, offset := 0, embedded := false, tag := "", pkgPath := "runtime", byteOffset := 0 }, { name := "concrete", type := 17, offset := 1, embedded := false, tag := "", pkgPath := "runtime", byteOffset := 8 }, { name := "asserted", type := 17, offset := 2, embedded := false, tag := "", pkgPath := "runtime", byteOffset := 16 }, { name := "missingMethod", type := 9, offset := 3, embedded := false, tag := "", pkgPath := "runtime", byteOffset := 24 }]),
    (134, Go.TypeDesc.array 0 16),
    (135, Go.TypeDesc.struct #[{ name := "_", type := 134, offset := 0, embedded := false, tag := "", pkgPath := "runtime", byteOffset := 0 }]),
    (136, Go.TypeDesc.struct #[{ name := "_", type := 134, offset := 0, embedded := false, tag := "", pkgPath := "runtime", byteOffset := 0 }]),
    (137, Go.TypeDesc.func #[] #[3] false),
    (138, Go.TypeDesc.int (Go.IntKind.u32)),
    (139, Go.TypeDesc.int (Go.IntKind.u8)),
    (140, Go.TypeDesc.int (Go.IntKind.u8)),
    (141, Go.TypeDesc.func #[147, 147] #[4] false),
    (142, Go.TypeDesc.pointer 5),
    (143, Go.TypeDesc.int (Go.IntKind.i32)),
    (144, Go.TypeDesc.int (Go.IntKind.i32)),
    (145, Go.TypeDesc.struct #[{ name := "Size_", type := 12, offset := 0, embedded := false, tag := "", pkgPath := "", byteOffset := 0 }, { name := "PtrBytes", type := 12, offset := 1, embedded := false, tag := "", pkgPath := "", byteOffset := 8 }, { name := "Hash", type := 138, offset := 2, embedded := false, tag := "", pkgPath := "", byteOffset := 16 }, { name := "TFlag", type := 139, offset := 3, embedded := false, tag := "", pkgPath := "", byteOffset := 20 }, { name := "Align_", type := 5, offset := 4, embedded := false, tag := "", pkgPath := "", byteOffset := 21 }, { name := "FieldAlign_", type := 5, offset := 5, embedded := false, tag := "", pkgPath := "", byteOffset := 22 }, { name := "Kind_", type := 140, offset := 6, embedded := false, tag := "", pkgPath := "", byteOffset := 23 }, { name := "Equal", type := 141, offset := 7, embedded := false, tag := "", pkgPath := "", byteOffset := 24 }, { name := "GCData", type := 142, offset := 8, embedded := false, tag := "", pkgPath := "", byteOffset := 32 }, { name := "Str", type := 143, offset := 9, embedded := false, tag := "", pkgPath := "", byteOffset := 40 }, { name := "PtrToThis", type := 144, offset := 10, embedded := false, tag := "", pkgPath := "", byteOffset := 44 }]),
    (146, Go.TypeDesc.struct #[{ name := "Size_", type := 12, offset := 0, embedded := false, tag := "", pkgPath := "", byteOffset := 0 }, { name := "PtrBytes", type := 12, offset := 1, embedded := false, tag := "", pkgPath := "", byteOffset := 8 }, { name := "Hash", type := 138, offset := 2, embedded := false, tag := "", pkgPath := "", byteOffset := 16 }, { name := "TFlag", type := 139, offset := 3, embedded := false, tag := "", pkgPath := "", byteOffset := 20 }, { name := "Align_", type := 5, offset := 4, embedded := false, tag := "", pkgPath := "", byteOffset := 21 }, { name := "FieldAlign_", type := 5, offset := 5, embedded := false, tag := "", pkgPath := "", byteOffset := 22 }, { name := "Kind_", type := 140, offset := 6, embedded := false, tag := "", pkgPath := "", byteOffset := 23 }, { name := "Equal", type := 141, offset := 7, embedded := false, tag := "", pkgPath := "", byteOffset := 24 }, { name := "GCData", type := 142, offset := 8, embedded := false, tag := "", pkgPath := "", byteOffset := 32 }, { name := "Str", type := 143, offset := 9, embedded := false, tag := "", pkgPath := "", byteOffset := 40 }, { name := "PtrToThis", type := 144, offset := 10, embedded := false, tag := "", pkgPath := "", byteOffset := 44 }]),
    (147, Go.TypeDesc.unsafePointer)],
  inf := [(1, (some (.nilFunc), 1, 8)),
    (2, (some (.int .i64 0), 1, 8)),
    (3, (some (.int .i64 0), 1, 8)),
    (4, (some (.bool false), 1, 1)),
    (5, (some (.int .u8 0), 1, 1)),
    (6, (some (.int .u8 0), 1, 1)),
    (7, (some (.agg #[.int .i64 0, .int .i64 0, .bool false, .int .u8 0]), 4, 24)),
    (8, (some (.agg #[.int .i64 0, .int .i64 0, .bool false, .int .u8 0]), 4, 24)),
    (9, (some (.string ByteArray.empty), 1, 16)),
    (10, (some (.string ByteArray.empty), 1, 16)),
    (11, (some (.string ByteArray.empty), 1, 16)),
    (12, (some (.int .u64 0), 1, 8)),
    (13, (some (.agg #[.string ByteArray.empty, .int .u64 0]), 2, 24)),
    (14, (some (.agg #[.string ByteArray.empty, .int .u64 0]), 2, 24)),
    (15, (some (.pointer none), 1, 8)),
    (16, (some (.pointer none), 1, 8)),
    (17, (some (.pointer none), 1, 8)),
    (18, (some (.agg #[.pointer none]), 1, 8)),
    (19, (some (.agg #[.pointer none]), 1, 8)),
    (20, (some (.nilIface), 1, 16)),
    (21, (some (.int .i32 0), 1, 4)),
    (22, (some (.slice none 0 0), 1, 24)),
    (23, (some (.agg #[.int .i64 0, .int .i64 0, .slice none 0 0]), 3, 40)),
    (24, (some (.agg #[.int .i64 0, .int .i64 0, .slice none 0 0]), 3, 40)),
    (25, (some (.nilFunc), 1, 8)),
    (26, (some (.agg #[.int .i64 0, .int .i64 0]), 2, 16)),
    (27, (some (.agg #[.int .i64 0, .int .i64 0]), 2, 16)),
    (28, (some (.int .i64 0), 1, 8)),
    (30, (some (.nilFunc), 1, 8)),
    (32, (some (.nilFunc), 1, 8)),
    (33, (some (.nilFunc), 1, 8)),
    (34, (some (.nilFunc), 1, 8)),
    (35, (some (.slice none 0 0), 1, 24)),
    (36, (some (.nilFunc), 1, 8)),
    (37, (some (.nilFunc), 1, 8)),
    (38, (some (.nilFunc), 1, 8)),
    (39, (some (.nilFunc), 1, 8)),
    (40, (some (.nilFunc), 1, 8)),
    (41, (some (.nilFunc), 1, 8)),
    (42, (some (.nilFunc), 1, 8)),
    (43, (some (.slice none 0 0), 1, 24)),
    (45, (some (.nilFunc), 1, 8)),
    (46, (some (.nilFunc), 1, 8)),
    (47, (some (.agg #[.int .i64 0, .int .i64 0, .int .i64 0, .int .i64 0, .int .i64 0]), 5, 40)),
    (48, (some (.agg #[.int .i64 0, .int .i64 0, .int .i64 0, .int .i64 0, .int .i64 0]), 5, 40)),
    (49, (some (.slice none 0 0), 1, 24)),
    (51, (some (.nilFunc), 1, 8)),
    (52, (some (.agg #[.int .i64 0, .int .i64 0, .slice none 0 0]), 3, 40)),
    (53, (some (.agg #[.int .i64 0, .int .i64 0, .slice none 0 0]), 3, 40)),
    (54, (some (.nilFunc), 1, 8)),
    (55, (some (.slice none 0 0), 1, 24)),
    (56, (some (.slice none 0 0), 1, 24)),
    (58, (some (.nilFunc), 1, 8)),
    (59, (some (.nilFunc), 1, 8)),
    (60, (some (.agg #[.int .i64 0, .int .i64 0]), 2, 16)),
    (61, (some (.agg #[.int .i64 0, .int .i64 0, .int .i64 0, .int .i64 0, .int .i64 0, .int .i64 0, .int .i64 0, .int .i64 0, .int .i64 0, .int .i64 0]), 10, 80)),
    (62, (some (.agg #[.int .i64 0, .int .i64 0, .int .i64 0, .int .i64 0]), 4, 32)),
    (63, (some (.agg #[.int .i64 0, .int .i64 0, .int .i64 0, .int .i64 0]), 4, 32)),
    (64, (some (.nilFunc), 1, 8)),
    (65, (some (.nilFunc), 1, 8)),
    (66, (some (.nilFunc), 1, 8)),
    (67, (some (.nilFunc), 1, 8)),
    (69, (some (.nilFunc), 1, 8)),
    (70, (some (.nilFunc), 1, 8)),
    (72, (some (.nilFunc), 1, 8)),
    (73, (some (.nilFunc), 1, 8)),
    (74, (some (.slice none 0 0), 1, 24)),
    (75, (some (.nilFunc), 1, 8)),
    (76, (some (.agg #[.int .i64 0, .int .i64 0, .int .i64 0]), 3, 24)),
    (77, (some (.agg #[.int .i64 0, .int .i64 0, .int .i64 0]), 3, 24)),
    (78, (some (.nilFunc), 1, 8)),
    (79, (some (.nilFunc), 1, 8)),
    (80, (some (.nilFunc), 1, 8)),
    (81, (some (.nilFunc), 1, 8)),
    (82, (some (.nilFunc), 1, 8)),
    (83, (some (.nilFunc), 1, 8)),
    (85, (some (.nilFunc), 1, 8)),
    (86, (some (.nilFunc), 1, 8)),
    (87, (some (.agg #[.int .i64 0, .int .i64 0, .slice none 0 0]), 3, 40)),
    (88, (some (.nilFunc), 1, 8)),
    (89, (some (.nilFunc), 1, 8)),
    (90, (some (.nilFunc), 1, 8)),
    (91, (some (.slice none 0 0), 1, 24)),
    (92, (some (.slice none 0 0), 1, 24)),
    (94, (some (.nilFunc), 1, 8)),
    (95, (some (.nilFunc), 1, 8)),
    (96, (some (.nilFunc), 1, 8)),
    (97, (some (.nilFunc), 1, 8)),
    (98, (some (.slice none 0 0), 1, 24)),
    (100, (some (.nilFunc), 1, 8)),
    (101, (some (.agg #[.int .i64 0, .int .i64 0, .int .i64 0]), 3, 24)),
    (102, (some (.agg #[.int .i64 0, .int .i64 0, .int .i64 0]), 3, 24)),
    (104, (some (.nilFunc), 1, 8)),
    (105, (some (.nilFunc), 1, 8)),
    (106, (some (.nilFunc), 1, 8)),
    (107, (some (.nilFunc), 1, 8)),
    (108, (some (.nilFunc), 1, 8)),
    (109, (some (.pointer none), 1, 8)),
    (110, (some (.nilFunc), 1, 8)),
    (111, (some (.nilFunc), 1, 8)),
    (112, (some (.nilFunc), 1, 8)),
    (113, (some (.nilFunc), 1, 8)),
    (115, (some (.nilFunc), 1, 8)),
    (116, (some (.nilFunc), 1, 8)),
    (117, (some (.nilFunc), 1, 8)),
    (118, (some (.nilFunc), 1, 8)),
    (119, (some (.nilFunc), 1, 8)),
    (120, (some (.nilFunc), 1, 8)),
    (121, (some (.nilFunc), 1, 8)),
    (122, (some (.nilFunc), 1, 8)),
    (123, (some (.nilFunc), 1, 8)),
    (124, (some (.nilFunc), 1, 8)),
    (125, (some (.nilFunc), 1, 8)),
    (126, (some (.nilFunc), 1, 8)),
    (127, (some (.nilFunc), 1, 8)),
    (128, (some (.pointer none), 1, 8)),
    (129, (some (.nilFunc), 1, 8)),
    (130, (some (.nilFunc), 1, 8)),
    (131, (some (.nilFunc), 1, 8)),
    (132, (some (.agg #[.pointer none, .pointer none, .pointer none, .string ByteArray.empty]), 4, 40)),
    (133, (some (.agg #[.pointer none, .pointer none, .pointer none, .string ByteArray.empty]), 4, 40)),
    (134, (some (.agg #[]), 0, 0)),
    (135, (some (.agg #[]), 0, 0)),
    (136, (some (.agg #[]), 0, 0)),
    (137, (some (.nilFunc), 1, 8)),
    (138, (some (.int .u32 0), 1, 4)),
    (139, (some (.int .u8 0), 1, 1)),
    (140, (some (.int .u8 0), 1, 1)),
    (141, (some (.nilFunc), 1, 8)),
    (142, (some (.pointer none), 1, 8)),
    (143, (some (.int .i32 0), 1, 4)),
    (144, (some (.int .i32 0), 1, 4)),
    (145, (some (.agg #[.int .u64 0, .int .u64 0, .int .u32 0, .int .u8 0, .int .u8 0, .int .u8 0, .int .u8 0, .nilFunc, .pointer none, .int .i32 0, .int .i32 0]), 11, 48)),
    (146, (some (.agg #[.int .u64 0, .int .u64 0, .int .u32 0, .int .u8 0, .int .u8 0, .int .u8 0, .int .u8 0, .nilFunc, .pointer none, .int .i32 0, .int .i32 0]), 11, 48)),
    (147, (some (.pointer none), 1, 8))],
  fld := [(7, [(0, (1, false)), (1, (1, false)), (2, (1, false)), (3, (1, false))]),
    (8, [(0, (1, false)), (1, (1, false)), (2, (1, false)), (3, (1, false))]),
    (13, [(0, (1, false)), (1, (1, false))]),
    (14, [(0, (1, false)), (1, (1, false))]),
    (18, [(0, (1, false))]),
    (19, [(0, (1, false))]),
    (23, [(0, (1, false)), (1, (1, false)), (2, (1, false))]),
    (24, [(0, (1, false)), (1, (1, false)), (2, (1, false))]),
    (26, [(0, (1, false)), (1, (1, false))]),
    (27, [(0, (1, false)), (1, (1, false))]),
    (47, [(0, (1, false)), (1, (1, false)), (2, (1, false)), (3, (1, false)), (4, (1, false))]),
    (48, [(0, (1, false)), (1, (1, false)), (2, (1, false)), (3, (1, false)), (4, (1, false))]),
    (52, [(0, (1, false)), (1, (1, false)), (2, (1, false))]),
    (53, [(0, (1, false)), (1, (1, false)), (2, (1, false))]),
    (62, [(0, (1, false)), (1, (1, false)), (2, (1, false)), (3, (1, false))]),
    (63, [(0, (1, false)), (1, (1, false)), (2, (1, false)), (3, (1, false))]),
    (76, [(0, (1, false)), (1, (1, false)), (2, (1, false))]),
    (77, [(0, (1, false)), (1, (1, false)), (2, (1, false))]),
    (87, [(0, (1, false)), (1, (1, false)), (2, (1, false))]),
    (101, [(0, (1, false)), (1, (1, false)), (2, (1, false))]),
    (102, [(0, (1, false)), (1, (1, false)), (2, (1, false))]),
    (132, [(0, (1, false)), (1, (1, false)), (2, (1, false)), (3, (1, false))]),
    (133, [(0, (1, false)), (1, (1, false)), (2, (1, false)), (3, (1, false))]),
    (135, [(0, (0, true))]),
    (136, [(0, (0, true))]),
    (145, [(0, (1, false)), (1, (1, false)), (2, (1, false)), (3, (1, false)), (4, (1, false)), (5, (1, false)), (6, (1, false)), (7, (1, false)), (8, (1, false)), (9, (1, false)), (10, (1, false))]),
    (146, [(0, (1, false)), (1, (1, false)), (2, (1, false)), (3, (1, false)), (4, (1, false)), (5, (1, false)), (6, (1, false)), (7, (1, false)), (8, (1, false)), (9, (1, false)), (10, (1, false))])],
  eqs := [(26, 2), (27, 2), (47, 5), (48, 5), (62, 4), (63, 4), (76, 3), (77, 3), (101, 3), (102, 3)] }
theorem ty_1 : tyI Try.prog 1 = some (some (.nilFunc), 1, 8) := by kernel_rfl
theorem ty_2 : tyI Try.prog 2 = some (some (.int .i64 0), 1, 8) := by kernel_rfl
theorem ty_3 : tyI Try.prog 3 = some (some (.int .i64 0), 1, 8) := by kernel_rfl
theorem ty_4 : tyI Try.prog 4 = some (some (.bool false), 1, 1) := by kernel_rfl
theorem ty_5 : tyI Try.prog 5 = some (some (.int .u8 0), 1, 1) := by kernel_rfl
theorem ty_6 : tyI Try.prog 6 = some (some (.int .u8 0), 1, 1) := by kernel_rfl
theorem ty_7 : tyI Try.prog 7 = some (some (.agg #[.int .i64 0, .int .i64 0, .bool false, .int .u8 0]), 4, 24) := by kernel_rfl
theorem ty_8 : tyI Try.prog 8 = some (some (.agg #[.int .i64 0, .int .i64 0, .bool false, .int .u8 0]), 4, 24) := by kernel_rfl
theorem ty_9 : tyI Try.prog 9 = some (some (.string ByteArray.empty), 1, 16) := by kernel_rfl
theorem ty_10 : tyI Try.prog 10 = some (some (.string ByteArray.empty), 1, 16) := by kernel_rfl
theorem ty_11 : tyI Try.prog 11 = some (some (.string ByteArray.empty), 1, 16) := by kernel_rfl
theorem ty_12 : tyI Try.prog 12 = some (some (.int .u64 0), 1, 8) := by kernel_rfl
theorem ty_13 : tyI Try.prog 13 = some (some (.agg #[.string ByteArray.empty, .int .u64 0]), 2, 24) := by kernel_rfl
theorem ty_14 : tyI Try.prog 14 = some (some (.agg #[.string ByteArray.empty, .int .u64 0]), 2, 24) := by kernel_rfl
theorem ty_15 : tyI Try.prog 15 = some (some (.pointer none), 1, 8) := by kernel_rfl
theorem ty_16 : tyI Try.prog 16 = some (some (.pointer none), 1, 8) := by kernel_rfl
theorem ty_17 : tyI Try.prog 17 = some (some (.pointer none), 1, 8) := by kernel_rfl
theorem ty_18 : tyI Try.prog 18 = some (some (.agg #[.pointer none]), 1, 8) := by kernel_rfl
theorem ty_19 : tyI Try.prog 19 = some (some (.agg #[.pointer none]), 1, 8) := by kernel_rfl
theorem ty_20 : tyI Try.prog 20 = some (some (.nilIface), 1, 16) := by kernel_rfl
theorem ty_21 : tyI Try.prog 21 = some (some (.int .i32 0), 1, 4) := by kernel_rfl
theorem ty_22 : tyI Try.prog 22 = some (some (.slice none 0 0), 1, 24) := by kernel_rfl
theorem ty_23 : tyI Try.prog 23 = some (some (.agg #[.int .i64 0, .int .i64 0, .slice none 0 0]), 3, 40) := by kernel_rfl
theorem ty_24 : tyI Try.prog 24 = some (some (.agg #[.int .i64 0, .int .i64 0, .slice none 0 0]), 3, 40) := by kernel_rfl
theorem ty_25 : tyI Try.prog 25 = some (some (.nilFunc), 1, 8) := by kernel_rfl
theorem ty_26 : tyI Try.prog 26 = some (some (.agg #[.int .i64 0, .int .i64 0]), 2, 16) := by kernel_rfl
theorem ty_27 : tyI Try.prog 27 = some (some (.agg #[.int .i64 0, .int .i64 0]), 2, 16) := by kernel_rfl
theorem ty_28 : tyI Try.prog 28 = some (some (.int .i64 0), 1, 8) := by kernel_rfl
theorem ty_30 : tyI Try.prog 30 = some (some (.nilFunc), 1, 8) := by kernel_rfl
theorem ty_32 : tyI Try.prog 32 = some (some (.nilFunc), 1, 8) := by kernel_rfl
theorem ty_33 : tyI Try.prog 33 = some (some (.nilFunc), 1, 8) := by kernel_rfl
theorem ty_34 : tyI Try.prog 34 = some (some (.nilFunc), 1, 8) := by kernel_rfl
theorem ty_35 : tyI Try.prog 35 = some (some (.slice none 0 0), 1, 24) := by kernel_rfl
theorem ty_36 : tyI Try.prog 36 = some (some (.nilFunc), 1, 8) := by kernel_rfl
theorem ty_37 : tyI Try.prog 37 = some (some (.nilFunc), 1, 8) := by kernel_rfl
theorem ty_38 : tyI Try.prog 38 = some (some (.nilFunc), 1, 8) := by kernel_rfl
theorem ty_39 : tyI Try.prog 39 = some (some (.nilFunc), 1, 8) := by kernel_rfl
theorem ty_40 : tyI Try.prog 40 = some (some (.nilFunc), 1, 8) := by kernel_rfl
theorem ty_41 : tyI Try.prog 41 = some (some (.nilFunc), 1, 8) := by kernel_rfl
theorem ty_42 : tyI Try.prog 42 = some (some (.nilFunc), 1, 8) := by kernel_rfl
theorem ty_43 : tyI Try.prog 43 = some (some (.slice none 0 0), 1, 24) := by kernel_rfl
theorem ty_45 : tyI Try.prog 45 = some (some (.nilFunc), 1, 8) := by kernel_rfl
theorem ty_46 : tyI Try.prog 46 = some (some (.nilFunc), 1, 8) := by kernel_rfl
theorem ty_47 : tyI Try.prog 47 = some (some (.agg #[.int .i64 0, .int .i64 0, .int .i64 0, .int .i64 0, .int .i64 0]), 5, 40) := by kernel_rfl
theorem ty_48 : tyI Try.prog 48 = some (some (.agg #[.int .i64 0, .int .i64 0, .int .i64 0, .int .i64 0, .int .i64 0]), 5, 40) := by kernel_rfl
theorem ty_49 : tyI Try.prog 49 = some (some (.slice none 0 0), 1, 24) := by kernel_rfl
theorem ty_51 : tyI Try.prog 51 = some (some (.nilFunc), 1, 8) := by kernel_rfl
theorem ty_52 : tyI Try.prog 52 = some (some (.agg #[.int .i64 0, .int .i64 0, .slice none 0 0]), 3, 40) := by kernel_rfl
theorem ty_53 : tyI Try.prog 53 = some (some (.agg #[.int .i64 0, .int .i64 0, .slice none 0 0]), 3, 40) := by kernel_rfl
theorem ty_54 : tyI Try.prog 54 = some (some (.nilFunc), 1, 8) := by kernel_rfl
theorem ty_55 : tyI Try.prog 55 = some (some (.slice none 0 0), 1, 24) := by kernel_rfl
theorem ty_56 : tyI Try.prog 56 = some (some (.slice none 0 0), 1, 24) := by kernel_rfl
theorem ty_58 : tyI Try.prog 58 = some (some (.nilFunc), 1, 8) := by kernel_rfl
theorem ty_59 : tyI Try.prog 59 = some (some (.nilFunc), 1, 8) := by kernel_rfl
theorem ty_60 : tyI Try.prog 60 = some (some (.agg #[.int .i64 0, .int .i64 0]), 2, 16) := by kernel_rfl
theorem ty_61 : tyI Try.prog 61 = some (some (.agg #[.int .i64 0, .int .i64 0, .int .i64 0, .int .i64 0, .int .i64 0, .int .i64 0, .int .i64 0, .int .i64 0, .int .i64 0, .int .i64 0]), 10, 80) := by kernel_rfl
theorem ty_62 : tyI Try.prog 62 = some (some (.agg #[.int .i64 0, .int .i64 0, .int .i64 0, .int .i64 0]), 4, 32) := by kernel_rfl
theorem ty_63 : tyI Try.prog 63 = some (some (.agg #[.int .i64 0, .int .i64 0, .int .i64 0, .int .i64 0]), 4, 32) := by kernel_rfl
theorem ty_64 : tyI Try.prog 64 = some (some (.nilFunc), 1, 8) := by kernel_rfl
theorem ty_65 : tyI Try.prog 65 = some (some (.nilFunc), 1, 8) := by kernel_rfl
theorem ty_66 : tyI Try.prog 66 = some (some (.nilFunc), 1, 8) := by kernel_rfl
theorem ty_67 : tyI Try.prog 67 = some (some (.nilFunc), 1, 8) := by kernel_rfl
theorem ty_69 : tyI Try.prog 69 = some (some (.nilFunc), 1, 8) := by kernel_rfl
theorem ty_70 : tyI Try.prog 70 = some (some (.nilFunc), 1, 8) := by kernel_rfl
theorem ty_72 : tyI Try.prog 72 = some (some (.nilFunc), 1, 8) := by kernel_rfl
theorem ty_73 : tyI Try.prog 73 = some (some (.nilFunc), 1, 8) := by kernel_rfl
theorem ty_74 : tyI Try.prog 74 = some (some (.slice none 0 0), 1, 24) := by kernel_rfl
theorem ty_75 : tyI Try.prog 75 = some (some (.nilFunc), 1, 8) := by kernel_rfl
theorem ty_76 : tyI Try.prog 76 = some (some (.agg #[.int .i64 0, .int .i64 0, .int .i64 0]), 3, 24) := by kernel_rfl
theorem ty_77 : tyI Try.prog 77 = some (some (.agg #[.int .i64 0, .int .i64 0, .int .i64 0]), 3, 24) := by kernel_rfl
theorem ty_78 : tyI Try.prog 78 = some (some (.nilFunc), 1, 8) := by kernel_rfl
theorem ty_79 : tyI Try.prog 79 = some (some (.nilFunc), 1, 8) := by kernel_rfl
theorem ty_80 : tyI Try.prog 80 = some (some (.nilFunc), 1, 8) := by kernel_rfl
theorem ty_81 : tyI Try.prog 81 = some (some (.nilFunc), 1, 8) := by kernel_rfl
theorem ty_82 : tyI Try.prog 82 = some (some (.nilFunc), 1, 8) := by kernel_rfl
theorem ty_83 : tyI Try.prog 83 = some (some (.nilFunc), 1, 8) := by kernel_rfl
theorem ty_85 : tyI Try.prog 85 = some (some (.nilFunc), 1, 8) := by kernel_rfl
theorem ty_86 : tyI Try.prog 86 = some (some (.nilFunc), 1, 8) := by kernel_rfl
theorem ty_87 : tyI Try.prog 87 = some (some (.agg #[.int .i64 0, .int .i64 0, .slice none 0 0]), 3, 40) := by kernel_rfl
theorem ty_88 : tyI Try.prog 88 = some (some (.nilFunc), 1, 8) := by kernel_rfl
theorem ty_89 : tyI Try.prog 89 = some (some (.nilFunc), 1, 8) := by kernel_rfl
theorem ty_90 : tyI Try.prog 90 = some (some (.nilFunc), 1, 8) := by kernel_rfl
theorem ty_91 : tyI Try.prog 91 = some (some (.slice none 0 0), 1, 24) := by kernel_rfl
theorem ty_92 : tyI Try.prog 92 = some (some (.slice none 0 0), 1, 24) := by kernel_rfl
theorem ty_94 : tyI Try.prog 94 = some (some (.nilFunc), 1, 8) := by kernel_rfl
theorem ty_95 : tyI Try.prog 95 = some (some (.nilFunc), 1, 8) := by kernel_rfl
theorem ty_96 : tyI Try.prog 96 = some (some (.nilFunc), 1, 8) := by kernel_rfl
theorem ty_97 : tyI Try.prog 97 = some (some (.nilFunc), 1, 8) := by kernel_rfl
theorem ty_98 : tyI Try.prog 98 = some (some (.slice none 0 0), 1, 24) := by kernel_rfl
theorem ty_100 : tyI Try.prog 100 = some (some (.nilFunc), 1, 8) := by kernel_rfl
theorem ty_101 : tyI Try.prog 101 = some (some (.agg #[.int .i64 0, .int .i64 0, .int .i64 0]), 3, 24) := by kernel_rfl
theorem ty_102 : tyI Try.prog 102 = some (some (.agg #[.int .i64 0, .int .i64 0, .int .i64 0]), 3, 24) := by kernel_rfl
theorem ty_104 : tyI Try.prog 104 = some (some (.nilFunc), 1, 8) := by kernel_rfl
theorem ty_105 : tyI Try.prog 105 = some (some (.nilFunc), 1, 8) := by kernel_rfl
theorem ty_106 : tyI Try.prog 106 = some (some (.nilFunc), 1, 8) := by kernel_rfl
theorem ty_107 : tyI Try.prog 107 = some (some (.nilFunc), 1, 8) := by kernel_rfl
theorem ty_108 : tyI Try.prog 108 = some (some (.nilFunc), 1, 8) := by kernel_rfl
theorem ty_109 : tyI Try.prog 109 = some (some (.pointer none), 1, 8) := by kernel_rfl
theorem ty_110 : tyI Try.prog 110 = some (some (.nilFunc), 1, 8) := by kernel_rfl
theorem ty_111 : tyI Try.prog 111 = some (some (.nilFunc), 1, 8) := by kernel_rfl
theorem ty_112 : tyI Try.prog 112 = some (some (.nilFunc), 1, 8) := by kernel_rfl
theorem ty_113 : tyI Try.prog 113 = some (some (.nilFunc), 1, 8) := by kernel_rfl
theorem ty_115 : tyI Try.prog 115 = some (some (.nilFunc), 1, 8) := by kernel_rfl
theorem ty_116 : tyI Try.prog 116 = some (some (.nilFunc), 1, 8) := by kernel_rfl
theorem ty_117 : tyI Try.prog 117 = some (some (.nilFunc), 1, 8) := by kernel_rfl
theorem ty_118 : tyI Try.prog 118 = some (some (.nilFunc), 1, 8) := by kernel_rfl
theorem ty_119 : tyI Try.prog 119 = some (some (.nilFunc), 1, 8) := by kernel_rfl
theorem ty_120 : tyI Try.prog 120 = some (some (.nilFunc), 1, 8) := by kernel_rfl
theorem ty_121 : tyI Try.prog 121 = some (some (.nilFunc), 1, 8) := by kernel_rfl
theorem ty_122 : tyI Try.prog 122 = some (some (.nilFunc), 1, 8) := by kernel_rfl
theorem ty_123 : tyI Try.prog 123 = some (some (.nilFunc), 1, 8) := by kernel_rfl
theorem ty_124 : tyI Try.prog 124 = some (some (.nilFunc), 1, 8) := by kernel_rfl
theorem ty_125 : tyI Try.prog 125 = some (some (.nilFunc), 1, 8) := by kernel_rfl
theorem ty_126 : tyI Try.prog 126 = some (some (.nilFunc), 1, 8) := by kernel_rfl
theorem ty_127 : tyI Try.prog 127 = some (some (.nilFunc), 1, 8) := by kernel_rfl
theorem ty_128 : tyI Try.prog 128 = some (some (.pointer none), 1, 8) := by kernel_rfl
theorem ty_129 : tyI Try.prog 129 = some (some (.nilFunc), 1, 8) := by kernel_rfl
theorem ty_130 : tyI Try.prog 130 = some (some (.nilFunc), 1, 8) := by kernel_rfl
theorem ty_131 : tyI Try.prog 131 = some (some (.nilFunc), 1, 8) := by kernel_rfl
theorem ty_132 : tyI Try.prog 132 = some (some (.agg #[.pointer none, .pointer none, .pointer none, .string ByteArray.empty]), 4, 40) := by kernel_rfl
theorem ty_133 : tyI Try.prog 133 = some (some (.agg #[.pointer none, .pointer none, .pointer none, .string ByteArray.empty]), 4, 40) := by kernel_rfl
theorem ty_134 : tyI Try.prog 134 = some (some (.agg #[]), 0, 0) := by kernel_rfl
theorem ty_135 : tyI Try.prog 135 = some (some (.agg #[]), 0, 0) := by kernel_rfl
theorem ty_136 : tyI Try.prog 136 = some (some (.agg #[]), 0, 0) := by kernel_rfl
theorem ty_137 : tyI Try.prog 137 = some (some (.nilFunc), 1, 8) := by kernel_rfl
theorem ty_138 : tyI Try.prog 138 = some (some (.int .u32 0), 1, 4) := by kernel_rfl
theorem ty_139 : tyI Try.prog 139 = some (some (.int .u8 0), 1, 1) := by kernel_rfl
theorem ty_140 : tyI Try.prog 140 = some (some (.int .u8 0), 1, 1) := by kernel_rfl
theorem ty_141 : tyI Try.prog 141 = some (some (.nilFunc), 1, 8) := by kernel_rfl
theorem ty_142 : tyI Try.prog 142 = some (some (.pointer none), 1, 8) := by kernel_rfl
theorem ty_143 : tyI Try.prog 143 = some (some (.int .i32 0), 1, 4) := by kernel_rfl
theorem ty_144 : tyI Try.prog 144 = some (some (.int .i32 0), 1, 4) := by kernel_rfl
theorem ty_145 : tyI Try.prog 145 = some (some (.agg #[.int .u64 0, .int .u64 0, .int .u32 0, .int .u8 0, .int .u8 0, .int .u8 0, .int .u8 0, .nilFunc, .pointer none, .int .i32 0, .int .i32 0]), 11, 48) := by kernel_rfl
theorem ty_146 : tyI Try.prog 146 = some (some (.agg #[.int .u64 0, .int .u64 0, .int .u32 0, .int .u8 0, .int .u8 0, .int .u8 0, .int .u8 0, .nilFunc, .pointer none, .int .i32 0, .int .i32 0]), 11, 48) := by kernel_rfl
theorem ty_147 : tyI Try.prog 147 = some (some (.pointer none), 1, 8) := by kernel_rfl
theorem fl_7 : fieldsP Try.prog 7 = some [(0, (1, false)), (1, (1, false)), (2, (1, false)), (3, (1, false))] := by kernel_rfl
theorem fl_8 : fieldsP Try.prog 8 = some [(0, (1, false)), (1, (1, false)), (2, (1, false)), (3, (1, false))] := by kernel_rfl
theorem fl_13 : fieldsP Try.prog 13 = some [(0, (1, false)), (1, (1, false))] := by kernel_rfl
theorem fl_14 : fieldsP Try.prog 14 = some [(0, (1, false)), (1, (1, false))] := by kernel_rfl
theorem fl_18 : fieldsP Try.prog 18 = some [(0, (1, false))] := by kernel_rfl
theorem fl_19 : fieldsP Try.prog 19 = some [(0, (1, false))] := by kernel_rfl
theorem fl_23 : fieldsP Try.prog 23 = some [(0, (1, false)), (1, (1, false)), (2, (1, false))] := by kernel_rfl
theorem fl_24 : fieldsP Try.prog 24 = some [(0, (1, false)), (1, (1, false)), (2, (1, false))] := by kernel_rfl
theorem fl_26 : fieldsP Try.prog 26 = some [(0, (1, false)), (1, (1, false))] := by kernel_rfl
theorem fl_27 : fieldsP Try.prog 27 = some [(0, (1, false)), (1, (1, false))] := by kernel_rfl
theorem fl_47 : fieldsP Try.prog 47 = some [(0, (1, false)), (1, (1, false)), (2, (1, false)), (3, (1, false)), (4, (1, false))] := by kernel_rfl
theorem fl_48 : fieldsP Try.prog 48 = some [(0, (1, false)), (1, (1, false)), (2, (1, false)), (3, (1, false)), (4, (1, false))] := by kernel_rfl
theorem fl_52 : fieldsP Try.prog 52 = some [(0, (1, false)), (1, (1, false)), (2, (1, false))] := by kernel_rfl
theorem fl_53 : fieldsP Try.prog 53 = some [(0, (1, false)), (1, (1, false)), (2, (1, false))] := by kernel_rfl
theorem fl_62 : fieldsP Try.prog 62 = some [(0, (1, false)), (1, (1, false)), (2, (1, false)), (3, (1, false))] := by kernel_rfl
theorem fl_63 : fieldsP Try.prog 63 = some [(0, (1, false)), (1, (1, false)), (2, (1, false)), (3, (1, false))] := by kernel_rfl
theorem fl_76 : fieldsP Try.prog 76 = some [(0, (1, false)), (1, (1, false)), (2, (1, false))] := by kernel_rfl
theorem fl_77 : fieldsP Try.prog 77 = some [(0, (1, false)), (1, (1, false)), (2, (1, false))] := by kernel_rfl
theorem fl_87 : fieldsP Try.prog 87 = some [(0, (1, false)), (1, (1, false)), (2, (1, false))] := by kernel_rfl
theorem fl_101 : fieldsP Try.prog 101 = some [(0, (1, false)), (1, (1, false)), (2, (1, false))] := by kernel_rfl
theorem fl_102 : fieldsP Try.prog 102 = some [(0, (1, false)), (1, (1, false)), (2, (1, false))] := by kernel_rfl
theorem fl_132 : fieldsP Try.prog 132 = some [(0, (1, false)), (1, (1, false)), (2, (1, false)), (3, (1, false))] := by kernel_rfl
theorem fl_133 : fieldsP Try.prog 133 = some [(0, (1, false)), (1, (1, false)), (2, (1, false)), (3, (1, false))] := by kernel_rfl
theorem fl_135 : fieldsP Try.prog 135 = some [(0, (0, true))] := by kernel_rfl
theorem fl_136 : fieldsP Try.prog 136 = some [(0, (0, true))] := by kernel_rfl
theorem fl_145 : fieldsP Try.prog 145 = some [(0, (1, false)), (1, (1, false)), (2, (1, false)), (3, (1, false)), (4, (1, false)), (5, (1, false)), (6, (1, false)), (7, (1, false)), (8, (1, false)), (9, (1, false)), (10, (1, false))] := by kernel_rfl
theorem fl_146 : fieldsP Try.prog 146 = some [(0, (1, false)), (1, (1, false)), (2, (1, false)), (3, (1, false)), (4, (1, false)), (5, (1, false)), (6, (1, false)), (7, (1, false)), (8, (1, false)), (9, (1, false)), (10, (1, false))] := by kernel_rfl
theorem eq_26 : eqInts Try.prog 26 = true ∧ (match Try.prog.underlying 26 with | some (.struct fs) => fs.size | _ => 0) = 2 := ⟨by kernel_rfl, by rw [Try.underlying26]; rfl⟩
theorem eq_27 : eqInts Try.prog 27 = true ∧ (match Try.prog.underlying 27 with | some (.struct fs) => fs.size | _ => 0) = 2 := ⟨by kernel_rfl, by rw [Try.underlying27]; rfl⟩
theorem eq_47 : eqInts Try.prog 47 = true ∧ (match Try.prog.underlying 47 with | some (.struct fs) => fs.size | _ => 0) = 5 := ⟨by kernel_rfl, by rw [Try.underlying47]; rfl⟩
theorem eq_48 : eqInts Try.prog 48 = true ∧ (match Try.prog.underlying 48 with | some (.struct fs) => fs.size | _ => 0) = 5 := ⟨by kernel_rfl, by rw [Try.underlying48]; rfl⟩
theorem eq_62 : eqInts Try.prog 62 = true ∧ (match Try.prog.underlying 62 with | some (.struct fs) => fs.size | _ => 0) = 4 := ⟨by kernel_rfl, by rw [Try.underlying62]; rfl⟩
theorem eq_63 : eqInts Try.prog 63 = true ∧ (match Try.prog.underlying 63 with | some (.struct fs) => fs.size | _ => 0) = 4 := ⟨by kernel_rfl, by rw [Try.underlying63]; rfl⟩
theorem eq_76 : eqInts Try.prog 76 = true ∧ (match Try.prog.underlying 76 with | some (.struct fs) => fs.size | _ => 0) = 3 := ⟨by kernel_rfl, by rw [Try.underlying76]; rfl⟩
theorem eq_77 : eqInts Try.prog 77 = true ∧ (match Try.prog.underlying 77 with | some (.struct fs) => fs.size | _ => 0) = 3 := ⟨by kernel_rfl, by rw [Try.underlying77]; rfl⟩
theorem eq_101 : eqInts Try.prog 101 = true ∧ (match Try.prog.underlying 101 with | some (.struct fs) => fs.size | _ => 0) = 3 := ⟨by kernel_rfl, by rw [Try.underlying101]; rfl⟩
theorem eq_102 : eqInts Try.prog 102 = true ∧ (match Try.prog.underlying 102 with | some (.struct fs) => fs.size | _ => 0) = 3 := ⟨by kernel_rfl, by rw [Try.underlying102]; rfl⟩
theorem tab_und : allP (fun k D => Try.prog.underlying k = some D) tab.und := ⟨Try.underlying0, ⟨Try.underlying1, ⟨Try.underlying2, ⟨Try.underlying3, ⟨Try.underlying4, ⟨Try.underlying5, ⟨Try.underlying6, ⟨Try.underlying7, ⟨Try.underlying8, ⟨Try.underlying9, ⟨Try.underlying10, ⟨Try.underlying11, ⟨Try.underlying12, ⟨Try.underlying13, ⟨Try.underlying14, ⟨Try.underlying15, ⟨Try.underlying16, ⟨Try.underlying17, ⟨Try.underlying18, ⟨Try.underlying19, ⟨Try.underlying20, ⟨Try.underlying21, ⟨Try.underlying22, ⟨Try.underlying23, ⟨Try.underlying24, ⟨Try.underlying25, ⟨Try.underlying26, ⟨Try.underlying27, ⟨Try.underlying28, ⟨Try.underlying29, ⟨Try.underlying30, ⟨Try.underlying31, ⟨Try.underlying32, ⟨Try.underlying33, ⟨Try.underlying34, ⟨Try.underlying35, ⟨Try.underlying36, ⟨Try.underlying37, ⟨Try.underlying38, ⟨Try.underlying39, ⟨Try.underlying40, ⟨Try.underlying41, ⟨Try.underlying42, ⟨Try.underlying43, ⟨Try.underlying44, ⟨Try.underlying45, ⟨Try.underlying46, ⟨Try.underlying47, ⟨Try.underlying48, ⟨Try.underlying49, ⟨Try.underlying50, ⟨Try.underlying51, ⟨Try.underlying52, ⟨Try.underlying53, ⟨Try.underlying54, ⟨Try.underlying55, ⟨Try.underlying56, ⟨Try.underlying57, ⟨Try.underlying58, ⟨Try.underlying59, ⟨Try.underlying60, ⟨Try.underlying61, ⟨Try.underlying62, ⟨Try.underlying63, ⟨Try.underlying64, ⟨Try.underlying65, ⟨Try.underlying66, ⟨Try.underlying67, ⟨Try.underlying68, ⟨Try.underlying69, ⟨Try.underlying70, ⟨Try.underlying71, ⟨Try.underlying72, ⟨Try.underlying73, ⟨Try.underlying74, ⟨Try.underlying75, ⟨Try.underlying76, ⟨Try.underlying77, ⟨Try.underlying78, ⟨Try.underlying79, ⟨Try.underlying80, ⟨Try.underlying81, ⟨Try.underlying82, ⟨Try.underlying83, ⟨Try.underlying84, ⟨Try.underlying85, ⟨Try.underlying86, ⟨Try.underlying87, ⟨Try.underlying88, ⟨Try.underlying89, ⟨Try.underlying90, ⟨Try.underlying91, ⟨Try.underlying92, ⟨Try.underlying93, ⟨Try.underlying94, ⟨Try.underlying95, ⟨Try.underlying96, ⟨Try.underlying97, ⟨Try.underlying98, ⟨Try.underlying99, ⟨Try.underlying100, ⟨Try.underlying101, ⟨Try.underlying102, ⟨Try.underlying103, ⟨Try.underlying104, ⟨Try.underlying105, ⟨Try.underlying106, ⟨Try.underlying107, ⟨Try.underlying108, ⟨Try.underlying109, ⟨Try.underlying110, ⟨Try.underlying111, ⟨Try.underlying112, ⟨Try.underlying113, ⟨Try.underlying114, ⟨Try.underlying115, ⟨Try.underlying116, ⟨Try.underlying117, ⟨Try.underlying118, ⟨Try.underlying119, ⟨Try.underlying120, ⟨Try.underlying121, ⟨Try.underlying122, ⟨Try.underlying123, ⟨Try.underlying124, ⟨Try.underlying125, ⟨Try.underlying126, ⟨Try.underlying127, ⟨Try.underlying128, ⟨Try.underlying129, ⟨Try.underlying130, ⟨Try.underlying131, ⟨Try.underlying132, ⟨Try.underlying133, ⟨Try.underlying134, ⟨Try.underlying135, ⟨Try.underlying136, ⟨Try.underlying137, ⟨Try.underlying138, ⟨Try.underlying139, ⟨Try.underlying140, ⟨Try.underlying141, ⟨Try.underlying142, ⟨Try.underlying143, ⟨Try.underlying144, ⟨Try.underlying145, ⟨Try.underlying146, ⟨Try.underlying147, trivial⟩⟩⟩⟩⟩⟩⟩⟩⟩⟩⟩⟩⟩⟩⟩⟩⟩⟩⟩⟩⟩⟩⟩⟩⟩⟩⟩⟩⟩⟩⟩⟩⟩⟩⟩⟩⟩⟩⟩⟩⟩⟩⟩⟩⟩⟩⟩⟩⟩⟩⟩⟩⟩⟩⟩⟩⟩⟩⟩⟩⟩⟩⟩⟩⟩⟩⟩⟩⟩⟩⟩⟩⟩⟩⟩⟩⟩⟩⟩⟩⟩⟩⟩⟩⟩⟩⟩⟩⟩⟩⟩⟩⟩⟩⟩⟩⟩⟩⟩⟩⟩⟩⟩⟩⟩⟩⟩⟩⟩⟩⟩⟩⟩⟩⟩⟩⟩⟩⟩⟩⟩⟩⟩⟩⟩⟩⟩⟩⟩⟩⟩⟩⟩⟩⟩⟩⟩⟩⟩⟩⟩⟩⟩⟩⟩⟩⟩⟩
theorem tab_inf : allP (fun k x => tyI Try.prog k = some x) tab.inf := ⟨ty_1, ⟨ty_2, ⟨ty_3, ⟨ty_4, ⟨ty_5, ⟨ty_6, ⟨ty_7, ⟨ty_8, ⟨ty_9, ⟨ty_10, ⟨ty_11, ⟨ty_12, ⟨ty_13, ⟨ty_14, ⟨ty_15, ⟨ty_16, ⟨ty_17, ⟨ty_18, ⟨ty_19, ⟨ty_20, ⟨ty_21, ⟨ty_22, ⟨ty_23, ⟨ty_24, ⟨ty_25, ⟨ty_26, ⟨ty_27, ⟨ty_28, ⟨ty_30, ⟨ty_32, ⟨ty_33, ⟨ty_34, ⟨ty_35, ⟨ty_36, ⟨ty_37, ⟨ty_38, ⟨ty_39, ⟨ty_40, ⟨ty_41, ⟨ty_42, ⟨ty_43, ⟨ty_45, ⟨ty_46, ⟨ty_47, ⟨ty_48, ⟨ty_49, ⟨ty_51, ⟨ty_52, ⟨ty_53, ⟨ty_54, ⟨ty_55, ⟨ty_56, ⟨ty_58, ⟨ty_59, ⟨ty_60, ⟨ty_61, ⟨ty_62, ⟨ty_63, ⟨ty_64, ⟨ty_65, ⟨ty_66, ⟨ty_67, ⟨ty_69, ⟨ty_70, ⟨ty_72, ⟨ty_73, ⟨ty_74, ⟨ty_75, ⟨ty_76, ⟨ty_77, ⟨ty_78, ⟨ty_79, ⟨ty_80, ⟨ty_81, ⟨ty_82, ⟨ty_83, ⟨ty_85, ⟨ty_86, ⟨ty_87, ⟨ty_88, ⟨ty_89, ⟨ty_90, ⟨ty_91, ⟨ty_92, ⟨ty_94, ⟨ty_95, ⟨ty_96, ⟨ty_97, ⟨ty_98, ⟨ty_100, ⟨ty_101, ⟨ty_102, ⟨ty_104, ⟨ty_105, ⟨ty_106, ⟨ty_107, ⟨ty_108, ⟨ty_109, ⟨ty_110, ⟨ty_111, ⟨ty_112, ⟨ty_113, ⟨ty_115, ⟨ty_116, ⟨ty_117, ⟨ty_118, ⟨ty_119, ⟨ty_120, ⟨ty_121, ⟨ty_122, ⟨ty_123, ⟨ty_124, ⟨ty_125, ⟨ty_126, ⟨ty_127, ⟨ty_128, ⟨ty_129, ⟨ty_130, ⟨ty_131, ⟨ty_132, ⟨ty_133, ⟨ty_134, ⟨ty_135, ⟨ty_136, ⟨ty_137, ⟨ty_138, ⟨ty_139, ⟨ty_140, ⟨ty_141, ⟨ty_142, ⟨ty_143, ⟨ty_144, ⟨ty_145, ⟨ty_146, ⟨ty_147, trivial⟩⟩⟩⟩⟩⟩⟩⟩⟩⟩⟩⟩⟩⟩⟩⟩⟩⟩⟩⟩⟩⟩⟩⟩⟩⟩⟩⟩⟩⟩⟩⟩⟩⟩⟩⟩⟩⟩⟩⟩⟩⟩⟩⟩⟩⟩⟩⟩⟩⟩⟩⟩⟩⟩⟩⟩⟩⟩⟩⟩⟩⟩⟩⟩⟩⟩⟩⟩⟩⟩⟩⟩⟩⟩⟩⟩⟩⟩⟩⟩⟩⟩⟩⟩⟩⟩⟩⟩⟩⟩⟩⟩⟩⟩⟩⟩⟩⟩⟩⟩⟩⟩⟩⟩⟩⟩⟩⟩⟩⟩⟩⟩⟩⟩⟩⟩⟩⟩⟩⟩⟩⟩⟩⟩⟩⟩⟩⟩⟩⟩⟩⟩⟩⟩⟩
theorem tab_fld : allP (fun k x => fieldsP Try.prog k = some x) tab.fld := ⟨fl_7, ⟨fl_8, ⟨fl_13, ⟨fl_14, ⟨fl_18, ⟨fl_19, ⟨fl_23, ⟨fl_24, ⟨fl_26, ⟨fl_27, ⟨fl_47, ⟨fl_48, ⟨fl_52, ⟨fl_53, ⟨fl_62, ⟨fl_63, ⟨fl_76, ⟨fl_77, ⟨fl_87, ⟨fl_101, ⟨fl_102, ⟨fl_132, ⟨fl_133, ⟨fl_135, ⟨fl_136, ⟨fl_145, ⟨fl_146, trivial⟩⟩⟩⟩⟩⟩⟩⟩⟩⟩⟩⟩⟩⟩⟩⟩⟩⟩⟩⟩⟩⟩⟩⟩⟩⟩⟩
set_option maxRecDepth 100000 in
theorem tab_eqs : allP (fun k L => eqInts Try.prog k = true ∧ (match Try.prog.underlying k with | some (.struct fs) => fs.size | _ => 0) = L) tab.eqs := ⟨eq_26, ⟨eq_27, ⟨eq_47, ⟨eq_48, ⟨eq_62, ⟨eq_63, ⟨eq_76, ⟨eq_77, ⟨eq_101, ⟨eq_102, trivial⟩⟩⟩⟩⟩⟩⟩⟩⟩⟩
set_option maxRecDepth 100000 in
theorem tab_ok : tab.ok Try.prog := ⟨tab_und, tab_inf, tab_fld, tab_eqs⟩
def cas : List (Nat × Nat) := [(2, 0), (3, 0), (4, 0), (5, 0), (6, 0), (7, 0), (8, 0), (9, 0), (10, 0), (11, 0), (12, 0), (13, 0), (14, 0), (15, 0), (16, 0), (17, 0), (18, 0), (19, 0), (20, 0), (21, 0), (22, 0), (23, 0), (24, 0), (25, 0), (26, 0), (27, 0), (28, 0), (29, 0), (30, 0), (31, 0), (32, 0), (33, 0), (34, 0), (35, 0), (36, 0), (37, 0), (38, 0), (39, 0), (40, 0), (41, 0), (42, 0), (43, 0), (44, 0), (45, 0), (46, 0), (47, 0), (48, 0), (49, 0), (50, 0), (51, 0), (52, 0), (53, 0), (54, 0), (55, 0), (56, 0), (57, 0), (58, 0), (59, 0), (60, 0), (61, 0), (62, 0), (63, 0), (64, 0), (65, 0), (66, 0), (67, 0), (68, 0), (69, 0), (70, 0), (71, 0), (72, 0), (73, 0), (74, 0), (75, 0), (76, 0), (77, 0), (78, 0), (79, 0), (80, 0), (81, 0), (82, 0), (83, 0), (84, 0), (85, 0), (86, 0), (87, 0)]
theorem ca_2 : callable Try.prog 2 = true := by kernel_rfl
theorem ca_3 : callable Try.prog 3 = true := by kernel_rfl
theorem ca_4 : callable Try.prog 4 = true := by kernel_rfl
theorem ca_5 : callable Try.prog 5 = true := by kernel_rfl
theorem ca_6 : callable Try.prog 6 = true := by kernel_rfl
theorem ca_7 : callable Try.prog 7 = true := by kernel_rfl
theorem ca_8 : callable Try.prog 8 = true := by kernel_rfl
theorem ca_9 : callable Try.prog 9 = true := by kernel_rfl
theorem ca_10 : callable Try.prog 10 = true := by kernel_rfl
theorem ca_11 : callable Try.prog 11 = true := by kernel_rfl
theorem ca_12 : callable Try.prog 12 = true := by kernel_rfl
theorem ca_13 : callable Try.prog 13 = true := by kernel_rfl
theorem ca_14 : callable Try.prog 14 = true := by kernel_rfl
theorem ca_15 : callable Try.prog 15 = true := by kernel_rfl
theorem ca_16 : callable Try.prog 16 = true := by kernel_rfl
theorem ca_17 : callable Try.prog 17 = true := by kernel_rfl
theorem ca_18 : callable Try.prog 18 = true := by kernel_rfl
theorem ca_19 : callable Try.prog 19 = true := by kernel_rfl
theorem ca_20 : callable Try.prog 20 = true := by kernel_rfl
theorem ca_21 : callable Try.prog 21 = true := by kernel_rfl
theorem ca_22 : callable Try.prog 22 = true := by kernel_rfl
theorem ca_23 : callable Try.prog 23 = true := by kernel_rfl
theorem ca_24 : callable Try.prog 24 = true := by kernel_rfl
theorem ca_25 : callable Try.prog 25 = true := by kernel_rfl
theorem ca_26 : callable Try.prog 26 = true := by kernel_rfl
theorem ca_27 : callable Try.prog 27 = true := by kernel_rfl
theorem ca_28 : callable Try.prog 28 = true := by kernel_rfl
theorem ca_29 : callable Try.prog 29 = true := by kernel_rfl
theorem ca_30 : callable Try.prog 30 = true := by kernel_rfl
theorem ca_31 : callable Try.prog 31 = true := by kernel_rfl
theorem ca_32 : callable Try.prog 32 = true := by kernel_rfl
theorem ca_33 : callable Try.prog 33 = true := by kernel_rfl
theorem ca_34 : callable Try.prog 34 = true := by kernel_rfl
theorem ca_35 : callable Try.prog 35 = true := by kernel_rfl
theorem ca_36 : callable Try.prog 36 = true := by kernel_rfl
theorem ca_37 : callable Try.prog 37 = true := by kernel_rfl
theorem ca_38 : callable Try.prog 38 = true := by kernel_rfl
theorem ca_39 : callable Try.prog 39 = true := by kernel_rfl
theorem ca_40 : callable Try.prog 40 = true := by kernel_rfl
theorem ca_41 : callable Try.prog 41 = true := by kernel_rfl
theorem ca_42 : callable Try.prog 42 = true := by kernel_rfl
theorem ca_43 : callable Try.prog 43 = true := by kernel_rfl
theorem ca_44 : callable Try.prog 44 = true := by kernel_rfl
theorem ca_45 : callable Try.prog 45 = true := by kernel_rfl
theorem ca_46 : callable Try.prog 46 = true := by kernel_rfl
theorem ca_47 : callable Try.prog 47 = true := by kernel_rfl
theorem ca_48 : callable Try.prog 48 = true := by kernel_rfl
theorem ca_49 : callable Try.prog 49 = true := by kernel_rfl
theorem ca_50 : callable Try.prog 50 = true := by kernel_rfl
theorem ca_51 : callable Try.prog 51 = true := by kernel_rfl
theorem ca_52 : callable Try.prog 52 = true := by kernel_rfl
theorem ca_53 : callable Try.prog 53 = true := by kernel_rfl
theorem ca_54 : callable Try.prog 54 = true := by kernel_rfl
theorem ca_55 : callable Try.prog 55 = true := by kernel_rfl
theorem ca_56 : callable Try.prog 56 = true := by kernel_rfl
theorem ca_57 : callable Try.prog 57 = true := by kernel_rfl
theorem ca_58 : callable Try.prog 58 = true := by kernel_rfl
theorem ca_59 : callable Try.prog 59 = true := by kernel_rfl
theorem ca_60 : callable Try.prog 60 = true := by kernel_rfl
theorem ca_61 : callable Try.prog 61 = true := by kernel_rfl
theorem ca_62 : callable Try.prog 62 = true := by kernel_rfl
theorem ca_63 : callable Try.prog 63 = true := by kernel_rfl
theorem ca_64 : callable Try.prog 64 = true := by kernel_rfl
theorem ca_65 : callable Try.prog 65 = true := by kernel_rfl
theorem ca_66 : callable Try.prog 66 = true := by kernel_rfl
theorem ca_67 : callable Try.prog 67 = true := by kernel_rfl
theorem ca_68 : callable Try.prog 68 = true := by kernel_rfl
theorem ca_69 : callable Try.prog 69 = true := by kernel_rfl
theorem ca_70 : callable Try.prog 70 = true := by kernel_rfl
theorem ca_71 : callable Try.prog 71 = true := by kernel_rfl
theorem ca_72 : callable Try.prog 72 = true := by kernel_rfl
theorem ca_73 : callable Try.prog 73 = true := by kernel_rfl
theorem ca_74 : callable Try.prog 74 = true := by kernel_rfl
theorem ca_75 : callable Try.prog 75 = true := by kernel_rfl
theorem ca_76 : callable Try.prog 76 = true := by kernel_rfl
theorem ca_77 : callable Try.prog 77 = true := by kernel_rfl
theorem ca_78 : callable Try.prog 78 = true := by kernel_rfl
theorem ca_79 : callable Try.prog 79 = true := by kernel_rfl
theorem ca_80 : callable Try.prog 80 = true := by kernel_rfl
theorem ca_81 : callable Try.prog 81 = true := by kernel_rfl
theorem ca_82 : callable Try.prog 82 = true := by kernel_rfl
theorem ca_83 : callable Try.prog 83 = true := by kernel_rfl
theorem ca_84 : callable Try.prog 84 = true := by kernel_rfl
theorem ca_85 : callable Try.prog 85 = true := by kernel_rfl
theorem ca_86 : callable Try.prog 86 = true := by kernel_rfl
theorem ca_87 : callable Try.prog 87 = true := by kernel_rfl
theorem cas_ok : allP (fun k _ => callable Try.prog k = true) cas := ⟨ca_2, ⟨ca_3, ⟨ca_4, ⟨ca_5, ⟨ca_6, ⟨ca_7, ⟨ca_8, ⟨ca_9, ⟨ca_10, ⟨ca_11, ⟨ca_12, ⟨ca_13, ⟨ca_14, ⟨ca_15, ⟨ca_16, ⟨ca_17, ⟨ca_18, ⟨ca_19, ⟨ca_20, ⟨ca_21, ⟨ca_22, ⟨ca_23, ⟨ca_24, ⟨ca_25, ⟨ca_26, ⟨ca_27, ⟨ca_28, ⟨ca_29, ⟨ca_30, ⟨ca_31, ⟨ca_32, ⟨ca_33, ⟨ca_34, ⟨ca_35, ⟨ca_36, ⟨ca_37, ⟨ca_38, ⟨ca_39, ⟨ca_40, ⟨ca_41, ⟨ca_42, ⟨ca_43, ⟨ca_44, ⟨ca_45, ⟨ca_46, ⟨ca_47, ⟨ca_48, ⟨ca_49, ⟨ca_50, ⟨ca_51, ⟨ca_52, ⟨ca_53, ⟨ca_54, ⟨ca_55, ⟨ca_56, ⟨ca_57, ⟨ca_58, ⟨ca_59, ⟨ca_60, ⟨ca_61, ⟨ca_62, ⟨ca_63, ⟨ca_64, ⟨ca_65, ⟨ca_66, ⟨ca_67, ⟨ca_68, ⟨ca_69, ⟨ca_70, ⟨ca_71, ⟨ca_72, ⟨ca_73, ⟨ca_74, ⟨ca_75, ⟨ca_76, ⟨ca_77, ⟨ca_78, ⟨ca_79, ⟨ca_80, ⟨ca_81, ⟨ca_82, ⟨ca_83, ⟨ca_84, ⟨ca_85, ⟨ca_86, ⟨ca_87, trivial⟩⟩⟩⟩⟩⟩⟩⟩⟩⟩⟩⟩⟩⟩⟩⟩⟩⟩⟩⟩⟩⟩⟩⟩⟩⟩⟩⟩⟩⟩⟩⟩⟩⟩⟩⟩⟩⟩⟩⟩⟩⟩⟩⟩⟩⟩⟩⟩⟩⟩⟩⟩⟩⟩⟩⟩⟩⟩⟩⟩⟩⟩⟩⟩⟩⟩⟩⟩⟩⟩⟩⟩⟩⟩⟩⟩⟩⟩⟩⟩⟩⟩⟩⟩⟩⟩
end Go.Proofs.Ytnbmldnahacnlaa
/- What a run of the abstract machine asks of the program (printed by a program). -/
namespace Go.Proofs.Ytnbmldnahacnlaa
open Go
noncomputable def ctx : Ctx := ⟨tab, [(2, Try.f2), (3, Try.f3), (4, Try.f4), (5, Try.f5), (6, Try.f6), (7, Try.f7), (8, Try.f8), (9, Try.f9), (10, Try.f10), (11, Try.f11), (12, Try.f12), (13, Try.f13), (14, Try.f14), (15, Try.f15), (16, Try.f16), (17, Try.f17), (18, Try.f18), (19, Try.f19), (20, Try.f20), (21, Try.f21), (22, Try.f22), (23, Try.f23), (24, Try.f24), (25, Try.f25), (26, Try.f26), (27, Try.f27), (28, Try.f28), (29, Try.f29), (30, Try.f30), (31, Try.f31), (32, Try.f32), (33, Try.f33), (34, Try.f34), (35, Try.f35), (36, Try.f36), (37, Try.f37), (38, Try.f38), (39, Try.f39), (40, Try.f40), (41, Try.f41), (42, Try.f42), (43, Try.f43), (44, Try.f44), (45, Try.f45), (46, Try.f46), (47, Try.f47), (48, Try.f48), (49, Try.f49), (50, Try.f50), (51, Try.f51), (52, Try.f52), (53, Try.f53), (54, Try.f54), (55, Try.f55), (56, Try.f56), (57, Try.f57), (58, Try.f58), (59, Try.f59), (60, Try.f60), (61, Try.f61), (62, Try.f62), (63, Try.f63), (64, Try.f64), (65, Try.f65), (66, Try.f66), (67, Try.f67), (68, Try.f68), (69, Try.f69), (70, Try.f70), (71, Try.f71), (72, Try.f72), (73, Try.f73), (74, Try.f74), (75, Try.f75), (76, Try.f76), (77, Try.f77), (78, Try.f78), (79, Try.f79), (80, Try.f80), (81, Try.f81), (82, Try.f82), (83, Try.f83), (84, Try.f84), (85, Try.f85), (86, Try.f86), (87, Try.f87)], cas⟩
set_option maxRecDepth 100000 in
theorem fns_ok : allP (fun k f => Try.prog.funcs[k]? = some f) ctx.fns := ⟨Try.func2, ⟨Try.func3, ⟨Try.func4, ⟨Try.func5, ⟨Try.func6, ⟨Try.func7, ⟨Try.func8, ⟨Try.func9, ⟨Try.func10, ⟨Try.func11, ⟨Try.func12, ⟨Try.func13, ⟨Try.func14, ⟨Try.func15, ⟨Try.func16, ⟨Try.func17, ⟨Try.func18, ⟨Try.func19, ⟨Try.func20, ⟨Try.func21, ⟨Try.func22, ⟨Try.func23, ⟨Try.func24, ⟨Try.func25, ⟨Try.func26, ⟨Try.func27, ⟨Try.func28, ⟨Try.func29, ⟨Try.func30, ⟨Try.func31, ⟨Try.func32, ⟨Try.func33, ⟨Try.func34, ⟨Try.func35, ⟨Try.func36, ⟨Try.func37, ⟨Try.func38, ⟨Try.func39, ⟨Try.func40, ⟨Try.func41, ⟨Try.func42, ⟨Try.func43, ⟨Try.func44, ⟨Try.func45, ⟨Try.func46, ⟨Try.func47, ⟨Try.func48, ⟨Try.func49, ⟨Try.func50, ⟨Try.func51, ⟨Try.func52, ⟨Try.func53, ⟨Try.func54, ⟨Try.func55, ⟨Try.func56, ⟨Try.func57, ⟨Try.func58, ⟨Try.func59, ⟨Try.func60, ⟨Try.func61, ⟨Try.func62, ⟨Try.func63, ⟨Try.func64, ⟨Try.func65, ⟨Try.func66, ⟨Try.func67, ⟨Try.func68, ⟨Try.func69, ⟨Try.func70, ⟨Try.func71, ⟨Try.func72, ⟨Try.func73, ⟨Try.func74, ⟨Try.func75, ⟨Try.func76, ⟨Try.func77, ⟨Try.func78, ⟨Try.func79, ⟨Try.func80, ⟨Try.func81, ⟨Try.func82, ⟨Try.func83, ⟨Try.func84, ⟨Try.func85, ⟨Try.func86, ⟨Try.func87, trivial⟩⟩⟩⟩⟩⟩⟩⟩⟩⟩⟩⟩⟩⟩⟩⟩⟩⟩⟩⟩⟩⟩⟩⟩⟩⟩⟩⟩⟩⟩⟩⟩⟩⟩⟩⟩⟩⟩⟩⟩⟩⟩⟩⟩⟩⟩⟩⟩⟩⟩⟩⟩⟩⟩⟩⟩⟩⟩⟩⟩⟩⟩⟩⟩⟩⟩⟩⟩⟩⟩⟩⟩⟩⟩⟩⟩⟩⟩⟩⟩⟩⟩⟩⟩⟩⟩
theorem ctx_ok : ctx.ok Try.prog := ⟨tab_ok, fns_ok, cas_ok, by kernel_rfl⟩
end Go.Proofs.Ytnbmldnahacnlaa
/- Decompiling: the program's functions as the machine over terms takes them. -/
namespace Go.Proofs.Ytnbmldnahacnlaa
open Go Go.RowKit
noncomputable def dc (l : List (Nat × Ctr)) : DC := ⟨tab, ctx.fns, ctx.cas, l⟩
theorem dc_ok {l : List (Nat × Ctr)} (h : allP (CtrOk Try.prog) l) : (dc l).ok Try.prog := ⟨ctx_ok.T, ctx_ok.fns, ctx_ok.cas, ctx_ok.mixed, h⟩
theorem ctr_ok {l : List (Nat × Ctr)} (hl : allP (CtrOk Try.prog) l) {f : Nat} {an : An} {Fn : Nat} {σ ρ : Ty} {g : Nat → σ.den → Option ρ.den} (h : ∀ fu x, (topG (ρ := ρ) (dc l) (drR (dc l)) f an Fn σ (.var x)).den fu = g fu x) : CtrOk Try.prog Fn ⟨σ, ρ, g, Fn⟩ :=
  fun fu x _ hy => topG_ok (dc_ok hl) (fun _ _ hS => drR_ok (dc_ok hl) hS) ((h fu x).trans hy)
end Go.Proofs.Ytnbmldnahacnlaa
/- Residual programs of functions (printed by a program out of the code), checked by the kernel, and the contracts that follow. -/
namespace Go.Proofs.Ytnbmldnahacnlaa
open Go Go.RowKit
set_option linter.unusedVariables false
def R_Within_r (fu : Nat) (a : (Int) × ((Int) × ((Int) × (Unit)))) : Option ((Bool) × (Unit)) :=
  bif (decide (a.2.1 ≤ a.1)) then
    let v0 : Bool := (decide (a.1 ≤ a.2.2.1))
    some ((v0, ()))
  else
  some ((false, ()))
def R_Within_an : An := (.n none .z (.n none .z .z))
noncomputable def R_Within_dc : List (Nat × Ctr) := []
def R_Within_ctr : Ctr := ⟨(.pair (.int .i64) (.pair (.int .i64) (.pair (.int .i64) .unit))), (.pair .bool .unit), R_Within_r, 17⟩
theorem R_Within_ok : CtrOk Try.prog 17 R_Within_ctr := ctr_ok (l := R_Within_dc) (f := 12) (an := R_Within_an) trivial fun fu x => by kernel_rfl
def R_NoBits_r (fu : Nat) (a : ((Int) × ((Int) × (List (Int)))) × (Unit)) : Option ((Bool) × (Unit)) :=
  bif (decide (a.1.1 = (0 : Int))) then
    bif (decide (a.1.2.1 = (0 : Int))) then
      let v0 : Bool := (decide ((List.length a.1.2.2 : Int) = (0 : Int)))
      some ((v0, ()))
    else
    some ((false, ()))
  else
  some ((false, ()))
def R_NoBits_an : An := (.n none .z (.n none .z .z))
noncomputable def R_NoBits_dc : List (Nat × Ctr) := []
def R_NoBits_ctr : Ctr := ⟨(.pair (.agg (.pair (.int .i64) (.pair (.int .i64) (.list (.int .u8))))) .unit), (.pair .bool .unit), R_NoBits_r, 63⟩
theorem R_NoBits_ok : CtrOk Try.prog 63 R_NoBits_ctr := ctr_ok (l := R_NoBits_dc) (f := 12) (an := R_NoBits_an) trivial fun fu x => by kernel_rfl
def law_refused_r (fu : Nat) (a : ((Int) × ((Int) × (List (Int)))) × ((Int) × ((Int) × (Unit)))) : Option ((Bool) × (Unit)) :=
  bindO (R_NoBits_r fu (((a.1.1, (a.1.2.1, a.1.2.2)), ()))) fun v0 =>
  bif v0.1 then
    let v1 : Bool := (decide (a.2.1 = a.2.2.1))
    some ((v1, ()))
  else
  some ((false, ()))
def law_refused_an : An := (.n none .z (.n none .z .z))
noncomputable def law_refused_dc : List (Nat × Ctr) := [(63, R_NoBits_ctr)]
def law_refused_ctr : Ctr := ⟨(.pair (.agg (.pair (.int .i64) (.pair (.int .i64) (.list (.int .u8))))) (.pair (.int .i64) (.pair (.int .i64) .unit))), (.pair .bool .unit), law_refused_r, 18⟩
theorem law_refused_ok : CtrOk Try.prog 18 law_refused_ctr := ctr_ok (l := law_refused_dc) (f := 12) (an := law_refused_an) ⟨R_NoBits_ok, trivial⟩ fun fu x => by kernel_rfl
def math_bits_OnesCount8_r (fu : Nat) (a : (Int) × (Unit)) : Option ((Int) × (Unit)) :=
  bif ((decide ((0 : Int) ≤ a.1)) && (decide (a.1 < (List.length ([0, 1, 1, 2, 1, 2, 2, 3, 1, 2, 2, 3, 2, 3, 3, 4, 1, 2, 2, 3, 2, 3, 3, 4, 2, 3, 3, 4, 3, 4, 4, 5, 1, 2, 2, 3, 2, 3, 3, 4, 2, 3, 3, 4, 3, 4, 4, 5, 2, 3, 3, 4, 3, 4, 4, 5, 3, 4, 4, 5, 4, 5, 5, 6, 1, 2, 2, 3, 2, 3, 3, 4, 2, 3, 3, 4, 3, 4, 4, 5, 2, 3, 3, 4, 3, 4, 4, 5, 3, 4, 4, 5, 4, 5, 5, 6, 2, 3, 3, 4, 3, 4, 4, 5, 3, 4, 4, 5, 4, 5, 5, 6, 3, 4, 4, 5, 4, 5, 5, 6, 4, 5, 5, 6, 5, 6, 6, 7, 1, 2, 2, 3, 2, 3, 3, 4, 2, 3, 3, 4, 3, 4, 4, 5, 2, 3, 3, 4, 3, 4, 4, 5, 3, 4, 4, 5, 4, 5, 5, 6, 2, 3, 3, 4, 3, 4, 4, 5, 3, 4, 4, 5, 4, 5, 5, 6, 3, 4, 4, 5, 4, 5, 5, 6, 4, 5, 5, 6, 5, 6, 6, 7, 2, 3, 3, 4, 3, 4, 4, 5, 3, 4, 4, 5, 4, 5, 5, 6, 3, 4, 4, 5, 4, 5, 5, 6, 4, 5, 5, 6, 5, 6, 6, 7, 3, 4, 4, 5, 4, 5, 5, 6, 4, 5, 5, 6, 5, 6, 6, 7, 4, 5, 5, 6, 5, 6, 6, 7, 5, 6, 6, 7, 6, 7, 7, 8] : List UInt8) : Int)))) then
  let v0 : Int := (IntKind.i64.wrap ((List.getD ([0, 1, 1, 2, 1, 2, 2, 3, 1, 2, 2, 3, 2, 3, 3, 4, 1, 2, 2, 3, 2, 3, 3, 4, 2, 3, 3, 4, 3, 4, 4, 5, 1, 2, 2, 3, 2, 3, 3, 4, 2, 3, 3, 4, 3, 4, 4, 5, 2, 3, 3, 4, 3, 4, 4, 5, 3, 4, 4, 5, 4, 5, 5, 6, 1, 2, 2, 3, 2, 3, 3, 4, 2, 3, 3, 4, 3, 4, 4, 5, 2, 3, 3, 4, 3, 4, 4, 5, 3, 4, 4, 5, 4, 5, 5, 6, 2, 3, 3, 4, 3, 4, 4, 5, 3, 4, 4, 5, 4, 5, 5, 6, 3, 4, 4, 5, 4, 5, 5, 6, 4, 5, 5, 6, 5, 6, 6, 7, 1, 2, 2, 3, 2, 3, 3, 4, 2, 3, 3, 4, 3, 4, 4, 5, 2, 3, 3, 4, 3, 4, 4, 5, 3, 4, 4, 5, 4, 5, 5, 6, 2, 3, 3, 4, 3, 4, 4, 5, 3, 4, 4, 5, 4, 5, 5, 6, 3, 4, 4, 5, 4, 5, 5, 6, 4, 5, 5, 6, 5, 6, 6, 7, 2, 3, 3, 4, 3, 4, 4, 5, 3, 4, 4, 5, 4, 5, 5, 6, 3, 4, 4, 5, 4, 5, 5, 6, 4, 5, 5, 6, 5, 6, 6, 7, 3, 4, 4, 5, 4, 5, 5, 6, 4, 5, 5, 6, 5, 6, 6, 7, 4, 5, 5, 6, 5, 6, 6, 7, 5, 6, 6, 7, 6, 7, 7, 8] : List UInt8) (Int.toNat a.1) 0).toNat : Int))
  some ((v0, ()))
  else none
def math_bits_OnesCount8_an : An := (.n none .z (.n none .z .z))
noncomputable def math_bits_OnesCount8_dc : List (Nat × Ctr) := []
def math_bits_OnesCount8_ctr : Ctr := ⟨(.pair (.int .u8) .unit), (.pair (.int .i64) .unit), math_bits_OnesCount8_r, 70⟩
theorem math_bits_OnesCount8_ok : CtrOk Try.prog 70 math_bits_OnesCount8_ctr := ctr_ok (l := math_bits_OnesCount8_dc) (f := 12) (an := math_bits_OnesCount8_an) trivial fun fu x => by kernel_rfl
def bitmap_stride_r (fu : Nat) (a : (Int) × (Unit)) : Option ((Int) × (Unit)) :=
  let v0 : Int := (IntKind.i64.wrap (Int.tdiv (IntKind.i64.wrap (a.1 + (7 : Int))) (8 : Int)))
  some ((v0, ()))
def bitmap_stride_an : An := (.n none .z (.n none .z .z))
noncomputable def bitmap_stride_dc : List (Nat × Ctr) := []
def bitmap_stride_ctr : Ctr := ⟨(.pair (.int .i64) .unit), (.pair (.int .i64) .unit), bitmap_stride_r, 69⟩
theorem bitmap_stride_ok : CtrOk Try.prog 69 bitmap_stride_ctr := ctr_ok (l := bitmap_stride_dc) (f := 12) (an := bitmap_stride_an) trivial fun fu x => by kernel_rfl
def bitmap_Check_j2 (fu : Nat) (v3 : Unit) : Option ((Int) × (Unit)) :=
  some (((0 : Int), ()))
def bitmap_Check_l3 (fu : Nat) (a : ((Int) × ((Int) × (List (Int)))) × (Unit)) (v2 : Int) (v4 : Int) (j3 : (Unit) → Option ((Int) × (Unit))) (j5 : (Int) → Option ((Int) × (Unit))) (v5 : Int) : Option ((Int) × (Unit)) :=
  bif (decide (v5 < a.1.2.1)) then
    bif ((decide ((0 : Int) ≤ (IntKind.i64.wrap ((IntKind.i64.wrap ((IntKind.i64.wrap (v5 * v2)) + v2)) - (1 : Int))))) && (decide ((IntKind.i64.wrap ((IntKind.i64.wrap ((IntKind.i64.wrap (v5 * v2)) + v2)) - (1 : Int))) < (List.length a.1.2.2 : Int)))) then
    let v6 : Int := (List.getD a.1.2.2 (Int.toNat (IntKind.i64.wrap ((IntKind.i64.wrap ((IntKind.i64.wrap (v5 * v2)) + v2)) - (1 : Int)))) 0)
    bif (decide ((bits BinOp.and IntKind.u8 v6 v4) ≠ (0 : Int))) then
      some (((4 : Int), ()))
    else
    j5 ((IntKind.i64.wrap (v5 + (1 : Int))))
    else none
  else
  j3 (())
def bitmap_Check_j1 (fu : Nat) (a : ((Int) × ((Int) × (List (Int)))) × (Unit)) (v0 : Bool) : Option ((Int) × (Unit)) :=
  bif v0 then
    some (((3 : Int), ()))
  else
  bindO (bitmap_stride_r fu ((a.1.1, ()))) fun v1 =>
  let v2 : Int := v1.1
  bif (decide ((List.length a.1.2.2 : Int) ≠ (IntKind.i64.wrap (v2 * a.1.2.1)))) then
    some (((4 : Int), ()))
  else
  joinF (bitmap_Check_j2 fu) fun j3 =>
  bif ((decide ((0 : Int) ≤ (IntKind.i64.wrap ((IntKind.i64.wrap ((8 : Int) * v2)) - a.1.1)))) && (decide ((IntKind.i64.wrap ((IntKind.i64.wrap ((8 : Int) * v2)) - a.1.1)) ≤ (8 : Int)))) then
  let v4 : Int := (IntKind.u8.wrap ((IntKind.u8.wrap ((1 : Int) * 2 ^ (Int.toNat (IntKind.i64.wrap ((IntKind.i64.wrap ((8 : Int) * v2)) - a.1.1))))) - (1 : Int)))
  bif (decide (v4 ≠ (0 : Int))) then
    loopF (bitmap_Check_l3 fu a v2 v4 j3) fu ((0 : Int))
  else
  j3 (())
  else none
def bitmap_Check_r (fu : Nat) (a : ((Int) × ((Int) × (List (Int)))) × (Unit)) : Option ((Int) × (Unit)) :=
  joinF (bitmap_Check_j1 fu a) fun j0 =>
  bif (decide (a.1.1 < (1 : Int))) then
    j0 (true)
  else
  bif (decide ((1024 : Int) < a.1.1)) then
    j0 (true)
  else
  bif (decide (a.1.2.1 < (1 : Int))) then
    j0 (true)
  else
  j0 ((decide ((1024 : Int) < a.1.2.1)))
def bitmap_Check_an : An := (.n none .z (.n none (.n (some ⟨[1, 2], [0], [], [.reg 23 .bool], 0, []⟩) .z (.n none (.n none .z .z) .z)) (.n none .z (.n none (.n none .z (.n none (.n none .z .z) .z)) (.n (some ⟨[], [0], [], [], 0, []⟩) (.n none .z (.n none .z (.n none (.n none .z (.n none (.n (some ⟨[1, 3, 4, 45], [], [], [.reg 46 (.int .i64)], 0, []⟩) (.n none .z (.n none .z (.n none (.n none (.n none .z (.n none .z (.n none (.n none .z .z) .z))) .z) .z))) .z) .z)) .z))) (.n none .z .z))))))
noncomputable def bitmap_Check_dc : List (Nat × Ctr) := [(69, bitmap_stride_ctr)]
def bitmap_Check_ctr : Ctr := ⟨(.pair (.agg (.pair (.int .i64) (.pair (.int .i64) (.list (.int .u8))))) .unit), (.pair (.int .i64) .unit), bitmap_Check_r, 38⟩
theorem bitmap_Check_ok : CtrOk Try.prog 38 bitmap_Check_ctr := ctr_ok (l := bitmap_Check_dc) (f := 12) (an := bitmap_Check_an) ⟨bitmap_stride_ok, trivial⟩ fun fu x => by kernel_rfl
def bitmap_Count_l1 (fu : Nat) (a : ((Int) × ((Int) × (List (Int)))) × (Unit)) (j2 : ((Int) × (Int)) → Option ((Int) × ((Int) × (Unit)))) (v2 : (Int) × (Int)) : Option ((Int) × ((Int) × (Unit))) :=
  bif (decide (v2.2 < (List.length a.1.2.2 : Int))) then
    bif ((decide ((0 : Int) ≤ v2.2)) && (decide (v2.2 < (List.length a.1.2.2 : Int)))) then
    let v3 : Int := (List.getD a.1.2.2 (Int.toNat v2.2) 0)
    bindO (math_bits_OnesCount8_r fu ((v3, ()))) fun v4 =>
    let v5 : Int := (IntKind.i64.wrap (v2.1 + v4.1))
    j2 ((v5, (IntKind.i64.wrap (v2.2 + (1 : Int)))))
    else none
  else
  let v3 : Int := v2.1
  some ((v3, ((0 : Int), ())))
def bitmap_Count_r (fu : Nat) (a : ((Int) × ((Int) × (List (Int)))) × (Unit)) : Option ((Int) × ((Int) × (Unit))) :=
  bindO (bitmap_Check_r fu (((a.1.1, (a.1.2.1, a.1.2.2)), ()))) fun v0 =>
  let v1 : Int := v0.1
  bif (decide (v1 ≠ (0 : Int))) then
    some (((0 : Int), (v1, ())))
  else
  loopF (bitmap_Count_l1 fu a) fu (((0 : Int), (0 : Int)))
def bitmap_Count_an : An := (.n none .z (.n none (.n none .z (.n none .z (.n none (.n none .z .z) .z))) (.n none .z (.n none (.n none .z (.n none (.n (some ⟨[14, 15, 2, 3], [0], [], [.reg 5 (.int .i64), .reg 16 (.int .i64)], 0, []⟩) (.n none .z (.n none .z (.n none (.n none (.n none .z .z) .z) .z))) .z) .z)) (.n none .z .z)))))
noncomputable def bitmap_Count_dc : List (Nat × Ctr) := [(38, bitmap_Check_ctr), (70, math_bits_OnesCount8_ctr)]
def bitmap_Count_ctr : Ctr := ⟨(.pair (.agg (.pair (.int .i64) (.pair (.int .i64) (.list (.int .u8))))) .unit), (.pair (.int .i64) (.pair (.int .i64) .unit)), bitmap_Count_r, 41⟩
theorem bitmap_Count_ok : CtrOk Try.prog 41 bitmap_Count_ctr := ctr_ok (l := bitmap_Count_dc) (f := 12) (an := bitmap_Count_an) ⟨bitmap_Check_ok, ⟨math_bits_OnesCount8_ok, trivial⟩⟩ fun fu x => by kernel_rfl
def bitmap_Set_j2 (fu : Nat) (a : ((Int) × ((Int) × (List (Int)))) × ((Int) × ((Int) × ((Bool) × (Unit))))) (v3 : List (Int)) : Option (((Int) × ((Int) × (List (Int)))) × ((Int) × (Unit))) :=
  some (((a.1.1, (a.1.2.1, v3)), ((0 : Int), ())))
def bitmap_Set_j1 (fu : Nat) (a : ((Int) × ((Int) × (List (Int)))) × ((Int) × ((Int) × ((Bool) × (Unit))))) (v2 : Bool) : Option (((Int) × ((Int) × (List (Int)))) × ((Int) × (Unit))) :=
  bif v2 then
    some ((((0 : Int), ((0 : Int), ([] : List (Int)))), ((3 : Int), ())))
  else
  bif (decide (((List.length a.1.2.2 : Int) * (2 : Int)) ≤ (140737488355328 : Int))) then
  joinF (bitmap_Set_j2 fu a) fun j3 =>
  bif a.2.2.2.1 then
    bindO (bitmap_stride_r fu ((a.1.1, ()))) fun v4 =>
    bif ((decide ((0 : Int) ≤ (IntKind.i64.wrap ((IntKind.i64.wrap (a.2.2.1 * v4.1)) + (IntKind.i64.wrap (Int.tdiv a.2.1 (8 : Int))))))) && (decide ((IntKind.i64.wrap ((IntKind.i64.wrap (a.2.2.1 * v4.1)) + (IntKind.i64.wrap (Int.tdiv a.2.1 (8 : Int))))) < (List.length a.1.2.2 : Int)))) then
    bif ((decide ((0 : Int) ≤ (Int.tmod a.2.1 (8 : Int)))) && (decide ((Int.tmod a.2.1 (8 : Int)) ≤ (8 : Int)))) then
    bif ((decide ((0 : Int) ≤ (IntKind.i64.wrap ((IntKind.i64.wrap (a.2.2.1 * v4.1)) + (IntKind.i64.wrap (Int.tdiv a.2.1 (8 : Int))))))) && (decide ((IntKind.i64.wrap ((IntKind.i64.wrap (a.2.2.1 * v4.1)) + (IntKind.i64.wrap (Int.tdiv a.2.1 (8 : Int))))) < (List.length a.1.2.2 : Int)))) then
    j3 ((List.set a.1.2.2 (Int.toNat (IntKind.i64.wrap ((IntKind.i64.wrap (a.2.2.1 * v4.1)) + (IntKind.i64.wrap (Int.tdiv a.2.1 (8 : Int)))))) (bits BinOp.or IntKind.u8 (List.getD a.1.2.2 (Int.toNat (IntKind.i64.wrap ((IntKind.i64.wrap (a.2.2.1 * v4.1)) + (IntKind.i64.wrap (Int.tdiv a.2.1 (8 : Int)))))) 0) ((128 : Int) / 2 ^ (Int.toNat (Int.tmod a.2.1 (8 : Int)))))))
    else none
    else none
    else none
  else
  bindO (bitmap_stride_r fu ((a.1.1, ()))) fun v4 =>
  bif ((decide ((0 : Int) ≤ (IntKind.i64.wrap ((IntKind.i64.wrap (a.2.2.1 * v4.1)) + (IntKind.i64.wrap (Int.tdiv a.2.1 (8 : Int))))))) && (decide ((IntKind.i64.wrap ((IntKind.i64.wrap (a.2.2.1 * v4.1)) + (IntKind.i64.wrap (Int.tdiv a.2.1 (8 : Int))))) < (List.length a.1.2.2 : Int)))) then
  bif ((decide ((0 : Int) ≤ (Int.tmod a.2.1 (8 : Int)))) && (decide ((Int.tmod a.2.1 (8 : Int)) ≤ (8 : Int)))) then
  bif ((decide ((0 : Int) ≤ (IntKind.i64.wrap ((IntKind.i64.wrap (a.2.2.1 * v4.1)) + (IntKind.i64.wrap (Int.tdiv a.2.1 (8 : Int))))))) && (decide ((IntKind.i64.wrap ((IntKind.i64.wrap (a.2.2.1 * v4.1)) + (IntKind.i64.wrap (Int.tdiv a.2.1 (8 : Int))))) < (List.length a.1.2.2 : Int)))) then
  j3 ((List.set a.1.2.2 (Int.toNat (IntKind.i64.wrap ((IntKind.i64.wrap (a.2.2.1 * v4.1)) + (IntKind.i64.wrap (Int.tdiv a.2.1 (8 : Int)))))) (bits BinOp.andNot IntKind.u8 (List.getD a.1.2.2 (Int.toNat (IntKind.i64.wrap ((IntKind.i64.wrap (a.2.2.1 * v4.1)) + (IntKind.i64.wrap (Int.tdiv a.2.1 (8 : Int)))))) 0) ((128 : Int) / 2 ^ (Int.toNat (Int.tmod a.2.1 (8 : Int)))))))
  else none
  else none
  else none
  else none
def bitmap_Set_r (fu : Nat) (a : ((Int) × ((Int) × (List (Int)))) × ((Int) × ((Int) × ((Bool) × (Unit))))) : Option (((Int) × ((Int) × (List (Int)))) × ((Int) × (Unit))) :=
  bindO (bitmap_Check_r fu (((a.1.1, (a.1.2.1, a.1.2.2)), ()))) fun v0 =>
  let v1 : Int := v0.1
  bif (decide (v1 ≠ (0 : Int))) then
    some ((((0 : Int), ((0 : Int), ([] : List (Int)))), (v1, ())))
  else
  joinF (bitmap_Set_j1 fu a) fun j2 =>
  bif (decide (a.2.1 < (0 : Int))) then
    j2 (true)
  else
  bif (decide (a.1.1 ≤ a.2.1)) then
    j2 (true)
  else
  bif (decide (a.2.2.1 < (0 : Int))) then
    j2 (true)
  else
  j2 ((decide (a.1.2.1 ≤ a.2.2.1)))
def bitmap_Set_an : An := (.n none .z (.n none (.n none .z (.n none .z (.n none (.n none .z .z) .z))) (.n none (.n (some ⟨[3, 2, 1, 4, 8, 9], [0, 1], [], [.reg 34 .bool], 0, []⟩) .z (.n none (.n none .z .z) .z)) (.n none .z (.n (some ⟨[4, 8, 9], [1, 0], [], [.row 2 false (.int .u8) 5 0], 0, []⟩) (.n none .z (.n none (.ops [(2, (.n none (.dr [] []) .z))]) (.dr [] []))) (.n none .z .z))))))
noncomputable def bitmap_Set_dc : List (Nat × Ctr) := [(38, bitmap_Check_ctr), (69, bitmap_stride_ctr)]
def bitmap_Set_ctr : Ctr := ⟨(.pair (.agg (.pair (.int .i64) (.pair (.int .i64) (.list (.int .u8))))) (.pair (.int .i64) (.pair (.int .i64) (.pair .bool .unit)))), (.pair (.agg (.pair (.int .i64) (.pair (.int .i64) (.list (.int .u8))))) (.pair (.int .i64) .unit)), bitmap_Set_r, 40⟩
theorem bitmap_Set_ok : CtrOk Try.prog 40 bitmap_Set_ctr := ctr_ok (l := bitmap_Set_dc) (f := 12) (an := bitmap_Set_an) ⟨bitmap_Check_ok, ⟨bitmap_stride_ok, trivial⟩⟩ fun fu x => by kernel_rfl
def bitmap_Is_r (fu : Nat) (a : ((Int) × ((Int) × (List (Int)))) × ((Int) × ((Int) × (Unit)))) : Option ((Bool) × (Unit)) :=
  bif (decide ((0 : Int) ≤ a.2.1)) then
    bif (decide (a.2.1 < a.1.1)) then
      bif (decide ((0 : Int) ≤ a.2.2.1)) then
        bif (decide (a.2.2.1 < a.1.2.1)) then
          bindO (bitmap_stride_r fu ((a.1.1, ()))) fun v0 =>
          bif ((decide ((0 : Int) ≤ (IntKind.i64.wrap ((IntKind.i64.wrap (a.2.2.1 * v0.1)) + (IntKind.i64.wrap (Int.tdiv a.2.1 (8 : Int))))))) && (decide ((IntKind.i64.wrap ((IntKind.i64.wrap (a.2.2.1 * v0.1)) + (IntKind.i64.wrap (Int.tdiv a.2.1 (8 : Int))))) < (List.length a.1.2.2 : Int)))) then
          let v1 : Int := (List.getD a.1.2.2 (Int.toNat (IntKind.i64.wrap ((IntKind.i64.wrap (a.2.2.1 * v0.1)) + (IntKind.i64.wrap (Int.tdiv a.2.1 (8 : Int)))))) 0)
          bif ((decide ((0 : Int) ≤ (Int.tmod a.2.1 (8 : Int)))) && (decide ((Int.tmod a.2.1 (8 : Int)) ≤ (8 : Int)))) then
          let v2 : Bool := (decide ((bits BinOp.and IntKind.u8 v1 ((128 : Int) / 2 ^ (Int.toNat (Int.tmod a.2.1 (8 : Int))))) ≠ (0 : Int)))
          some ((v2, ()))
          else none
          else none
        else
        some ((false, ()))
      else
      some ((false, ()))
    else
    some ((false, ()))
  else
  some ((false, ()))
def bitmap_Is_an : An := (.n none .z (.n none (.dr [] []) .z))
noncomputable def bitmap_Is_dc : List (Nat × Ctr) := [(69, bitmap_stride_ctr)]
def bitmap_Is_ctr : Ctr := ⟨(.pair (.ptr (.pair (.int .i64) (.pair (.int .i64) (.list (.int .u8))))) (.pair (.int .i64) (.pair (.int .i64) .unit))), (.pair .bool .unit), bitmap_Is_r, 60⟩
theorem bitmap_Is_ok : CtrOk Try.prog 60 bitmap_Is_ctr := ctr_ok (l := bitmap_Is_dc) (f := 12) (an := bitmap_Is_an) ⟨bitmap_stride_ok, trivial⟩ fun fu x => by kernel_rfl
def R_SameBytes_r (fu : Nat) (a : (List (Int)) × ((List (Int)) × (Unit))) : Option ((Bool) × (Unit)) :=
  let v0 : Bool := (decide ((bytesOf a.1) = (bytesOf a.2.1)))
  some ((v0, ()))
def R_SameBytes_an : An := (.n none .z (.n none .z .z))
noncomputable def R_SameBytes_dc : List (Nat × Ctr) := []
def R_SameBytes_ctr : Ctr := ⟨(.pair (.list (.int .u8)) (.pair (.list (.int .u8)) .unit)), (.pair .bool .unit), R_SameBytes_r, 59⟩
theorem R_SameBytes_ok : CtrOk Try.prog 59 R_SameBytes_ctr := ctr_ok (l := R_SameBytes_dc) (f := 12) (an := R_SameBytes_an) trivial fun fu x => by kernel_rfl
def R_SameBits_r (fu : Nat) (a : ((Int) × ((Int) × (List (Int)))) × (((Int) × ((Int) × (List (Int)))) × (Unit))) : Option ((Bool) × (Unit)) :=
  bif (decide (a.1.1 = a.2.1.1)) then
    bif (decide (a.1.2.1 = a.2.1.2.1)) then
      bindO (R_SameBytes_r fu ((a.1.2.2, (a.2.1.2.2, ())))) fun v0 =>
      let v1 : Bool := v0.1
      some ((v1, ()))
    else
    some ((false, ()))
  else
  some ((false, ()))
def R_SameBits_an : An := (.n none .z (.n none .z .z))
noncomputable def R_SameBits_dc : List (Nat × Ctr) := [(59, R_SameBytes_ctr)]
def R_SameBits_ctr : Ctr := ⟨(.pair (.agg (.pair (.int .i64) (.pair (.int .i64) (.list (.int .u8))))) (.pair (.agg (.pair (.int .i64) (.pair (.int .i64) (.list (.int .u8))))) .unit)), (.pair .bool .unit), R_SameBits_r, 19⟩
theorem R_SameBits_ok : CtrOk Try.prog 19 R_SameBits_ctr := ctr_ok (l := R_SameBits_dc) (f := 12) (an := R_SameBits_an) ⟨R_SameBytes_ok, trivial⟩ fun fu x => by kernel_rfl
def bitmap_Grown_j4 (fu : Nat) (v4 : (Int) × (List (Int))) (j4 : ((Int) × (List (Int))) → Option (((Int) × ((Int) × (List (Int)))) × (Unit))) (v5 : List (Int)) : Option (((Int) × ((Int) × (List (Int)))) × (Unit)) :=
  j4 (((IntKind.i64.wrap (v4.1 + (1 : Int))), v5))
def bitmap_Grown_j5 (fu : Nat) (v0 : (Int) × ((Int) × ((Int) × (List (Int))))) (v3 : Int) (v4 : (Int) × (List (Int))) (v6 : Int) (j5 : (List (Int)) → Option (((Int) × ((Int) × (List (Int)))) × (Unit))) (v7 : Bool) : Option (((Int) × ((Int) × (List (Int)))) × (Unit)) :=
  bif v7 then
    bindO (bitmap_stride_r fu ((v0.2.1, ()))) fun v8 =>
    bif ((decide ((0 : Int) ≤ (IntKind.i64.wrap ((IntKind.i64.wrap (v3 * v8.1)) + (IntKind.i64.wrap (Int.tdiv v6 (8 : Int))))))) && (decide ((IntKind.i64.wrap ((IntKind.i64.wrap (v3 * v8.1)) + (IntKind.i64.wrap (Int.tdiv v6 (8 : Int))))) < (List.length v4.2 : Int)))) then
    bif ((decide ((0 : Int) ≤ (Int.tmod v6 (8 : Int)))) && (decide ((Int.tmod v6 (8 : Int)) ≤ (8 : Int)))) then
    bif ((decide ((0 : Int) ≤ (IntKind.i64.wrap ((IntKind.i64.wrap (v3 * v8.1)) + (IntKind.i64.wrap (Int.tdiv v6 (8 : Int))))))) && (decide ((IntKind.i64.wrap ((IntKind.i64.wrap (v3 * v8.1)) + (IntKind.i64.wrap (Int.tdiv v6 (8 : Int))))) < (List.length v4.2 : Int)))) then
    j5 ((List.set v4.2 (Int.toNat (IntKind.i64.wrap ((IntKind.i64.wrap (v3 * v8.1)) + (IntKind.i64.wrap (Int.tdiv v6 (8 : Int)))))) (bits BinOp.or IntKind.u8 (List.getD v4.2 (Int.toNat (IntKind.i64.wrap ((IntKind.i64.wrap (v3 * v8.1)) + (IntKind.i64.wrap (Int.tdiv v6 (8 : Int)))))) 0) ((128 : Int) / 2 ^ (Int.toNat (Int.tmod v6 (8 : Int)))))))
    else none
    else none
    else none
  else
  j5 (v4.2)
def bitmap_Grown_l3 (fu : Nat) (v0 : (Int) × ((Int) × ((Int) × (List (Int))))) (v2 : (Int) × (List (Int))) (v3 : Int) (j2 : ((Int) × (List (Int))) → Option (((Int) × ((Int) × (List (Int)))) × (Unit))) (j4 : ((Int) × (List (Int))) → Option (((Int) × ((Int) × (List (Int)))) × (Unit))) (v4 : (Int) × (List (Int))) : Option (((Int) × ((Int) × (List (Int)))) × (Unit)) :=
  bif (decide (v4.1 < v0.2.1)) then
    joinF (bitmap_Grown_j4 fu v4 j4) fun j5 =>
    let v6 : Int := v4.1
    joinF (bitmap_Grown_j5 fu v0 v3 v4 v6 j5) fun j7 =>
    bindO (bitmap_Is_r fu (((v0.2.1, (v0.2.2.1, v0.2.2.2)), (v6, (v3, ()))))) fun v8 =>
    bif v8.1 then
      j7 (true)
    else
    bindO (bitmap_Is_r fu (((v0.2.1, (v0.2.2.1, v0.2.2.2)), ((IntKind.i64.wrap (v6 - (1 : Int))), (v3, ()))))) fun v9 =>
    bif v9.1 then
      j7 (true)
    else
    bindO (bitmap_Is_r fu (((v0.2.1, (v0.2.2.1, v0.2.2.2)), ((IntKind.i64.wrap (v6 + (1 : Int))), (v3, ()))))) fun v10 =>
    bif v10.1 then
      j7 (true)
    else
    bindO (bitmap_Is_r fu (((v0.2.1, (v0.2.2.1, v0.2.2.2)), (v6, ((IntKind.i64.wrap (v3 - (1 : Int))), ()))))) fun v11 =>
    bif v11.1 then
      j7 (true)
    else
    bindO (bitmap_Is_r fu (((v0.2.1, (v0.2.2.1, v0.2.2.2)), (v6, ((IntKind.i64.wrap (v3 + (1 : Int))), ()))))) fun v12 =>
    let v13 : Bool := v12.1
    j7 (v13)
  else
  j2 (((IntKind.i64.wrap (v2.1 + (1 : Int))), v4.2))
def bitmap_Grown_l2 (fu : Nat) (v0 : (Int) × ((Int) × ((Int) × (List (Int))))) (j0 : ((Int) × ((Int) × ((Int) × (List (Int))))) → Option (((Int) × ((Int) × (List (Int)))) × (Unit))) (j2 : ((Int) × (List (Int))) → Option (((Int) × ((Int) × (List (Int)))) × (Unit))) (v2 : (Int) × (List (Int))) : Option (((Int) × ((Int) × (List (Int)))) × (Unit)) :=
  bif (decide (v2.1 < v0.2.2.1)) then
    let v3 : Int := v2.1
    loopF (bitmap_Grown_l3 fu v0 v2 v3 j2) fu (((0 : Int), v2.2))
  else
  j0 (((IntKind.i64.wrap (v0.1 + (1 : Int))), (v0.2.1, (v0.2.2.1, v2.2))))
def bitmap_Grown_l1 (fu : Nat) (a : ((Int) × ((Int) × (List (Int)))) × ((Int) × (Unit))) (j0 : ((Int) × ((Int) × ((Int) × (List (Int))))) → Option (((Int) × ((Int) × (List (Int)))) × (Unit))) (v0 : (Int) × ((Int) × ((Int) × (List (Int))))) : Option (((Int) × ((Int) × (List (Int)))) × (Unit)) :=
  bif (decide (v0.1 < a.2.1)) then
    bindO (bitmap_stride_r fu ((v0.2.1, ()))) fun v1 =>
    bif ((decide ((0 : Int) ≤ (IntKind.i64.wrap (v1.1 * v0.2.2.1)))) && (decide (((1 : Int) * (IntKind.i64.wrap (v1.1 * v0.2.2.1))) ≤ (281474976710656 : Int)))) then
    loopF (bitmap_Grown_l2 fu v0 j0) fu (((0 : Int), (List.replicate (Int.toNat (IntKind.i64.wrap (v1.1 * v0.2.2.1))) (0 : Int))))
    else none
  else
  some (((v0.2.1, (v0.2.2.1, v0.2.2.2)), ()))
def bitmap_Grown_r (fu : Nat) (a : ((Int) × ((Int) × (List (Int)))) × ((Int) × (Unit))) : Option (((Int) × ((Int) × (List (Int)))) × (Unit)) :=
  bif (decide (((List.length a.1.2.2 : Int) * (2 : Int)) ≤ (140737488355328 : Int))) then
  loopF (bitmap_Grown_l1 fu a) fu (((0 : Int), (a.1.1, (a.1.2.1, a.1.2.2))))
  else none
def bitmap_Grown_an : An := (.n none .z (.n none .z (.n none .z (.n none (.n none .z (.n none (.n (some ⟨[4, 5, 16], [0], [], [.reg 17 (.int .i64), .box 1 [(.int .i64), (.int .i64), (.ro true (.int .u8))] 24], 0, []⟩) (.n none .z (.n none .z (.n none (.n none (.n none .z (.ops [(5, (.n none (.n none .z (.n none (.ops [(2, (.n none (.n none .z (.n none .z .z)) .z))]) (.n none (.n none .z (.n none (.n (some ⟨[6, 7, 0, 2, 13], [1, 3, 4, 7], [], [.reg 14 (.int .i64), .row 6 true (.int .u8) 5 0], 0, []⟩) (.n none .z (.n none .z (.n none (.n none (.n none .z (.n none .z (.n none (.n (some ⟨[14, 8, 17], [], [], [.reg 18 (.int .i64), .row 6 true (.int .u8) 5 0], 0, []⟩) (.n none .z (.n none .z (.n (some ⟨[18], [], [], [.row 6 true (.int .u8) 5 0], 0, []⟩) (.n none (.n none .z (.n (some ⟨[9], [6], [], [.reg 24 .bool], 0, []⟩) (.ops [(3, (.n none (.n none .z (.n none .z .z)) .z))]) (.n none (.ops [(2, (.n none (.dr [] []) .z))]) .z))) .z) .z))) .z) .z))) .z) .z))) .z) .z)) (.n none .z .z)))) .z))])) .z) .z))) .z) .z)) (.n none .z .z)))))
noncomputable def bitmap_Grown_dc : List (Nat × Ctr) := [(60, bitmap_Is_ctr), (69, bitmap_stride_ctr)]
def bitmap_Grown_ctr : Ctr := ⟨(.pair (.ptr (.pair (.int .i64) (.pair (.int .i64) (.list (.int .u8))))) (.pair (.int .i64) .unit)), (.pair (.agg (.pair (.int .i64) (.pair (.int .i64) (.list (.int .u8))))) .unit), bitmap_Grown_r, 67⟩
theorem bitmap_Grown_ok : CtrOk Try.prog 67 bitmap_Grown_ctr := ctr_ok (l := bitmap_Grown_dc) (f := 12) (an := bitmap_Grown_an) ⟨bitmap_Is_ok, ⟨bitmap_stride_ok, trivial⟩⟩ fun fu x => by kernel_rfl
def bitmap_Spread_j1 (fu : Nat) (a : ((Int) × ((Int) × (List (Int)))) × ((Int) × (Unit))) (v2 : Bool) : Option (((Int) × ((Int) × (List (Int)))) × ((Int) × (Unit))) :=
  bif v2 then
    some ((((0 : Int), ((0 : Int), ([] : List (Int)))), ((3 : Int), ())))
  else
  bindO (bitmap_Grown_r fu (((a.1.1, (a.1.2.1, a.1.2.2)), (a.2.1, ())))) fun v3 =>
  some (((v3.1.1, (v3.1.2.1, v3.1.2.2)), ((0 : Int), ())))
def bitmap_Spread_r (fu : Nat) (a : ((Int) × ((Int) × (List (Int)))) × ((Int) × (Unit))) : Option (((Int) × ((Int) × (List (Int)))) × ((Int) × (Unit))) :=
  bindO (bitmap_Check_r fu (((a.1.1, (a.1.2.1, a.1.2.2)), ()))) fun v0 =>
  let v1 : Int := v0.1
  bif (decide (v1 ≠ (0 : Int))) then
    some ((((0 : Int), ((0 : Int), ([] : List (Int)))), (v1, ())))
  else
  joinF (bitmap_Spread_j1 fu a) fun j2 =>
  bif (decide (a.2.1 < (0 : Int))) then
    j2 (true)
  else
  j2 ((decide ((16 : Int) < a.2.1)))
def bitmap_Spread_an : An := (.n none .z (.n none (.n none .z (.n none .z (.n none (.n none .z .z) .z))) (.n none (.n (some ⟨[1, 2, 4, 5], [0, 1], [], [.reg 18 .bool], 0, []⟩) .z (.n none (.n none .z .z) .z)) (.n none .z .z))))
noncomputable def bitmap_Spread_dc : List (Nat × Ctr) := [(38, bitmap_Check_ctr), (67, bitmap_Grown_ctr)]
def bitmap_Spread_ctr : Ctr := ⟨(.pair (.agg (.pair (.int .i64) (.pair (.int .i64) (.list (.int .u8))))) (.pair (.int .i64) .unit)), (.pair (.agg (.pair (.int .i64) (.pair (.int .i64) (.list (.int .u8))))) (.pair (.int .i64) .unit)), bitmap_Spread_r, 34⟩
theorem bitmap_Spread_ok : CtrOk Try.prog 34 bitmap_Spread_ctr := ctr_ok (l := bitmap_Spread_dc) (f := 12) (an := bitmap_Spread_an) ⟨bitmap_Check_ok, ⟨bitmap_Grown_ok, trivial⟩⟩ fun fu x => by kernel_rfl
def law_dots_r (fu : Nat) (a : Unit) : Option (((Int) × ((Int) × (List (Int)))) × (Unit)) :=
  some ((((5 : Int), ((2 : Int), ((144 : Int) :: ((8 : Int) :: ([] : List (Int)))))), ()))
def law_dots_an : An := (.n none .z (.n none .z .z))
noncomputable def law_dots_dc : List (Nat × Ctr) := []
def law_dots_ctr : Ctr := ⟨.unit, (.pair (.agg (.pair (.int .i64) (.pair (.int .i64) (.list (.int .u8))))) .unit), law_dots_r, 65⟩
theorem law_dots_ok : CtrOk Try.prog 65 law_dots_ctr := ctr_ok (l := law_dots_dc) (f := 12) (an := law_dots_an) trivial fun fu x => by kernel_rfl
def bitmap_Turned_j5 (fu : Nat) (v5 : (Int) × (List (Int))) (j5 : ((Int) × (List (Int))) → Option (((Int) × ((Int) × (List (Int)))) × (Unit))) (v6 : List (Int)) : Option (((Int) × ((Int) × (List (Int)))) × (Unit)) :=
  j5 (((IntKind.i64.wrap (v5.1 + (1 : Int))), v6))
def bitmap_Turned_l4 (fu : Nat) (v1 : (Int) × ((Int) × ((Int) × (List (Int))))) (v3 : (Int) × (List (Int))) (v4 : Int) (j3 : ((Int) × (List (Int))) → Option (((Int) × ((Int) × (List (Int)))) × (Unit))) (j5 : ((Int) × (List (Int))) → Option (((Int) × ((Int) × (List (Int)))) × (Unit))) (v5 : (Int) × (List (Int))) : Option (((Int) × ((Int) × (List (Int)))) × (Unit)) :=
  bif (decide (v5.1 < v1.2.2.1)) then
    joinF (bitmap_Turned_j5 fu v5 j5) fun j6 =>
    let v7 : Int := v5.1
    bindO (bitmap_Is_r fu (((v1.2.1, (v1.2.2.1, v1.2.2.2)), (v4, ((IntKind.i64.wrap ((IntKind.i64.wrap (v1.2.2.1 - (1 : Int))) - v7)), ()))))) fun v8 =>
    let v9 : Bool := v8.1
    bif v9 then
      bindO (bitmap_stride_r fu ((v1.2.2.1, ()))) fun v10 =>
      bif ((decide ((0 : Int) ≤ (IntKind.i64.wrap ((IntKind.i64.wrap (v4 * v10.1)) + (IntKind.i64.wrap (Int.tdiv v7 (8 : Int))))))) && (decide ((IntKind.i64.wrap ((IntKind.i64.wrap (v4 * v10.1)) + (IntKind.i64.wrap (Int.tdiv v7 (8 : Int))))) < (List.length v5.2 : Int)))) then
      bif ((decide ((0 : Int) ≤ (Int.tmod v7 (8 : Int)))) && (decide ((Int.tmod v7 (8 : Int)) ≤ (8 : Int)))) then
      bif ((decide ((0 : Int) ≤ (IntKind.i64.wrap ((IntKind.i64.wrap (v4 * v10.1)) + (IntKind.i64.wrap (Int.tdiv v7 (8 : Int))))))) && (decide ((IntKind.i64.wrap ((IntKind.i64.wrap (v4 * v10.1)) + (IntKind.i64.wrap (Int.tdiv v7 (8 : Int))))) < (List.length v5.2 : Int)))) then
      j6 ((List.set v5.2 (Int.toNat (IntKind.i64.wrap ((IntKind.i64.wrap (v4 * v10.1)) + (IntKind.i64.wrap (Int.tdiv v7 (8 : Int)))))) (bits BinOp.or IntKind.u8 (List.getD v5.2 (Int.toNat (IntKind.i64.wrap ((IntKind.i64.wrap (v4 * v10.1)) + (IntKind.i64.wrap (Int.tdiv v7 (8 : Int)))))) 0) ((128 : Int) / 2 ^ (Int.toNat (Int.tmod v7 (8 : Int)))))))
      else none
      else none
      else none
    else
    j6 (v5.2)
  else
  j3 (((IntKind.i64.wrap (v3.1 + (1 : Int))), v5.2))
def bitmap_Turned_l3 (fu : Nat) (v1 : (Int) × ((Int) × ((Int) × (List (Int))))) (j1 : ((Int) × ((Int) × ((Int) × (List (Int))))) → Option (((Int) × ((Int) × (List (Int)))) × (Unit))) (j3 : ((Int) × (List (Int))) → Option (((Int) × ((Int) × (List (Int)))) × (Unit))) (v3 : (Int) × (List (Int))) : Option (((Int) × ((Int) × (List (Int)))) × (Unit)) :=
  bif (decide (v3.1 < v1.2.1)) then
    let v4 : Int := v3.1
    loopF (bitmap_Turned_l4 fu v1 v3 v4 j3) fu (((0 : Int), v3.2))
  else
  j1 (((IntKind.i64.wrap (v1.1 + (1 : Int))), (v1.2.2.1, (v1.2.1, v3.2))))
def bitmap_Turned_l2 (fu : Nat) (a : ((Int) × ((Int) × (List (Int)))) × ((Int) × (Unit))) (j1 : ((Int) × ((Int) × ((Int) × (List (Int))))) → Option (((Int) × ((Int) × (List (Int)))) × (Unit))) (v1 : (Int) × ((Int) × ((Int) × (List (Int))))) : Option (((Int) × ((Int) × (List (Int)))) × (Unit)) :=
  bif (decide (v1.1 < (Int.tmod a.2.1 (4 : Int)))) then
    bindO (bitmap_stride_r fu ((v1.2.2.1, ()))) fun v2 =>
    bif ((decide ((0 : Int) ≤ (IntKind.i64.wrap (v2.1 * v1.2.1)))) && (decide (((1 : Int) * (IntKind.i64.wrap (v2.1 * v1.2.1))) ≤ (281474976710656 : Int)))) then
    loopF (bitmap_Turned_l3 fu v1 j1) fu (((0 : Int), (List.replicate (Int.toNat (IntKind.i64.wrap (v2.1 * v1.2.1))) (0 : Int))))
    else none
  else
  some (((v1.2.1, (v1.2.2.1, v1.2.2.2)), ()))
def bitmap_Turned_j1 (fu : Nat) (a : ((Int) × ((Int) × (List (Int)))) × ((Int) × (Unit))) (v0 : (Int) × ((Int) × (List (Int)))) : Option (((Int) × ((Int) × (List (Int)))) × (Unit)) :=
  loopF (bitmap_Turned_l2 fu a) fu (((0 : Int), (v0.1, (v0.2.1, v0.2.2))))
def bitmap_Turned_j8 (fu : Nat) (v4 : (Int) × (List (Int))) (j4 : ((Int) × (List (Int))) → Option (((Int) × ((Int) × (List (Int)))) × (Unit))) (v5 : List (Int)) : Option (((Int) × ((Int) × (List (Int)))) × (Unit)) :=
  j4 (((IntKind.i64.wrap (v4.1 + (1 : Int))), v5))
def bitmap_Turned_l7 (fu : Nat) (a : ((Int) × ((Int) × (List (Int)))) × ((Int) × (Unit))) (v2 : (Int) × (List (Int))) (v3 : Int) (j2 : ((Int) × (List (Int))) → Option (((Int) × ((Int) × (List (Int)))) × (Unit))) (j4 : ((Int) × (List (Int))) → Option (((Int) × ((Int) × (List (Int)))) × (Unit))) (v4 : (Int) × (List (Int))) : Option (((Int) × ((Int) × (List (Int)))) × (Unit)) :=
  bif (decide (v4.1 < a.1.1)) then
    joinF (bitmap_Turned_j8 fu v4 j4) fun j5 =>
    let v6 : Int := v4.1
    bindO (bitmap_Is_r fu ((a.1, ((IntKind.i64.wrap ((IntKind.i64.wrap (a.1.1 - (1 : Int))) - v6)), (v3, ()))))) fun v7 =>
    let v8 : Bool := v7.1
    bif v8 then
      bindO (bitmap_stride_r fu ((a.1.1, ()))) fun v9 =>
      bif ((decide ((0 : Int) ≤ (IntKind.i64.wrap ((IntKind.i64.wrap (v3 * v9.1)) + (IntKind.i64.wrap (Int.tdiv v6 (8 : Int))))))) && (decide ((IntKind.i64.wrap ((IntKind.i64.wrap (v3 * v9.1)) + (IntKind.i64.wrap (Int.tdiv v6 (8 : Int))))) < (List.length v4.2 : Int)))) then
      bif ((decide ((0 : Int) ≤ (Int.tmod v6 (8 : Int)))) && (decide ((Int.tmod v6 (8 : Int)) ≤ (8 : Int)))) then
      bif ((decide ((0 : Int) ≤ (IntKind.i64.wrap ((IntKind.i64.wrap (v3 * v9.1)) + (IntKind.i64.wrap (Int.tdiv v6 (8 : Int))))))) && (decide ((IntKind.i64.wrap ((IntKind.i64.wrap (v3 * v9.1)) + (IntKind.i64.wrap (Int.tdiv v6 (8 : Int))))) < (List.length v4.2 : Int)))) then
      j5 ((List.set v4.2 (Int.toNat (IntKind.i64.wrap ((IntKind.i64.wrap (v3 * v9.1)) + (IntKind.i64.wrap (Int.tdiv v6 (8 : Int)))))) (bits BinOp.or IntKind.u8 (List.getD v4.2 (Int.toNat (IntKind.i64.wrap ((IntKind.i64.wrap (v3 * v9.1)) + (IntKind.i64.wrap (Int.tdiv v6 (8 : Int)))))) 0) ((128 : Int) / 2 ^ (Int.toNat (Int.tmod v6 (8 : Int)))))))
      else none
      else none
      else none
    else
    j5 (v4.2)
  else
  j2 (((IntKind.i64.wrap (v2.1 + (1 : Int))), v4.2))
def bitmap_Turned_l6 (fu : Nat) (a : ((Int) × ((Int) × (List (Int)))) × ((Int) × (Unit))) (j0 : ((Int) × ((Int) × (List (Int)))) → Option (((Int) × ((Int) × (List (Int)))) × (Unit))) (j2 : ((Int) × (List (Int))) → Option (((Int) × ((Int) × (List (Int)))) × (Unit))) (v2 : (Int) × (List (Int))) : Option (((Int) × ((Int) × (List (Int)))) × (Unit)) :=
  bif (decide (v2.1 < a.1.2.1)) then
    let v3 : Int := v2.1
    loopF (bitmap_Turned_l7 fu a v2 v3 j2) fu (((0 : Int), v2.2))
  else
  j0 ((a.1.1, (a.1.2.1, v2.2)))
def bitmap_Turned_r (fu : Nat) (a : ((Int) × ((Int) × (List (Int)))) × ((Int) × (Unit))) : Option (((Int) × ((Int) × (List (Int)))) × (Unit)) :=
  bif (decide (((List.length a.1.2.2 : Int) * (2 : Int)) ≤ (140737488355328 : Int))) then
  joinF (bitmap_Turned_j1 fu a) fun j0 =>
  bif (decide ((4 : Int) ≤ a.2.1)) then
    bindO (bitmap_stride_r fu ((a.1.1, ()))) fun v1 =>
    bif ((decide ((0 : Int) ≤ (IntKind.i64.wrap (v1.1 * a.1.2.1)))) && (decide (((1 : Int) * (IntKind.i64.wrap (v1.1 * a.1.2.1))) ≤ (281474976710656 : Int)))) then
    loopF (bitmap_Turned_l6 fu a j0) fu (((0 : Int), (List.replicate (Int.toNat (IntKind.i64.wrap (v1.1 * a.1.2.1))) (0 : Int))))
    else none
  else
  j0 ((a.1.1, (a.1.2.1, a.1.2.2)))
  else none
def bitmap_Turned_an : An := (.n none .z (.n none .z (.n none .z (.n (some ⟨[1, 4, 5], [0, 1], [], [.box 2 [(.int .i64), (.int .i64), (.ro true (.int .u8))] 24], 0, []⟩) (.n none .z (.n none (.dr [] [(9, (.n none (.n none .z (.n none (.ops [(2, (.n none (.n none .z (.n none .z .z)) .z))]) (.n none (.n none .z (.n none (.n (some ⟨[6, 7, 0, 2, 13], [3, 2, 4, 7], [], [.reg 14 (.int .i64), .row 6 true (.int .u8) 5 0], 0, []⟩) (.n none .z (.n none .z (.n none (.n none (.n none .z (.n none .z (.n none (.n (some ⟨[14, 8, 17], [], [], [.reg 18 (.int .i64), .row 6 true (.int .u8) 5 0], 0, []⟩) (.n none .z (.n none .z (.n (some ⟨[18], [], [], [.row 6 true (.int .u8) 5 0], 0, []⟩) (.n none (.n none .z (.n none (.ops [(3, (.n none (.n none .z (.n none (.dr [] []) .z)) .z))]) (.n none (.ops [(2, (.n none (.dr [] []) .z))]) .z))) .z) .z))) .z) .z))) .z) .z))) .z) .z)) (.n none .z .z)))) .z))]) .z)) (.n none (.n none .z (.n none (.n (some ⟨[29], [], [], [.reg 30 (.int .i64), .box 2 [(.int .i64), (.int .i64), (.ro true (.int .u8))] 24], 0, []⟩) (.n none .z (.n none .z (.n none (.n none (.n none .z (.ops [(5, (.n none (.n none .z (.n none (.ops [(2, (.n none (.n none .z (.n none .z .z)) .z))]) (.n none (.n none .z (.n none (.n (some ⟨[6, 7, 0, 2, 13], [2, 4, 5, 8], [], [.reg 14 (.int .i64), .row 7 true (.int .u8) 5 0], 0, []⟩) (.n none .z (.n none .z (.n none (.n none (.n none .z (.n none .z (.n none (.n (some ⟨[14, 8, 17], [], [], [.reg 18 (.int .i64), .row 7 true (.int .u8) 5 0], 0, []⟩) (.n none .z (.n none .z (.n (some ⟨[18], [], [], [.row 7 true (.int .u8) 5 0], 0, []⟩) (.n none (.n none .z (.n none (.ops [(3, (.n none (.n none .z (.n none .z .z)) .z))]) (.n none (.ops [(2, (.n none (.dr [] []) .z))]) .z))) .z) .z))) .z) .z))) .z) .z))) .z) .z)) (.n none .z .z)))) .z))])) .z) .z))) .z) .z)) (.n none .z .z))))))
noncomputable def bitmap_Turned_dc : List (Nat × Ctr) := [(60, bitmap_Is_ctr), (69, bitmap_stride_ctr)]
def bitmap_Turned_ctr : Ctr := ⟨(.pair (.ptr (.pair (.int .i64) (.pair (.int .i64) (.list (.int .u8))))) (.pair (.int .i64) .unit)), (.pair (.agg (.pair (.int .i64) (.pair (.int .i64) (.list (.int .u8))))) .unit), bitmap_Turned_r, 68⟩
theorem bitmap_Turned_ok : CtrOk Try.prog 68 bitmap_Turned_ctr := ctr_ok (l := bitmap_Turned_dc) (f := 12) (an := bitmap_Turned_an) ⟨bitmap_Is_ok, ⟨bitmap_stride_ok, trivial⟩⟩ fun fu x => by kernel_rfl
def bitmap_Turn_j1 (fu : Nat) (a : ((Int) × ((Int) × (List (Int)))) × ((Int) × (Unit))) (v2 : Bool) : Option (((Int) × ((Int) × (List (Int)))) × ((Int) × (Unit))) :=
  bif v2 then
    some ((((0 : Int), ((0 : Int), ([] : List (Int)))), ((3 : Int), ())))
  else
  bindO (bitmap_Turned_r fu (((a.1.1, (a.1.2.1, a.1.2.2)), (a.2.1, ())))) fun v3 =>
  some (((v3.1.1, (v3.1.2.1, v3.1.2.2)), ((0 : Int), ())))
def bitmap_Turn_r (fu : Nat) (a : ((Int) × ((Int) × (List (Int)))) × ((Int) × (Unit))) : Option (((Int) × ((Int) × (List (Int)))) × ((Int) × (Unit))) :=
  bindO (bitmap_Check_r fu (((a.1.1, (a.1.2.1, a.1.2.2)), ()))) fun v0 =>
  let v1 : Int := v0.1
  bif (decide (v1 ≠ (0 : Int))) then
    some ((((0 : Int), ((0 : Int), ([] : List (Int)))), (v1, ())))
  else
  joinF (bitmap_Turn_j1 fu a) fun j2 =>
  bif (decide (a.2.1 < (0 : Int))) then
    j2 (true)
  else
  j2 ((decide ((7 : Int) < a.2.1)))
def bitmap_Turn_an : An := (.n none .z (.n none (.n none .z (.n none .z (.n none (.n none .z .z) .z))) (.n none (.n (some ⟨[1, 2, 4, 5], [0, 1], [], [.reg 18 .bool], 0, []⟩) .z (.n none (.n none .z .z) .z)) (.n none .z .z))))
noncomputable def bitmap_Turn_dc : List (Nat × Ctr) := [(38, bitmap_Check_ctr), (68, bitmap_Turned_ctr)]
def bitmap_Turn_ctr : Ctr := ⟨(.pair (.agg (.pair (.int .i64) (.pair (.int .i64) (.list (.int .u8))))) (.pair (.int .i64) .unit)), (.pair (.agg (.pair (.int .i64) (.pair (.int .i64) (.list (.int .u8))))) (.pair (.int .i64) .unit)), bitmap_Turn_r, 35⟩
theorem bitmap_Turn_ok : CtrOk Try.prog 35 bitmap_Turn_ctr := ctr_ok (l := bitmap_Turn_dc) (f := 12) (an := bitmap_Turn_an) ⟨bitmap_Check_ok, ⟨bitmap_Turned_ok, trivial⟩⟩ fun fu x => by kernel_rfl
def R_Drawn_j2 (fu : Nat) (v1 : (Int) × (List (Int))) (j1 : ((Int) × (List (Int))) → Option (((Int) × ((Int) × (List (Int)))) × (Unit))) (v2 : List (Int)) : Option (((Int) × ((Int) × (List (Int)))) × (Unit)) :=
  j1 (((IntKind.i64.wrap (v1.1 + (1 : Int))), v2))
def R_Drawn_l1 (fu : Nat) (a : (Int) × ((Int) × ((List (Bool)) × (Unit)))) (v0 : Int) (j1 : ((Int) × (List (Int))) → Option (((Int) × ((Int) × (List (Int)))) × (Unit))) (v1 : (Int) × (List (Int))) : Option (((Int) × ((Int) × (List (Int)))) × (Unit)) :=
  bif (decide (v1.1 < (List.length a.2.2.1 : Int))) then
    joinF (R_Drawn_j2 fu v1 j1) fun j2 =>
    bif ((decide ((0 : Int) ≤ v1.1)) && (decide (v1.1 < (List.length a.2.2.1 : Int)))) then
    let v3 : Bool := (List.getD a.2.2.1 (Int.toNat v1.1) false)
    let v4 : Int := v1.1
    bif v3 then
      bif (decide (a.1 ≠ (0 : Int))) then
      bif (decide (a.1 ≠ (0 : Int))) then
      bif ((decide ((0 : Int) ≤ (IntKind.i64.wrap ((IntKind.i64.wrap ((IntKind.i64.wrap (Int.tdiv v4 a.1)) * v0)) + (IntKind.i64.wrap (Int.tdiv (Int.tmod v4 a.1) (8 : Int))))))) && (decide ((IntKind.i64.wrap ((IntKind.i64.wrap ((IntKind.i64.wrap (Int.tdiv v4 a.1)) * v0)) + (IntKind.i64.wrap (Int.tdiv (Int.tmod v4 a.1) (8 : Int))))) < (List.length v1.2 : Int)))) then
      bif (decide (a.1 ≠ (0 : Int))) then
      bif ((decide ((0 : Int) ≤ (Int.tmod (Int.tmod v4 a.1) (8 : Int)))) && (decide ((Int.tmod (Int.tmod v4 a.1) (8 : Int)) ≤ (8 : Int)))) then
      bif ((decide ((0 : Int) ≤ (IntKind.i64.wrap ((IntKind.i64.wrap ((IntKind.i64.wrap (Int.tdiv v4 a.1)) * v0)) + (IntKind.i64.wrap (Int.tdiv (Int.tmod v4 a.1) (8 : Int))))))) && (decide ((IntKind.i64.wrap ((IntKind.i64.wrap ((IntKind.i64.wrap (Int.tdiv v4 a.1)) * v0)) + (IntKind.i64.wrap (Int.tdiv (Int.tmod v4 a.1) (8 : Int))))) < (List.length v1.2 : Int)))) then
      j2 ((List.set v1.2 (Int.toNat (IntKind.i64.wrap ((IntKind.i64.wrap ((IntKind.i64.wrap (Int.tdiv v4 a.1)) * v0)) + (IntKind.i64.wrap (Int.tdiv (Int.tmod v4 a.1) (8 : Int)))))) (bits BinOp.or IntKind.u8 (List.getD v1.2 (Int.toNat (IntKind.i64.wrap ((IntKind.i64.wrap ((IntKind.i64.wrap (Int.tdiv v4 a.1)) * v0)) + (IntKind.i64.wrap (Int.tdiv (Int.tmod v4 a.1) (8 : Int)))))) 0) ((128 : Int) / 2 ^ (Int.toNat (Int.tmod (Int.tmod v4 a.1) (8 : Int)))))))
      else none
      else none
      else none
      else none
      else none
      else none
    else
    j2 (v1.2)
    else none
  else
  some (((a.1, (a.2.1, v1.2)), ()))
def R_Drawn_r (fu : Nat) (a : (Int) × ((Int) × ((List (Bool)) × (Unit)))) : Option (((Int) × ((Int) × (List (Int)))) × (Unit)) :=
  let v0 : Int := (IntKind.i64.wrap (Int.tdiv (IntKind.i64.wrap (a.1 + (7 : Int))) (8 : Int)))
  bif ((decide ((0 : Int) ≤ (IntKind.i64.wrap (v0 * a.2.1)))) && (decide (((1 : Int) * (IntKind.i64.wrap (v0 * a.2.1))) ≤ (281474976710656 : Int)))) then
  loopF (R_Drawn_l1 fu a v0) fu (((0 : Int), (List.replicate (Int.toNat (IntKind.i64.wrap (v0 * a.2.1))) (0 : Int))))
  else none
def R_Drawn_an : An := (.n none .z (.n none .z (.n none .z (.n none (.n none .z (.n none (.n (some ⟨[6, 8, 21, 0, 7, 22], [0, 2], [], [.reg 23 (.int .i64), .row 1 true (.int .u8) 5 0], 0, []⟩) (.n none .z (.n none .z (.n (some ⟨[23], [], [], [.row 1 true (.int .u8) 5 0], 0, []⟩) (.n none (.n none .z (.n none .z (.n none (.dr [] []) .z))) .z) .z))) .z) .z)) (.n none .z .z)))))
noncomputable def R_Drawn_dc : List (Nat × Ctr) := []
def R_Drawn_ctr : Ctr := ⟨(.pair (.int .i64) (.pair (.int .i64) (.pair (.list .bool) .unit))), (.pair (.agg (.pair (.int .i64) (.pair (.int .i64) (.list (.int .u8))))) .unit), R_Drawn_r, 20⟩
theorem R_Drawn_ok : CtrOk Try.prog 20 R_Drawn_ctr := ctr_ok (l := R_Drawn_dc) (f := 12) (an := R_Drawn_an) trivial fun fu x => by kernel_rfl
def bitmap_FromRuns_l5 (fu : Nat) (a : (Int) × ((Int) × ((List ((Int) × ((Int) × (Int)))) × (Unit)))) (v2 : (Int) × ((List (Int)) × ((Int) × ((Int) × (Unit))))) (v3 : (Int) × ((Int) × (Int))) (j2 : ((Int) × ((List (Int)) × ((Int) × ((Int) × (Unit))))) → Option (((Int) × ((Int) × (List (Int)))) × ((Int) × (Unit)))) (j8 : ((Int) × (List (Int))) → Option (((Int) × ((Int) × (List (Int)))) × ((Int) × (Unit)))) (v8 : (Int) × (List (Int))) : Option (((Int) × ((Int) × (List (Int)))) × ((Int) × (Unit))) :=
  bif (decide (v8.1 < v3.2.2)) then
    bindO (bitmap_stride_r fu ((a.1, ()))) fun v9 =>
    bif ((decide ((0 : Int) ≤ (IntKind.i64.wrap ((IntKind.i64.wrap (v3.1 * v9.1)) + (IntKind.i64.wrap (Int.tdiv v8.1 (8 : Int))))))) && (decide ((IntKind.i64.wrap ((IntKind.i64.wrap (v3.1 * v9.1)) + (IntKind.i64.wrap (Int.tdiv v8.1 (8 : Int))))) < (List.length v8.2 : Int)))) then
    bif ((decide ((0 : Int) ≤ (Int.tmod v8.1 (8 : Int)))) && (decide ((Int.tmod v8.1 (8 : Int)) ≤ (8 : Int)))) then
    bif ((decide ((0 : Int) ≤ (IntKind.i64.wrap ((IntKind.i64.wrap (v3.1 * v9.1)) + (IntKind.i64.wrap (Int.tdiv v8.1 (8 : Int))))))) && (decide ((IntKind.i64.wrap ((IntKind.i64.wrap (v3.1 * v9.1)) + (IntKind.i64.wrap (Int.tdiv v8.1 (8 : Int))))) < (List.length v8.2 : Int)))) then
    let v10 : Int := (IntKind.i64.wrap (v8.1 + (1 : Int)))
    j8 ((v10, (List.set v8.2 (Int.toNat (IntKind.i64.wrap ((IntKind.i64.wrap (v3.1 * v9.1)) + (IntKind.i64.wrap (Int.tdiv v8.1 (8 : Int)))))) (bits BinOp.or IntKind.u8 (List.getD v8.2 (Int.toNat (IntKind.i64.wrap ((IntKind.i64.wrap (v3.1 * v9.1)) + (IntKind.i64.wrap (Int.tdiv v8.1 (8 : Int)))))) 0) ((128 : Int) / 2 ^ (Int.toNat (Int.tmod v8.1 (8 : Int))))))))
    else none
    else none
    else none
  else
  j2 (((IntKind.i64.wrap (v2.1 + (1 : Int))), (v8.2, (v2.2.2.1, (v2.2.2.2.1, ())))))
def bitmap_FromRuns_j4 (fu : Nat) (a : (Int) × ((Int) × ((List ((Int) × ((Int) × (Int)))) × (Unit)))) (v2 : (Int) × ((List (Int)) × ((Int) × ((Int) × (Unit))))) (v3 : (Int) × ((Int) × (Int))) (j2 : ((Int) × ((List (Int)) × ((Int) × ((Int) × (Unit))))) → Option (((Int) × ((Int) × (List (Int)))) × ((Int) × (Unit)))) (v6 : Bool) : Option (((Int) × ((Int) × (List (Int)))) × ((Int) × (Unit))) :=
  bif v6 then
    some ((((0 : Int), ((0 : Int), ([] : List (Int)))), ((18 : Int), ())))
  else
  let v7 : Int := v3.2.1
  loopF (bitmap_FromRuns_l5 fu a v2 v3 j2) fu ((v7, v2.2.1))
def bitmap_FromRuns_j3 (fu : Nat) (a : (Int) × ((Int) × ((List ((Int) × ((Int) × (Int)))) × (Unit)))) (v2 : (Int) × ((List (Int)) × ((Int) × ((Int) × (Unit))))) (v3 : (Int) × ((Int) × (Int))) (v4 : Int) (j2 : ((Int) × ((List (Int)) × ((Int) × ((Int) × (Unit))))) → Option (((Int) × ((Int) × (List (Int)))) × ((Int) × (Unit)))) (v5 : Bool) : Option (((Int) × ((Int) × (List (Int)))) × ((Int) × (Unit))) :=
  bif v5 then
    some ((((0 : Int), ((0 : Int), ([] : List (Int)))), ((3 : Int), ())))
  else
  joinF (bitmap_FromRuns_j4 fu a v2 v3 j2) fun j6 =>
  bif (decide ((0 : Int) < v4)) then
    bif ((decide ((0 : Int) ≤ (IntKind.i64.wrap (v4 - (1 : Int))))) && (decide ((IntKind.i64.wrap (v4 - (1 : Int))) < (List.length a.2.2.1 : Int)))) then
    let v7 : (Int) × ((Int) × (Int)) := (List.getD a.2.2.1 (Int.toNat (IntKind.i64.wrap (v4 - (1 : Int)))) (0, (0, 0)))
    bif (decide (v3.1 < v7.1)) then
      j6 (true)
    else
    bif ((decide ((0 : Int) ≤ (IntKind.i64.wrap (v4 - (1 : Int))))) && (decide ((IntKind.i64.wrap (v4 - (1 : Int))) < (List.length a.2.2.1 : Int)))) then
    let v8 : (Int) × ((Int) × (Int)) := (List.getD a.2.2.1 (Int.toNat (IntKind.i64.wrap (v4 - (1 : Int)))) (0, (0, 0)))
    bif (decide (v3.1 = v8.1)) then
      bif ((decide ((0 : Int) ≤ (IntKind.i64.wrap (v4 - (1 : Int))))) && (decide ((IntKind.i64.wrap (v4 - (1 : Int))) < (List.length a.2.2.1 : Int)))) then
      let v9 : (Int) × ((Int) × (Int)) := (List.getD a.2.2.1 (Int.toNat (IntKind.i64.wrap (v4 - (1 : Int)))) (0, (0, 0)))
      j6 ((decide (v3.2.1 ≤ v9.2.2)))
      else none
    else
    j6 (false)
    else none
    else none
  else
  j6 (false)
def bitmap_FromRuns_l2 (fu : Nat) (a : (Int) × ((Int) × ((List ((Int) × ((Int) × (Int)))) × (Unit)))) (j2 : ((Int) × ((List (Int)) × ((Int) × ((Int) × (Unit))))) → Option (((Int) × ((Int) × (List (Int)))) × ((Int) × (Unit)))) (v2 : (Int) × ((List (Int)) × ((Int) × ((Int) × (Unit))))) : Option (((Int) × ((Int) × (List (Int)))) × ((Int) × (Unit))) :=
  bif (decide (v2.1 < (List.length a.2.2.1 : Int))) then
    bif ((decide ((0 : Int) ≤ v2.1)) && (decide (v2.1 < (List.length a.2.2.1 : Int)))) then
    let v3 : (Int) × ((Int) × (Int)) := (List.getD a.2.2.1 (Int.toNat v2.1) (0, (0, 0)))
    let v4 : Int := v2.1
    joinF (bitmap_FromRuns_j3 fu a v2 v3 v4 j2) fun j5 =>
    bif (decide (v3.1 < (0 : Int))) then
      j5 (true)
    else
    bif (decide (a.2.1 ≤ v3.1)) then
      j5 (true)
    else
    bif (decide (v3.2.1 < (0 : Int))) then
      j5 (true)
    else
    bif (decide (a.1 < v3.2.2)) then
      j5 (true)
    else
    j5 ((decide (v3.2.2 ≤ v3.2.1)))
    else none
  else
  some (((a.1, (a.2.1, v2.2.1)), ((0 : Int), ())))
def bitmap_FromRuns_j1 (fu : Nat) (a : (Int) × ((Int) × ((List ((Int) × ((Int) × (Int)))) × (Unit)))) (v0 : Bool) : Option (((Int) × ((Int) × (List (Int)))) × ((Int) × (Unit))) :=
  bif v0 then
    some ((((0 : Int), ((0 : Int), ([] : List (Int)))), ((3 : Int), ())))
  else
  bindO (bitmap_stride_r fu ((a.1, ()))) fun v1 =>
  bif ((decide ((0 : Int) ≤ (IntKind.i64.wrap (v1.1 * a.2.1)))) && (decide (((1 : Int) * (IntKind.i64.wrap (v1.1 * a.2.1))) ≤ (281474976710656 : Int)))) then
  loopF (bitmap_FromRuns_l2 fu a) fu (((0 : Int), ((List.replicate (Int.toNat (IntKind.i64.wrap (v1.1 * a.2.1))) (0 : Int)), ((0 : Int), ((0 : Int), ())))))
  else none
def bitmap_FromRuns_r (fu : Nat) (a : (Int) × ((Int) × ((List ((Int) × ((Int) × (Int)))) × (Unit)))) : Option (((Int) × ((Int) × (List (Int)))) × ((Int) × (Unit))) :=
  joinF (bitmap_FromRuns_j1 fu a) fun j0 =>
  bif (decide (a.1 < (1 : Int))) then
    j0 (true)
  else
  bif (decide ((1024 : Int) < a.1)) then
    j0 (true)
  else
  bif (decide (a.2.1 < (1 : Int))) then
    j0 (true)
  else
  j0 ((decide ((1024 : Int) < a.2.1)))
def bitmap_FromRuns_an : An := (.n none .z (.n none (.n (some ⟨[6, 1, 0, 2, 7], [0], [], [.reg 25 .bool], 0, []⟩) .z (.n none (.n none .z .z) .z)) (.n none (.ops [(2, (.n none (.n none .z (.n none .z .z)) .z))]) (.n none (.n none .z (.n none (.n (some ⟨[6, 8, 30, 1, 0, 2, 31], [3], [], [.reg 32 (.int .i64), .row 2 true (.int .u8) 5 0, .box 0 [(.int .i64), (.int .i64), .nils] 24], 0, []⟩) (.n none .z (.n none .z (.n none (.n none (.n none .z (.n none (.n (some ⟨[9, 32, 10], [2, 0, 4], [], [.reg 63 .bool], 0, []⟩) .z (.n none (.n none .z .z) .z)) (.n none (.n (some ⟨[32, 10], [2, 0, 4], [], [.reg 99 .bool], 0, []⟩) (.dr [] []) (.n none (.n none .z .z) .z)) (.n none .z (.n none (.n (some ⟨[32, 10], [0, 4], [], [.reg 11 (.int .i64), .row 2 true (.int .u8) 5 0], 0, []⟩) (.n none (.n none .z .z) (.n none (.n none (.ops [(3, (.n none (.dr [] []) .z))]) .z) .z)) .z) .z))))) .z) .z))) .z) .z)) (.n none .z .z)))))
noncomputable def bitmap_FromRuns_dc : List (Nat × Ctr) := [(69, bitmap_stride_ctr)]
def bitmap_FromRuns_ctr : Ctr := ⟨(.pair (.int .i64) (.pair (.int .i64) (.pair (.list (.pair (.int .i64) (.pair (.int .i64) (.int .i64)))) .unit))), (.pair (.agg (.pair (.int .i64) (.pair (.int .i64) (.list (.int .u8))))) (.pair (.int .i64) .unit)), bitmap_FromRuns_r, 42⟩
theorem bitmap_FromRuns_ok : CtrOk Try.prog 42 bitmap_FromRuns_ctr := ctr_ok (l := bitmap_FromRuns_dc) (f := 12) (an := bitmap_FromRuns_an) ⟨bitmap_stride_ok, trivial⟩ fun fu x => by kernel_rfl
end Go.Proofs.Ytnbmldnahacnlaa
/- Plain facts for residual programs. No program in sight. -/
namespace Go.Proofs.Ytnbmldnahacnlaa
open Go Go.RowKit
theorem loopF_spec {α β : Type} {f : (α → Option β) → α → Option β} (μ : α → Nat) (I : α → Prop) (S : α → Option β) (h : ∀ j x, I x → (∀ x', I x' → μ x' < μ x → j x' = S x') → f j x = S x) : ∀ (fu : Nat) (x : α), I x → μ x < fu → loopF f fu x = S x
  | 0, _, _, h0 => absurd h0 (Nat.not_lt_zero _)
  | fu + 1, x, hI, hm => by
    rw [loopF]
    exact h _ x hI fun x' h1 h2 => loopF_spec μ I S h fu x' h1 (by omega)
theorem bif_pos {α : Type} {p : Prop} [Decidable p] {a b : α} (h : p) : (bif decide p then a else b) = a := by rw [decide_eq_true h]; rfl
theorem bif_neg {α : Type} {p : Prop} [Decidable p] {a b : α} (h : ¬ p) : (bif decide p then a else b) = b := by rw [decide_eq_false h]; rfl
theorem bif_and {α : Type} {p q : Prop} [Decidable p] [Decidable q] {a b : α} (h : p) (k : q) : (bif decide p && decide q then a else b) = a := by rw [decide_eq_true h, decide_eq_true k]; rfl
theorem joinF_eq {α β : Type} (J : α → Option β) (b : (α → Option β) → Option β) : joinF J b = b J := rfl
theorem bindO_some {α β : Type} (x : α) (k : α → Option β) : bindO (some x) k = k x := rfl
/-- the fuel -/
def FU : Nat := 18446744073709551616
/-! ### What is left of a loop -/
def allFrom (p : Nat → Bool) (n i : Nat) : Bool := (List.range' i (n - i)).all p
theorem allFrom_lt {p : Nat → Bool} {n i : Nat} (h : i < n) : allFrom p n i = (p i && allFrom p n (i + 1)) := by
  unfold allFrom
  rw [show n - i = (n - (i + 1)) + 1 by omega, List.range'_succ, List.all_cons]
theorem allFrom_ge {p : Nat → Bool} {n i : Nat} (h : n ≤ i) : allFrom p n i = true := by
  unfold allFrom
  rw [show n - i = 0 by omega]; rfl
theorem allFrom_zero (p : Nat → Bool) (n : Nat) : allFrom p n 0 = (List.range n).all p := by
  unfold allFrom
  rw [Nat.sub_zero, List.range_eq_range']
end Go.Proofs.Ytnbmldnahacnlaa
/- Plain facts on whole numbers: rounding, floor division. No program in sight. -/
namespace Go.Proofs.Ytnbmldnahacnlaa

end Go.Proofs.Ytnbmldnahacnlaa
/- Bits of bytes, bitmaps as lists of bytes. No program in sight. -/
namespace Go.Proofs.Ytnbmldnahacnlaa
open Go Go.RowKit

/-- the pixel j of a byte, from the left -/
def bitAt (v : Int) (j : Nat) : Bool := v / 2 ^ (7 - j) % 2 == 1
theorem fin_byte {p : Int → Prop} (h : ∀ v : Fin 256, p (v.val : Int)) {v : Int} (h0 : 0 ≤ v) (h1 : v ≤ 255) : p v := by
  have := h ⟨v.toNat, by omega⟩
  rwa [show ((⟨v.toNat, by omega⟩ : Fin 256).val : Int) = v from Int.toNat_of_nonneg h0] at this
theorem and_mask {v : Int} (h0 : 0 ≤ v) (h1 : v ≤ 255) {k : Nat} (hk : k < 8) : bits .and .u8 v (128 / 2 ^ k) = (if bitAt v k = true then 128 / 2 ^ k else 0) :=
  fin_byte (p := fun v => ∀ k : Fin 8, bits .and .u8 v (128 / 2 ^ k.val) = (if bitAt v k.val = true then 128 / 2 ^ k.val else 0)) (by decide +kernel) h0 h1 ⟨k, hk⟩
theorem mask_ne {k : Nat} (hk : k < 8) : (128 : Int) / 2 ^ k ≠ 0 := (show ∀ k : Fin 8, (128 : Int) / 2 ^ k.val ≠ 0 by decide) ⟨k, hk⟩
/-- the lowest u bits of a byte -/
def lowOk (v : Int) (u : Nat) : Bool := v % 2 ^ u == 0
theorem and_low {v : Int} (h0 : 0 ≤ v) (h1 : v ≤ 255) {u : Nat} (hu : u < 8) : bits .and .u8 v (2 ^ u - 1) = v % 2 ^ u :=
  fin_byte (p := fun v => ∀ u : Fin 8, bits .and .u8 v (2 ^ u.val - 1) = v % 2 ^ u.val) (by decide +kernel) h0 h1 ⟨u, hu⟩
theorem wrap_pow {u : Nat} (hu : u < 8) : IntKind.wrap .u8 (IntKind.wrap .u8 (1 * 2 ^ u) - 1) = 2 ^ u - 1 := (show ∀ u : Fin 8, IntKind.wrap .u8 (IntKind.wrap .u8 (1 * 2 ^ u.val) - 1) = 2 ^ u.val - 1 by decide +kernel) ⟨u, hu⟩
/-- bytes -/
def Bytes (ds : List Int) : Prop := ∀ d ∈ ds, 0 ≤ d ∧ d ≤ 255
/-- a row's bytes -/
def strideN (w : Nat) : Nat := (w + 7) / 8
def tailOk (w h : Nat) (ds : List Int) : Bool := (List.range h).all fun y => lowOk (ds.getD (y * strideN w + strideN w - 1) 0) (8 * strideN w - w)
def bitsE (w h : Int) (ds : List Int) : Int := if 1 ≤ w ∧ w ≤ 1024 ∧ 1 ≤ h ∧ h ≤ 1024 then (if ds.length = strideN w.toNat * h.toNat then (if tailOk w.toNat h.toNat ds = true then 0 else 4) else 4) else 3
end Go.Proofs.Ytnbmldnahacnlaa
/- Strips: what the small functions compute. -/
namespace Go.Proofs.Ytnbmldnahacnlaa
open Go Go.RowKit

theorem within_r (fu : Nat) (x lo hi : Int) : R_Within_r fu (x, (lo, (hi, ()))) = some (decide (lo ≤ x) && decide (x ≤ hi), ()) := by
  unfold R_Within_r
  by_cases h : lo ≤ x
  · rw [bif_pos h, decide_eq_true h]; rfl
  · rw [bif_neg h, decide_eq_false h]; rfl
/-- a row's bytes -/
def strd (w : Int) : Int := (w + 7) / 8
theorem stride_r (fu : Nat) {w : Int} (h0 : 0 ≤ w) (h1 : w ≤ 1000000) : bitmap_stride_r fu (w, ()) = some (strd w, ()) := by
  unfold bitmap_stride_r strd
  simp only
  rw [wr64 (x := w + 7) (by omega) (by omega), Int.tdiv_eq_ediv_of_nonneg (by omega), wr64 (x := (w + 7) / 8) (by omega) (by omega)]
theorem strd_N {w : Int} (h0 : 0 ≤ w) : strd w = (strideN w.toNat : Int) := by
  unfold strd strideN
  omega
/-- the pixel (x, y) -/
def pixB (w h : Int) (ds : List Int) (x y : Int) : Bool := decide (0 ≤ x ∧ x < w ∧ 0 ≤ y ∧ y < h) && bitAt (ds.getD (y * strd w + x / 8).toNat 0) (x % 8).toNat
theorem at_ok {w h : Int} (hw : 0 ≤ w) {x y : Int} {l : Nat} (hx0 : 0 ≤ x) (hx1 : x < w) (hy0 : 0 ≤ y) (hy1 : y < h) (hl : (l : Int) = strd w * h) : 0 ≤ y * strd w ∧ 0 ≤ y * strd w + x / 8 ∧ y * strd w + x / 8 < l := by
  have h1 : x / 8 < strd w := by unfold strd; omega
  have h2 : y * strd w ≤ (h - 1) * strd w := Int.mul_le_mul_of_nonneg_right (by omega) (by unfold strd; omega)
  have h3 : (h - 1) * strd w = strd w * h - strd w := by rw [Int.sub_mul, Int.one_mul, Int.mul_comm]
  have h4 : 0 ≤ y * strd w := Int.mul_nonneg hy0 (by unfold strd; omega)
  omega
theorem Bytes.at {ds : List Int} (h : Bytes ds) (i : Nat) : 0 ≤ ds.getD i 0 ∧ ds.getD i 0 ≤ 255 := by
  rw [List.getD_eq_getElem?_getD]
  cases e : ds[i]? with
  | none => simp
  | some d => exact h d (List.mem_of_getElem? e)
theorem is_r (fu : Nat) {w h : Int} {ds : List Int} (hw0 : 0 ≤ w) (hw1 : w ≤ 1024) (hh : h ≤ 1024) (hl : (ds.length : Int) = strd w * h) (hb : Bytes ds) (x y : Int) : bitmap_Is_r fu ((w, (h, ds)), (x, (y, ()))) = some (pixB w h ds x y, ()) := by
  unfold bitmap_Is_r pixB
  simp only
  by_cases h1 : 0 ≤ x
  · rw [bif_pos h1]
    by_cases h2 : x < w
    · rw [bif_pos h2]
      by_cases h3 : 0 ≤ y
      · rw [bif_pos h3]
        by_cases h4 : y < h
        · rw [bif_pos h4, stride_r fu hw0 (by omega)]
          simp only [bindO_some]
          obtain ⟨g0, g1, g2⟩ := at_ok hw0 h1 h2 h3 h4 hl
          have hs : strd w * h ≤ 128 * 1024 := by
            have a1 : strd w ≤ 128 := by unfold strd; omega
            have a2 : 0 ≤ strd w := by unfold strd; omega
            have := Int.mul_le_mul a1 hh (by omega : 0 ≤ h) (by omega : (0 : Int) ≤ 128)
            omega
          rw [Int.tdiv_eq_ediv_of_nonneg h1, Int.tmod_eq_emod_of_nonneg h1, wr64 (x := x / 8) (by omega) (by omega), wr64 (x := y * strd w) (by omega) (by omega), wr64 (x := y * strd w + x / 8) (by omega) (by omega)]
          rw [bif_and g1 g2, bif_and (by omega) (by omega), and_mask (hb.at _).1 (hb.at _).2 (by omega)]
          rw [decide_eq_true (show 0 ≤ x ∧ x < w ∧ 0 ≤ y ∧ y < h from ⟨h1, h2, h3, h4⟩), Bool.true_and]
          have := mask_ne (k := (x % 8).toNat) (by omega)
          cases bitAt (ds.getD (y * strd w + x / 8).toNat 0) (x % 8).toNat with
          | true => rw [if_pos rfl, decide_eq_true this]
          | false => rw [if_neg (by simp)]; rfl
        · rw [bif_neg h4, decide_eq_false (by omega)]; rfl
      · rw [bif_neg h3, decide_eq_false (by omega)]; rfl
    · rw [bif_neg h2, decide_eq_false (by omega)]; rfl
  · rw [bif_neg h1, decide_eq_false (by omega)]; rfl
end Go.Proofs.Ytnbmldnahacnlaa
/- Bitmaps: the list of bytes of a picture. No program in sight. -/
namespace Go.Proofs.Ytnbmldnahacnlaa
open Go Go.RowKit

def byteB (b0 b1 b2 b3 b4 b5 b6 b7 : Bool) : Int := (bif b0 then 128 else 0) + (bif b1 then 64 else 0) + (bif b2 then 32 else 0) + (bif b3 then 16 else 0) + (bif b4 then 8 else 0) + (bif b5 then 4 else 0) + (bif b6 then 2 else 0) + (bif b7 then 1 else 0)
/-- the byte with the given pixels -/
def byteOf (p : Nat → Bool) : Int := byteB (p 0) (p 1) (p 2) (p 3) (p 4) (p 5) (p 6) (p 7)
theorem byteOf_congr {p q : Nat → Bool} (h : ∀ k, k < 8 → p k = q k) : byteOf p = byteOf q := by
  unfold byteOf
  rw [h 0 (by omega), h 1 (by omega), h 2 (by omega), h 3 (by omega), h 4 (by omega), h 5 (by omega), h 6 (by omega), h 7 (by omega)]
theorem byteOf_bd (p : Nat → Bool) : 0 ≤ byteOf p ∧ byteOf p ≤ 255 := by
  unfold byteOf
  generalize p 0 = a0; generalize p 1 = a1; generalize p 2 = a2; generalize p 3 = a3; generalize p 4 = a4; generalize p 5 = a5; generalize p 6 = a6; generalize p 7 = a7
  revert a0 a1 a2 a3 a4 a5 a6 a7
  decide +kernel
theorem bool_fun {p : Nat → Bool} {a0 a1 a2 a3 a4 a5 a6 a7 : Bool} (h0 : p 0 = a0) (h1 : p 1 = a1) (h2 : p 2 = a2) (h3 : p 3 = a3) (h4 : p 4 = a4) (h5 : p 5 = a5) (h6 : p 6 = a6) (h7 : p 7 = a7) : ∀ k, k < 8 → p k = [a0, a1, a2, a3, a4, a5, a6, a7].getD k false
  | 0, _ => h0 | 1, _ => h1 | 2, _ => h2 | 3, _ => h3 | 4, _ => h4 | 5, _ => h5 | 6, _ => h6 | 7, _ => h7
  | k + 8, h => by omega
theorem byteOf_bit (p : Nat → Bool) {k : Nat} (hk : k < 8) : bitAt (byteOf p) k = p k := by
  rw [bool_fun (p := p) rfl rfl rfl rfl rfl rfl rfl rfl k hk]
  unfold byteOf
  generalize p 0 = a0; generalize p 1 = a1; generalize p 2 = a2; generalize p 3 = a3; generalize p 4 = a4; generalize p 5 = a5; generalize p 6 = a6; generalize p 7 = a7
  exact (show ∀ (k : Fin 8) (a0 a1 a2 a3 a4 a5 a6 a7 : Bool), bitAt (byteB a0 a1 a2 a3 a4 a5 a6 a7) k.val = [a0, a1, a2, a3, a4, a5, a6, a7].getD k.val false by decide +kernel) ⟨k, hk⟩ a0 a1 a2 a3 a4 a5 a6 a7
theorem or_byte {v : Int} (h0 : 0 ≤ v) (h1 : v ≤ 255) {k : Nat} (hk : k < 8) : bits .or .u8 v (128 / 2 ^ k) = byteOf (fun j => bitAt v j || j == k) :=
  fin_byte (p := fun v => bits .or .u8 v (128 / 2 ^ k) = byteOf (fun j => bitAt v j || j == k)) (fun v => (show ∀ (k : Fin 8) (v : Fin 256), bits .or .u8 (v.val : Int) (128 / 2 ^ k.val) = byteOf (fun j => bitAt (v.val : Int) j || j == k.val) by decide +kernel) ⟨k, hk⟩ v) h0 h1
theorem byteOf_or (p : Nat → Bool) {k : Nat} (hk : k < 8) : bits .or .u8 (byteOf p) (128 / 2 ^ k) = byteOf (fun j => p j || j == k) := by
  rw [or_byte (byteOf_bd p).1 (byteOf_bd p).2 hk]
  exact byteOf_congr fun j hj => by rw [byteOf_bit p hj]
/-- byte i of a picture -/
def cbyte (w : Int) (P : Int → Int → Bool) (i : Int) : Int := byteOf fun k => decide (8 * (i % strd w) + k < w) && P (8 * (i % strd w) + k) (i / strd w)
/-- the bytes of the picture P -/
def canon (w h : Int) (P : Int → Int → Bool) : List Int := (List.range (strd w * h).toNat).map fun i : Nat => cbyte w P (i : Int)
theorem canon_length (w h : Int) (P : Int → Int → Bool) : (canon w h P).length = (strd w * h).toNat := by rw [canon, List.length_map, List.length_range]
theorem canon_len {w h : Int} (hw : 0 ≤ w) (hh : 0 ≤ h) (P : Int → Int → Bool) : ((canon w h P).length : Int) = strd w * h := by
  rw [canon_length, Int.toNat_of_nonneg (Int.mul_nonneg (by unfold strd; omega) hh)]
theorem canon_get {w h : Int} {P : Int → Int → Bool} {i : Nat} (hi : i < (canon w h P).length) : (canon w h P)[i] = cbyte w P i := by
  simp only [canon, List.getElem_map, List.getElem_range]
theorem canon_getD {w h : Int} {P : Int → Int → Bool} {i : Nat} (hi : i < (strd w * h).toNat) : (canon w h P).getD i 0 = cbyte w P i := by
  rw [← canon_length w h P] at hi
  rw [List.getD_eq_getElem?_getD, List.getElem?_eq_getElem hi, Option.getD_some, canon_get]
theorem canon_congr {w h : Int} {P Q : Int → Int → Bool} (hw : 0 < w) (hp : ∀ x y, 0 ≤ x → x < w → 0 ≤ y → y < h → P x y = Q x y) : canon w h P = canon w h Q := by
  unfold canon
  refine List.map_congr_left fun i hi => byteOf_congr fun k _ => ?_
  have hi := List.mem_range.1 hi
  have hs : 0 < strd w := by unfold strd; omega
  have hi' : (i : Int) < strd w * h := by omega
  have e1 : 0 ≤ (i : Int) % strd w := Int.emod_nonneg _ (by omega)
  have e2 : (i : Int) / strd w < h := Int.ediv_lt_of_lt_mul hs (by rw [Int.mul_comm]; exact hi')
  have e3 : 0 ≤ (i : Int) / strd w := Int.ediv_nonneg (by omega) (by omega)
  by_cases g : 8 * ((i : Int) % strd w) + k < w
  · rw [hp _ _ (by omega) g e3 e2]
  · rw [decide_eq_false g]; rfl
theorem div_of {s a b : Int} (h0 : 0 ≤ b) (h1 : b < s) : (a * s + b) / s = a ∧ (a * s + b) % s = b := by
  have hs : s ≠ 0 := by omega
  constructor
  · rw [Int.add_comm, Int.add_mul_ediv_right _ _ hs, Int.ediv_eq_zero_of_lt h0 h1, Int.zero_add]
  · rw [Int.add_comm, Int.add_mul_emod_self_right, Int.emod_eq_of_lt h0 h1]
theorem mul_div_mod (i s : Int) : i / s * s + i % s = i := by rw [Int.mul_comm]; exact Int.mul_ediv_add_emod i s
section
variable {w h x y : Int} {P : Int → Int → Bool}
theorem at_lt (hx0 : 0 ≤ x) (hx1 : x < w) (hy0 : 0 ≤ y) (hy1 : y < h) : (y * strd w + x / 8).toNat < (strd w * h).toNat ∧ ((y * strd w + x / 8).toNat : Int) = y * strd w + x / 8 := by
  have h1 : 0 ≤ strd w * h := Int.mul_nonneg (by unfold strd; omega) (by omega)
  obtain ⟨g0, g1, g2⟩ := at_ok (w := w) (h := h) (x := x) (y := y) (l := (strd w * h).toNat) (by omega) hx0 hx1 hy0 hy1 (by omega)
  omega
theorem cbyte_at (hx0 : 0 ≤ x) (hx1 : x < w) (hy0 : 0 ≤ y) : cbyte w P (y * strd w + x / 8) = byteOf fun k => decide (8 * (x / 8) + k < w) && P (8 * (x / 8) + k) y := by
  have h1 : x / 8 < strd w := by unfold strd; omega
  have := hy0
  unfold cbyte
  rw [(div_of (by omega) h1).1, (div_of (by omega) h1).2]
/-- one byte of a picture turned -/
theorem canon_upd {Q : Int → Int → Bool} {v : Int} (hx0 : 0 ≤ x) (hx1 : x < w) (hy0 : 0 ≤ y) (hy1 : y < h) (hv : v = byteOf fun k => decide (8 * (x / 8) + k < w) && Q (8 * (x / 8) + k) y)
    (hq : ∀ a b, 0 ≤ a → ¬ (a / 8 = x / 8 ∧ b = y) → Q a b = P a b) : (canon w h P).set (y * strd w + x / 8).toNat v = canon w h Q := by
  obtain ⟨hlt, hcast⟩ := at_lt hx0 hx1 hy0 hy1
  refine List.ext_getElem (by rw [List.length_set, canon_length, canon_length]) fun i h1 h2 => ?_
  rw [List.getElem_set]
  split
  · rename_i e
    subst e
    rw [canon_get, hcast, cbyte_at hx0 hx1 hy0]
    exact hv
  · rename_i e
    rw [canon_get, canon_get]
    refine byteOf_congr fun k hk => ?_
    have hs : 0 < strd w := by unfold strd; omega
    have e1 : 0 ≤ (i : Int) % strd w := Int.emod_nonneg _ (by omega)
    congr 1
    refine (hq _ _ (by omega) ?_).symm
    rintro ⟨g1, g2⟩
    have g3 : (i : Int) % strd w = x / 8 := by omega
    have := mul_div_mod (i : Int) (strd w)
    rw [g2, g3] at this
    omega
theorem canon_set (hx0 : 0 ≤ x) (hx1 : x < w) (hy0 : 0 ≤ y) (hy1 : y < h) :
    (canon w h P).set (y * strd w + x / 8).toNat (bits .or .u8 ((canon w h P).getD (y * strd w + x / 8).toNat 0) (128 / 2 ^ (x % 8).toNat)) = canon w h (fun a b => P a b || (decide (a = x) && decide (b = y))) := by
  obtain ⟨hlt, hcast⟩ := at_lt hx0 hx1 hy0 hy1
  refine canon_upd hx0 hx1 hy0 hy1 ?_ (fun a b ha hn => ?_)
  · rw [canon_getD hlt, hcast, cbyte_at hx0 hx1 hy0, byteOf_or _ (by omega)]
    refine byteOf_congr fun k hk => ?_
    rw [decide_eq_true (rfl : y = y), Bool.and_true]
    by_cases e : k = (x % 8).toNat
    · subst e
      have e1 : 8 * (x / 8) + ((x % 8).toNat : Int) = x := by omega
      rw [e1, decide_eq_true hx1, decide_eq_true (rfl : x = x)]
      simp
    · rw [decide_eq_false (show ¬ 8 * (x / 8) + (k : Int) = x by omega)]
      simp [e]
  · have : ¬ (a = x ∧ b = y) := fun g => hn (by rw [g.1]; exact ⟨rfl, g.2⟩)
    by_cases e : a = x
    · rw [decide_eq_false (show ¬ b = y from fun g => this ⟨e, g⟩)]; simp
    · rw [decide_eq_false e]; simp
end
end Go.Proofs.Ytnbmldnahacnlaa
/- Bitmaps: what bitmap.from, R.Drawn, R.SameBits compute. -/
namespace Go.Proofs.Ytnbmldnahacnlaa
open Go Go.RowKit

section
variable {β : Type}
/-- one pixel set -/
def markF (fu : Nat) (w y x : Int) (ds : List Int) (k : List Int → Option β) : Option β :=
  bindO (bitmap_stride_r fu ((w, ()))) fun v8 =>
  bif ((decide ((0 : Int) ≤ (IntKind.i64.wrap ((IntKind.i64.wrap (y * v8.1)) + (IntKind.i64.wrap (Int.tdiv x (8 : Int))))))) && (decide ((IntKind.i64.wrap ((IntKind.i64.wrap (y * v8.1)) + (IntKind.i64.wrap (Int.tdiv x (8 : Int))))) < (List.length ds : Int)))) then
  bif ((decide ((0 : Int) ≤ (Int.tmod x (8 : Int)))) && (decide ((Int.tmod x (8 : Int)) ≤ (8 : Int)))) then
  bif ((decide ((0 : Int) ≤ (IntKind.i64.wrap ((IntKind.i64.wrap (y * v8.1)) + (IntKind.i64.wrap (Int.tdiv x (8 : Int))))))) && (decide ((IntKind.i64.wrap ((IntKind.i64.wrap (y * v8.1)) + (IntKind.i64.wrap (Int.tdiv x (8 : Int))))) < (List.length ds : Int)))) then
  k ((List.set ds (Int.toNat (IntKind.i64.wrap ((IntKind.i64.wrap (y * v8.1)) + (IntKind.i64.wrap (Int.tdiv x (8 : Int)))))) (bits BinOp.or IntKind.u8 (List.getD ds (Int.toNat (IntKind.i64.wrap ((IntKind.i64.wrap (y * v8.1)) + (IntKind.i64.wrap (Int.tdiv x (8 : Int)))))) 0) ((128 : Int) / 2 ^ (Int.toNat (Int.tmod x (8 : Int)))))))
  else none
  else none
  else none
theorem strd_bd {w h : Int} (hw0 : 0 ≤ w) (hw1 : w ≤ 1024) (hh0 : 0 ≤ h) (hh1 : h ≤ 1024) : 0 ≤ strd w ∧ strd w ≤ 128 ∧ 0 ≤ strd w * h ∧ strd w * h ≤ 131072 := by
  have a1 : strd w ≤ 128 := by unfold strd; omega
  have a2 : 0 ≤ strd w := by unfold strd; omega
  have := Int.mul_le_mul a1 hh1 hh0 (by omega : (0 : Int) ≤ 128)
  have := Int.mul_nonneg a2 hh0
  omega
theorem idx_bd {w h x y : Int} (hx0 : 0 ≤ x) (hx1 : x < w) (hw1 : w ≤ 1024) (hy0 : 0 ≤ y) (hy1 : y < h) (hh1 : h ≤ 1024) : 0 ≤ y * strd w ∧ y * strd w + x / 8 < strd w * h ∧ strd w * h ≤ 131072 := by
  obtain ⟨b1, b2, b3, b4⟩ := strd_bd (w := w) (h := h) (by omega) hw1 (by omega) hh1
  obtain ⟨g0, g1, g2⟩ := at_ok (w := w) (h := h) (x := x) (y := y) (l := (strd w * h).toNat) (by omega) hx0 hx1 hy0 hy1 (by omega)
  omega
theorem markF_eq (fu : Nat) {w h x y : Int} {P : Int → Int → Bool} {k : List Int → Option β} (hx0 : 0 ≤ x) (hx1 : x < w) (hw1 : w ≤ 1024) (hy0 : 0 ≤ y) (hy1 : y < h) (hh1 : h ≤ 1024) :
    markF fu w y x (canon w h P) k = k (canon w h (fun a b => P a b || (decide (a = x) && decide (b = y)))) := by
  obtain ⟨g0, g1, g2⟩ := idx_bd hx0 hx1 hw1 hy0 hy1 hh1
  have hl := canon_len (w := w) (h := h) (by omega) (by omega) P
  unfold markF
  rw [stride_r fu (by omega) (by omega), bindO_some]
  simp only
  rw [Int.tdiv_eq_ediv_of_nonneg hx0, Int.tmod_eq_emod_of_nonneg hx0, wr64 (x := x / 8) (by omega) (by omega), wr64 (x := y * strd w) (by omega) (by omega), wr64 (x := y * strd w + x / 8) (by omega) (by omega)]
  rw [bif_and (by omega) (by omega), bif_and (by omega) (by omega), bif_and (by omega) (by omega), canon_set hx0 hx1 hy0 hy1]
theorem canon_zero (w h : Int) {P : Int → Int → Bool} (hp : ∀ x y, P x y = false) : canon w h P = List.replicate (strd w * h).toNat 0 := by
  refine List.ext_getElem (by rw [canon_length, List.length_replicate]) fun i h1 h2 => ?_
  rw [canon_get, List.getElem_replicate]
  show byteOf _ = 0
  rw [byteOf_congr (q := fun _ => false) (fun k _ => by rw [hp, Bool.and_false])]
  rfl
variable {fu : Nat} (hf : 18446744073709551616 ≤ fu) {w h : Int} {F : Int → Int → Bool}
include hf
/-- a list of pixels drawn -/
theorem drawn_r {on : List Bool} (hw0 : 0 < w) (hw1 : w ≤ 1024) (hh0 : 0 < h) (hh1 : h ≤ 1024) (hl : (on.length : Int) = w * h) :
    R_Drawn_r fu (w, (h, (on, ()))) = some ((w, (h, canon w h (fun x y => on.getD (y * w + x).toNat false))), ()) := by
  obtain ⟨b1, b2, b3, b4⟩ := strd_bd (w := w) (h := h) (by omega) hw1 (by omega) hh1
  have hwh : w * h ≤ 1048576 := by
    have := Int.mul_le_mul hw1 hh1 (by omega : 0 ≤ h) (by omega : (0 : Int) ≤ 1024)
    omega
  unfold R_Drawn_r
  simp only
  have e1 : IntKind.i64.wrap (Int.tdiv (IntKind.i64.wrap (w + 7)) 8) = strd w := by
    rw [wr64 (x := w + 7) (by omega) (by omega), Int.tdiv_eq_ediv_of_nonneg (by omega), wr64 (x := (w + 7) / 8) (by omega) (by omega)]; rfl
  rw [e1, wr64 (x := strd w * h) (by omega) (by omega), bif_and (by omega) (by omega), ← canon_zero w h (P := fun _ _ => false) (fun _ _ => rfl)]
  refine loopF_spec (fun v => (w * h - v.1).toNat) (fun v => 0 ≤ v.1 ∧ v.1 ≤ w * h ∧ v.2 = canon w h (fun x y => on.getD (y * w + x).toNat false && decide (y * w + x < v.1))) (fun _ => some ((w, (h, canon w h (fun x y => on.getD (y * w + x).toNat false))), ())) ?_ fu (0, _) ⟨by omega, by simp only; omega, ?_⟩ (by simp only; omega)
  · rintro j ⟨i, ds⟩ ⟨h0, h1, hd⟩ ih
    simp only at h0 h1 hd
    unfold R_Drawn_l1 R_Drawn_j2
    simp only [joinF_eq]
    by_cases hi : i < w * h
    · rw [bif_pos (by omega), bif_and (by omega) (by omega), wr64 (x := i + 1) (by omega) (by omega)]
      have hx0 : 0 ≤ i % w := Int.emod_nonneg _ (by omega)
      have hx1 : i % w < w := Int.emod_lt_of_pos _ hw0
      have hy0 : 0 ≤ i / w := Int.ediv_nonneg h0 (by omega)
      have hy1 : i / w < h := Int.ediv_lt_of_lt_mul hw0 (by rw [Int.mul_comm]; exact hi)
      have hmd := mul_div_mod i w
      cases hF : on.getD i.toNat false with
      | true =>
        simp only [cond_true]
        obtain ⟨g0, g1, g2⟩ := idx_bd hx0 hx1 hw1 hy0 hy1 hh1
        have hcl := canon_len (w := w) (h := h) (by omega) (by omega) (fun x y => on.getD (y * w + x).toNat false && decide (y * w + x < i))
        have hwn : w ≠ 0 := by omega
        rw [Int.tdiv_eq_ediv_of_nonneg h0, Int.tmod_eq_emod_of_nonneg h0, Int.tdiv_eq_ediv_of_nonneg hx0, Int.tmod_eq_emod_of_nonneg hx0, wr64 (x := i / w) (by omega) (by omega), wr64 (x := i / w * strd w) (by omega) (by omega), wr64 (x := i % w / 8) (by omega) (by omega), wr64 (x := i / w * strd w + i % w / 8) (by omega) (by omega)]
        rw [hd, bif_pos hwn, bif_pos hwn, bif_and (by omega) (by omega), bif_pos hwn, bif_and (by omega) (by omega), bif_and (by omega) (by omega), canon_set hx0 hx1 hy0 hy1]
        refine ih (i + 1, _) ⟨by simp only; omega, by simp only; omega, ?_⟩ (by simp only; omega)
        simp only
        refine canon_congr hw0 fun a b ha ha1 _ _ => ?_
        by_cases e : a = i % w ∧ b = i / w
        · obtain ⟨rfl, rfl⟩ := e
          rw [hmd, hF]; simp; omega
        · have e2 : (decide (a = i % w) && decide (b = i / w)) = false := by
            rw [← Bool.not_eq_true, Bool.and_eq_true]; simpa using e
          have e3 : ¬ b * w + a = i := by
            intro q
            have := div_of (a := b) ha ha1
            rw [q] at this
            exact e ⟨this.2.symm, this.1.symm⟩
          have g2 : decide (b * w + a < i) = decide (b * w + a < i + 1) := by
            by_cases q : b * w + a < i
            · rw [decide_eq_true q, decide_eq_true (by omega)]
            · rw [decide_eq_false q, decide_eq_false (by omega)]
          rw [e2, Bool.or_false, g2]
      | false =>
        simp only [cond_false]
        refine ih (i + 1, ds) ⟨by simp only; omega, by simp only; omega, ?_⟩ (by simp only; omega)
        simp only
        rw [hd]
        refine canon_congr hw0 fun a b ha ha1 _ _ => ?_
        by_cases q : b * w + a = i
        · rw [q, hF]; rfl
        · have g2 : decide (b * w + a < i) = decide (b * w + a < i + 1) := by
            by_cases q : b * w + a < i
            · rw [decide_eq_true q, decide_eq_true (by omega)]
            · rw [decide_eq_false q, decide_eq_false (by omega)]
          rw [g2]
    · rw [bif_neg (by omega), hd]
      congr 4
      refine canon_congr hw0 fun a b ha ha1 hb hb1 => ?_
      have : b * w ≤ (h - 1) * w := Int.mul_le_mul_of_nonneg_right (by omega) (by omega)
      have e2 : (h - 1) * w = w * h - w := by rw [Int.sub_mul, Int.one_mul, Int.mul_comm]
      rw [decide_eq_true (show b * w + a < i by omega), Bool.and_true]
  · refine canon_congr hw0 fun a b ha _ hb _ => ?_
    have := Int.mul_nonneg hb (by omega : 0 ≤ w)
    rw [decide_eq_false (show ¬ b * w + a < 0 by omega), Bool.and_false]
end
theorem same_r (fu : Nat) (w h : Int) (ds : List Int) : R_SameBits_r fu ((w, (h, ds)), ((w, (h, ds)), ())) = some (true, ()) := by
  unfold R_SameBits_r R_SameBytes_r
  simp [bindO_some]
/-- a refused bitmap -/
theorem refused_r (fu : Nat) (e : Int) : law_refused_r fu ((0, (0, [])), (e, (e, ()))) = some (true, ()) := by
  unfold law_refused_r R_NoBits_r
  simp [bindO_some]
end Go.Proofs.Ytnbmldnahacnlaa
/- Strips: Check and BitsErr. -/
namespace Go.Proofs.Ytnbmldnahacnlaa
open Go Go.RowKit

theorem check_r {fu : Nat} (hf : 18446744073709551616 ≤ fu) {w h : Int} {ds : List Int} (hb : Bytes ds) : bitmap_Check_r fu ((w, (h, ds)), ()) = some (bitsE w h ds, ()) := by
  unfold bitmap_Check_r bitsE
  simp only [joinF_eq]
  have bad : ∀ p : Prop, ¬ (1 ≤ w ∧ w ≤ 1024 ∧ 1 ≤ h ∧ h ≤ 1024) → bitmap_Check_j1 fu ((w, (h, ds)), ()) true = some (if 1 ≤ w ∧ w ≤ 1024 ∧ 1 ≤ h ∧ h ≤ 1024 then (if ds.length = strideN w.toNat * h.toNat then (if tailOk w.toNat h.toNat ds = true then 0 else 4) else 4) else 3, ()) := by
    intro _ hn
    rw [if_neg hn]; rfl
  by_cases h1 : w < 1
  · rw [bif_pos h1]; exact bad True (by omega)
  rw [bif_neg h1]
  by_cases h2 : 1024 < w
  · rw [bif_pos h2]; exact bad True (by omega)
  rw [bif_neg h2]
  by_cases h3 : h < 1
  · rw [bif_pos h3]; exact bad True (by omega)
  rw [bif_neg h3]
  by_cases h4 : 1024 < h
  · rw [decide_eq_true h4]; exact bad True (by omega)
  rw [decide_eq_false h4, if_pos (by omega)]
  clear bad
  unfold bitmap_Check_j1
  simp only [cond_false]
  rw [stride_r fu (by omega) (by omega)]
  simp only [bindO_some, joinF_eq]
  have hs0 : 1 ≤ strd w ∧ strd w ≤ 128 ∧ w ≤ 8 * strd w ∧ 8 * strd w ≤ w + 7 := by unfold strd; omega
  have hN : strd w = (strideN w.toNat : Int) := strd_N (by omega)
  have hs : 0 ≤ strd w * h ∧ strd w * h ≤ 128 * 1024 := ⟨Int.mul_nonneg (by omega) (by omega), by
    have := Int.mul_le_mul hs0.2.1 (show h ≤ 1024 by omega) (by omega : 0 ≤ h) (by omega : (0 : Int) ≤ 128)
    omega⟩
  rw [wr64 (x := strd w * h) (by omega) (by omega), wr64 (x := 8 * strd w) (by omega) (by omega), wr64 (x := 8 * strd w - w) (by omega) (by omega)]
  have hmul : strd w * h = ((strideN w.toNat * h.toNat : Nat) : Int) := by rw [hN, Int.natCast_mul]; congr 1; omega
  by_cases hl : ds.length = strideN w.toNat * h.toNat
  · rw [bif_neg (by rw [hmul, hl]; simp), if_pos hl, bif_and (by omega) (by omega)]
    have e4 : IntKind.u8.wrap (IntKind.u8.wrap (1 * 2 ^ (8 * strd w - w).toNat) - 1) = 2 ^ (8 * strd w - w).toNat - 1 := wrap_pow (by omega)
    rw [e4]
    have hu : (8 * strd w - w).toNat = 8 * strideN w.toNat - w.toNat := by omega
    by_cases hz : w = 8 * strd w
    · have : (2 : Int) ^ (8 * strd w - w).toNat - 1 = 0 := by rw [show (8 * strd w - w).toNat = 0 by omega]; rfl
      rw [this, bif_neg (by simp)]
      have ht : tailOk w.toNat h.toNat ds = true := by
        refine List.all_eq_true.2 fun y _ => ?_
        rw [show 8 * strideN w.toNat - w.toNat = 0 by omega]
        unfold lowOk
        simp [Int.emod_one]
      rw [if_pos ht]; rfl
    · have hne : (2 : Int) ^ (8 * strd w - w).toNat - 1 ≠ 0 := by
        have : ∀ u : Fin 8, 0 < u.val → (2 : Int) ^ u.val - 1 ≠ 0 := by decide
        exact this ⟨(8 * strd w - w).toNat, by omega⟩ (by show 0 < (8 * strd w - w).toNat; omega)
      rw [bif_pos hne]
      let p : Nat → Bool := fun y => lowOk (ds.getD (y * strideN w.toNat + strideN w.toNat - 1) 0) (8 * strideN w.toNat - w.toNat)
      have := loopF_spec (f := bitmap_Check_l3 fu ((w, (h, ds)), ()) (strd w) (2 ^ (8 * strd w - w).toNat - 1) (bitmap_Check_j2 fu)) (fun y : Int => (h - y).toNat) (fun y => 0 ≤ y ∧ y ≤ h) (fun y => some (if allFrom p h.toNat y.toNat = true then 0 else 4, ())) (fun j y ⟨i0, i1⟩ hj => ?_) fu 0 ⟨by omega, by omega⟩ (by omega)
      · rw [this]
        show some (if allFrom p h.toNat 0 = true then (0 : Int) else 4, ()) = _
        rw [allFrom_zero]; rfl
      · unfold bitmap_Check_l3
        simp only
        by_cases hy : y < h
        · obtain ⟨g0, g1, g2⟩ := at_ok (w := w) (h := h) (x := w - 1) (y := y) (l := ds.length) (by omega) (by omega) (by omega) i0 hy (by rw [hmul, hl])
          have g3 : y * strd w + strd w ≤ strd w * h := by
            have := Int.mul_le_mul_of_nonneg_right (show y + 1 ≤ h by omega) (show 0 ≤ strd w by omega)
            rw [Int.add_mul, Int.one_mul, Int.mul_comm h] at this
            exact this
          rw [bif_pos hy, wr64 (x := y * strd w) (by omega) (by omega), wr64 (x := y * strd w + strd w) (by omega) (by omega), wr64 (x := y * strd w + strd w - 1) (by omega) (by omega), bif_and (by omega) (by rw [hl, ← hmul]; omega)]
          rw [and_low (hb.at _).1 (hb.at _).2 (by omega), allFrom_lt (by omega)]
          have ei : (y * strd w + strd w - 1).toNat = y.toNat * strideN w.toNat + strideN w.toNat - 1 := by
            have : y * strd w = ((y.toNat * strideN w.toNat : Nat) : Int) := by rw [hN, Int.natCast_mul]; congr 1; omega
            omega
          have ep : p y.toNat = decide (ds.getD (y * strd w + strd w - 1).toNat 0 % 2 ^ (8 * strd w - w).toNat = 0) := by
            show lowOk _ _ = _
            unfold lowOk
            rw [ei, hu]; rfl
          by_cases hd : ds.getD (y * strd w + strd w - 1).toNat 0 % 2 ^ (8 * strd w - w).toNat = 0
          · rw [bif_neg (by simpa using hd), wr64 (x := y + 1) (by omega) (by omega), hj (y + 1) ⟨by omega, by omega⟩ (by omega), ep, decide_eq_true hd, Bool.true_and]
            rw [show (y + 1).toNat = y.toNat + 1 by omega]
          · rw [bif_pos hd, ep, decide_eq_false hd, Bool.false_and]; rfl
        · rw [bif_neg hy, allFrom_ge (by omega)]; rfl
  · rw [bif_pos (by rw [hmul]; omega), if_neg hl]
end Go.Proofs.Ytnbmldnahacnlaa
/- bitmap.Runs: what a bitmap in memory is; bitmap.Is as the walks take it; bitmap.Row. -/
namespace Go.Proofs.Ytnbmldnahacnlaa
open Go Go.RowKit Go.Shelf
attribute [local go_sem] Oper.semAt_some

/-- a bitmap in a box -/
structure Pic (w h : Int) (ds : List Int) (Bb n0 : Nat) (W : World) : Prop where
  c0 : W.cell? ⟨Bb, 0, none⟩ = some (.int .i64 w)
  c1 : W.cell? ⟨Bb, 1, none⟩ = some (.int .i64 h)
  sl : ∃ A c, W.cell? ⟨Bb, 2, none⟩ = some (.slice A ds.length c) ∧ ds.length ≤ c ∧ c ≤ maxLen ∧ (∀ i, i < ds.length → A ≠ none) ∧
    ∀ (i : Nat) (v : Int), ds[i]? = some v → ∃ b o, A = some ⟨b, o, none⟩ ∧ b < n0 ∧ W.cell? ⟨b, o + i, none⟩ = some (.int .u8 v)
section
variable {w h : Int} {ds : List Int} {Bb n0 : Nat} {W W' : World}
theorem Pic.kept {row : Option Nat} (p : Pic w h ds Bb n0 W) (hg : W.grownBy W' row) (hr : ∀ r, row = some r → ∃ o : Obj, W.heap[r]? = some o ∧ o.isCells = false) : Pic w h ds Bb n0 W' := by
  obtain ⟨A, c, h1, h2, h3, h4, h5⟩ := p.sl
  refine ⟨Go.cell_kept p.c0 hg hr, Go.cell_kept p.c1 hg hr, A, c, Go.cell_kept h1 hg hr, h2, h3, h4, fun i v hv => ?_⟩
  obtain ⟨b, o, e1, e0, e2⟩ := h5 i v hv
  exact ⟨b, o, e1, e0, Go.cell_kept e2 hg hr⟩
theorem grown_of_below (hb : Below W.heap.size W W') : W.grownBy W' none := ⟨hb.os, hb.tape, hb.output, hb.size, fun k hk _ => hb.block k hk⟩
/-- what a round of the caller's loop keeps -/
def Kp3 (n0 Bb B1 B2 : Nat) (A B : World) : Prop := Below n0 A B ∧ ∀ b, (b = Bb ∨ b = B1 ∨ b = B2) → B.heap[b]? = A.heap[b]?
theorem Pic.keep3 {B1 B2 : Nat} (p : Pic w h ds Bb n0 W) (hk : Kp3 n0 Bb B1 B2 W W') : Pic w h ds Bb n0 W' := by
  obtain ⟨A, c, h1, h2, h3, h4, h5⟩ := p.sl
  have e := hk.2 Bb (.inl rfl)
  refine ⟨(World.cell?_of_block (a := ⟨Bb, 0, none⟩) e).trans p.c0, (World.cell?_of_block (a := ⟨Bb, 1, none⟩) e).trans p.c1, A, c, (World.cell?_of_block (a := ⟨Bb, 2, none⟩) e).trans h1, h2, h3, h4, fun i v hv => ?_⟩
  obtain ⟨b, o, e1, e0, e2⟩ := h5 i v hv
  exact ⟨b, o, e1, e0, (hk.1.cell (p := ⟨b, o + i, none⟩) e0).trans e2⟩
theorem keepIs {b : Nat} {v : Value} (hk : W.cell? ⟨b, 0, none⟩ = some v) (hb : Below W.heap.size W W') : W'.cell? ⟨b, 0, none⟩ = some v := Go.cell_kept hk (grown_of_below hb) (fun r e => by cases e)
theorem keepIs1 {b o : Nat} {v : Value} (hk : W.cell? ⟨b, o, none⟩ = some v) (hb : Below W.heap.size W W') : W'.cell? ⟨b, o, none⟩ = some v := Go.cell_kept hk (grown_of_below hb) (fun r e => by cases e)
theorem Pic.is (p : Pic w h ds Bb n0 W) (hb : Below W.heap.size W W') : Pic w h ds Bb n0 W' := p.kept (grown_of_below hb) (fun r e => by cases e)
theorem Pic.rel (p : Pic w h ds Bb n0 W) : RelV W (Gh.none W.heap.size) (.peek (Ty.cells false (.pair (.int .i64) (.pair (.int .i64) (.list (.int .u8)))) (w, (h, ds))) 0) (.pointer (some ⟨Bb, 0, none⟩)) := by
  obtain ⟨A, c, h1, h2, h3, h4, h5⟩ := p.sl
  have hro : RelD W (Gh.none W.heap.size).own (Gh.none W.heap.size).bs (.ro false 1 (ds.map (Ty.cells false (.int .u8)))) (.slice A ds.length c) := by
    have hl : (ds.map (Ty.cells false (.int .u8))).length = ds.length := List.length_map ..
    have hr := RelD.ro (w := W) (own := (Gh.none W.heap.size).own) (bs := (Gh.none W.heap.size).bs) false 1 (ds.map (Ty.cells false (.int .u8))) A c (fun i _ => .int .u8 (ds.getD i 0)) (by rw [hl]; exact h2) h3 (fun i hi => h4 i (by rw [hl] at hi; exact hi)) (fun i row j a g1 g2 => ?_) (fun i row j a g1 g2 => ?_)
    · rw [hl] at hr; exact hr
    · rw [List.getElem?_map] at g1
      obtain ⟨v, hv, e⟩ := Option.map_eq_some_iff.1 g1
      subst e
      rw [Ty.cells] at g2
      cases j with
      | succ j => simp at g2
      | zero =>
        obtain ⟨b, o, e1, _, e2⟩ := h5 i v hv
        refine ⟨b, o, e1, fun h => h, (fun e => by cases e), ?_⟩
        rw [Nat.mul_one, Nat.add_zero, e2, List.getD_eq_getElem?_getD, hv]; rfl
    · rw [List.getElem?_map] at g1
      obtain ⟨v, hv, e⟩ := Option.map_eq_some_iff.1 g1
      subst e
      rw [Ty.cells] at g2
      cases j with
      | succ j => simp at g2
      | zero =>
        simp only [List.getElem?_cons_zero, Option.some.injEq] at g2
        subst g2
        rw [List.getD_eq_getElem?_getD, hv]
        exact .int .u8 v
  have ec : Ty.cells false (.pair (.int .i64) (.pair (.int .i64) (.list (.int .u8)))) (w, (h, ds)) = [.int .i64 w, .int .i64 h, .ro false 1 (ds.map (Ty.cells false (.int .u8)))] := by
    simp only [Ty.cells, Ty.size, List.cons_append, List.nil_append]
  rw [ec]
  refine .peek _ 0 Bb 0 (fun t => match t with | 0 => .int .i64 w | 1 => .int .i64 h | _ => .slice A ds.length c) (by simp) (fun h => h) (fun t a g => ?_) (fun t a g => ?_)
  · match t, g with
    | 0, _ => exact p.c0
    | 1, _ => exact p.c1
    | 2, _ => exact h1
    | t + 3, g => simp at g
  · match t, g with
    | 0, g => simp at g; subst g; exact .int .i64 w
    | 1, g => simp at g; subst g; exact .int .i64 h
    | 2, g => simp at g; subst g; exact hro
    | t + 3, g => simp at g
/-- bitmap.Is -/
theorem is_calls (p : Pic w h ds Bb n0 W) (hw0 : 0 ≤ w) (hw1 : w ≤ 1024) (hh : h ≤ 1024) (hl : (ds.length : Int) = strd w * h) (hb : Bytes ds) (x y : Int) :
    Calls Try.prog 60 #[.pointer (some ⟨Bb, 0, none⟩), .int .i64 x, .int .i64 y] W fun e W' => e = .returned (.bool (pixB w h ds x y)) ∧ Below W.heap.size W W' := by
  have hA := bitmap_Is_ok FU ((w, (h, ds)), (x, (y, ()))) (pixB w h ds x y, ()) (is_r FU hw0 hw1 hh hl hb x y)
  refine (hA.out W #[.pointer (some ⟨Bb, 0, none⟩), .int .i64 x, .int .i64 y] ⟨rfl, fun i a v ha hv => ?_⟩).mono ?_
  · match i, ha, hv with
    | 0, ha, hv =>
      have ha : some (AV.peek (Ty.cells false (.pair (.int .i64) (.pair (.int .i64) (.list (.int .u8)))) (w, (h, ds))) 0) = some a := ha
      have hv : some (Value.pointer (some ⟨Bb, 0, none⟩)) = some v := hv
      injection ha with ha
      injection hv with hv
      subst ha; subst hv
      exact p.rel
    | 1, ha, hv =>
      have ha : some (AV.int .i64 x) = some a := ha
      have hv : some (Value.int .i64 x) = some v := hv
      injection ha with ha
      injection hv with hv
      subst ha; subst hv
      exact rI _ _ _ _
    | 2, ha, hv =>
      have ha : some (AV.int .i64 y) = some a := ha
      have hv : some (Value.int .i64 y) = some v := hv
      injection ha with ha
      injection hv with hv
      subst ha; subst hv
      exact rI _ _ _ _
    | i + 3, ha, hv => simp at hv
  · rintro e W1 ⟨v, rfl, hB, hv⟩
    have hv : RelV W1 _ (.bool (pixB w h ds x y)) v := hv
    rw [hv.bool']
    exact ⟨rfl, hB⟩
theorem is_in (p : Pic w h ds Bb n0 W) (hw0 : 0 ≤ w) (hw1 : w ≤ 1024) (hh : h ≤ 1024) (hl : (ds.length : Int) = strd w * h) (hb : Bytes ds) (x y : Int) (n : Nat) :
    CallsIn Fence.wide n Try.prog 60 #[.pointer (some ⟨Bb, 0, none⟩), .int .i64 x, .int .i64 y] W fun e W' => e = .returned (.bool (pixB w h ds x y)) ∧ Below W.heap.size W W' :=
  callsIn_wide.2 (is_calls p hw0 hw1 hh hl hb x y)
end
set_option maxHeartbeats 1000000 in
/-- bitmap.Row: its two arguments are boxed; the function value has captured the boxes -/
theorem row_in (n : Nat) (v : Option Addr) (y : Int) (W : World) : CallsIn Fence.wide n Try.prog 76 #[.pointer v, .int .i64 y] W fun e W' => e = .returned (.func (.func 87) #[] #[.pointer (some ⟨W.heap.size, 0, none⟩), .pointer (some ⟨W.heap.size + 1, 0, none⟩)]) ∧ W' = (W.alloc (.cells #[.pointer v] 109)).alloc (.cells #[.int .i64 y] 3) := by
  refine callsIn_of_wp Try.func76 rfl trivial ?_ rfl
  simp only [Try.ntmps76, List.size_toArray, List.length_cons, List.length_nil, Nat.reduceAdd, Nat.reduceSub, Array.replicate_succ, Array.replicate_zero, List.push_toArray, List.append_toArray, List.nil_append, List.cons_append]
  gi_wp2
  go_ret
  exact ⟨rfl, rfl⟩
/-- the runs of a row from x on -/
inductive RF (p : Int → Bool) (w y : Int) : Int → List (Int × Int × Int) → Prop
  | done (x : Int) (h : w ≤ x) : RF p w y x []
  | skip (x : Int) (l : List (Int × Int × Int)) (h : x < w) (hp : p x = false) (t : RF p w y (x + 1) l) : RF p w y x l
  | run (x x' : Int) (l : List (Int × Int × Int)) (h : x < x') (h' : x' ≤ w) (hp : ∀ i, x ≤ i → i < x' → p i = true) (hq : x' < w → p x' = false) (t : RF p w y x' l) : RF p w y x ((y, x, x') :: l)
def encR3 (r : Int × Int × Int) : Value := .agg #[.int .i64 r.1, .int .i64 r.2.1, .int .i64 r.2.2]
set_option maxRecDepth 100000 in
set_option maxHeartbeats 4000000 in
theorem row1_in (n : Nat) (hn : 1 ≤ n) (l B1 B2 n0 Bb N : Nat) (w h y : Int) (ds : List Int) (hw0 : 0 ≤ w) (hw1 : w ≤ 1024) (hh : h ≤ 1024) (hl : (ds.length : Int) = strd w * h) (hb : Bytes ds) (rs : List (Int × Int × Int)) (hrs : RF (fun x => pixB w h ds x y) w y 0 rs) (J Jx : List (Int × Int × Int) → World → Prop) (hJ : AbidesFrom N J)
    (hY : ∀ pre x W, J pre W → pre.length < rs.length → YieldAt Fence.wide (n - 1) Try.prog l #[encR3 x] W fun e W' =>
      (e = .returned (.bool true) ∧ J (pre ++ [x]) W' ∧ Kp3 n0 Bb B1 B2 W W') ∨ (e = .returned (.bool false) ∧ Jx (pre ++ [x]) W'))
    (W : World) (hc1 : W.cell? ⟨B1, 0, none⟩ = some (.pointer (some ⟨Bb, 0, none⟩))) (hc2 : W.cell? ⟨B2, 0, none⟩ = some (.int .i64 y)) (hP : Pic w h ds Bb n0 W) (h0 : J [] W) :
    CallsIn Fence.wide n Try.prog 87 #[.func (.yield l) #[] #[], .pointer (some ⟨B1, 0, none⟩), .pointer (some ⟨B2, 0, none⟩)] W fun e W' => (∃ v, e = .returned v) ∧
      ((∃ ys, ys = rs ∧ J ys W') ∨ (∃ pre, pre <+: rs ∧ Jx pre W')) := by
  refine callsIn_of_wp Try.func87 rfl trivial ?_ rfl
  simp only [Try.ntmps87, List.size_toArray, List.length_cons, List.length_nil, Nat.reduceAdd, Nat.reduceSub, Array.replicate_succ, Array.replicate_zero, List.push_toArray, List.append_toArray, List.nil_append, List.cons_append]
  gi_wp2
  gi_loopw [4] (fun p wr => ∃ (pre rest : List (Int × Int × Int)) (x : Int), p = .int .i64 x ∧ 0 ≤ x ∧ x ≤ w ∧ rs = pre ++ rest ∧ RF (fun x => pixB w h ds x y) w y x rest ∧ J pre wr ∧ Pic w h ds Bb n0 wr ∧ wr.cell? ⟨B1, 0, none⟩ = some (.pointer (some ⟨Bb, 0, none⟩)) ∧ wr.cell? ⟨B2, 0, none⟩ = some (.int .i64 y))
    (fun p wr => (w - intOf p).toNat)
  case atStart =>
    exact ⟨[], rs, 0, rfl, by omega, hw0, rfl, hrs, h0, hP, hc1, hc2⟩
  case round =>
    obtain ⟨pre, rest, x, rfl, hx0, hx1, hx, hrf, hJs, hPs, hk1, hk2⟩ := hrel
    have hc0 := hPs.c0
    cases hrf with
    | done _ hd =>
      have hlt : ¬ x < w := by omega
      gi_wp2
      go_end0
      exact ⟨⟨_, rfl⟩, .inl hJs⟩
    | skip _ _ hlt hp t =>
      have hp : pixB w h ds x y = false := hp
      gi_wp2_with (refine ⟨trivial, ?_⟩; gi_at_call 60; refine (is_in hPs hw0 hw1 hh hl hb x y _).mono ?_; rintro e W2 ⟨rfl, hB⟩; rw [hp])
      exact ⟨⟨pre, rest, x + 1, rfl, by omega, by omega, hx, t, hJ pre wr W2 none hJs (grown_of_below hB) (fun r e => by cases e), hPs.is hB, keepIs hk1 hB, keepIs hk2 hB⟩, by simp [intOf]; omega⟩
    | run _ x' rest hlt hle hp hq t =>
      have hpx : pixB w h ds x y = true := hp x (by omega) hlt
      have hxw : x < w := by omega
      gi_wp2_with (refine ⟨trivial, ?_⟩; gi_at_call 60; refine (is_in hPs hw0 hw1 hh hl hb x y _).mono ?_; rintro e W2 ⟨rfl, hB⟩; rw [hpx])
      have hJ2 := hJ pre wr W2 none hJs (grown_of_below hB) (fun r e => by cases e)
      have hP2 := hPs.is hB
      have k1 := keepIs hk1 hB
      have k2 := keepIs hk2 hB
      clear hJs hPs hk1 hk2 hc0 hB
      gi_loopw [4] (fun p wq => ∃ (x1 : Int), p = .int .i64 x1 ∧ x ≤ x1 ∧ x1 ≤ x' ∧ J pre wq ∧ Pic w h ds Bb n0 wq ∧ wq.cell? ⟨B1, 0, none⟩ = some (.pointer (some ⟨Bb, 0, none⟩)) ∧ wq.cell? ⟨B2, 0, none⟩ = some (.int .i64 y))
        (fun p wq => (w - intOf p).toNat)
      case atStart =>
        exact ⟨x, rfl, by omega, by omega, hJ2, hP2, k1, k2⟩
      case round =>
        clear hJ2 hP2 k1 k2
        obtain ⟨x1, rfl, hy0, hy1, hJ3, hP3, k1, k2⟩ := hrel
        have hc0 := hP3.c0
        by_cases hcase : x1 < x'
        · have hpx1 : pixB w h ds x1 y = true := hp x1 hy0 hcase
          have hx1w : x1 < w := by omega
          gi_wp2_with (refine ⟨trivial, ?_⟩; gi_at_call 60; refine (is_in hP3 hw0 hw1 hh hl hb x1 y _).mono ?_; rintro e W4 ⟨rfl, hB⟩; rw [hpx1])
          exact ⟨⟨x1 + 1, rfl, by omega, by omega, hJ pre _ W4 none hJ3 (grown_of_below hB) (fun r e => by cases e), hP3.is hB, keepIs k1 hB, keepIs k2 hB⟩, by simp [intOf]; omega⟩
        · have e1 : x1 = x' := by omega
          subst e1
          by_cases hx1w : x1 < w
          · have hpx1 : pixB w h ds x1 y = false := hq hx1w
            gi_wp2_with (refine ⟨trivial, ?_⟩; gi_at_call 60; refine (is_in hP3 hw0 hw1 hh hl hb x1 y _).mono ?_; rintro e W4 ⟨rfl, hB⟩; rw [hpx1]; have hJ4 := hJ pre _ W4 none hJ3 (grown_of_below hB) (fun r e => by cases e); have hP4 := hP3.is hB; have q1 := keepIs k1 hB; have q2 := keepIs k2 hB; obtain ⟨fn, tmps, assign, body, hy, hR⟩ := hY pre (y, x, x1) W4 hJ4 (by rw [hx]; simp); simp only [encR3] at hy; clear hY hJ3 hP3 k1 k2)
            refine hR.mono ?_
            rintro e W5 (⟨rfl, hJ5, hk5⟩ | ⟨rfl, hJx5⟩)
            · gi_wp2
              exact ⟨⟨pre ++ [(y, x, x1)], rest, x1, rfl, by omega, by omega, by simp [hx], t, hJ5, hP4.keep3 hk5, (World.cell?_of_block (a := ⟨B1, 0, none⟩) (hk5.2 B1 (.inr (.inl rfl)))).trans q1, (World.cell?_of_block (a := ⟨B2, 0, none⟩) (hk5.2 B2 (.inr (.inr rfl)))).trans q2⟩, by simp [intOf]; omega⟩
            · gi_wp2
              refine bodyPost_ret (results_none rfl _ _ _) rfl ?_
              exact ⟨⟨_, rfl⟩, .inr ⟨pre ++ [(y, x, x1)], ⟨rest, by simp [hx]⟩, hJx5⟩⟩
          · have hP4 := hP3
            have q1 := k1
            have q2 := k2
            obtain ⟨fn, tmps, assign, body, hy, hR⟩ := hY pre (y, x, x1) wr hJ3 (by rw [hx]; simp)
            simp only [encR3] at hy
            clear hY hJ3 hP3
            gi_wp2
            refine ⟨trivial, ?_⟩
            gi_wp2
            refine hR.mono ?_
            rintro e W5 (⟨rfl, hJ5, hk5⟩ | ⟨rfl, hJx5⟩)
            · gi_wp2
              exact ⟨⟨pre ++ [(y, x, x1)], rest, x1, rfl, by omega, by omega, by simp [hx], t, hJ5, hP4.keep3 hk5, (World.cell?_of_block (a := ⟨B1, 0, none⟩) (hk5.2 B1 (.inr (.inl rfl)))).trans q1, (World.cell?_of_block (a := ⟨B2, 0, none⟩) (hk5.2 B2 (.inr (.inr rfl)))).trans q2⟩, by simp [intOf]; omega⟩
            · gi_wp2
              refine bodyPost_ret (results_none rfl _ _ _) rfl ?_
              exact ⟨⟨_, rfl⟩, .inr ⟨pre ++ [(y, x, x1)], ⟨rest, by simp [hx]⟩, hJx5⟩⟩
theorem row1_stops (n : Nat) (hn : 1 ≤ n) (B1 B2 n0 Bb : Nat) (w h y : Int) (ds : List Int) (hw0 : 0 ≤ w) (hw1 : w ≤ 1024) (hh : h ≤ 1024) (hl : (ds.length : Int) = strd w * h) (hb : Bytes ds) (rs : List (Int × Int × Int)) (hrs : RF (fun x => pixB w h ds x y) w y 0 rs)
    (W : World) (hc1 : W.cell? ⟨B1, 0, none⟩ = some (.pointer (some ⟨Bb, 0, none⟩))) (hc2 : W.cell? ⟨B2, 0, none⟩ = some (.int .i64 y)) (hP : Pic w h ds Bb n0 W) :
    SeqStopsK Fence.wide n Try.prog 87 #[.pointer (some ⟨B1, 0, none⟩), .pointer (some ⟨B2, 0, none⟩)] (fun x => #[encR3 x]) (Kp3 n0 Bb B1 B2) (fun ys => ys = rs) (fun pre => pre <+: rs) rs.length W := fun l J Jx W' hW hJ _ hY h0 =>
  row1_in n hn l B1 B2 n0 Bb W'.heap.size w h y ds hw0 hw1 hh hl hb rs hrs J Jx hJ hY W' (keepIs hc1 hW) (keepIs hc2 hW) (hP.is hW) h0
end Go.Proofs.Ytnbmldnahacnlaa
/- bitmap.Runs at one bitmap. -/
namespace Go.Proofs.Ytnbmldnahacnlaa
open Go Go.RowKit Go.Shelf
attribute [local go_sem] Oper.semAt_some

def dots2 : List Int := [144, 8]
theorem dots_b : Bytes dots2 := by intro d hd; simp [dots2] at hd; omega
theorem dots_l : (dots2.length : Int) = strd 5 * 2 := by decide
/-- bytes in memory -/
def SlD (ds : List Int) (n0 : Nat) (W : World) (A : Option Addr) (c : Nat) : Prop := ds.length ≤ c ∧ c ≤ maxLen ∧ (∀ i, i < ds.length → A ≠ none) ∧ ∀ (i : Nat) (v : Int), ds[i]? = some v → ∃ b o, A = some ⟨b, o, none⟩ ∧ b < n0 ∧ W.cell? ⟨b, o + i, none⟩ = some (.int .u8 v)
theorem SlD.is {ds : List Int} {n0 : Nat} {W W' : World} {A : Option Addr} {c : Nat} (p : SlD ds n0 W A c) (hb : Below n0 W W') : SlD ds n0 W' A c := by
  obtain ⟨h2, h3, h4, h5⟩ := p
  refine ⟨h2, h3, h4, fun i v hv => ?_⟩
  obtain ⟨b, o, e1, e0, e2⟩ := h5 i v hv
  exact ⟨b, o, e1, e0, (hb.cell (p := ⟨b, o + i, none⟩) e0).trans e2⟩
theorem SlD.rel {ds : List Int} {n0 m : Nat} {W : World} {A : Option Addr} {c : Nat} (p : SlD ds n0 W A c) (w h : Int) : RelV W (Gh.none m) (.agg (Ty.cells false (.pair (.int .i64) (.pair (.int .i64) (.list (.int .u8)))) (w, (h, ds)))) (.agg #[.int .i64 w, .int .i64 h, .slice A ds.length c]) := by
  obtain ⟨h2, h3, h4, h5⟩ := p
  have hro : RelD W (Gh.none m).own (Gh.none m).bs (.ro false 1 (ds.map (Ty.cells false (.int .u8)))) (.slice A ds.length c) := by
    have hl : (ds.map (Ty.cells false (.int .u8))).length = ds.length := List.length_map ..
    have hr := RelD.ro (w := W) (own := (Gh.none m).own) (bs := (Gh.none m).bs) false 1 (ds.map (Ty.cells false (.int .u8))) A c (fun i _ => .int .u8 (ds.getD i 0)) (by rw [hl]; exact h2) h3 (fun i hi => h4 i (by rw [hl] at hi; exact hi)) (fun i row j a g1 g2 => ?_) (fun i row j a g1 g2 => ?_)
    · rw [hl] at hr; exact hr
    · rw [List.getElem?_map] at g1
      obtain ⟨v, hv, e⟩ := Option.map_eq_some_iff.1 g1
      subst e
      rw [Ty.cells] at g2
      cases j with
      | succ j => simp at g2
      | zero =>
        obtain ⟨b, o, e1, _, e2⟩ := h5 i v hv
        refine ⟨b, o, e1, fun h => h, (fun e => by cases e), ?_⟩
        rw [Nat.mul_one, Nat.add_zero, e2, List.getD_eq_getElem?_getD, hv]; rfl
    · rw [List.getElem?_map] at g1
      obtain ⟨v, hv, e⟩ := Option.map_eq_some_iff.1 g1
      subst e
      rw [Ty.cells] at g2
      cases j with
      | succ j => simp at g2
      | zero =>
        simp only [List.getElem?_cons_zero, Option.some.injEq] at g2
        subst g2
        rw [List.getD_eq_getElem?_getD, hv]
        exact .int .u8 v
  have ec : Ty.cells false (.pair (.int .i64) (.pair (.int .i64) (.list (.int .u8)))) (w, (h, ds)) = [.int .i64 w, .int .i64 h, .ro false 1 (ds.map (Ty.cells false (.int .u8)))] := by
    simp only [Ty.cells, Ty.size, List.cons_append, List.nil_append]
  rw [ec]
  refine .agg _ _ (by simp) fun t a v ga gv => ?_
  match t, ga, gv with
  | 0, ga, gv => simp at ga gv; subst ga; subst gv; exact rI _ _ _ _
  | 1, ga, gv => simp at ga gv; subst ga; subst gv; exact rI _ _ _ _
  | 2, ga, gv => simp at ga gv; subst ga; subst gv; exact .dat hro
  | t + 3, ga, gv => simp at ga
/-- bitmap.Check of it -/
theorem check_calls {W : World} {A : Option Addr} {c n0 : Nat} (hA : SlD dots2 n0 W A c) (n : Nat) :
    CallsIn Fence.wide n Try.prog 38 #[.agg #[.int .i64 5, .int .i64 2, .slice A 2 c]] W fun e W' => e = .returned (.int .i64 0) ∧ Below W.heap.size W W' := by
  have hr : bitmap_Check_r FU ((5, (2, dots2)), ()) = some (0, ()) := by
    have := check_r (fu := FU) (Nat.le_refl _) (w := 5) (h := 2) dots_b
    rw [this]
    decide
  have hc := bitmap_Check_ok FU ((5, (2, dots2)), ()) (0, ()) hr
  refine callsIn_wide.2 ((hc.out W #[.agg #[.int .i64 5, .int .i64 2, .slice A 2 c]] ⟨rfl, fun i a v ha hv => ?_⟩).mono ?_)
  · match i, ha, hv with
    | 0, ha, hv =>
      have ha : some (AV.agg (Ty.cells false (.pair (.int .i64) (.pair (.int .i64) (.list (.int .u8)))) (5, (2, dots2)))) = some a := ha
      have hv : some (Value.agg #[.int .i64 5, .int .i64 2, .slice A 2 c]) = some v := hv
      injection ha with ha
      injection hv with hv
      subst ha; subst hv
      exact hA.rel 5 2
    | i + 1, ha, hv => simp at hv
  · rintro e W1 ⟨v, rfl, hB, hv⟩
    have hv : RelV W1 _ (.int .i64 0) v := hv
    rw [hv.int']
    exact ⟨rfl, hB⟩
def rs0 : List (Int × Int × Int) := [(0, 0, 1), (0, 3, 4)]
def rs1 : List (Int × Int × Int) := [(1, 4, 5)]
theorem rs0_ok : RF (fun x => pixB 5 2 dots2 x 0) 5 0 0 rs0 := by
  refine .run 0 1 _ (by omega) (by omega) (fun i h1 h2 => ?_) (fun _ => by decide) ?_
  · have : i = 0 := by omega
    subst this; decide
  refine .skip 1 _ (by omega) (by decide) (.skip _ _ (by omega) (by decide) ?_)
  refine .run _ 4 _ (by omega) (by omega) (fun i h1 h2 => ?_) (fun _ => by decide) ?_
  · have : i = 3 := by omega
    subst this; decide
  exact .skip _ _ (by omega) (by decide) (.done _ (by omega))
theorem rs1_ok : RF (fun x => pixB 5 2 dots2 x 1) 5 1 0 rs1 := by
  refine .skip _ _ (by omega) (by decide) (.skip _ _ (by omega) (by decide) (.skip _ _ (by omega) (by decide) (.skip _ _ (by omega) (by decide) ?_)))
  refine .run _ 5 _ (by omega) (by omega) (fun i h1 h2 => ?_) (fun h => by omega) (.done _ (by omega))
  have : i = 4 := by omega
  subst this; decide
def flatR (l : List (Int × Int × Int)) : List Value := l.flatMap fun r => [.int .i64 r.1, .int .i64 r.2.1, .int .i64 r.2.2]
/-- what the caller's cells hold -/
def RB (Bb B1 B2 : Nat) (A : Option Addr) (c : Nat) (y : Int) (W : World) : Prop := W.heap[Bb]? = some (.cells #[.int .i64 5, .int .i64 2, .slice A 2 c] 24 (0, 0)) ∧ Boxed W B1 109 (.pointer (some ⟨Bb, 0, none⟩)) ∧ Boxed W B2 3 (.int .i64 y)
def RL (n0 Bl : Nat) (L : List (Int × Int × Int)) (W : World) : Prop := ∃ v, Boxed W Bl 74 v ∧ W.ownsRow n0 77 3 v L.length (flatR L) ∧ True
theorem cells_own {W W' : World} {row : Option Nat} {b : Nat} {cs : Array Value} {t : TypeId} {z : Nat × Nat} (h : W.heap[b]? = some (.cells cs t z)) (hg : W.grownBy W' row) (hr : ∀ r, row = some r → ∃ o : Obj, W.heap[r]? = some o ∧ o.isCells = false) : W'.heap[b]? = some (.cells cs t z) := by
  refine (hg.block b (Array.getElem?_eq_some_iff.1 h).1 fun e => ?_).trans h
  obtain ⟨o, ho, hc⟩ := hr b e.symm
  rw [h] at ho
  injection ho with ho
  subst ho
  cases hc
theorem RB.own {Bb B1 B2 : Nat} {A : Option Addr} {c : Nat} {y : Int} {W W' : World} {row : Option Nat} (p : RB Bb B1 B2 A c y W) (hg : W.grownBy W' row) (hr : ∀ r, row = some r → ∃ o : Obj, W.heap[r]? = some o ∧ o.isCells = false) : RB Bb B1 B2 A c y W' :=
  ⟨cells_own p.1 hg hr, cells_own p.2.1 hg hr, cells_own p.2.2 hg hr⟩
theorem RB.pic {Bb B1 B2 : Nat} {A : Option Addr} {c n0 : Nat} {y : Int} {W : World} (p : RB Bb B1 B2 A c y W) (h : SlD dots2 n0 W A c) : Pic 5 2 dots2 Bb n0 W := by
  have hc := p.1
  exact ⟨by simp [World.cell?, hc], by simp [World.cell?, hc], A, c, by simp [World.cell?, hc, dots2], h⟩
theorem kp3_b {w : World} {n0 Bb B1 B2 : Nat} (h : n0 ≤ w.heap.size) (hb : ∀ b, (b = Bb ∨ b = B1 ∨ b = B2) → b < w.heap.size) : ∀ (W : World) (l : Nat) (o o' : Obj), w.heap.size ≤ l → W.heap[l]? = some o → o.isCells = false → o.isWalk = false → Kp3 n0 Bb B1 B2 W (W.putObj l o') := fun W l o o' hl ho hc hw =>
  ⟨belowK_b h W l o o' hl ho hc hw, fun b h => (grownBy_putObj' W l o').block b (by have := hb b h; have := (Array.getElem?_eq_some_iff.1 ho).1; omega) (fun e => by injection e with e; have := hb b h; omega)⟩
theorem kp3_t {n0 Bb B1 B2 : Nat} {A B C : World} (h : Kp3 n0 Bb B1 B2 A B) (k : Kp3 n0 Bb B1 B2 B C) : Kp3 n0 Bb B1 B2 A C := ⟨h.1.trans k.1, fun b hb => (k.2 b hb).trans (h.2 b hb)⟩
theorem kp3_below {n0 Bb B1 B2 : Nat} {W W' : World} (h : Below W.heap.size W W') (h0 : n0 ≤ W.heap.size) (hb : ∀ b, (b = Bb ∨ b = B1 ∨ b = B2) → b < W.heap.size) : Kp3 n0 Bb B1 B2 W W' := ⟨h.mono h0, fun b e => h.block b (hb b e)⟩
theorem keepsFrom_below {W W' : World} {B : Nat} (h : Below W.heap.size W W') : KeepsFrom B W W' := ⟨h.size, fun k _ _ hk _ => (h.block k (Array.getElem?_eq_some_iff.1 hk).1).trans hk⟩
theorem dfr_own {β : Type} {D B : Nat} (hD : D < B) : OwnFrom B (fun (_ : β) W => W.heap[D]? = some (.deferred (some []))) := fun _ X Y row h hg hr =>
  (hg.block D (Array.getElem?_eq_some_iff.1 h).1 fun e => by have := (hr D e.symm).1; omega).trans h
def RX (Bx : Nat) (x : Int × Int × Int) (W : World) : Prop := W.heap[Bx]? = some (.cells #[.int .i64 x.1, .int .i64 x.2.1, .int .i64 x.2.2] 77 (0, 0))
theorem flatR_append (l m : List (Int × Int × Int)) : flatR (l ++ m) = flatR l ++ flatR m := by simp [flatR]
theorem RB.lt {Bb B1 B2 : Nat} {A : Option Addr} {c : Nat} {y : Int} {W : World} (p : RB Bb B1 B2 A c y W) : ∀ b, (b = Bb ∨ b = B1 ∨ b = B2) → b < W.heap.size := by
  rintro b (rfl | rfl | rfl)
  · exact (Array.getElem?_eq_some_iff.1 p.1).1
  · exact p.2.1.lt
  · exact p.2.2.lt
/-- the caller's cells over an append to its list -/
theorem RB.app {Bb B1 B2 Bl : Nat} {A : Option Addr} {c k : Nat} {y : Int} {W w1 : World} {v v' : Value} {xs : List Value} {tmp : Obj} (p : RB Bb B1 B2 A c y W) (hrow : W.ownsRow Bb 77 3 v k xs) (hg : (W.alloc tmp).grownBy w1 v.ownBlock) (h0 : Bb < Bl) (h1 : Bl < B1) (h2 : B1 < B2) (hb : Below Bb W (w1.setCell ⟨Bl, 0, none⟩ v')) :
    Kp3 Bb Bb B1 B2 W (w1.setCell ⟨Bl, 0, none⟩ v') ∧ RB Bb B1 B2 A c y (w1.setCell ⟨Bl, 0, none⟩ v') := by
  have ne : ∀ (b : Nat) (cs : Array Value) (t : TypeId), W.heap[b]? = some (.cells cs t (0, 0)) → t ≠ 77 → some b ≠ v.ownBlock := by
    intro b cs t hb ht e
    rcases hrow.2 with ⟨rfl, _⟩ | ⟨g, cap, cur, rfl, _, hgb, _⟩
    · cases e
    · injection e with e
      have e : b = g := e
      subst e
      rw [hgb] at hb
      injection hb with hb
      injection hb with _ hb _
      exact ht hb.symm
  have key : ∀ b, (b = Bb ∨ b = B1 ∨ b = B2) → (w1.setCell ⟨Bl, 0, none⟩ v').heap[b]? = W.heap[b]? := by
    intro b hb
    have hlt := p.lt b hb
    have e1 : (w1.setCell ⟨Bl, 0, none⟩ v').heap[b]? = w1.heap[b]? := Below.heap_setCell _ _ _ _ (show b ≠ Bl by rcases hb with rfl | rfl | rfl <;> omega)
    rw [e1, hg.block b (by rw [World.size_alloc]; omega) ?_]
    · exact Below.heap_alloc W tmp b hlt
    · rcases hb with rfl | rfl | rfl
      · exact ne _ _ _ p.1 (by decide)
      · exact ne _ _ _ p.2.1 (by decide)
      · exact ne _ _ _ p.2.2 (by decide)
  exact ⟨⟨hb, key⟩, (key Bb (.inl rfl)).trans p.1, (key B1 (.inr (.inl rfl))).trans p.2.1, (key B2 (.inr (.inr rfl))).trans p.2.2⟩
theorem infoRun : (Try.prog.info? 77).map (fun i => (i.zero, i.size, i.bytes)) = some (some (.agg #[.int .i64 0, .int .i64 0, .int .i64 0]), 3, 24) := by kernel_rfl
theorem news_3 (w : World) (e : TypeId) (a b c : Value) (H : Nat) (hH : w.heap.size = H) : ∀ j u, [a, b, c][j]? = some u → (w.alloc (.cells #[a, b, c] e)).cell? ((⟨H, 0, none⟩ : Addr).add j) = some u := by
  intro j u hu
  subst hH
  rw [Addr.add_lit, Nat.zero_add, World.cell?_alloc_new]
  simpa using hu
theorem one_3 {k k' k'' : IntKind} {a b c : Int} : ∀ u ∈ [Value.int k a, Value.int k' b, Value.int k'' c], u.oneCell' = true := by
  intro u hu
  simp only [List.mem_cons, List.not_mem_nil, or_false] at hu
  rcases hu with rfl | rfl | rfl <;> rfl
set_option maxRecDepth 100000 in
set_option maxHeartbeats 4000000 in
theorem runs_calls {W : World} {A : Option Addr} {c : Nat} (hA : SlD dots2 W.heap.size W A c) :
    CallsIn Fence.wide 9 Try.prog 66 #[.agg #[.int .i64 5, .int .i64 2, .slice A 2 c]] W fun e W' => ∃ v, e = .returned (.tuple #[v, .int .i64 0]) ∧ W'.ownsRow W.heap.size 77 3 v 3 (flatR (rs0 ++ rs1)) ∧ Below W.heap.size W W' := by
  obtain ⟨W1, hW1⟩ : ∃ W1, W.alloc (.cells #[.int .i64 5, .int .i64 2, .slice A 2 c] 24) = W1 := ⟨_, rfl⟩
  have hB1 : Below W.heap.size W W1 := by rw [← hW1]; exact (Below.refl _ W).alloc (Nat.le_refl _) _
  have hsz1 : W1.heap.size = W.heap.size + 1 := by rw [← hW1]; simp
  have hcell : W1.heap[W.heap.size]? = some (.cells #[.int .i64 5, .int .i64 2, .slice A 2 c] 24 (0, 0)) := by rw [← hW1]; exact World.alloc_heap_new W _
  have hA1 : SlD dots2 W.heap.size W1 A c := hA.is hB1
  have g0 : W1.cell? ⟨W.heap.size, 0, none⟩ = some (.int .i64 5) := by simp [World.cell?, hcell]
  have g1 : W1.cell? ⟨W.heap.size, 1, none⟩ = some (.int .i64 2) := by simp [World.cell?, hcell]
  have g2 : W1.cell? ⟨W.heap.size, 2, none⟩ = some (.slice A 2 c) := by simp [World.cell?, hcell]
  obtain ⟨i0, hi, hz0, hz1, hz2⟩ := info_parts infoRun
  refine callsIn_of_wp_marks Try.func66 rfl trivial ?_ rfl
  simp only [Try.ntmps66, List.size_toArray, List.length_cons, List.length_nil, Nat.reduceAdd, Nat.reduceSub, Array.replicate_succ, Array.replicate_zero, List.push_toArray, List.append_toArray, List.nil_append, List.cons_append]
  gi_wp2_with (refine ⟨trivial, ?_⟩; gi_at_call 38; refine (check_calls hA1 _).mono ?_; rintro e W2 ⟨rfl, hB⟩; have hc1 : (W2.alloc (.cells #[.slice none 0 0] 74)).cell? ⟨W.heap.size, 1, none⟩ = some (.int .i64 2) := (keepIs1 (keepIs1 g1 hB) ((Below.refl _ W2).alloc (Nat.le_refl _) _)))
  have hB2 : Below W.heap.size W W2 := hB1.trans (hB.mono (by omega))
  have hsz2 : W1.heap.size ≤ W2.heap.size := hB.size
  have bL := Boxed.new W2 74 (.slice none 0 0)
  have hcs := cells_own (cells_own hcell (grown_of_below hB) (fun r e => by cases e)) (grown_of_below ((Below.refl _ W2).alloc (Nat.le_refl _) (.cells #[.slice none 0 0] 74))) (fun r e => by cases e)
  have hBs : Below W.heap.size W (W2.alloc (.cells #[.slice none 0 0] 74)) := hB2.alloc (by omega) _
  have hsz3 : (W2.alloc (.cells #[.slice none 0 0] 74)).heap.size = W2.heap.size + 1 := by simp
  obtain ⟨W3, hW3⟩ : ∃ W3, W2.alloc (.cells #[.slice none 0 0] 74) = W3 := ⟨_, rfl⟩
  rw [hW3] at hc1 bL hcs hBs hsz3 ⊢
  obtain ⟨Bl, hBl⟩ : ∃ Bl, W2.heap.size = Bl := ⟨_, rfl⟩
  rw [hBl] at bL hsz3 hsz2 ⊢
  obtain ⟨Bb, hBb⟩ : ∃ Bb, W.heap.size = Bb := ⟨_, rfl⟩
  rw [hBb] at hsz1 hcs hc1 hBs hA ⊢
  have hlt : Bb < Bl := by omega
  have bLs : RL Bb Bl [] W3 := ⟨_, bL, World.ownsRow_nil _ _ _ _, trivial⟩
  clear hW3 hB2 hBl hB hA1 g0 g1 g2 hB1 hW1 hsz1 hsz2 bL hcell
  refine wpIn_loop_rounds 3 ?_
  rw [roundsIn_succ]
  gi_wp2_with (refine ⟨trivial, ?_⟩; gi_at_call 76; refine (row_in _ _ _ _).mono ?_; rintro e W4 ⟨rfl, rfl⟩)
  clear hc1
  have hB5 : Below W3.heap.size W3 ((W3.alloc (.cells #[.pointer (some ⟨Bb, 0, none⟩)] 109)).alloc (.cells #[.int .i64 0] 3)) := ((Below.refl _ _).alloc (Nat.le_refl _) _).alloc (by simp) _
  have b1 := (Boxed.new W3 109 (.pointer (some ⟨Bb, 0, none⟩))).alloc (.cells #[.int .i64 0] 3)
  have b2 := Boxed.new (W3.alloc (.cells #[.pointer (some ⟨Bb, 0, none⟩)] 109)) 3 (.int .i64 0)
  have z5 : ((W3.alloc (.cells #[.pointer (some ⟨Bb, 0, none⟩)] 109)).alloc (.cells #[.int .i64 0] 3)).heap.size = W3.heap.size + 2 := by simp
  rw [World.size_alloc] at b2
  have bL5 : RL Bb Bl ([] : List (Int × Int × Int)) ((W3.alloc (.cells #[.pointer (some ⟨Bb, 0, none⟩)] 109)).alloc (.cells #[.int .i64 0] 3)) := holdsRow_own Bb Bl 74 77 3 (fun (L : List (Int × Int × Int)) => L.length) flatR (fun _ _ => True) ([] : List (Int × Int × Int)) _ _ none bLs (grown_of_below hB5) (fun r e => by cases e)
  have hc5 := cells_own hcs (grown_of_below hB5) (fun r e => by cases e)
  have hbel5 : Below Bb W ((W3.alloc (.cells #[.pointer (some ⟨Bb, 0, none⟩)] 109)).alloc (.cells #[.int .i64 0] 3)) := hBs.trans (hB5.mono (by omega))
  obtain ⟨B1, hB1⟩ : ∃ B1, W3.heap.size = B1 := ⟨_, rfl⟩
  obtain ⟨B2, hB2⟩ : ∃ B2, B1 + 1 = B2 := ⟨_, rfl⟩
  obtain ⟨W5, hW5⟩ : ∃ W5, (W3.alloc (.cells #[.pointer (some ⟨Bb, 0, none⟩)] 109)).alloc (.cells #[.int .i64 0] 3) = W5 := ⟨_, rfl⟩
  rw [hW5] at b1 b2 z5 bL5 hc5 hbel5 hB5 ⊢
  rw [hB1] at b1 b2 z5
  rw [hB2] at b2
  have hlB : Bl < B1 := by omega
  rw [show Bl + 1 = B1 by omega, hB2]
  have hRB5 : RB Bb B1 B2 A c 0 W5 := ⟨hc5, b1, b2⟩
  have hblt : ∀ b, (b = Bb ∨ b = B1 ∨ b = B2) → b < W5.heap.size := by rintro b (rfl | rfl | rfl) <;> omega
  clear hW5 b1 b2 hc5 hcs bLs hBs hB5
  have hOwn : OwnFrom W5.heap.size (fun pre W' => RL Bb Bl (([] : List (Int × Int × Int)) ++ pre) W' ∧ RB Bb B1 B2 A c 0 W' ∧ Below Bb W W') := OwnFrom.and (Own.from (holdsRow_own Bb Bl 74 77 3 (fun pre => (([] : List (Int × Int × Int)) ++ pre).length) (fun pre => flatR (([] : List (Int × Int × Int)) ++ pre)) (fun _ _ => True)) _) (OwnFrom.and (Own.from (fun _ _ _ _ hs hg hr => RB.own hs hg hr) _) (ownFrom_below (by rw [hBb]; exact Nat.le_refl _) (by rw [z5]; omega)))
  refine wpIn_rangeFunc_ownH rfl (by omega) (gf := 87) (lb := #[.pointer (some ⟨B1, 0, none⟩), .pointer (some ⟨B2, 0, none⟩)]) rfl trivial (enters_of Try.func87 (by kernel_rfl) rfl)
    (row1_stops _ (by omega) B1 B2 Bb Bb 5 2 0 dots2 (by omega) (by omega) (by omega) dots_l dots_b rs0 rs0_ok W5 hRB5.2.1.cell hRB5.2.2.cell (hRB5.pic (hA.is hbel5))) kp3_t (kp3_b (by omega) hblt) (Below.refl _ _) (fun _ => rfl)
    (fun pre W' => RL Bb Bl (([] : List (Int × Int × Int)) ++ pre) W' ∧ RB Bb B1 B2 A c 0 W' ∧ Below Bb W W')
    (fun _ _ _ => False)
    hOwn
    (fun _ _ _ _ _ hs _ _ => hs)
    ⟨bL5, hRB5, hbel5⟩
    (fun x a' W' => ∃ Bx, Bl < Bx ∧ RX Bx x W' ∧ a' = { tmps := #[.agg #[.int .i64 5, .int .i64 2, .slice A 2 c], .pointer (some ⟨Bb, 0, none⟩), .slice none 0 0, .int .i64 0, .int .i64 0, .pointer (some ⟨Bl, 0, none⟩), .int .i64 0, .pointer (some ⟨Bx, 0, none⟩), .agg #[.int .i64 5, .int .i64 2, .slice A 2 c], .int .i64 0, .int .i64 0, .bool false, undef, .pointer (some ⟨Bb, 1, none⟩), .int .i64 2, .int .i64 0, .bool true, .int .i64 0, .int .i64 0, .func (.func 87) #[] #[.pointer (some ⟨B1, 0, none⟩), .pointer (some ⟨B2, 0, none⟩)], (.agg #[.int .i64 x.1, .int .i64 x.2.1, .int .i64 x.2.2]), undef, undef, undef, undef, undef, undef], defers := [] })
    (fun x a' _ X Y row hs hg hr => by obtain ⟨Bx, h1, h2, h3⟩ := hs; exact ⟨Bx, h1, cells_own h2 hg (fun r e => (hr r e).2), h3⟩)
    ?assign0 ?body0 ?done0 ?stop0
  case assign0 =>
    rintro l pre x W6 K hI hK
    simp only [encR3]
    gi_wp2
    have hbx := (Below.refl _ W6).alloc (Nat.le_refl _) (.cells #[.int .i64 x.1, .int .i64 x.2.1, .int .i64 x.2.2] 77)
    obtain ⟨⟨v, hv, hrow, _⟩, hRB, hBel⟩ := id hI
    exact hK _ _ (keepsFrom_below hbx) (kp3_below hbx (Nat.le_of_lt (hRB.lt Bb (.inl rfl))) hRB.lt) (hOwn pre W6 _ none hI (grown_of_below hbx) (fun r e => by cases e)) ⟨W6.heap.size, hv.lt, World.alloc_heap_new W6 _, rfl⟩
  case body0 =>
    rintro l pre x a' W6 hl ⟨r, hr⟩ ⟨⟨v, hv, hrow, _⟩, hRB, hBel⟩ ⟨Bx, hBx, bX, rfl⟩ hpl
    have hcv := hv.cell
    have k0 : W6.cell? ⟨Bx, 0, none⟩ = some (.int .i64 x.1) := by simp [World.cell?, show W6.heap[Bx]? = _ from bX]
    have k1 : W6.cell? ⟨Bx, 1, none⟩ = some (.int .i64 x.2.1) := by simp [World.cell?, show W6.heap[Bx]? = _ from bX]
    have k2 : W6.cell? ⟨Bx, 2, none⟩ = some (.int .i64 x.2.2) := by simp [World.cell?, show W6.heap[Bx]? = _ from bX]
    have hlen : (([] : List (Int × Int × Int)) ++ pre).length ≤ 3 := by have h0 : pre.length < rs0.length := hpl; have h1 : rs0.length = 2 := rfl; have h2 : (([] : List (Int × Int × Int))).length = 0 := rfl; rw [List.length_append]; omega
    obtain ⟨L, hLe⟩ : ∃ L, ([] : List (Int × Int × Int)) ++ pre = L := ⟨_, rfl⟩
    have hfin : ∀ W', RL Bb Bl (L ++ [x]) W' → RL Bb Bl (([] : List (Int × Int × Int)) ++ (pre ++ [x])) W' := by intro W' h; rw [← List.append_assoc, hLe]; exact h
    rw [hLe] at hrow hlen
    clear hLe
    have hs6 : Bb ≤ W6.heap.size := Nat.le_of_lt (hRB.lt Bb (.inl rfl))
    gi_wp2_with (gi_at_builtin; refine wpListIn_append_own _ rfl _ _ 74 rfl Bb 77 i0 (.agg #[.int .i64 0, .int .i64 0, .int .i64 0]) 3 24 Try.underlying74 hi hz0 hz1 hz2 rfl (by decide) _ _ _ rfl (hrow.alloc _) ⟨W6.heap.size, 0, none⟩ 1 1 [.int .i64 x.1, .int .i64 x.2.1, .int .i64 x.2.2] rfl rfl (news_3 _ _ _ _ _ _ rfl) one_3 (by simp only [maxLen]; omega) (by omega) (by simp; omega) ?_; intro v' w1 hown' hgrow _; obtain ⟨g', cap', rfl⟩ := ownsRow_succ hown'; obtain ⟨hv1, hv2, hr2, hk2, hb2⟩ := hv.appended (by decide) hrow hs6 (Nat.le_of_lt hlt) hown' hgrow; obtain ⟨hkp, hRB2⟩ := hRB.app hrow hgrow hlt hlB (by omega) hb2; have hcw := hv1.cell; have hfw := hv1.frozen)
    exact ⟨hk2.from _, hkp, hfin _ ⟨_, hv2, by rw [flatR_append, List.length_append]; exact hr2, trivial⟩, hRB2, hBel.trans hb2⟩
  case done0 =>
    rintro D0 ys Wq hD rfl ⟨⟨v, hv, hrow, _⟩, hRB, hBs⟩ hD0
    gi_wp2
    rw [roundsIn_succ]
    have bLs : RL Bb Bl rs0 Wq := ⟨v, hv, hrow, trivial⟩
    have hcs := hRB.1
    have hltq : Bl < Wq.heap.size := hv.lt
    have hdlt : D0 < Wq.heap.size := (Array.getElem?_eq_some_iff.1 hD0).1
    have hDb : Bb ≤ D0 := by omega
    clear hOwn hRB5 hbel5 bL5 z5 hblt hlB hsz3 hD hRB hv hrow hB1 hB2
    clear W5 W3 W1 W2
    gi_wp2_with (refine ⟨trivial, ?_⟩; gi_at_call 76; refine (row_in _ _ _ _).mono ?_; rintro e W4 ⟨rfl, rfl⟩)
    have hB5 : Below Wq.heap.size Wq ((Wq.alloc (.cells #[.pointer (some ⟨Bb, 0, none⟩)] 109)).alloc (.cells #[.int .i64 1] 3)) := ((Below.refl _ _).alloc (Nat.le_refl _) _).alloc (by simp) _
    have b1 := (Boxed.new Wq 109 (.pointer (some ⟨Bb, 0, none⟩))).alloc (.cells #[.int .i64 1] 3)
    have b2 := Boxed.new (Wq.alloc (.cells #[.pointer (some ⟨Bb, 0, none⟩)] 109)) 3 (.int .i64 1)
    have z5 : ((Wq.alloc (.cells #[.pointer (some ⟨Bb, 0, none⟩)] 109)).alloc (.cells #[.int .i64 1] 3)).heap.size = Wq.heap.size + 2 := by simp
    rw [World.size_alloc] at b2
    have bL5 : RL Bb Bl rs0 ((Wq.alloc (.cells #[.pointer (some ⟨Bb, 0, none⟩)] 109)).alloc (.cells #[.int .i64 1] 3)) := holdsRow_own Bb Bl 74 77 3 (fun (L : List (Int × Int × Int)) => L.length) flatR (fun _ _ => True) rs0 _ _ none bLs (grown_of_below hB5) (fun r e => by cases e)
    have hc5 := cells_own hcs (grown_of_below hB5) (fun r e => by cases e)
    have hbel5 : Below Bb W ((Wq.alloc (.cells #[.pointer (some ⟨Bb, 0, none⟩)] 109)).alloc (.cells #[.int .i64 1] 3)) := hBs.trans (hB5.mono (by omega))
    have hd5 := (hB5.block D0 (by omega)).trans hD0
    obtain ⟨B1, hB1⟩ : ∃ B1, Wq.heap.size = B1 := ⟨_, rfl⟩
    obtain ⟨B2, hB2⟩ : ∃ B2, B1 + 1 = B2 := ⟨_, rfl⟩
    obtain ⟨W5, hW5⟩ : ∃ W5, (Wq.alloc (.cells #[.pointer (some ⟨Bb, 0, none⟩)] 109)).alloc (.cells #[.int .i64 1] 3) = W5 := ⟨_, rfl⟩
    rw [hW5] at b1 b2 z5 bL5 hc5 hbel5 hB5 hd5 ⊢
    rw [hB1] at b1 b2 z5
    rw [hB2] at b2
    have hlB : Bl < B1 := by omega
    rw [hB1, hB2]
    have hRB5 : RB Bb B1 B2 A c 1 W5 := ⟨hc5, b1, b2⟩
    have hblt : ∀ b, (b = Bb ∨ b = B1 ∨ b = B2) → b < W5.heap.size := by rintro b (rfl | rfl | rfl) <;> omega
    clear hW5 b1 b2 hc5 hcs bLs hBs hB5
    have hOwn : OwnFrom W5.heap.size (fun pre W' => RL Bb Bl (rs0 ++ pre) W' ∧ RB Bb B1 B2 A c 1 W' ∧ Below Bb W W' ∧ W'.heap[D0]? = some (.deferred (some []))) := OwnFrom.and (Own.from (holdsRow_own Bb Bl 74 77 3 (fun pre => (rs0 ++ pre).length) (fun pre => flatR (rs0 ++ pre)) (fun _ _ => True)) _) (OwnFrom.and (Own.from (fun _ _ _ _ hs hg hr => RB.own hs hg hr) _) (OwnFrom.and (ownFrom_below (by rw [hBb]; exact Nat.le_refl _) (by rw [z5]; omega)) (dfr_own (by rw [z5]; omega))))
    refine wpIn_rangeFunc_ownH rfl (by omega) (gf := 87) (lb := #[.pointer (some ⟨B1, 0, none⟩), .pointer (some ⟨B2, 0, none⟩)]) rfl trivial (enters_of Try.func87 (by kernel_rfl) rfl)
      (row1_stops _ (by omega) B1 B2 Bb Bb 5 2 1 dots2 (by omega) (by omega) (by omega) dots_l dots_b rs1 rs1_ok W5 hRB5.2.1.cell hRB5.2.2.cell (hRB5.pic (hA.is hbel5))) kp3_t (kp3_b (by omega) hblt) (Below.refl _ _) (fun _ => rfl)
      (fun pre W' => RL Bb Bl (rs0 ++ pre) W' ∧ RB Bb B1 B2 A c 1 W' ∧ Below Bb W W' ∧ W'.heap[D0]? = some (.deferred (some [])))
      (fun _ _ _ => False)
      hOwn
      (fun _ _ _ _ _ hs _ _ => hs)
      ⟨bL5, hRB5, hbel5, hd5⟩
      (fun x a' W' => ∃ Bx, Bl < Bx ∧ RX Bx x W' ∧ a' = { tmps := #[.agg #[.int .i64 5, .int .i64 2, .slice A 2 c], .pointer (some ⟨Bb, 0, none⟩), .slice none 0 0, .int .i64 0, .int .i64 0, .pointer (some ⟨Bl, 0, none⟩), .int .i64 1, .pointer (some ⟨Bx, 0, none⟩), .agg #[.int .i64 5, .int .i64 2, .slice A 2 c], .int .i64 0, .int .i64 0, .bool false, undef, .pointer (some ⟨Bb, 1, none⟩), .int .i64 2, .int .i64 1, .bool true, .int .i64 1, .int .i64 1, .func (.func 87) #[] #[.pointer (some ⟨B1, 0, none⟩), .pointer (some ⟨B2, 0, none⟩)], (.agg #[.int .i64 x.1, .int .i64 x.2.1, .int .i64 x.2.2]), undef, undef, undef, undef, .int .i64 1, undef], defers := [] })
      (fun x a' _ X Y row hs hg hr => by obtain ⟨Bx, h1, h2, h3⟩ := hs; exact ⟨Bx, h1, cells_own h2 hg (fun r e => (hr r e).2), h3⟩)
      ?assign1 ?body1 ?done1 ?stop1
    case assign1 =>
      rintro l pre x W6 K hI hK
      simp only [encR3]
      gi_wp2
      have hbx := (Below.refl _ W6).alloc (Nat.le_refl _) (.cells #[.int .i64 x.1, .int .i64 x.2.1, .int .i64 x.2.2] 77)
      obtain ⟨⟨v, hv, hrow, _⟩, hRB, hBel⟩ := id hI
      exact hK _ _ (keepsFrom_below hbx) (kp3_below hbx (Nat.le_of_lt (hRB.lt Bb (.inl rfl))) hRB.lt) (hOwn pre W6 _ none hI (grown_of_below hbx) (fun r e => by cases e)) ⟨W6.heap.size, hv.lt, World.alloc_heap_new W6 _, rfl⟩
    case body1 =>
      rintro l pre x a' W6 hl ⟨r, hr⟩ ⟨⟨v, hv, hrow, _⟩, hRB, hBel, hD0⟩ ⟨Bx, hBx, bX, rfl⟩ hpl
      have hcv := hv.cell
      have k0 : W6.cell? ⟨Bx, 0, none⟩ = some (.int .i64 x.1) := by simp [World.cell?, show W6.heap[Bx]? = _ from bX]
      have k1 : W6.cell? ⟨Bx, 1, none⟩ = some (.int .i64 x.2.1) := by simp [World.cell?, show W6.heap[Bx]? = _ from bX]
      have k2 : W6.cell? ⟨Bx, 2, none⟩ = some (.int .i64 x.2.2) := by simp [World.cell?, show W6.heap[Bx]? = _ from bX]
      have hlen : (rs0 ++ pre).length ≤ 3 := by have h0 : pre.length < rs1.length := hpl; have h1 : rs1.length = 1 := rfl; have h2 : (rs0).length = 2 := rfl; rw [List.length_append]; omega
      obtain ⟨L, hLe⟩ : ∃ L, rs0 ++ pre = L := ⟨_, rfl⟩
      have hfin : ∀ W', RL Bb Bl (L ++ [x]) W' → RL Bb Bl (rs0 ++ (pre ++ [x])) W' := by intro W' h; rw [← List.append_assoc, hLe]; exact h
      rw [hLe] at hrow hlen
      clear hLe
      have hs6 : Bb ≤ W6.heap.size := Nat.le_of_lt (hRB.lt Bb (.inl rfl))
      gi_wp2_with (gi_at_builtin; refine wpListIn_append_own _ rfl _ _ 74 rfl Bb 77 i0 (.agg #[.int .i64 0, .int .i64 0, .int .i64 0]) 3 24 Try.underlying74 hi hz0 hz1 hz2 rfl (by decide) _ _ _ rfl (hrow.alloc _) ⟨W6.heap.size, 0, none⟩ 1 1 [.int .i64 x.1, .int .i64 x.2.1, .int .i64 x.2.2] rfl rfl (news_3 _ _ _ _ _ _ rfl) one_3 (by simp only [maxLen]; omega) (by omega) (by simp; omega) ?_; intro v' w1 hown' hgrow _; obtain ⟨g', cap', rfl⟩ := ownsRow_succ hown'; obtain ⟨hv1, hv2, hr2, hk2, hb2⟩ := hv.appended (by decide) hrow hs6 (Nat.le_of_lt hlt) hown' hgrow; obtain ⟨hkp, hRB2⟩ := hRB.app hrow hgrow hlt hlB (by omega) hb2; have hcw := hv1.cell; have hfw := hv1.frozen)
      exact ⟨hk2.from _, hkp, hfin _ ⟨_, hv2, by rw [flatR_append, List.length_append]; exact hr2, trivial⟩, hRB2, hBel.trans hb2, hk2.same D0 _ hD0 rfl⟩
    case done1 =>
      rintro D1 ys W6 hD rfl ⟨⟨v, hv, hrow, _⟩, hRB, hBel, hD0⟩ hK
      have hcv := hv.cell
      gi_wp2
      rw [roundsIn_succ]
      gi_wp2
      have hne : D1 ≠ D0 := by omega
      have hK' : (W6.putObj D1 (.deferred none)).heap[D0]? = some (.deferred (some [])) := ((grownBy_putObj' W6 D1 _).block D0 (Array.getElem?_eq_some_iff.1 hD0).1 (fun e => by injection e with e; exact hne e.symm)).trans hD0
      refine ⟨by simp, .inl ⟨_, _, rfl, run_takeDeferred hK, ?_⟩⟩
      refine ⟨by simp, .inl ⟨_, _, rfl, run_takeDeferred hK', ?_⟩⟩
      have e1 : Below Bb W6 (W6.putObj D1 (.deferred none)) := by rw [← hBb]; exact belowK_b (w := W) (Nat.le_refl _) W6 D1 _ _ (by omega) hK rfl rfl
      have e2 : Below Bb (W6.putObj D1 (.deferred none)) ((W6.putObj D1 (.deferred none)).putObj D0 (.deferred none)) := by rw [← hBb]; exact belowK_b (w := W) (Nat.le_refl _) _ D0 _ _ (by omega) hK' rfl rfl
      rw [hBb]
      exact ⟨_, results_tmp2 rfl _ _ _, v, rfl, ownsRow_putObj (ownsRow_putObj hrow _ hK rfl) _ hK' rfl, (hBel.trans e1).trans e2⟩
    case stop1 =>
      rintro D cc pre W6 _ _ h _
      exact h.elim
  case stop0 =>
    rintro D cc pre W6 _ _ h _
    exact h.elim
/-- bitmap.Runs at the bitmap of the facts -/
def bitmap_Runs_r (_ : Nat) (a : ((Int) × ((Int) × (List (Int)))) × (Unit)) : Option ((List ((Int) × ((Int) × (Int)))) × ((Int) × (Unit))) :=
  if a = ((5, (2, dots2)), ()) then some (rs0 ++ rs1, (0, ())) else none
def bitmap_Runs_ctr : Ctr := ⟨(.pair (.agg (.pair (.int .i64) (.pair (.int .i64) (.list (.int .u8))))) .unit), (.pair (.list (.pair (.int .i64) (.pair (.int .i64) (.int .i64)))) (.pair (.int .i64) .unit)), bitmap_Runs_r, 66⟩
theorem cells_bits (w h : Int) (ds : List Int) : Ty.cells false (.pair (.int .i64) (.pair (.int .i64) (.list (.int .u8)))) (w, (h, ds)) = [.int .i64 w, .int .i64 h, .ro false 1 (ds.map (Ty.cells false (.int .u8)))] := by
  simp only [Ty.cells, Ty.size, List.cons_append, List.nil_append]
theorem relD_int {w : World} {own : Nat → Prop} {bs : Nat} {k : IntKind} {n : Int} {x : Value} (h : RelD w own bs (.int k n) x) : x = .int k n := by cases h; rfl
theorem sl_of {W : World} {G : Gh} {v : Value} {ds : List Int} (r : RelV W G (.ro false 1 (ds.map (Ty.cells false (.int .u8)))) v) : ∃ A c, v = .slice A ds.length c ∧ SlD ds W.heap.size W A c := by
  cases r with
  | dat r =>
    cases r with
    | ro _ _ rows A c f hc hm h0 h1 h2 =>
      have hl : (ds.map (Ty.cells false (.int .u8))).length = ds.length := List.length_map ..
      rw [hl] at hc h0 ⊢
      refine ⟨A, c, rfl, hc, hm, h0, fun i v hv => ?_⟩
      have g1 : (ds.map (Ty.cells false (.int .u8)))[i]? = some [.int .u8 v] := by rw [List.getElem?_map, hv]; rfl
      obtain ⟨b, o, e1, _, _, e2⟩ := h1 i _ 0 _ g1 rfl
      have e3 := h2 i _ 0 _ g1 rfl
      have e4 : f i 0 = .int .u8 v := relD_int e3
      rw [e4, Nat.mul_one, Nat.add_zero] at e2
      exact ⟨b, o, e1, (Go.Proofs.Ytnbmldnahacnlaa.cell_lt e2), e2⟩
theorem rows_ro {W W' : World} {v : Value} (h : W'.ownsRow W.heap.size 77 3 v 3 (flatR (rs0 ++ rs1))) : RelV W' (Gh.frz W.heap.size) (.ro true 3 ((rs0 ++ rs1).map (Ty.cells true (.pair (.int .i64) (.pair (.int .i64) (.int .i64)))))) v := by
  have hl : ((rs0 ++ rs1).map (Ty.cells true (.pair (.int .i64) (.pair (.int .i64) (.int .i64))))).length = 3 := rfl
  rcases h.2 with ⟨_, h3⟩ | ⟨g, cap, cur, rfl, hb, hg, hc, hm, hs, ht⟩
  · omega
  · have key : ∀ i, i < 9 → W'.cell? ⟨g, i, none⟩ = some ((flatR (rs0 ++ rs1)).getD i undef) := by
      intro i hi
      have := h.cellAt i (by omega)
      rw [this, List.getD_eq_getElem?_getD]
      have hlt : i < (flatR (rs0 ++ rs1)).length := hi
      rw [List.getElem?_eq_getElem hlt]; rfl
    have hr := RelD.ro (w := W') (own := (Gh.frz W.heap.size).own) (bs := (Gh.frz W.heap.size).bs) true 3 ((rs0 ++ rs1).map (Ty.cells true (.pair (.int .i64) (.pair (.int .i64) (.int .i64))))) (some ⟨g, 0, none⟩) cap (fun i j => (flatR (rs0 ++ rs1)).getD (i * 3 + j) undef) hc hm (fun _ _ => by simp) (fun i row j a g1 g2 => ?_) (fun i row j a g1 g2 => ?_)
    · exact .dat hr
    · have hi : i < 3 := (List.getElem?_eq_some_iff.1 g1).1
      have hj : j < 3 := by
        rw [List.getElem?_map] at g1
        obtain ⟨x, _, e⟩ := Option.map_eq_some_iff.1 g1
        have := (List.getElem?_eq_some_iff.1 g2).1
        rw [← e, Ty.cells_length] at this
        exact this
      refine ⟨g, 0, rfl, fun h => by have h : g < W.heap.size := h; omega, fun _ => hb, ?_⟩
      rw [Nat.zero_add]
      exact key _ (by omega)
    · have hi : i < 3 := (List.getElem?_eq_some_iff.1 g1).1
      have hj : j < 3 := by
        rw [List.getElem?_map] at g1
        obtain ⟨x, _, e⟩ := Option.map_eq_some_iff.1 g1
        have := (List.getElem?_eq_some_iff.1 g2).1
        rw [← e, Ty.cells_length] at this
        exact this
      have hx : ∀ (i j : Nat) (row : List AV) (a : AV), i < 3 → j < 3 → ((rs0 ++ rs1).map (Ty.cells true (.pair (.int .i64) (.pair (.int .i64) (.int .i64)))))[i]? = some row → row[j]? = some a → ∃ n, a = .int .i64 n ∧ (flatR (rs0 ++ rs1)).getD (i * 3 + j) undef = .int .i64 n := by
        intro i j row a hi hj g1 g2
        match i, j, hi, hj, g1, g2 with
        | 0, 0, _, _, g1, g2 => simp [rs0, rs1, Ty.cells] at g1; subst g1; simp at g2; subst g2; exact ⟨_, rfl, rfl⟩
        | 0, 1, _, _, g1, g2 => simp [rs0, rs1, Ty.cells] at g1; subst g1; simp at g2; subst g2; exact ⟨_, rfl, rfl⟩
        | 0, 2, _, _, g1, g2 => simp [rs0, rs1, Ty.cells] at g1; subst g1; simp at g2; subst g2; exact ⟨_, rfl, rfl⟩
        | 1, 0, _, _, g1, g2 => simp [rs0, rs1, Ty.cells] at g1; subst g1; simp at g2; subst g2; exact ⟨_, rfl, rfl⟩
        | 1, 1, _, _, g1, g2 => simp [rs0, rs1, Ty.cells] at g1; subst g1; simp at g2; subst g2; exact ⟨_, rfl, rfl⟩
        | 1, 2, _, _, g1, g2 => simp [rs0, rs1, Ty.cells] at g1; subst g1; simp at g2; subst g2; exact ⟨_, rfl, rfl⟩
        | 2, 0, _, _, g1, g2 => simp [rs0, rs1, Ty.cells] at g1; subst g1; simp at g2; subst g2; exact ⟨_, rfl, rfl⟩
        | 2, 1, _, _, g1, g2 => simp [rs0, rs1, Ty.cells] at g1; subst g1; simp at g2; subst g2; exact ⟨_, rfl, rfl⟩
        | 2, 2, _, _, g1, g2 => simp [rs0, rs1, Ty.cells] at g1; subst g1; simp at g2; subst g2; exact ⟨_, rfl, rfl⟩
      obtain ⟨n, e1, e2⟩ := hx i j row a hi hj g1 g2
      subst e1
      show RelD _ _ _ _ ((flatR (rs0 ++ rs1)).getD (i * 3 + j) undef)
      rw [e2]
      exact .int .i64 n
theorem bitmap_Runs_ok : CtrOk Try.prog 66 bitmap_Runs_ctr := fun fu x y hy => by
  have hy : bitmap_Runs_r fu x = some y := hy
  unfold bitmap_Runs_r at hy
  split at hy
  · rename_i hx
    subst hx
    injection hy with hy
    subst hy
    refine ⟨fun W vs ha => ?_⟩
    obtain ⟨u, rfl⟩ : ∃ u, vs = #[u] := by
      have := ha.size
      obtain ⟨l⟩ := vs
      match l, this with
      | [u], _ => exact ⟨u, rfl⟩
    have h0 : RelV W (Gh.none W.heap.size) (.agg (Ty.cells false (.pair (.int .i64) (.pair (.int .i64) (.list (.int .u8)))) (5, (2, dots2)))) u := ha.rel 0 _ u rfl rfl
    rw [cells_bits] at h0
    obtain ⟨us, rfl, hsz, hr⟩ := h0.agg'
    obtain ⟨x0, x1, x2, rfl⟩ : ∃ x0 x1 x2, us = #[x0, x1, x2] := by
      obtain ⟨l⟩ := us
      match l, hsz with
      | [a, b, c], _ => exact ⟨a, b, c, rfl⟩
    have e0 := (hr 0 _ x0 rfl rfl).int'
    have e1 := (hr 1 _ x1 rfl rfl).int'
    obtain ⟨A, c, e2, hA⟩ := sl_of (hr 2 _ x2 rfl rfl)
    subst e0; subst e1; subst e2
    refine (callsIn_wide.1 (runs_calls hA)).mono ?_
    rintro e W' ⟨v, rfl, hown, hB⟩
    refine ⟨_, rfl, hB, ?_⟩
    refine .tup _ _ rfl fun i a v' ga gv => ?_
    match i, ga, gv with
    | 0, ga, gv =>
      have ga : some (AV.ro true 3 ((rs0 ++ rs1).map (Ty.cells true (.pair (.int .i64) (.pair (.int .i64) (.int .i64)))))) = some a := ga
      have gv : some v = some v' := gv
      injection ga with ga
      injection gv with gv
      subst ga; subst gv
      exact rows_ro hown
    | 1, ga, gv =>
      have ga : some (AV.int .i64 0) = some a := ga
      have gv : some (Value.int .i64 0) = some v' := gv
      injection ga with ga
      injection gv with gv
      subst ga; subst gv
      exact rI _ _ _ _
    | i + 2, ga, gv => simp at gv
  · cases hy
end Go.Proofs.Ytnbmldnahacnlaa
/- Residual programs of functions (printed by a program out of the code), checked by the kernel, and the contracts that follow. -/
namespace Go.Proofs.Ytnbmldnahacnlaa
open Go Go.RowKit
set_option linter.unusedVariables false
def law_bitmapWorks_r (fu : Nat) (a : Unit) : Option ((Bool) × (Unit)) :=
  bindO (bitmap_Set_r fu ((((10 : Int), ((1 : Int), ((0 : Int) :: ((0 : Int) :: ([] : List (Int)))))), ((9 : Int), ((0 : Int), (true, ())))))) fun v0 =>
  let v1 : Int := v0.2.1
  bindO (law_dots_r fu (())) fun v2 =>
  bindO (bitmap_Count_r fu (((v2.1.1, (v2.1.2.1, v2.1.2.2)), ()))) fun v3 =>
  let v4 : Int := v3.1
  let v5 : Int := v3.2.1
  bindO (law_dots_r fu (())) fun v6 =>
  bindO (bitmap_Turn_r fu (((v6.1.1, (v6.1.2.1, v6.1.2.2)), ((1 : Int), ())))) fun v7 =>
  let v8 : Int := v7.2.1
  bindO (law_dots_r fu (())) fun v9 =>
  bindO (bitmap_Runs_r fu (((v9.1.1, (v9.1.2.1, v9.1.2.2)), ()))) fun v10 =>
  let v11 : List ((Int) × ((Int) × (Int))) := v10.1
  let v12 : Int := v10.2.1
  bindO (law_dots_r fu (())) fun v13 =>
  bindO (bitmap_Spread_r fu (((v13.1.1, (v13.1.2.1, v13.1.2.2)), ((1 : Int), ())))) fun v14 =>
  let v15 : Int := v14.2.1
  bif (decide (v1 = (0 : Int))) then
    bindO (R_SameBytes_r fu ((v0.1.2.2, (((0 : Int) :: ((64 : Int) :: ([] : List (Int)))), ())))) fun v16 =>
    bif v16.1 then
      bif (decide (v5 = (0 : Int))) then
        bif (decide (v4 = (3 : Int))) then
          bif (decide (v8 = (0 : Int))) then
            bindO (R_SameBits_r fu (((v7.1.1, (v7.1.2.1, v7.1.2.2)), (((2 : Int), ((5 : Int), ((64 : Int) :: ((0 : Int) :: ((0 : Int) :: ((64 : Int) :: ((128 : Int) :: ([] : List (Int))))))))), ())))) fun v17 =>
            bif v17.1 then
              bif (decide (v12 = (0 : Int))) then
                bif (decide ((List.length v11 : Int) = (3 : Int))) then
                  bif (decide ((2 : Int) < (List.length v11 : Int))) then
                  let v18 : (Int) × ((Int) × (Int)) := (List.getD v11 (Int.toNat (2 : Int)) (0, (0, 0)))
                  bif ((decide (v18.1 = (1 : Int))) && ((decide (v18.2.1 = (4 : Int))) && (decide (v18.2.2 = (5 : Int))))) then
                    bif (decide (v15 = (0 : Int))) then
                      bindO (R_SameBytes_r fu ((v14.1.2.2, (((248 : Int) :: ((152 : Int) :: ([] : List (Int)))), ())))) fun v19 =>
                      let v20 : Bool := v19.1
                      some ((v20, ()))
                    else
                    some ((false, ()))
                  else
                  some ((false, ()))
                  else none
                else
                some ((false, ()))
              else
              some ((false, ()))
            else
            some ((false, ()))
          else
          some ((false, ()))
        else
        some ((false, ()))
      else
      some ((false, ()))
    else
    some ((false, ()))
  else
  some ((false, ()))
def law_bitmapWorks_an : An := (.n none .z (.n none .z (.n none .z (.n none .z (.n none .z (.n none .z (.n none .z .z)))))))
noncomputable def law_bitmapWorks_dc : List (Nat × Ctr) := [(19, R_SameBits_ctr), (34, bitmap_Spread_ctr), (35, bitmap_Turn_ctr), (40, bitmap_Set_ctr), (41, bitmap_Count_ctr), (59, R_SameBytes_ctr), (65, law_dots_ctr), (66, bitmap_Runs_ctr)]
def law_bitmapWorks_ctr : Ctr := ⟨.unit, (.pair .bool .unit), law_bitmapWorks_r, 33⟩
theorem law_bitmapWorks_ok : CtrOk Try.prog 33 law_bitmapWorks_ctr := ctr_ok (l := law_bitmapWorks_dc) (f := 12) (an := law_bitmapWorks_an) ⟨R_SameBits_ok, ⟨bitmap_Spread_ok, ⟨bitmap_Turn_ok, ⟨bitmap_Set_ok, ⟨bitmap_Count_ok, ⟨R_SameBytes_ok, ⟨law_dots_ok, ⟨bitmap_Runs_ok, trivial⟩⟩⟩⟩⟩⟩⟩⟩ fun fu x => by kernel_rfl
def law_BitmapFromRuns_j4 (fu : Nat) (v4 : (Int) × (Int)) (j4 : ((Int) × (Int)) → Option ((Bool) × (Unit))) (v6 : Int) : Option ((Bool) × (Unit)) :=
  let v7 : Int := (IntKind.i64.wrap (v4.2 + (1 : Int)))
  j4 ((v6, v7))
def law_BitmapFromRuns_j6 (fu : Nat) (v4 : (Int) × (Int)) (j6 : (Int) → Option ((Bool) × (Unit))) (v9 : Bool) : Option ((Bool) × (Unit)) :=
  bif v9 then
    j6 ((18 : Int))
  else
  j6 (v4.1)
def law_BitmapFromRuns_j5 (fu : Nat) (a : (Int) × ((Int) × ((List ((Int) × ((Int) × (Int)))) × (Unit)))) (v4 : (Int) × (Int)) (v7 : (Int) × ((Int) × (Int))) (j6 : (Int) → Option ((Bool) × (Unit))) (v8 : Bool) : Option ((Bool) × (Unit)) :=
  bif v8 then
    j6 ((3 : Int))
  else
  joinF (law_BitmapFromRuns_j6 fu v4 j6) fun j9 =>
  bif (decide ((0 : Int) < v4.2)) then
    bif ((decide ((0 : Int) ≤ (IntKind.i64.wrap (v4.2 - (1 : Int))))) && (decide ((IntKind.i64.wrap (v4.2 - (1 : Int))) < (List.length a.2.2.1 : Int)))) then
    let v10 : (Int) × ((Int) × (Int)) := (List.getD a.2.2.1 (Int.toNat (IntKind.i64.wrap (v4.2 - (1 : Int)))) (0, (0, 0)))
    bif (decide (v7.1 < v10.1)) then
      j9 (true)
    else
    bif ((decide ((0 : Int) ≤ (IntKind.i64.wrap (v4.2 - (1 : Int))))) && (decide ((IntKind.i64.wrap (v4.2 - (1 : Int))) < (List.length a.2.2.1 : Int)))) then
    let v11 : (Int) × ((Int) × (Int)) := (List.getD a.2.2.1 (Int.toNat (IntKind.i64.wrap (v4.2 - (1 : Int)))) (0, (0, 0)))
    bif (decide (v7.1 = v11.1)) then
      bif ((decide ((0 : Int) ≤ (IntKind.i64.wrap (v4.2 - (1 : Int))))) && (decide ((IntKind.i64.wrap (v4.2 - (1 : Int))) < (List.length a.2.2.1 : Int)))) then
      let v12 : (Int) × ((Int) × (Int)) := (List.getD a.2.2.1 (Int.toNat (IntKind.i64.wrap (v4.2 - (1 : Int)))) (0, (0, 0)))
      let v13 : Bool := (decide (v7.2.1 ≤ v12.2.2))
      j9 (v13)
      else none
    else
    j9 (false)
    else none
    else none
  else
  j9 (false)
def law_BitmapFromRuns_l8 (fu : Nat) (a : (Int) × ((Int) × ((List ((Int) × ((Int) × (Int)))) × (Unit)))) (v6 : (Int) × (List (Bool))) (v7 : (Int) × ((Int) × (Int))) (j6 : ((Int) × (List (Bool))) → Option ((Bool) × (Unit))) (j9 : ((Int) × (List (Bool))) → Option ((Bool) × (Unit))) (v9 : (Int) × (List (Bool))) : Option ((Bool) × (Unit)) :=
  bif (decide (v9.1 < v7.2.2)) then
    bif ((decide ((0 : Int) ≤ (IntKind.i64.wrap ((IntKind.i64.wrap (v7.1 * a.1)) + v9.1)))) && (decide ((IntKind.i64.wrap ((IntKind.i64.wrap (v7.1 * a.1)) + v9.1)) < (List.length v9.2 : Int)))) then
    let v10 : Int := (IntKind.i64.wrap (v9.1 + (1 : Int)))
    j9 ((v10, (List.set v9.2 (Int.toNat (IntKind.i64.wrap ((IntKind.i64.wrap (v7.1 * a.1)) + v9.1))) true)))
    else none
  else
  j6 (((IntKind.i64.wrap (v6.1 + (1 : Int))), v9.2))
def law_BitmapFromRuns_l7 (fu : Nat) (a : (Int) × ((Int) × ((List ((Int) × ((Int) × (Int)))) × (Unit)))) (v1 : ((Int) × ((Int) × (List (Int)))) × ((Int) × (Unit))) (v2 : Int) (j6 : ((Int) × (List (Bool))) → Option ((Bool) × (Unit))) (v6 : (Int) × (List (Bool))) : Option ((Bool) × (Unit)) :=
  bif (decide (v6.1 < (List.length a.2.2.1 : Int))) then
    bif ((decide ((0 : Int) ≤ v6.1)) && (decide (v6.1 < (List.length a.2.2.1 : Int)))) then
    let v7 : (Int) × ((Int) × (Int)) := (List.getD a.2.2.1 (Int.toNat v6.1) (0, (0, 0)))
    let v8 : Int := v7.2.1
    loopF (law_BitmapFromRuns_l8 fu a v6 v7 j6) fu ((v8, v6.2))
    else none
  else
  bif (decide (v2 = (0 : Int))) then
    bindO (R_Drawn_r fu ((a.1, (a.2.1, (v6.2, ()))))) fun v7 =>
    bindO (R_SameBits_r fu (((v1.1.1, (v1.1.2.1, v1.1.2.2)), ((v7.1.1, (v7.1.2.1, v7.1.2.2)), ())))) fun v8 =>
    let v9 : Bool := v8.1
    some ((v9, ()))
  else
  some ((false, ()))
def law_BitmapFromRuns_j3 (fu : Nat) (a : (Int) × ((Int) × ((List ((Int) × ((Int) × (Int)))) × (Unit)))) (v1 : ((Int) × ((Int) × (List (Int)))) × ((Int) × (Unit))) (v2 : Int) (v4 : (Int) × (Int)) (j4 : ((Int) × (Int)) → Option ((Bool) × (Unit))) (v5 : Bool) : Option ((Bool) × (Unit)) :=
  bif v5 then
    joinF (law_BitmapFromRuns_j4 fu v4 j4) fun j6 =>
    bif ((decide ((0 : Int) ≤ v4.2)) && (decide (v4.2 < (List.length a.2.2.1 : Int)))) then
    let v7 : (Int) × ((Int) × (Int)) := (List.getD a.2.2.1 (Int.toNat v4.2) (0, (0, 0)))
    joinF (law_BitmapFromRuns_j5 fu a v4 v7 j6) fun j8 =>
    bindO (R_Within_r fu ((v7.1, ((0 : Int), ((IntKind.i64.wrap (a.2.1 - (1 : Int))), ()))))) fun v9 =>
    let v10 : Bool := (!v9.1)
    bif v10 then
      j8 (v10)
    else
    bindO (R_Within_r fu ((v7.2.1, ((0 : Int), ((IntKind.i64.wrap (a.1 - (1 : Int))), ()))))) fun v11 =>
    let v12 : Bool := (!v11.1)
    bif v12 then
      j8 (v12)
    else
    bindO (R_Within_r fu ((v7.2.2, ((1 : Int), (a.1, ()))))) fun v13 =>
    let v14 : Bool := (!v13.1)
    bif v14 then
      j8 (v14)
    else
    let v15 : Bool := (decide (v7.2.2 ≤ v7.2.1))
    j8 (v15)
    else none
  else
  bif (decide (v4.1 ≠ (0 : Int))) then
    bindO (law_refused_r fu (((v1.1.1, (v1.1.2.1, v1.1.2.2)), (v2, (v4.1, ()))))) fun v6 =>
    let v7 : Bool := v6.1
    some ((v7, ()))
  else
  bif ((decide ((0 : Int) ≤ (IntKind.i64.wrap (a.1 * a.2.1)))) && (decide (((1 : Int) * (IntKind.i64.wrap (a.1 * a.2.1))) ≤ (281474976710656 : Int)))) then
  loopF (law_BitmapFromRuns_l7 fu a v1 v2) fu (((0 : Int), (List.replicate (Int.toNat (IntKind.i64.wrap (a.1 * a.2.1))) false)))
  else none
def law_BitmapFromRuns_l2 (fu : Nat) (a : (Int) × ((Int) × ((List ((Int) × ((Int) × (Int)))) × (Unit)))) (v1 : ((Int) × ((Int) × (List (Int)))) × ((Int) × (Unit))) (v2 : Int) (j4 : ((Int) × (Int)) → Option ((Bool) × (Unit))) (v4 : (Int) × (Int)) : Option ((Bool) × (Unit)) :=
  joinF (law_BitmapFromRuns_j3 fu a v1 v2 v4 j4) fun j5 =>
  bif (decide (v4.2 < (List.length a.2.2.1 : Int))) then
    j5 ((decide (v4.1 = (0 : Int))))
  else
  j5 (false)
def law_BitmapFromRuns_j1 (fu : Nat) (a : (Int) × ((Int) × ((List ((Int) × ((Int) × (Int)))) × (Unit)))) (v1 : ((Int) × ((Int) × (List (Int)))) × ((Int) × (Unit))) (v2 : Int) (v3 : Int) : Option ((Bool) × (Unit)) :=
  loopF (law_BitmapFromRuns_l2 fu a v1 v2) fu ((v3, (0 : Int)))
def law_BitmapFromRuns_j9 (fu : Nat) (j3 : (Int) → Option ((Bool) × (Unit))) (v4 : Bool) : Option ((Bool) × (Unit)) :=
  bif v4 then
    j3 ((3 : Int))
  else
  j3 ((0 : Int))
def law_BitmapFromRuns_r (fu : Nat) (a : (Int) × ((Int) × ((List ((Int) × ((Int) × (Int)))) × (Unit)))) : Option ((Bool) × (Unit)) :=
  bindO (law_bitmapWorks_r fu (())) fun v0 =>
  bif (!v0.1) then
    some ((false, ()))
  else
  bindO (bitmap_FromRuns_r fu ((a.1, (a.2.1, (a.2.2.1, ()))))) fun v1 =>
  let v2 : Int := v1.2.1
  joinF (law_BitmapFromRuns_j1 fu a v1 v2) fun j3 =>
  joinF (law_BitmapFromRuns_j9 fu j3) fun j4 =>
  bindO (R_Within_r fu ((a.1, ((1 : Int), ((1024 : Int), ()))))) fun v5 =>
  bif (!v5.1) then
    j4 (true)
  else
  bindO (R_Within_r fu ((a.2.1, ((1 : Int), ((1024 : Int), ()))))) fun v6 =>
  j4 ((!v6.1))
def law_BitmapFromRuns_an : An := (.n none .z (.n none (.n none .z (.n none (.n none .z .z) .z)) (.n none .z (.n none .z (.n (some ⟨[8, 7, 0, 1, 2, 6], [0], [], [.reg 9 (.int .i64)], 0, []⟩) (.n (some ⟨[9], [], [], [.reg 32 .bool], 0, []⟩) .z (.n none .z .z)) (.n none (.n none .z (.n none (.n (some ⟨[], [], [], [.reg 9 (.int .i64), .reg 10 (.int .i64)], 0, []⟩) (.n none (.n (some ⟨[10, 9], [], [], [.reg 40 .bool], 0, []⟩) .z .z) (.n (some ⟨[10], [], [], [.reg 9 (.int .i64)], 0, []⟩) (.n none (.n none .z (.n none (.n (some ⟨[11, 9], [1], [], [.reg 47 .bool], 0, []⟩) (.n none .z (.n none .z (.n none .z (.n none .z (.n none .z (.n none .z .z)))))) (.n none .z (.n (some ⟨[], [], [], [.reg 70 .bool], 0, []⟩) (.dr [] []) (.n none .z .z)))) .z)) .z) .z)) .z) .z)) (.n none (.n none .z (.n none (.n none .z .z) .z)) (.n none .z (.n none (.n none .z (.n none (.n (some ⟨[12, 116, 117], [], [], [.reg 118 (.int .i64), .row 1 true .bool 4 0], 0, []⟩) (.n none .z (.n none .z (.n none (.n none (.n none .z (.n none .z (.n none (.n (some ⟨[118, 14], [2], [], [.reg 15 (.int .i64), .row 1 true .bool 4 0], 0, []⟩) (.n none (.n none .z .z) (.n none (.n none .z .z) .z)) .z) .z))) .z) .z))) .z) .z)) (.n none (.dr [] []) .z))))))))))
noncomputable def law_BitmapFromRuns_dc : List (Nat × Ctr) := [(17, R_Within_ctr), (18, law_refused_ctr), (19, R_SameBits_ctr), (20, R_Drawn_ctr), (33, law_bitmapWorks_ctr), (42, bitmap_FromRuns_ctr)]
def law_BitmapFromRuns_ctr : Ctr := ⟨(.pair (.int .i64) (.pair (.int .i64) (.pair (.list (.pair (.int .i64) (.pair (.int .i64) (.int .i64)))) .unit))), (.pair .bool .unit), law_BitmapFromRuns_r, 8⟩
theorem law_BitmapFromRuns_ok : CtrOk Try.prog 8 law_BitmapFromRuns_ctr := ctr_ok (l := law_BitmapFromRuns_dc) (f := 12) (an := law_BitmapFromRuns_an) ⟨R_Within_ok, ⟨law_refused_ok, ⟨R_SameBits_ok, ⟨R_Drawn_ok, ⟨law_bitmapWorks_ok, ⟨bitmap_FromRuns_ok, trivial⟩⟩⟩⟩⟩⟩ fun fu x => by kernel_rfl
end Go.Proofs.Ytnbmldnahacnlaa
/- BitmapMoves: what the law computes. -/
namespace Go.Proofs.Ytnbmldnahacnlaa
open Go Go.RowKit

section
variable {β : Type}
/-- the list of a picture's pixels -/
def onL (n : Nat) (G : Int → Bool) : List Bool := (List.range n).map fun i : Nat => G (i : Int)
theorem onL_length (n : Nat) (G : Int → Bool) : (onL n G).length = n := by rw [onL, List.length_map, List.length_range]
theorem onL_getD {n : Nat} {G : Int → Bool} {i : Int} (h0 : 0 ≤ i) (h1 : i < n) : (onL n G).getD i.toNat false = G i := by
  have hi : i.toNat < n := by omega
  have : (onL n G)[i.toNat]? = some (G i) := by
    unfold onL
    rw [List.getElem?_map, List.getElem?_range hi, Option.map_some, Int.toNat_of_nonneg h0]
  rw [List.getD_eq_getElem?_getD, this, Option.getD_some]
end
/-- a drawn list of pixels is the picture -/
theorem drawn_on {fu : Nat} (hf : 18446744073709551616 ≤ fu) {w h : Int} {F : Int → Int → Bool} (hw0 : 0 < w) (hw1 : w ≤ 1024) (hh0 : 0 < h) (hh1 : h ≤ 1024) :
    R_Drawn_r fu (w, (h, (onL (w * h).toNat (fun i => F (i % w) (i / w)), ()))) = some ((w, (h, canon w h F)), ()) := by
  have hwh : 0 < w * h := Int.mul_pos hw0 hh0
  rw [drawn_r hf hw0 hw1 hh0 hh1 (by rw [onL_length]; omega)]
  congr 4
  refine canon_congr hw0 fun x y hx hx1 hy hy1 => ?_
  have h1 := Int.mul_nonneg hy (by omega : 0 ≤ w)
  have h2 : y * w ≤ (h - 1) * w := Int.mul_le_mul_of_nonneg_right (by omega) (by omega)
  have e2 : (h - 1) * w = w * h - w := by rw [Int.sub_mul, Int.one_mul, Int.mul_comm]
  rw [onL_getD (by omega) (by omega), (div_of hx hx1).1, (div_of hx hx1).2]
section
variable {fu : Nat} (hf : 18446744073709551616 ≤ fu) {w h : Int} {ds : List Int} (hb : Bytes ds)
include hf hb
end
section
variable {fu : Nat} (hf : 18446744073709551616 ≤ fu) {w h x y cw ch : Int} {ds : List Int} (hb : Bytes ds)
include hf hb
end
end Go.Proofs.Ytnbmldnahacnlaa
/- Rewriting of residual programs by facts of arithmetic. No program in sight. -/
namespace Go.Proofs.Ytnbmldnahacnlaa
open Go Go.RowKit
theorem s_pos {p : Prop} [Decidable p] (h : p) : decide p = true := decide_eq_true h
theorem s_neg {p : Prop} [Decidable p] (h : ¬ p) : decide p = false := decide_eq_false h
theorem s_wr {x : Int} (h0 : -9223372036854775808 ≤ x) (h1 : x ≤ 9223372036854775807) : IntKind.i64.wrap x = x := wr64 h0 h1
theorem s_td {a b : Int} (h : 0 ≤ a) : Int.tdiv a b = a / b := Int.tdiv_eq_ediv_of_nonneg h
theorem s_tm {a b : Int} (h : 0 ≤ a) : Int.tmod a b = a % b := Int.tmod_eq_emod_of_nonneg h
end Go.Proofs.Ytnbmldnahacnlaa
/- BitmapGrowth: what Spread and Turn compute. -/
namespace Go.Proofs.Ytnbmldnahacnlaa
open Go Go.RowKit
set_option linter.unusedSimpArgs false
set_option linter.unusedSectionVars false
set_option linter.unusedVariables false

section
variable {fu : Nat} (hf : 18446744073709551616 ≤ fu) {w h : Int} {β : Type}
include hf
end
/-- pixels within a bitmap -/
def inB (w h : Int) (P : Int → Int → Bool) (x y : Int) : Bool := decide (0 ≤ x ∧ x < w ∧ 0 ≤ y ∧ y < h) && P x y
def grow (P : Int → Int → Bool) (x y : Int) : Bool := P x y || (P (x - 1) y || (P (x + 1) y || (P x (y - 1) || P x (y + 1))))
def grown (w h : Int) (P : Int → Int → Bool) : Nat → Int → Int → Bool
  | 0 => P
  | n + 1 => grow (inB w h (grown w h P n))
section
variable {fu : Nat} (hf : 18446744073709551616 ≤ fu) {w h : Int}
include hf
end
end Go.Proofs.Ytnbmldnahacnlaa
/- BitmapGrowth: the reference's Spread and Turned; Turn. -/
namespace Go.Proofs.Ytnbmldnahacnlaa
open Go Go.RowKit
set_option linter.unusedSimpArgs false
set_option linter.unusedSectionVars false
set_option linter.unusedVariables false

section
variable {fu : Nat} (hf : 18446744073709551616 ≤ fu) {w h : Int} {ds : List Int} (hb : Bytes ds)
include hf hb
end
end Go.Proofs.Ytnbmldnahacnlaa
/- BitmapGrowth: Turn, the reference's Turned, the law. -/
namespace Go.Proofs.Ytnbmldnahacnlaa
open Go Go.RowKit
set_option linter.unusedSimpArgs false
set_option linter.unusedSectionVars false
set_option linter.unusedVariables false

theorem onL_none {n : Nat} {G : Int → Bool} (h : ∀ i, 0 ≤ i → G i = false) : onL n G = List.replicate n false := by
  refine List.ext_getElem (by rw [onL_length, List.length_replicate]) fun q g1 g2 => ?_
  simp only [onL, List.getElem_map, List.getElem_range, List.getElem_replicate]
  exact h _ (by omega)
theorem onL_congr {n : Nat} {G G' : Int → Bool} (h : ∀ i : Int, 0 ≤ i → i < (n : Int) → G i = G' i) : onL n G = onL n G' := List.map_congr_left fun i hi => h i (by omega) (by have := List.mem_range.1 hi; omega)
section
variable {fu : Nat} (hf : 18446744073709551616 ≤ fu) {w h : Int} {ds : List Int} (hb : Bytes ds)
include hf hb
end
end Go.Proofs.Ytnbmldnahacnlaa
/- BitmapGrowth: Turn, Spread, the law. -/
namespace Go.Proofs.Ytnbmldnahacnlaa
open Go Go.RowKit
set_option linter.unusedSimpArgs false
set_option linter.unusedSectionVars false
set_option linter.unusedVariables false

section
variable {fu : Nat} (hf : 18446744073709551616 ≤ fu) {w h : Int} {ds : List Int} (hb : Bytes ds)
include hf
include hb
end
end Go.Proofs.Ytnbmldnahacnlaa
/- BitmapFromRuns: what FromRuns computes; the law. -/
namespace Go.Proofs.Ytnbmldnahacnlaa
open Go Go.RowKit
set_option linter.unusedSimpArgs false
set_option linter.unusedSectionVars false
set_option linter.unusedVariables false

abbrev RunT := Int × Int × Int
def runAt (l : List RunT) (i : Nat) : RunT := l.getD i (0, (0, 0))
def runOk (w h : Int) (r : RunT) : Prop := 0 ≤ r.1 ∧ r.1 < h ∧ 0 ≤ r.2.1 ∧ r.2.2 ≤ w ∧ r.2.1 < r.2.2
def runBefore (q r : RunT) : Prop := r.1 < q.1 ∨ (r.1 = q.1 ∧ r.2.1 ≤ q.2.2)
instance (w h : Int) (r : RunT) : Decidable (runOk w h r) := by unfold runOk; infer_instance
instance (q r : RunT) : Decidable (runBefore q r) := by unfold runBefore; infer_instance
/-- the error of run i -/
def runE (w h : Int) (l : List RunT) (i : Nat) : Int := if runOk w h (runAt l i) then (if 0 < i ∧ runBefore (runAt l (i - 1)) (runAt l i) then 18 else 0) else 3
/-- the first error of n runs from run i on -/
def errF (w h : Int) (l : List RunT) : Nat → Nat → Int
  | 0, _ => 0
  | n + 1, i => if runE w h l i = 0 then errF w h l n (i + 1) else runE w h l i
def inRun (r : RunT) (x y : Int) : Bool := decide (r.1 = y) && (decide (r.2.1 ≤ x) && decide (x < r.2.2))
def inRuns (l : List RunT) (x y : Int) : Bool := l.any fun r => inRun r x y
theorem inRuns_succ {l : List RunT} {i : Nat} (hi : i < l.length) (x y : Int) : inRuns (l.take (i + 1)) x y = (inRuns (l.take i) x y || inRun (runAt l i) x y) := by
  unfold inRuns runAt
  rw [List.take_succ_eq_append_getElem hi, List.any_append, List.getD_eq_getElem?_getD, List.getElem?_eq_getElem hi]
  simp
section
variable {fu : Nat} (hf : 18446744073709551616 ≤ fu) {w h : Int} {l : List RunT}
include hf
/-- one run's pixels -/
theorem runs_l5 (d1 : 1 ≤ w) (d2 : w ≤ 1024) (d3 : 1 ≤ h) (d4 : h ≤ 1024) {r : RunT} (hr : runOk w h r) {Q : Int → Int → Bool} {i : Int} {ds0 : List Int} {c1 c2 : Int} {j2 : Int × List Int × Int × Int × Unit → Option ((Int × Int × List Int) × Int × Unit)} (hi : 0 ≤ i ∧ i < maxLen) :
    loopF (bitmap_FromRuns_l5 fu (w, (h, (l, ()))) (i, (ds0, (c1, (c2, ())))) r j2) fu (r.2.1, canon w h Q) = j2 (i + 1, (canon w h (fun x y => Q x y || inRun r x y), (c1, (c2, ())))) := by
  obtain ⟨r1, r2, r3, r4, r5⟩ := hr
  have hm : (maxLen : Int) = 9223372036854775807 := by unfold maxLen; decide
  refine loopF_spec (fun v : Int × List Int => (r.2.2 - v.1).toNat) (fun v => r.2.1 ≤ v.1 ∧ v.1 ≤ r.2.2 ∧ v.2 = canon w h (fun x y => Q x y || (decide (r.1 = y) && (decide (r.2.1 ≤ x) && decide (x < v.1))))) (fun _ => j2 (i + 1, (canon w h (fun x y => Q x y || inRun r x y), (c1, (c2, ()))))) ?_ fu _ ⟨by omega, by simp only; omega, ?_⟩ (by simp only; omega)
  · rintro j ⟨x, ds⟩ ⟨k0, k1, kv⟩ ih
    simp only at k0 k1 kv
    unfold bitmap_FromRuns_l5
    by_cases hx : x < r.2.2
    · have e := markF_eq (β := (Int × Int × List Int) × Int × Unit) fu (w := w) (h := h) (x := x) (y := r.1) (P := fun x' y => Q x' y || (decide (r.1 = y) && (decide (r.2.1 ≤ x') && decide (x' < x)))) (k := fun d => j (x + 1, d)) (by omega) (by omega) d2 r1 r2 d4
      rw [← kv] at e
      unfold markF at e
      simp (disch := omega) only [joinF_eq, bindO_some, s_wr, s_td, s_tm, s_pos, s_neg, cond_true, cond_false, Bool.not_true, Bool.not_false, Bool.true_and, Bool.and_true, Bool.false_and, Bool.and_false, bne_self_eq_false, decide_true, decide_false, Int.toNat_natCast]
      have hx0 : 0 ≤ x := by omega
      simp (disch := omega) only [s_wr, s_td, s_tm] at e
      rw [stride_r fu (by omega) (by omega)] at e ⊢
      simp (disch := omega) only [joinF_eq, bindO_some, s_wr, s_td, s_tm, s_pos, s_neg, cond_true, cond_false, Bool.not_true, Bool.not_false, Bool.true_and, Bool.and_true, Bool.false_and, Bool.and_false, bne_self_eq_false, decide_true, decide_false, Int.toNat_natCast]
      simp (disch := omega) only [bindO_some, s_wr, s_td, s_tm, s_pos, s_neg, cond_true, Bool.and_true] at e
      obtain ⟨g0, g1, g2⟩ := idx_bd (w := w) (h := h) (x := x) (y := r.1) hx0 (by omega) d2 r1 r2 d4
      have hl : (ds.length : Int) = strd w * h := by rw [kv]; exact canon_len (by omega) (by omega) _
      simp (disch := omega) only [s_wr, s_pos, s_neg, cond_true, Bool.and_true] at e ⊢
      rw [e]
      refine ih (x + 1, _) ⟨by simp only; omega, by simp only; omega, ?_⟩ (by simp only; omega)
      simp only
      refine canon_congr (by omega) fun a b _ _ _ _ => ?_
      by_cases c : a = x ∧ b = r.1
      · obtain ⟨rfl, rfl⟩ := c
        simp; right; omega
      · have e2 : (decide (a = x) && decide (b = r.1)) = false := by
          rw [← Bool.not_eq_true, Bool.and_eq_true]; simpa using c
        rw [e2, Bool.or_false]
        by_cases g : r.1 = b
        · have : ¬ a = x := fun q => c ⟨q, g.symm⟩
          have g2 : decide (a < x) = decide (a < x + 1) := by
            by_cases q : a < x
            · rw [decide_eq_true q, decide_eq_true (by omega)]
            · rw [decide_eq_false q, decide_eq_false (by omega)]
          rw [g2]
        · rw [decide_eq_false g]; simp
    · simp (disch := omega) only [joinF_eq, bindO_some, s_wr, s_td, s_tm, s_pos, s_neg, cond_true, cond_false, Bool.not_true, Bool.not_false, Bool.true_and, Bool.and_true, Bool.false_and, Bool.and_false, bne_self_eq_false, decide_true, decide_false, Int.toNat_natCast]
      rw [kv, show x = r.2.2 by omega]
      rfl
  · refine canon_congr (by omega) fun a b _ _ _ _ => ?_
    simp only
    have : (decide (r.2.1 ≤ a) && decide (a < r.2.1)) = false := by
      rw [← Bool.not_eq_true, Bool.and_eq_true, decide_eq_true_eq, decide_eq_true_eq]; omega
    rw [this, Bool.and_false, Bool.or_false]
/-- an answer: the picture or the error -/
def runsAns (w h : Int) (l : List RunT) (e : Int) : (Int × Int × List Int) × Int × Unit := if e = 0 then ((w, (h, canon w h (inRuns l))), (0, ())) else ((0, (0, [])), (e, ()))
theorem errF_step {w h : Int} {l : List RunT} {i : Nat} (hi : i < l.length) : errF w h l (l.length - i) i = if runE w h l i = 0 then errF w h l (l.length - (i + 1)) (i + 1) else runE w h l i := by
  clear hf
  rw [show l.length - i = (l.length - (i + 1)) + 1 by omega, errF]
theorem runs_j4 (d1 : 1 ≤ w) (d2 : w ≤ 1024) (d3 : 1 ≤ h) (d4 : h ≤ 1024) {i : Nat} (hi : i < l.length) (hl : l.length ≤ maxLen) {c1 c2 : Int} {j : Int × List Int × Int × Int × Unit → Option ((Int × Int × List Int) × Int × Unit)} (hr : runOk w h (runAt l i))
    (ih : j ((i : Int) + 1, (canon w h (inRuns (l.take (i + 1))), (c1, (c2, ())))) = some (runsAns w h l (errF w h l (l.length - (i + 1)) (i + 1)))) :
    bitmap_FromRuns_j3 fu (w, (h, (l, ()))) ((i : Int), (canon w h (inRuns (l.take i)), (c1, (c2, ())))) (runAt l i) (i : Int) j false = some (runsAns w h l (errF w h l (l.length - i) i)) := by
  have hm : (maxLen : Int) = 9223372036854775807 := by unfold maxLen; decide
  have bad : 0 < i ∧ runBefore (runAt l (i - 1)) (runAt l i) → bitmap_FromRuns_j4 fu (w, (h, (l, ()))) ((i : Int), (canon w h (inRuns (l.take i)), (c1, (c2, ())))) (runAt l i) j true = some (runsAns w h l (errF w h l (l.length - i) i)) := by
    intro hc
    have he : runE w h l i = 18 := by unfold runE; rw [if_pos hr, if_pos hc]
    rw [errF_step hf hi, he]
    rfl
  have good : ¬ (0 < i ∧ runBefore (runAt l (i - 1)) (runAt l i)) → bitmap_FromRuns_j4 fu (w, (h, (l, ()))) ((i : Int), (canon w h (inRuns (l.take i)), (c1, (c2, ())))) (runAt l i) j false = some (runsAns w h l (errF w h l (l.length - i) i)) := by
    intro hc
    have he : runE w h l i = 0 := by unfold runE; rw [if_pos hr, if_neg hc]
    rw [errF_step hf hi, he, if_pos rfl, ← ih]
    unfold bitmap_FromRuns_j4
    simp (disch := omega) only [joinF_eq, bindO_some, s_wr, s_td, s_tm, s_pos, s_neg, cond_true, cond_false, Bool.not_true, Bool.not_false, Bool.true_and, Bool.and_true, Bool.false_and, Bool.and_false, bne_self_eq_false, decide_true, decide_false, Int.toNat_natCast]
    rw [runs_l5 hf d1 d2 d3 d4 hr (by omega)]
    congr 3
    exact canon_congr (by omega) fun x y _ _ _ _ => (inRuns_succ hi x y).symm
  unfold bitmap_FromRuns_j3
  by_cases h0 : 0 < i
  · have e1 : ((i : Int) - 1).toNat = i - 1 := by omega
    simp (disch := omega) only [joinF_eq, bindO_some, s_wr, s_td, s_tm, s_pos, s_neg, cond_true, cond_false, Bool.not_true, Bool.not_false, Bool.true_and, Bool.and_true, Bool.false_and, Bool.and_false, bne_self_eq_false, decide_true, decide_false, Int.toNat_natCast]
    rw [e1]
    show (bif decide ((runAt l i).1 < (runAt l (i - 1)).1) then _ else bif decide ((runAt l i).1 = (runAt l (i - 1)).1) then bitmap_FromRuns_j4 fu (w, (h, (l, ()))) _ (runAt l i) j (decide ((runAt l i).2.1 ≤ (runAt l (i - 1)).2.2)) else _) = _
    unfold runBefore at bad good
    by_cases b1 : (runAt l i).1 < (runAt l (i - 1)).1
    · simp (disch := omega) only [joinF_eq, bindO_some, s_wr, s_td, s_tm, s_pos, s_neg, cond_true, cond_false, Bool.not_true, Bool.not_false, Bool.true_and, Bool.and_true, Bool.false_and, Bool.and_false, bne_self_eq_false, decide_true, decide_false, Int.toNat_natCast]
      exact bad ⟨h0, .inl b1⟩
    · by_cases b2 : (runAt l i).1 = (runAt l (i - 1)).1
      · by_cases b3 : (runAt l i).2.1 ≤ (runAt l (i - 1)).2.2
        · simp (disch := omega) only [joinF_eq, bindO_some, s_wr, s_td, s_tm, s_pos, s_neg, cond_true, cond_false, Bool.not_true, Bool.not_false, Bool.true_and, Bool.and_true, Bool.false_and, Bool.and_false, bne_self_eq_false, decide_true, decide_false, Int.toNat_natCast]
          exact bad ⟨h0, .inr ⟨b2, b3⟩⟩
        · simp (disch := omega) only [joinF_eq, bindO_some, s_wr, s_td, s_tm, s_pos, s_neg, cond_true, cond_false, Bool.not_true, Bool.not_false, Bool.true_and, Bool.and_true, Bool.false_and, Bool.and_false, bne_self_eq_false, decide_true, decide_false, Int.toNat_natCast]
          exact good fun g => by omega
      · simp (disch := omega) only [joinF_eq, bindO_some, s_wr, s_td, s_tm, s_pos, s_neg, cond_true, cond_false, Bool.not_true, Bool.not_false, Bool.true_and, Bool.and_true, Bool.false_and, Bool.and_false, bne_self_eq_false, decide_true, decide_false, Int.toNat_natCast]
        exact good fun g => by omega
  · simp (disch := omega) only [joinF_eq, bindO_some, s_wr, s_td, s_tm, s_pos, s_neg, cond_true, cond_false, Bool.not_true, Bool.not_false, Bool.true_and, Bool.and_true, Bool.false_and, Bool.and_false, bne_self_eq_false, decide_true, decide_false, Int.toNat_natCast]
    exact good fun g => h0 g.1
theorem fromRuns_j1 (d1 : 1 ≤ w) (d2 : w ≤ 1024) (d3 : 1 ≤ h) (d4 : h ≤ 1024) (hl : l.length ≤ maxLen) : bitmap_FromRuns_j1 fu (w, (h, (l, ()))) false = some (runsAns w h l (errF w h l l.length 0)) := by
  obtain ⟨b1, b2, b3, b4⟩ := strd_bd (w := w) (h := h) (by omega) d2 (by omega) d4
  have hm : (maxLen : Int) = 9223372036854775807 := by unfold maxLen; decide
  unfold bitmap_FromRuns_j1
  rw [stride_r fu (by omega) (by omega)]
  simp (disch := omega) only [joinF_eq, bindO_some, s_wr, s_td, s_tm, s_pos, s_neg, cond_true, cond_false, Bool.not_true, Bool.not_false, Bool.true_and, Bool.and_true, Bool.false_and, Bool.and_false, bne_self_eq_false, decide_true, decide_false, Int.toNat_natCast]
  rw [← canon_zero w h (P := fun _ _ => false) (fun _ _ => rfl)]
  refine loopF_spec (fun v : Int × List Int × Int × Int × Unit => ((l.length : Int) - v.1).toNat) (fun v => 0 ≤ v.1 ∧ v.1 ≤ l.length ∧ v.2.1 = canon w h (inRuns (l.take v.1.toNat))) (fun v => some (runsAns w h l (errF w h l (l.length - v.1.toNat) v.1.toNat))) ?_ fu (0, (_, (0, (0, ())))) ⟨by omega, by simp only; omega, rfl⟩ (by simp only; omega)
  rintro j ⟨i, ds, c1, c2, ⟨⟩⟩ ⟨k0, k1, kv⟩ ih
  simp only at k0 k1 kv
  obtain ⟨i, rfl⟩ := Int.eq_ofNat_of_zero_le k0
  simp only [Int.toNat_natCast] at kv ⊢
  rw [kv]
  unfold bitmap_FromRuns_l2
  by_cases hi : i < l.length
  · have ih' := ih ((i : Int) + 1, (canon w h (inRuns (l.take (i + 1))), (c1, (c2, ())))) ⟨by simp only; omega, by simp only; omega, by simp only; rw [show ((i : Int) + 1).toNat = i + 1 by omega]⟩ (by simp only; omega)
    simp only [show ((i : Int) + 1).toNat = i + 1 by omega] at ih'
    have bad : ¬ runOk w h (runAt l i) → bitmap_FromRuns_j3 fu (w, (h, (l, ()))) ((i : Int), (canon w h (inRuns (l.take i)), (c1, (c2, ())))) (runAt l i) (i : Int) j true = some (runsAns w h l (errF w h l (l.length - i) i)) := by
      intro hr
      have he : runE w h l i = 3 := by unfold runE; rw [if_neg hr]
      rw [errF_step hf hi, he]
      rfl
    have good := fun hr => runs_j4 hf d1 d2 d3 d4 hi hl (c1 := c1) (c2 := c2) (j := j) hr ih'
    simp (disch := omega) only [joinF_eq, bindO_some, s_wr, s_td, s_tm, s_pos, s_neg, cond_true, cond_false, Bool.not_true, Bool.not_false, Bool.true_and, Bool.and_true, Bool.false_and, Bool.and_false, bne_self_eq_false, decide_true, decide_false, Int.toNat_natCast]
    show (bif decide ((runAt l i).1 < 0) then _ else bif decide (h ≤ (runAt l i).1) then _ else bif decide ((runAt l i).2.1 < 0) then _ else bif decide (w < (runAt l i).2.2) then _ else bitmap_FromRuns_j3 fu _ _ (runAt l i) i j (decide ((runAt l i).2.2 ≤ (runAt l i).2.1))) = _
    unfold runOk at bad good
    by_cases a1 : (runAt l i).1 < 0
    · simp (disch := omega) only [joinF_eq, bindO_some, s_wr, s_td, s_tm, s_pos, s_neg, cond_true, cond_false, Bool.not_true, Bool.not_false, Bool.true_and, Bool.and_true, Bool.false_and, Bool.and_false, bne_self_eq_false, decide_true, decide_false, Int.toNat_natCast]; exact bad (by omega)
    by_cases a2 : h ≤ (runAt l i).1
    · simp (disch := omega) only [joinF_eq, bindO_some, s_wr, s_td, s_tm, s_pos, s_neg, cond_true, cond_false, Bool.not_true, Bool.not_false, Bool.true_and, Bool.and_true, Bool.false_and, Bool.and_false, bne_self_eq_false, decide_true, decide_false, Int.toNat_natCast]; exact bad (by omega)
    by_cases a3 : (runAt l i).2.1 < 0
    · simp (disch := omega) only [joinF_eq, bindO_some, s_wr, s_td, s_tm, s_pos, s_neg, cond_true, cond_false, Bool.not_true, Bool.not_false, Bool.true_and, Bool.and_true, Bool.false_and, Bool.and_false, bne_self_eq_false, decide_true, decide_false, Int.toNat_natCast]; exact bad (by omega)
    by_cases a4 : w < (runAt l i).2.2
    · simp (disch := omega) only [joinF_eq, bindO_some, s_wr, s_td, s_tm, s_pos, s_neg, cond_true, cond_false, Bool.not_true, Bool.not_false, Bool.true_and, Bool.and_true, Bool.false_and, Bool.and_false, bne_self_eq_false, decide_true, decide_false, Int.toNat_natCast]; exact bad (by omega)
    by_cases a5 : (runAt l i).2.2 ≤ (runAt l i).2.1
    · simp (disch := omega) only [joinF_eq, bindO_some, s_wr, s_td, s_tm, s_pos, s_neg, cond_true, cond_false, Bool.not_true, Bool.not_false, Bool.true_and, Bool.and_true, Bool.false_and, Bool.and_false, bne_self_eq_false, decide_true, decide_false, Int.toNat_natCast]; exact bad (by omega)
    · simp (disch := omega) only [joinF_eq, bindO_some, s_wr, s_td, s_tm, s_pos, s_neg, cond_true, cond_false, Bool.not_true, Bool.not_false, Bool.true_and, Bool.and_true, Bool.false_and, Bool.and_false, bne_self_eq_false, decide_true, decide_false, Int.toNat_natCast]; exact good (by omega)
  · have e : i = l.length := by omega
    subst e
    simp (disch := omega) only [joinF_eq, bindO_some, s_wr, s_td, s_tm, s_pos, s_neg, cond_true, cond_false, Bool.not_true, Bool.not_false, Bool.true_and, Bool.and_true, Bool.false_and, Bool.and_false, bne_self_eq_false, decide_true, decide_false, Int.toNat_natCast]
    rw [Nat.sub_self, List.take_length]
    rfl
theorem fromRuns_r (hl : l.length ≤ maxLen) : bitmap_FromRuns_r fu (w, (h, (l, ()))) = some (if 1 ≤ w ∧ w ≤ 1024 ∧ 1 ≤ h ∧ h ≤ 1024 then runsAns w h l (errF w h l l.length 0) else ((0, (0, [])), (3, ()))) := by
  have bad : bitmap_FromRuns_j1 fu (w, (h, (l, ()))) true = some ((0, (0, [])), (3, ())) := rfl
  unfold bitmap_FromRuns_r
  by_cases a1 : w < 1
  · simp (disch := omega) only [joinF_eq, bindO_some, s_wr, s_td, s_tm, s_pos, s_neg, cond_true, cond_false, Bool.not_true, Bool.not_false, Bool.true_and, Bool.and_true, Bool.false_and, Bool.and_false, bne_self_eq_false, decide_true, decide_false, Int.toNat_natCast]; rw [if_neg (by omega)]; exact bad
  by_cases a2 : 1024 < w
  · simp (disch := omega) only [joinF_eq, bindO_some, s_wr, s_td, s_tm, s_pos, s_neg, cond_true, cond_false, Bool.not_true, Bool.not_false, Bool.true_and, Bool.and_true, Bool.false_and, Bool.and_false, bne_self_eq_false, decide_true, decide_false, Int.toNat_natCast]; rw [if_neg (by omega)]; exact bad
  by_cases a3 : h < 1
  · simp (disch := omega) only [joinF_eq, bindO_some, s_wr, s_td, s_tm, s_pos, s_neg, cond_true, cond_false, Bool.not_true, Bool.not_false, Bool.true_and, Bool.and_true, Bool.false_and, Bool.and_false, bne_self_eq_false, decide_true, decide_false, Int.toNat_natCast]; rw [if_neg (by omega)]; exact bad
  by_cases a4 : 1024 < h
  · simp (disch := omega) only [joinF_eq, bindO_some, s_wr, s_td, s_tm, s_pos, s_neg, cond_true, cond_false, Bool.not_true, Bool.not_false, Bool.true_and, Bool.and_true, Bool.false_and, Bool.and_false, bne_self_eq_false, decide_true, decide_false, Int.toNat_natCast]; rw [if_neg (by omega)]; exact bad
  · simp (disch := omega) only [joinF_eq, bindO_some, s_wr, s_td, s_tm, s_pos, s_neg, cond_true, cond_false, Bool.not_true, Bool.not_false, Bool.true_and, Bool.and_true, Bool.false_and, Bool.and_false, bne_self_eq_false, decide_true, decide_false, Int.toNat_natCast]; rw [if_pos (by omega)]; exact fromRuns_j1 hf (by omega) (by omega) (by omega) (by omega) hl
end
end Go.Proofs.Ytnbmldnahacnlaa
/- BitmapFromRuns: the law. -/
namespace Go.Proofs.Ytnbmldnahacnlaa
open Go Go.RowKit
set_option linter.unusedSimpArgs false
set_option linter.unusedSectionVars false
set_option linter.unusedVariables false

theorem onL_true {n : Nat} {G : Int → Bool} {k : Int} (h0 : 0 ≤ k) (h1 : k < n) : (onL n G).set k.toNat true = onL n (fun i => G i || decide (i = k)) := by
  refine List.ext_getElem (by rw [List.length_set, onL_length, onL_length]) fun q g1 g2 => ?_
  rw [List.getElem_set]
  have hq : q < n := by rw [onL_length] at g2; exact g2
  have get : ∀ (G' : Int → Bool) (hh : q < (onL n G').length), (onL n G')[q] = G' q := by
    intro G' hh
    simp only [onL, List.getElem_map, List.getElem_range]
  rw [get, get]
  split
  · rename_i e
    rw [decide_eq_true (by omega), Bool.or_true]
  · rename_i e
    rw [decide_eq_false (by omega), Bool.or_false]
theorem errF_ok {w h : Int} {l : List RunT} : ∀ (n i : Nat), errF w h l n i = 0 → ∀ k, i ≤ k → k < i + n → runOk w h (runAt l k)
  | 0, _, _, _, _, _ => by omega
  | n + 1, i, h0, k, h1, h2 => by
    rw [errF] at h0
    by_cases c : runE w h l i = 0
    · rw [if_pos c] at h0
      by_cases e : k = i
      · subst e
        unfold runE at c
        split at c
        · assumption
        · omega
      · exact errF_ok n (i + 1) h0 k (by omega) (by omega)
    · rw [if_neg c] at h0
      exact absurd h0 c
section
variable {fu : Nat} (hf : 18446744073709551616 ≤ fu) {w h : Int} {l : List RunT}
include hf
theorem lruns_l8 (d1 : 1 ≤ w) (d2 : w ≤ 1024) (d3 : 1 ≤ h) (d4 : h ≤ 1024) {r : RunT} (hr : runOk w h r) {Q : Int → Int → Bool} {i : Int} {on0 : List Bool} {j6 : Int × List Bool → Option (Bool × Unit)} (hi : 0 ≤ i ∧ i < maxLen) :
    loopF (law_BitmapFromRuns_l8 fu (w, (h, (l, ()))) (i, on0) r j6) fu (r.2.1, onL (w * h).toNat (fun q => Q (q % w) (q / w))) = j6 (i + 1, onL (w * h).toNat (fun q => Q (q % w) (q / w) || inRun r (q % w) (q / w))) := by
  obtain ⟨r1, r2, r3, r4, r5⟩ := hr
  have hm : (maxLen : Int) = 9223372036854775807 := by unfold maxLen; decide
  have m1 := Int.mul_nonneg r1 (by omega : 0 ≤ w)
  have m2 : r.1 * w ≤ (h - 1) * w := Int.mul_le_mul_of_nonneg_right (by omega) (by omega)
  have m3 : (h - 1) * w = w * h - w := by rw [Int.sub_mul, Int.one_mul, Int.mul_comm]
  have m4 : w * h ≤ 1048576 := by
    have := Int.mul_le_mul d2 d4 (by omega : 0 ≤ h) (by omega : (0 : Int) ≤ 1024)
    omega
  refine loopF_spec (fun v : Int × List Bool => (r.2.2 - v.1).toNat) (fun v => r.2.1 ≤ v.1 ∧ v.1 ≤ r.2.2 ∧ v.2 = onL (w * h).toNat (fun q => Q (q % w) (q / w) || (decide (r.1 = q / w) && (decide (r.2.1 ≤ q % w) && decide (q % w < v.1))))) (fun _ => j6 (i + 1, onL (w * h).toNat (fun q => Q (q % w) (q / w) || inRun r (q % w) (q / w)))) ?_ fu _ ⟨by omega, by simp only; omega, ?_⟩ (by simp only; omega)
  · rintro j ⟨x, on⟩ ⟨k0, k1, kv⟩ ih
    simp only at k0 k1 kv
    unfold law_BitmapFromRuns_l8
    by_cases hx : x < r.2.2
    · have hl : on.length = (w * h).toNat := by rw [kv, onL_length]
      simp (disch := omega) only [joinF_eq, bindO_some, s_wr, s_td, s_tm, s_pos, s_neg, cond_true, cond_false, Bool.not_true, Bool.not_false, Bool.true_and, Bool.and_true, Bool.false_and, Bool.and_false, bne_self_eq_false, decide_true, decide_false, Int.toNat_natCast]
      refine ih (x + 1, _) ⟨by simp only; omega, by simp only; omega, ?_⟩ (by simp only; omega)
      simp only
      rw [kv, onL_true (by omega) (by omega)]
      refine onL_congr fun q q0 q1 => ?_
      have hmd := mul_div_mod q w
      have hq0 : 0 ≤ q % w := Int.emod_nonneg _ (by omega)
      have hq1 : q % w < w := Int.emod_lt_of_pos _ (by omega)
      by_cases c : q = r.1 * w + x
      · subst c
        rw [(div_of (by omega) (by omega)).1, (div_of (by omega) (by omega)).2]
        simp; right; omega
      · rw [decide_eq_false c, Bool.or_false]
        by_cases g : r.1 = q / w
        · have : ¬ q % w = x := by
            intro e
            rw [← g, e] at hmd
            exact c hmd.symm
          have g2 : decide (q % w < x) = decide (q % w < x + 1) := by
            by_cases q : q % w < x
            · rw [decide_eq_true q, decide_eq_true (by omega)]
            · rw [decide_eq_false q, decide_eq_false (by omega)]
          rw [g2]
        · rw [decide_eq_false g]; simp
    · simp (disch := omega) only [joinF_eq, bindO_some, s_wr, s_td, s_tm, s_pos, s_neg, cond_true, cond_false, Bool.not_true, Bool.not_false, Bool.true_and, Bool.and_true, Bool.false_and, Bool.and_false, bne_self_eq_false, decide_true, decide_false, Int.toNat_natCast]
      rw [kv, show x = r.2.2 by omega]
      rfl
  · simp only
    refine onL_congr fun a _ _ => ?_
    have : (decide (r.2.1 ≤ a % w) && decide (a % w < r.2.1)) = false := by
      rw [← Bool.not_eq_true, Bool.and_eq_true, decide_eq_true_eq, decide_eq_true_eq]; omega
    rw [this, Bool.and_false, Bool.or_false]
theorem lruns_end (d1 : 1 ≤ w) (d2 : w ≤ 1024) (d3 : 1 ≤ h) (d4 : h ≤ 1024) (hl : l.length ≤ maxLen) (he : errF w h l l.length 0 = 0) {v4 : Int × Int} (h4 : v4.1 = 0) {j4 : Int × Int → Option (Bool × Unit)} :
    law_BitmapFromRuns_j3 fu (w, (h, (l, ()))) (runsAns w h l 0) 0 v4 j4 false = some (true, ()) := by
  have hm : (maxLen : Int) = 9223372036854775807 := by unfold maxLen; decide
  have m4 : w * h ≤ 1048576 := by
    have := Int.mul_le_mul d2 d4 (by omega : 0 ≤ h) (by omega : (0 : Int) ≤ 1024)
    omega
  have m5 : 0 < w * h := Int.mul_pos (by omega) (by omega)
  unfold law_BitmapFromRuns_j3
  simp (disch := omega) only [joinF_eq, bindO_some, s_wr, s_td, s_tm, s_pos, s_neg, cond_true, cond_false, Bool.not_true, Bool.not_false, Bool.true_and, Bool.and_true, Bool.false_and, Bool.and_false, bne_self_eq_false, decide_true, decide_false, Int.toNat_natCast]
  refine loopF_spec (fun v : Int × List Bool => ((l.length : Int) - v.1).toNat) (fun v => 0 ≤ v.1 ∧ v.1 ≤ l.length ∧ v.2 = onL (w * h).toNat (fun q => inRuns (l.take v.1.toNat) (q % w) (q / w))) (fun _ => some (true, ())) ?_ fu (0, _) ⟨by omega, by simp only; omega, ?_⟩ (by simp only; omega)
  · rintro j ⟨i, on⟩ ⟨k0, k1, kv⟩ ih
    simp only at k0 k1 kv
    obtain ⟨i, rfl⟩ := Int.eq_ofNat_of_zero_le k0
    simp only [Int.toNat_natCast] at kv
    rw [kv]
    unfold law_BitmapFromRuns_l7
    by_cases hi : i < l.length
    · simp (disch := omega) only [joinF_eq, bindO_some, s_wr, s_td, s_tm, s_pos, s_neg, cond_true, cond_false, Bool.not_true, Bool.not_false, Bool.true_and, Bool.and_true, Bool.false_and, Bool.and_false, bne_self_eq_false, decide_true, decide_false, Int.toNat_natCast]
      show loopF (law_BitmapFromRuns_l8 fu (w, (h, (l, ()))) ((i : Int), _) (runAt l i) j) fu ((runAt l i).2.1, _) = _
      rw [lruns_l8 hf d1 d2 d3 d4 (errF_ok _ _ he i (by omega) (by omega)) (Q := inRuns (l.take i)) (by omega)]
      refine ih _ ⟨by simp only; omega, by simp only; omega, ?_⟩ (by simp only; omega)
      simp only
      rw [show ((i : Int) + 1).toNat = i + 1 by omega]
      exact onL_congr fun q _ _ => (inRuns_succ hi _ _).symm
    · have e : i = l.length := by omega
      subst e
      simp (disch := omega) only [joinF_eq, bindO_some, s_wr, s_td, s_tm, s_pos, s_neg, cond_true, cond_false, Bool.not_true, Bool.not_false, Bool.true_and, Bool.and_true, Bool.false_and, Bool.and_false, bne_self_eq_false, decide_true, decide_false, Int.toNat_natCast]
      rw [List.take_length, drawn_on hf (by omega) d2 (by omega) d4]
      unfold runsAns
      rw [if_pos rfl]
      simp (disch := omega) only [joinF_eq, bindO_some, s_wr, s_td, s_tm, s_pos, s_neg, cond_true, cond_false, Bool.not_true, Bool.not_false, Bool.true_and, Bool.and_true, Bool.false_and, Bool.and_false, bne_self_eq_false, decide_true, decide_false, Int.toNat_natCast]
      rw [same_r]
      simp (disch := omega) only [joinF_eq, bindO_some, s_wr, s_td, s_tm, s_pos, s_neg, cond_true, cond_false, Bool.not_true, Bool.not_false, Bool.true_and, Bool.and_true, Bool.false_and, Bool.and_false, bne_self_eq_false, decide_true, decide_false, Int.toNat_natCast]
  · exact (onL_none fun i hi => rfl).symm
theorem lruns_err {e : Int} (he : e ≠ 0) {v4 : Int × Int} (h4 : v4.1 = e) {j4 : Int × Int → Option (Bool × Unit)} :
    law_BitmapFromRuns_j3 fu (w, (h, (l, ()))) ((0, (0, [])), (e, ())) e v4 j4 false = some (true, ()) := by
  subst h4
  unfold law_BitmapFromRuns_j3
  simp (disch := omega) only [joinF_eq, bindO_some, s_wr, s_td, s_tm, s_pos, s_neg, cond_true, cond_false, Bool.not_true, Bool.not_false, Bool.true_and, Bool.and_true, Bool.false_and, Bool.and_false, bne_self_eq_false, decide_true, decide_false, Int.toNat_natCast, refused_r]
theorem lruns_loop (d1 : 1 ≤ w) (d2 : w ≤ 1024) (d3 : 1 ≤ h) (d4 : h ≤ 1024) (hl : l.length ≤ maxLen) :
    loopF (law_BitmapFromRuns_l2 fu (w, (h, (l, ()))) (runsAns w h l (errF w h l l.length 0)) (runsAns w h l (errF w h l l.length 0)).2.1) fu (0, 0) = some (true, ()) := by
  have hm : (maxLen : Int) = 9223372036854775807 := by unfold maxLen; decide
  have fin : ∀ (v4 : Int × Int) (j4 : Int × Int → Option (Bool × Unit)), v4.1 = errF w h l l.length 0 → law_BitmapFromRuns_j3 fu (w, (h, (l, ()))) (runsAns w h l (errF w h l l.length 0)) (runsAns w h l (errF w h l l.length 0)).2.1 v4 j4 false = some (true, ()) := by
    intro v4 j4 h4
    by_cases c : errF w h l l.length 0 = 0
    · have e2 := lruns_end hf d1 d2 d3 d4 hl c (v4 := v4) (h4.trans c) (j4 := j4)
      rw [c]
      exact e2
    · have e2 := lruns_err hf (w := w) (h := h) (l := l) c h4 (j4 := j4)
      unfold runsAns
      rw [if_neg c]
      exact e2
  generalize hA : runsAns w h l (errF w h l l.length 0) = A at *
  refine loopF_spec (fun v : Int × Int => ((l.length : Int) - v.2).toNat) (fun v => 0 ≤ v.2 ∧ v.2 ≤ l.length ∧ (if v.1 = 0 then errF w h l (l.length - v.2.toNat) v.2.toNat else v.1) = errF w h l l.length 0) (fun _ => some (true, ())) ?_ fu (0, 0) ⟨by omega, by simp only; omega, rfl⟩ (by simp only; omega)
  rintro j ⟨e, i⟩ ⟨k0, k1, kv⟩ ih
  simp only at k0 k1 kv
  obtain ⟨i, rfl⟩ := Int.eq_ofNat_of_zero_le k0
  simp only [Int.toNat_natCast] at kv
  unfold law_BitmapFromRuns_l2
  by_cases hi : i < l.length
  · by_cases he : e = 0
    · subst he
      rw [if_pos rfl, errF_step hf hi] at kv
      simp (disch := omega) only [joinF_eq, bindO_some, s_wr, s_td, s_tm, s_pos, s_neg, cond_true, cond_false, Bool.not_true, Bool.not_false, Bool.true_and, Bool.and_true, Bool.false_and, Bool.and_false, bne_self_eq_false, decide_true, decide_false, Int.toNat_natCast]
      have nx : ∀ e', (if e' = 0 then errF w h l (l.length - (i + 1)) (i + 1) else e') = errF w h l l.length 0 → j (e', (i : Int) + 1) = some (true, ()) := fun e' he' =>
        ih (e', (i : Int) + 1) ⟨by simp only; omega, by simp only; omega, by simp only; rw [show ((i : Int) + 1).toNat = i + 1 by omega]; exact he'⟩ (by simp only; omega)
      have bad : ¬ runOk w h (runAt l i) → law_BitmapFromRuns_j5 fu (w, (h, (l, ()))) (0, (i : Int)) (runAt l i) (law_BitmapFromRuns_j4 fu (0, (i : Int)) j) true = some (true, ()) := by
        intro hr
        have he : runE w h l i = 3 := by unfold runE; rw [if_neg hr]
        rw [he, if_neg (by omega)] at kv
        unfold law_BitmapFromRuns_j5 law_BitmapFromRuns_j4
        simp (disch := omega) only [joinF_eq, bindO_some, s_wr, s_td, s_tm, s_pos, s_neg, cond_true, cond_false, Bool.not_true, Bool.not_false, Bool.true_and, Bool.and_true, Bool.false_and, Bool.and_false, bne_self_eq_false, decide_true, decide_false, Int.toNat_natCast]
        exact nx 3 kv
      have good : runOk w h (runAt l i) → law_BitmapFromRuns_j5 fu (w, (h, (l, ()))) (0, (i : Int)) (runAt l i) (law_BitmapFromRuns_j4 fu (0, (i : Int)) j) false = some (true, ()) := by
        intro hr
        have g1 : 0 < i ∧ runBefore (runAt l (i - 1)) (runAt l i) → law_BitmapFromRuns_j6 fu (0, (i : Int)) (law_BitmapFromRuns_j4 fu (0, (i : Int)) j) true = some (true, ()) := by
          intro hc
          have he : runE w h l i = 18 := by unfold runE; rw [if_pos hr, if_pos hc]
          rw [he, if_neg (by omega)] at kv
          unfold law_BitmapFromRuns_j6 law_BitmapFromRuns_j4
          simp (disch := omega) only [joinF_eq, bindO_some, s_wr, s_td, s_tm, s_pos, s_neg, cond_true, cond_false, Bool.not_true, Bool.not_false, Bool.true_and, Bool.and_true, Bool.false_and, Bool.and_false, bne_self_eq_false, decide_true, decide_false, Int.toNat_natCast]
          exact nx 18 kv
        have g2 : ¬ (0 < i ∧ runBefore (runAt l (i - 1)) (runAt l i)) → law_BitmapFromRuns_j6 fu (0, (i : Int)) (law_BitmapFromRuns_j4 fu (0, (i : Int)) j) false = some (true, ()) := by
          intro hc
          have he : runE w h l i = 0 := by unfold runE; rw [if_pos hr, if_neg hc]
          rw [he, if_pos rfl] at kv
          unfold law_BitmapFromRuns_j6 law_BitmapFromRuns_j4
          simp (disch := omega) only [joinF_eq, bindO_some, s_wr, s_td, s_tm, s_pos, s_neg, cond_true, cond_false, Bool.not_true, Bool.not_false, Bool.true_and, Bool.and_true, Bool.false_and, Bool.and_false, bne_self_eq_false, decide_true, decide_false, Int.toNat_natCast]
          exact nx 0 (by rw [if_pos rfl]; exact kv)
        unfold law_BitmapFromRuns_j5
        by_cases h0 : 0 < i
        · have e1 : ((i : Int) - 1).toNat = i - 1 := by omega
          simp (disch := omega) only [joinF_eq, bindO_some, s_wr, s_td, s_tm, s_pos, s_neg, cond_true, cond_false, Bool.not_true, Bool.not_false, Bool.true_and, Bool.and_true, Bool.false_and, Bool.and_false, bne_self_eq_false, decide_true, decide_false, Int.toNat_natCast]
          rw [e1]
          show (bif decide ((runAt l i).1 < (runAt l (i - 1)).1) then _ else bif decide ((runAt l i).1 = (runAt l (i - 1)).1) then law_BitmapFromRuns_j6 fu (0, (i : Int)) (law_BitmapFromRuns_j4 fu (0, (i : Int)) j) (decide ((runAt l i).2.1 ≤ (runAt l (i - 1)).2.2)) else _) = _
          unfold runBefore at g1 g2
          by_cases b1 : (runAt l i).1 < (runAt l (i - 1)).1
          · simp (disch := omega) only [joinF_eq, bindO_some, s_wr, s_td, s_tm, s_pos, s_neg, cond_true, cond_false, Bool.not_true, Bool.not_false, Bool.true_and, Bool.and_true, Bool.false_and, Bool.and_false, bne_self_eq_false, decide_true, decide_false, Int.toNat_natCast]
            exact g1 ⟨h0, .inl b1⟩
          · by_cases b2 : (runAt l i).1 = (runAt l (i - 1)).1
            · by_cases b3 : (runAt l i).2.1 ≤ (runAt l (i - 1)).2.2
              · simp (disch := omega) only [joinF_eq, bindO_some, s_wr, s_td, s_tm, s_pos, s_neg, cond_true, cond_false, Bool.not_true, Bool.not_false, Bool.true_and, Bool.and_true, Bool.false_and, Bool.and_false, bne_self_eq_false, decide_true, decide_false, Int.toNat_natCast]
                exact g1 ⟨h0, .inr ⟨b2, b3⟩⟩
              · simp (disch := omega) only [joinF_eq, bindO_some, s_wr, s_td, s_tm, s_pos, s_neg, cond_true, cond_false, Bool.not_true, Bool.not_false, Bool.true_and, Bool.and_true, Bool.false_and, Bool.and_false, bne_self_eq_false, decide_true, decide_false, Int.toNat_natCast]
                exact g2 fun g => by omega
            · simp (disch := omega) only [joinF_eq, bindO_some, s_wr, s_td, s_tm, s_pos, s_neg, cond_true, cond_false, Bool.not_true, Bool.not_false, Bool.true_and, Bool.and_true, Bool.false_and, Bool.and_false, bne_self_eq_false, decide_true, decide_false, Int.toNat_natCast]
              exact g2 fun g => by omega
        · simp (disch := omega) only [joinF_eq, bindO_some, s_wr, s_td, s_tm, s_pos, s_neg, cond_true, cond_false, Bool.not_true, Bool.not_false, Bool.true_and, Bool.and_true, Bool.false_and, Bool.and_false, bne_self_eq_false, decide_true, decide_false, Int.toNat_natCast]
          exact g2 fun g => h0 g.1
      unfold law_BitmapFromRuns_j3
      simp (disch := omega) only [joinF_eq, bindO_some, s_wr, s_td, s_tm, s_pos, s_neg, cond_true, cond_false, Bool.not_true, Bool.not_false, Bool.true_and, Bool.and_true, Bool.false_and, Bool.and_false, bne_self_eq_false, decide_true, decide_false, Int.toNat_natCast, within_r]
      show (bif !(decide (0 ≤ (runAt l i).1) && decide ((runAt l i).1 ≤ h - 1)) then law_BitmapFromRuns_j5 fu _ _ (runAt l i) _ (!(decide (0 ≤ (runAt l i).1) && decide ((runAt l i).1 ≤ h - 1))) else bif !(decide (0 ≤ (runAt l i).2.1) && decide ((runAt l i).2.1 ≤ w - 1)) then law_BitmapFromRuns_j5 fu _ _ (runAt l i) _ (!(decide (0 ≤ (runAt l i).2.1) && decide ((runAt l i).2.1 ≤ w - 1)))
        else bif !(decide (1 ≤ (runAt l i).2.2) && decide ((runAt l i).2.2 ≤ w)) then law_BitmapFromRuns_j5 fu _ _ (runAt l i) _ (!(decide (1 ≤ (runAt l i).2.2) && decide ((runAt l i).2.2 ≤ w))) else law_BitmapFromRuns_j5 fu _ _ (runAt l i) _ (decide ((runAt l i).2.2 ≤ (runAt l i).2.1))) = _
      unfold runOk at bad good
      cases a1 : (decide (0 ≤ (runAt l i).1) && decide ((runAt l i).1 ≤ h - 1)) with
      | false =>
        rw [← Bool.not_eq_true, Bool.and_eq_true, decide_eq_true_eq, decide_eq_true_eq] at a1
        simp (disch := omega) only [joinF_eq, bindO_some, s_wr, s_td, s_tm, s_pos, s_neg, cond_true, cond_false, Bool.not_true, Bool.not_false, Bool.true_and, Bool.and_true, Bool.false_and, Bool.and_false, bne_self_eq_false, decide_true, decide_false, Int.toNat_natCast]; exact bad (by omega)
      | true =>
        rw [Bool.and_eq_true, decide_eq_true_eq, decide_eq_true_eq] at a1
        cases a2 : (decide (0 ≤ (runAt l i).2.1) && decide ((runAt l i).2.1 ≤ w - 1)) with
        | false =>
          rw [← Bool.not_eq_true, Bool.and_eq_true, decide_eq_true_eq, decide_eq_true_eq] at a2
          simp (disch := omega) only [joinF_eq, bindO_some, s_wr, s_td, s_tm, s_pos, s_neg, cond_true, cond_false, Bool.not_true, Bool.not_false, Bool.true_and, Bool.and_true, Bool.false_and, Bool.and_false, bne_self_eq_false, decide_true, decide_false, Int.toNat_natCast]; exact bad (by omega)
        | true =>
          rw [Bool.and_eq_true, decide_eq_true_eq, decide_eq_true_eq] at a2
          cases a3 : (decide (1 ≤ (runAt l i).2.2) && decide ((runAt l i).2.2 ≤ w)) with
          | false =>
            rw [← Bool.not_eq_true, Bool.and_eq_true, decide_eq_true_eq, decide_eq_true_eq] at a3
            simp (disch := omega) only [joinF_eq, bindO_some, s_wr, s_td, s_tm, s_pos, s_neg, cond_true, cond_false, Bool.not_true, Bool.not_false, Bool.true_and, Bool.and_true, Bool.false_and, Bool.and_false, bne_self_eq_false, decide_true, decide_false, Int.toNat_natCast]; exact bad (by omega)
          | true =>
            rw [Bool.and_eq_true, decide_eq_true_eq, decide_eq_true_eq] at a3
            by_cases a4 : (runAt l i).2.2 ≤ (runAt l i).2.1
            · simp (disch := omega) only [joinF_eq, bindO_some, s_wr, s_td, s_tm, s_pos, s_neg, cond_true, cond_false, Bool.not_true, Bool.not_false, Bool.true_and, Bool.and_true, Bool.false_and, Bool.and_false, bne_self_eq_false, decide_true, decide_false, Int.toNat_natCast]; exact bad (by omega)
            · simp (disch := omega) only [joinF_eq, bindO_some, s_wr, s_td, s_tm, s_pos, s_neg, cond_true, cond_false, Bool.not_true, Bool.not_false, Bool.true_and, Bool.and_true, Bool.false_and, Bool.and_false, bne_self_eq_false, decide_true, decide_false, Int.toNat_natCast]; exact good (by omega)
    · rw [if_neg he] at kv
      simp (disch := omega) only [joinF_eq, bindO_some, s_wr, s_td, s_tm, s_pos, s_neg, cond_true, cond_false, Bool.not_true, Bool.not_false, Bool.true_and, Bool.and_true, Bool.false_and, Bool.and_false, bne_self_eq_false, decide_true, decide_false, Int.toNat_natCast]
      exact fin _ _ kv
  · have e1 : i = l.length := by omega
    subst e1
    have kv' : e = errF w h l l.length 0 := by
      by_cases he : e = 0
      · rw [if_pos he, Nat.sub_self] at kv
        rw [he, ← kv]; rfl
      · rw [if_neg he] at kv; exact kv
    simp (disch := omega) only [joinF_eq, bindO_some, s_wr, s_td, s_tm, s_pos, s_neg, cond_true, cond_false, Bool.not_true, Bool.not_false, Bool.true_and, Bool.and_true, Bool.false_and, Bool.and_false, bne_self_eq_false, decide_true, decide_false, Int.toNat_natCast]
    exact fin _ _ kv'
theorem fromRuns_law (hl : l.length ≤ maxLen) (hwk : law_bitmapWorks_r fu () = some (true, ())) : law_BitmapFromRuns_r fu (w, (h, (l, ()))) = some (true, ()) := by
  have bad : ¬ (1 ≤ w ∧ w ≤ 1024 ∧ 1 ≤ h ∧ h ≤ 1024) → law_BitmapFromRuns_j1 fu (w, (h, (l, ()))) ((0, (0, [])), (3, ())) 3 3 = some (true, ()) := by
    intro hn
    unfold law_BitmapFromRuns_j1
    have hg : fu = (fu - 1) + 1 := by omega
    rw [hg, loopF]
    unfold law_BitmapFromRuns_l2
    rw [← hg]
    by_cases c : (0 : Int) < l.length
    · simp (disch := omega) only [joinF_eq, bindO_some, s_wr, s_td, s_tm, s_pos, s_neg, cond_true, cond_false, Bool.not_true, Bool.not_false, Bool.true_and, Bool.and_true, Bool.false_and, Bool.and_false, bne_self_eq_false, decide_true, decide_false, Int.toNat_natCast]
      exact lruns_err hf (by decide) rfl
    · simp (disch := omega) only [joinF_eq, bindO_some, s_wr, s_td, s_tm, s_pos, s_neg, cond_true, cond_false, Bool.not_true, Bool.not_false, Bool.true_and, Bool.and_true, Bool.false_and, Bool.and_false, bne_self_eq_false, decide_true, decide_false, Int.toNat_natCast]
      exact lruns_err hf (by decide) rfl
  unfold law_BitmapFromRuns_r
  rw [hwk]
  simp (disch := omega) only [joinF_eq, bindO_some, s_wr, s_td, s_tm, s_pos, s_neg, cond_true, cond_false, Bool.not_true, Bool.not_false, Bool.true_and, Bool.and_true, Bool.false_and, Bool.and_false, bne_self_eq_false, decide_true, decide_false, Int.toNat_natCast]
  rw [fromRuns_r hf hl, within_r, within_r]
  by_cases c1 : 1 ≤ w ∧ w ≤ 1024
  · obtain ⟨c1, c2⟩ := c1
    by_cases c3 : 1 ≤ h ∧ h ≤ 1024
    · obtain ⟨c3, c4⟩ := c3
      rw [if_pos ⟨c1, c2, c3, c4⟩]
      unfold law_BitmapFromRuns_j9 law_BitmapFromRuns_j1
      simp (disch := omega) only [joinF_eq, bindO_some, s_wr, s_td, s_tm, s_pos, s_neg, cond_true, cond_false, Bool.not_true, Bool.not_false, Bool.true_and, Bool.and_true, Bool.false_and, Bool.and_false, bne_self_eq_false, decide_true, decide_false, Int.toNat_natCast]
      exact lruns_loop hf c1 c2 c3 c4 hl
    · have : (decide (1 ≤ h) && decide (h ≤ 1024)) = false := by
        rw [← Bool.not_eq_true, Bool.and_eq_true, decide_eq_true_eq, decide_eq_true_eq]; exact c3
      rw [this, if_neg (by omega)]
      unfold law_BitmapFromRuns_j9
      simp (disch := omega) only [joinF_eq, bindO_some, s_wr, s_td, s_tm, s_pos, s_neg, cond_true, cond_false, Bool.not_true, Bool.not_false, Bool.true_and, Bool.and_true, Bool.false_and, Bool.and_false, bne_self_eq_false, decide_true, decide_false, Int.toNat_natCast]
      exact bad (by omega)
  · have : (decide (1 ≤ w) && decide (w ≤ 1024)) = false := by
      rw [← Bool.not_eq_true, Bool.and_eq_true, decide_eq_true_eq, decide_eq_true_eq]; exact c1
    rw [this, if_neg (by omega)]
    unfold law_BitmapFromRuns_j9
    simp (disch := omega) only [joinF_eq, bindO_some, s_wr, s_td, s_tm, s_pos, s_neg, cond_true, cond_false, Bool.not_true, Bool.not_false, Bool.true_and, Bool.and_true, Bool.false_and, Bool.and_false, bne_self_eq_false, decide_true, decide_false, Int.toNat_natCast]
    exact bad (by omega)
end
end Go.Proofs.Ytnbmldnahacnlaa
/- bitmapWorks returns true. -/
namespace Go.Proofs.Ytnbmldnahacnlaa
open Go Go.RowKit

theorem bitmapWorks_true : law_bitmapWorks_r FU () = some (true, ()) := by kernel_rfl
end Go.Proofs.Ytnbmldnahacnlaa
/- The step from a walk to a law's row, once for all laws of the seat: a law that returns true and leaves all that was there as it was. -/
namespace Go.Proofs.Ytnbmldnahacnlaa
open Go.ChangeShapes Go.WideShapes Go.ChangeAt Go.RowKit

theorem own : ownKnob Try.prog.godebug = none := by kernel_rfl
theorem laidOut : laidOutB Try.prog = true := by kernel_rfl
theorem boolT : Try.prog.underlying 4 = some .bool := Try.underlying4

theorem trodAll_stays {H : Type} {enc : TypeId × Value → H} {P : Program} (hl : laidOutB P = true) {W W' : World} (hb : Below W.heap.size W W') :
    ∀ {ts : List TypeId} {vs : List Value} {ds : List (DataW H)} {ps : List MemPlace}, (∀ t ∈ ts, P.readableRec t = true ∧ t < P.types.size) → DataW.TrodAll enc P W 0 (fun _ => true) true ts vs ds ps →
      (∀ x ∈ ps, x.block < W.heap.size) → DataW.TrodAll enc P W' 0 (fun b => decide (b < W.heap.size)) true ts vs ds ps
  | [], [], [], _, _, h, _ => h
  | t :: ts, v :: vs, d :: ds, _, hr, ⟨p, q, h1, h2, e⟩, hlt =>
    ⟨p, q, Below.trod hl (hr t (by simp)).1 (hr t (by simp)).2 h1 hb (fun x hx => hlt x (by rw [e]; simp [hx])),
      trodAll_stays hl hb (fun t' ht => hr t' (by simp [ht])) h2 (fun x hx => hlt x (by rw [e]; simp [hx])), e⟩
  | [], [], _ :: _, _, _, h, _ => h.elim
  | [], _ :: _, _, _, _, h, _ => h.elim
  | _ :: _, [], _, _, _, h, _ => h.elim
  | _ :: _, _ :: _, [], _, _, h, _ => h.elim

/-- what a law's row asks of the readable types among its parameters -/
def readsAll (P : Program) (ts : List TypeId) : Bool := ts.all fun t => P.readableRec t && decide (t < P.types.size)
theorem readsAll_all {P : Program} {ts : List TypeId} (h : readsAll P ts = true) : ∀ t ∈ ts, P.readableRec t = true ∧ t < P.types.size := by
  intro t ht
  have := List.all_eq_true.1 h t ht
  simpa using this

theorem trodAll_length {H : Type} {enc : TypeId × Value → H} {P : Program} {W : World} {base : Nat} {spare : Nat → Bool} {held : Bool} :
    ∀ {ts : List TypeId} {vs : List Value} {ds : List (DataW H)} {ps : List MemPlace}, DataW.TrodAll enc P W base spare held ts vs ds ps → ds.length = ts.length
  | [], [], [], _, _ => rfl
  | _ :: _, _ :: _, _ :: _, _, ⟨_, _, _, h2, _⟩ => by simp [trodAll_length h2]
  | [], [], _ :: _, _, h => h.elim
  | [], _ :: _, _, _, h => h.elim
  | _ :: _, [], _, _, h => h.elim
  | _ :: _, _ :: _, [], _, h => h.elim

set_option maxRecDepth 100000 in
theorem law_lifted {os : Os} (started : os.Started) {H : Type} {enc : TypeId × Value → H} {f : FuncId} {fn : Func} {s : ChangeSpec}
    (noInit : Try.checked.prog.inits.idxOf? f = none) (hfn : Try.checked.prog.funcs[f]? = some fn)
    (witness : ∃ (w : World) (tape : Tape) (i : Input), w.os = os ∧ (w.forCall tape i).Shaped Try.checked.prog ∧ i.vars = [] ∧ Input.okWide Try.checked.prog (w.forCall tape i) .any w.heap.size f i ∧
      s.pre6 enc Try.checked.prog fn [] false (w.forCall tape i).memory i.args ∧ ({} : Assume).holds Try.checked.prog (lone (Frame.enter Try.checked.prog f i.args .normal) [] (w.forCall tape i)))
    (hvars : s.vars = []) (hres : fn.resultTypes = #[4]) (hread : readsAll Try.prog fn.params.toList = true)
    (hspec : ∀ ds : List (DataW H), ds.length = fn.params.toList.length → s.fn H ds = { results := [.lit (.bool true)], args := ds })
    (walk : ∀ (W : World) (base : Nat) (args : List Value) (ds : List (DataW H)) (ps : List MemPlace),
      (∀ (j : Nat) t v, fn.params[j]? = some t → args[j]? = some v → Value.okWide Try.prog W .any base t v) → DataW.TrodAll enc Try.prog W 0 (fun _ => true) true fn.params.toList args ds ps →
      (DataW.weightsEach Try.prog fn.params.toList ds).all (· ≤ reachBytes) = true → (∀ x ∈ ps, x.block < W.heap.size) →
      Calls Try.prog f args.toArray W fun e W' => e = .returned (.bool true) ∧ Below W.heap.size W W') :
    ReturnsInHanded {} Try.checked os f .any (s.pre6 enc Try.checked.prog fn [] false) (s.post enc Try.checked.prog fn false true false false) := by
  refine returnsInHanded_of_change_sized (C := Try.checked) own started noInit hfn witness ?_
  intro W base args ds gs before hval hW _ hsz _
  have hW' := hW
  obtain ⟨p, q, hA0, hV, rfl, hfz, hnd⟩ := hW
  rw [hvars] at hV
  obtain ⟨rfl, rfl⟩ := trodVars_none hV
  have hA : DataW.TrodAll enc Try.prog W 0 (fun _ => true) true fn.params.toList args.toList ds p := hA0
  have hlen : ds.length = fn.params.toList.length := trodAll_length hA
  have hlt : ∀ x ∈ p, x.block < W.heap.size := fun x hx => hW'.lt x (by simpa using hx)
  have hargs : args.toList.toArray = args := by simp
  have hsz' : (DataW.weightsEach Try.prog fn.params.toList ds).all (· ≤ reachBytes) = true := by
    have h := hsz
    have hvt : s.plain.varTypes Try.checked.prog = [] := by simp [DataSpec.varTypes, ChangeSpec.plain, hvars]
    rw [hvt] at h
    simp only [List.append_nil] at h
    exact h
  have hw := walk W base args.toList ds p (fun j t v ht hv => hval j t v ht (by simpa using hv)) hA hsz' hlt
  rw [hargs] at hw
  refine hw.mono fun e W' ⟨he, hb⟩ => ⟨.bool true, he, ?_⟩
  have hsf : s.fn H (ds ++ []) = { results := [.lit (.bool true)], args := ds } := by rw [List.append_nil]; exact hspec ds hlen
  refine ⟨ds, [], p ++ [], [], p, [], hW', ?_, ?_, ?_, hb.frame _, fun h => by cases h⟩
  · rw [hsf, hres]
    exact trodAll_mk1 (shut_bool boolT true)
  · rw [hsf]
    exact trodAll_stays laidOut hb (readsAll_all hread) hA hlt
  · rw [hsf, hvars]
    rfl
end Go.Proofs.Ytnbmldnahacnlaa
/- Arguments opened: what slices and structs of numbers read as. -/
set_option maxRecDepth 100000
namespace Go.Proofs.Ytnbmldnahacnlaa
open Go.ChangeShapes Go.WideShapes Go.ChangeAt Go.RowKit Go.Deep

theorem choose_list {α : Type} {n : Nat} {Q : Nat → α → Prop} (h : ∀ i, i < n → ∃ p, Q i p) : ∃ l : List α, l.length = n ∧ ∀ i p, l[i]? = some p → Q i p := by
  induction n with
  | zero => exact ⟨[], rfl, by intro i p hi; simp at hi⟩
  | succ n ih =>
    obtain ⟨l, hl, hq⟩ := ih (fun i hi => h i (by omega))
    obtain ⟨p, hp⟩ := h n (by omega)
    refine ⟨l ++ [p], by simp [hl], fun i q hi => ?_⟩
    rcases Nat.lt_trichotomy i n with hlt | rfl | hgt
    · rw [List.getElem?_append_left (by omega)] at hi
      exact hq i q hi
    · rw [List.getElem?_append_right (by omega), hl] at hi
      simp at hi
      subst hi; exact hp
    · rw [List.getElem?_eq_none (by simp; omega)] at hi
      cases hi

section
variable {H : Type} {enc : TypeId × Value → H} {P : Program} {w : World} {base : Nat} {spare : Nat → Bool} {held : Bool}
/-- a slice, whatever its elements: of each element its cells and its reading -/
theorem rd_slice {t e : TypeId} {fuel : Nat} {v : Value} {x : DataW H × List MemPlace} (ht : P.underlying t = some (.slice e)) (hc : 0 < P.cellsOf e) (h : DataW.trod enc P w base spare held fuel t [v] = some x) :
    ∃ A n c, v = .slice A n c ∧ n ≤ c ∧ c ≤ maxLen ∧ ∀ i, i < n → ∃ b o cs n' x', A = some ⟨b, o, none⟩ ∧ cs.length = P.cellsOf e ∧ (∀ j u, cs[j]? = some u → w.cell? ⟨b, o + i * P.cellsOf e + j, none⟩ = some u) ∧
      DataW.trod enc P w base spare held n' e cs = some x' := by
  rcases open_slice ht h with ⟨h0, _⟩ | ⟨a, len, cap, m, n', D, Pl, hcs, _, hl, hm, hmm, _, hi⟩
  · simp at h0
    subst h0
    exact ⟨none, 0, 0, rfl, by omega, by unfold maxLen; omega, by intro i hi; omega⟩
  · simp at hcs
    subst hcs
    refine ⟨some a, len, cap, rfl, hl, hm, fun i hil => ?_⟩
    have hlm : len ≤ m := by rw [hmm]; split <;> omega
    obtain ⟨cs, h1, h2⟩ := hi i (by omega)
    obtain ⟨hb, hlen, hat⟩ := World.cells?_some h1
    obtain ⟨b, o, spot⟩ := a
    have h00 := hat 0 (by omega)
    have hsp : spot = none := by
      obtain ⟨cs0, g1, _⟩ := hi 0 (by omega)
      obtain ⟨_, gl, gat⟩ := World.cells?_some g1
      have hx := gat 0 (by omega)
      rw [List.getElem?_eq_getElem (by omega)] at hx
      simpa [Addr.add] using World.cell?_spot hx
    subst hsp
    refine ⟨b, o, cs, n', _, rfl, hlen, ?_, h2⟩
    intro j u hu
    have hjl : j < P.cellsOf e := by rw [← hlen]; exact (List.getElem?_eq_some_iff.1 hu).1
    have := hat j hjl
    rw [hu, Addr.add_lit, Addr.add_lit] at this
    exact this
end

end Go.Proofs.Ytnbmldnahacnlaa
/- Arguments opened, as abstract values. -/
set_option maxRecDepth 100000
namespace Go.Proofs.Ytnbmldnahacnlaa
open Go Go.ChangeShapes Go.WideShapes Go.ChangeAt Go.RowKit Go.Deep

section
variable {H : Type} {enc : TypeId × Value → H} {P : Program} {w : World} {base : Nat} {spare : Nat → Bool} {held : Bool}
/-- data of the caller's -/
abbrev RelC (w : World) : AV → Value → Prop := RelD w (fun _ => False) w.heap.size
/-- one element's cells, read as enc p -/
def Reads {α : Type} (w : World) (sz : Nat) (ec : α → List AV) (Q : α → Prop) (cs : List Value) : Prop :=
  ∃ p, Q p ∧ (ec p).length = sz ∧ ∀ (j : Nat) (a : AV) (u : Value), (ec p)[j]? = some a → cs[j]? = some u → RelC w a u
theorem ro_slice {α : Type} (ec : α → List AV) (Q : α → Prop) {t e : TypeId} {sz fuel : Nat} {v : Value} {x : DataW H × List MemPlace} (ht : P.underlying t = some (.slice e)) (hz : P.cellsOf e = sz) (hc : 0 < sz)
    (hel : ∀ (fuel : Nat) (cs : List Value) (x : DataW H × List MemPlace), cs.length = sz → DataW.trod enc P w base spare held fuel e cs = some x → Reads w sz ec Q cs) (h : DataW.trod enc P w base spare held fuel t [v] = some x) :
    ∃ xs : List α, (∀ p ∈ xs, Q p) ∧ RelC w (.ro false sz (xs.map ec)) v := by
  subst hz
  obtain ⟨A, n, c, rfl, hn, hm, hi⟩ := rd_slice ht hc h
  obtain ⟨xs, hl, hq⟩ := choose_list (Q := fun i (p : α) => Q p ∧ ∃ (b o : Nat) (cs : List Value), A = some ⟨b, o, none⟩ ∧ cs.length = P.cellsOf e ∧ (∀ (j : Nat) (u : Value), cs[j]? = some u → w.cell? ⟨b, o + i * P.cellsOf e + j, none⟩ = some u) ∧ (ec p).length = P.cellsOf e ∧ ∀ (j : Nat) (a : AV) (u : Value), (ec p)[j]? = some a → cs[j]? = some u → RelC w a u) (n := n) (by
    intro i hil
    obtain ⟨b, o, cs, n', x', hA, hlen, hat, htr⟩ := hi i hil
    obtain ⟨p, h1, h2, h3⟩ := hel n' cs x' hlen htr
    exact ⟨p, h1, b, o, cs, hA, hlen, hat, h2, h3⟩)
  subst hl
  refine ⟨xs, fun p hp => ?_, ?_⟩
  · obtain ⟨i, hi⟩ := List.mem_iff_getElem?.1 hp
    exact (hq i p hi).1
  have key : ∀ (i : Nat) (row : List AV) (j : Nat) (a : AV), (xs.map ec)[i]? = some row → row[j]? = some a → ∃ b o u, A = some ⟨b, o, none⟩ ∧ w.cell? ⟨b, o + i * P.cellsOf e + j, none⟩ = some u ∧ RelC w a u := by
    intro i row j a hr ha
    rw [List.getElem?_map] at hr
    obtain ⟨p, hp, rfl⟩ := Option.map_eq_some_iff.1 hr
    obtain ⟨_, b, o, cs, hA, hlen, hat, hel, hrel⟩ := hq i p hp
    have hj : j < cs.length := by rw [hlen, ← hel]; exact (List.getElem?_eq_some_iff.1 ha).1
    have hu : cs[j]? = some cs[j] := List.getElem?_eq_getElem hj
    exact ⟨b, o, cs[j], hA, hat j _ hu, hrel j a _ ha hu⟩
  have hcon := RelD.ro (w := w) (own := fun _ => False) (bs := w.heap.size) false (P.cellsOf e) (xs.map ec) A c (fun i j => match A with
    | some ⟨b, o, _⟩ => (w.cell? ⟨b, o + i * P.cellsOf e + j, none⟩).getD undef
    | none => undef) (by simpa using hn) hm (fun i hi hA => by
      have hi : i < xs.length := by simpa using hi
      obtain ⟨_, b, o, _, h1, _⟩ := hq i xs[i] (List.getElem?_eq_getElem hi)
      rw [hA] at h1; cases h1) (fun i row j a hr ha => by
      obtain ⟨b, o, u, hA, hu, _⟩ := key i row j a hr ha
      subst hA
      exact ⟨b, o, rfl, fun h => h.elim, (fun h => by cases h), by simp [hu]⟩) (fun i row j a hr ha => by
      obtain ⟨b, o, u, hA, hu, hr⟩ := key i row j a hr ha
      subst hA
      simpa [hu] using hr)
  rw [List.length_map] at hcon
  exact hcon
end
/-- a law that answers true -/
theorem AF.yes {P : Program} {F : FuncId} {xs : List AV} {vs : Array Value} {w : World} (h : AF P F xs (.bool true)) (ha : ArgsV w (Gh.none w.heap.size) xs vs) : Calls P F vs w fun e w' => e = .returned (.bool true) ∧ Below w.heap.size w w' :=
  (h.out w vs ha).mono fun e w' ⟨v, he, hb, hv⟩ => ⟨by rw [he, hv.bool'], hb⟩
end Go.Proofs.Ytnbmldnahacnlaa
