/- Facts on the types and functions that the symbolic walks ask for (printed by a program). -/
import Derived.Test.YtnbmldnahacnlaaSxH
import Derived.Test.YtnbmldnahacnlaaProg
namespace Go.Proofs.Ytnbmldnahacnlaa
open Go
def tab : Tab := {
  und := [(0, Go.TypeDesc.tuple #[]),
    (1, Go.TypeDesc.func #[] #[] false),
    (2, Go.TypeDesc.int (Go.IntKind.i64)),
    (3, Go.TypeDesc.int (Go.IntKind.i64)),
    (4, Go.TypeDesc.bool),
    (5, Go.TypeDesc.int (Go.IntKind.u8)),
    (6, Go.TypeDesc.int (Go.IntKind.u8)),
    (7, Go.TypeDesc.struct #[{ name := "x", type := 2, offset := 0, embedded := false, tag := "", pkgPath := "runtime", byteOffset := 0 }, { name := "y", type := 3, offset := 1, embedded := false, tag := "", pkgPath := "runtime", byteOffset := 8 }, { name := "signed", type := 4, offset := 2, embedded := false, tag := "", pkgPath := "runtime", byteOffset := 16 }, { name := "code", type := 6, offset := 3, embedded := false, tag := "", pkgPath := "runtime", byteOffset := 17 }]),
    (8, Go.TypeDesc.struct #[{ name := "x", type := 2, offset := 0, embedded := false, tag := "", pkgPath := "runtime", byteOffset := 0 }, { name := "y", type := 3, offset := 1, embedded := false, tag := "", pkgPath := "runtime", byteOffset := 8 }, { name := "signed", type := 4, offset := 2, embedded := false, tag := "", pkgPath := "runtime", byteOffset := 16 }, { name := "code", type := 6, offset := 3, embedded := false, tag := "", pkgPath := "runtime", byteOffset := 17 }]),
    (9, Go.TypeDesc.string),
    (10, Go.TypeDesc.string),
    (11, Go.TypeDesc.string),
    (12, Go.TypeDesc.int (Go.IntKind.u64)),
    (13, Go.TypeDesc.struct #[{ name := "msg", type := 9, offset := 0, embedded := false, tag := "", pkgPath := "runtime", byteOffset := 0 }, { name := "addr", type := 12, offset := 1, embedded := false, tag := "", pkgPath := "runtime", byteOffset := 16 }]),
    (14, Go.TypeDesc.struct #[{ name := "msg", type := 9, offset := 0, embedded := false, tag := "", pkgPath := "runtime", byteOffset := 0 }, { name := "addr", type := 12, offset := 1, embedded := false, tag := "", pkgPath := "runtime", byteOffset := 16 }]),
    (15, Go.TypeDesc.pointer 133),
    (16, Go.TypeDesc.pointer 136),
    (17, Go.TypeDesc.pointer 146),
    (18, Go.TypeDesc.struct #[{ name := "typ", type := 17, offset := 0, embedded := false, tag := "", pkgPath := "internal/runtime/maps", byteOffset := 0 }]),
    (19, Go.TypeDesc.struct #[{ name := "typ", type := 17, offset := 0, embedded := false, tag := "", pkgPath := "internal/runtime/maps", byteOffset := 0 }]),
    (20, Go.TypeDesc.interface #[]),
    (21, Go.TypeDesc.int (Go.IntKind.i32)),
    (22, Go.TypeDesc.slice 5),
    (23, Go.TypeDesc.struct #[{ name := "W", type := 3, offset := 0, embedded := false, tag := "", pkgPath := "", byteOffset := 0 }, { name := "H", type := 3, offset := 1, embedded := false, tag := "", pkgPath := "", byteOffset := 8 }, { name := "Data", type := 22, offset := 2, embedded := false, tag := "", pkgPath := "", byteOffset := 16 }]),
    (24, Go.TypeDesc.struct #[{ name := "W", type := 3, offset := 0, embedded := false, tag := "", pkgPath := "", byteOffset := 0 }, { name := "H", type := 3, offset := 1, embedded := false, tag := "", pkgPath := "", byteOffset := 8 }, { name := "Data", type := 22, offset := 2, embedded := false, tag := "", pkgPath := "", byteOffset := 16 }]),
    (25, Go.TypeDesc.func #[] #[4] false),
    (26, Go.TypeDesc.struct #[{ name := "X", type := 3, offset := 0, embedded := false, tag := "", pkgPath := "", byteOffset := 0 }, { name := "Y", type := 3, offset := 1, embedded := false, tag := "", pkgPath := "", byteOffset := 8 }]),
    (27, Go.TypeDesc.struct #[{ name := "X", type := 3, offset := 0, embedded := false, tag := "", pkgPath := "", byteOffset := 0 }, { name := "Y", type := 3, offset := 1, embedded := false, tag := "", pkgPath := "", byteOffset := 8 }]),
    (28, Go.TypeDesc.int (Go.IntKind.i64)),
    (29, Go.TypeDesc.tuple #[27, 28]),
    (30, Go.TypeDesc.func #[24, 3] #[27, 28] false),
    (31, Go.TypeDesc.tuple #[24, 28]),
    (32, Go.TypeDesc.func #[3] #[24, 28] false),
    (33, Go.TypeDesc.func #[3, 3, 3] #[4] false),
    (34, Go.TypeDesc.func #[24, 28, 28] #[4] false),
    (35, Go.TypeDesc.slice 4),
    (36, Go.TypeDesc.func #[24, 24] #[4] false),
    (37, Go.TypeDesc.func #[3, 3, 35] #[24] false),
    (38, Go.TypeDesc.func #[24] #[28] false),
    (39, Go.TypeDesc.func #[4, 28, 28] #[4] false),
    (40, Go.TypeDesc.func #[24] #[4] false),
    (41, Go.TypeDesc.func #[24, 3, 3] #[4] false),
    (42, Go.TypeDesc.func #[24, 3] #[4] false),
    (43, Go.TypeDesc.slice 48),
    (44, Go.TypeDesc.tuple #[43, 28]),
    (45, Go.TypeDesc.func #[3, 3, 3] #[43, 28] false),
    (46, Go.TypeDesc.func #[3, 3] #[3] false),
    (47, Go.TypeDesc.struct #[{ name := "X", type := 3, offset := 0, embedded := false, tag := "", pkgPath := "", byteOffset := 0 }, { name := "W", type := 3, offset := 1, embedded := false, tag := "", pkgPath := "", byteOffset := 8 }, { name := "Kind", type := 3, offset := 2, embedded := false, tag := "", pkgPath := "", byteOffset := 16 }, { name := "Unit", type := 3, offset := 3, embedded := false, tag := "", pkgPath := "", byteOffset := 24 }, { name := "Zone", type := 3, offset := 4, embedded := false, tag := "", pkgPath := "", byteOffset := 32 }]),
    (48, Go.TypeDesc.struct #[{ name := "X", type := 3, offset := 0, embedded := false, tag := "", pkgPath := "", byteOffset := 0 }, { name := "W", type := 3, offset := 1, embedded := false, tag := "", pkgPath := "", byteOffset := 8 }, { name := "Kind", type := 3, offset := 2, embedded := false, tag := "", pkgPath := "", byteOffset := 16 }, { name := "Unit", type := 3, offset := 3, embedded := false, tag := "", pkgPath := "", byteOffset := 24 }, { name := "Zone", type := 3, offset := 4, embedded := false, tag := "", pkgPath := "", byteOffset := 32 }]),
    (49, Go.TypeDesc.slice 53),
    (50, Go.TypeDesc.tuple #[49, 28]),
    (51, Go.TypeDesc.func #[43, 3, 3, 3] #[49, 28] false),
    (52, Go.TypeDesc.struct #[{ name := "W", type := 3, offset := 0, embedded := false, tag := "", pkgPath := "", byteOffset := 0 }, { name := "H", type := 3, offset := 1, embedded := false, tag := "", pkgPath := "", byteOffset := 8 }, { name := "Pix", type := 22, offset := 2, embedded := false, tag := "", pkgPath := "", byteOffset := 16 }]),
    (53, Go.TypeDesc.struct #[{ name := "W", type := 3, offset := 0, embedded := false, tag := "", pkgPath := "", byteOffset := 0 }, { name := "H", type := 3, offset := 1, embedded := false, tag := "", pkgPath := "", byteOffset := 8 }, { name := "Pix", type := 22, offset := 2, embedded := false, tag := "", pkgPath := "", byteOffset := 16 }]),
    (54, Go.TypeDesc.func #[3, 3, 3, 3] #[4] false),
    (55, Go.TypeDesc.slice 24),
    (56, Go.TypeDesc.slice 63),
    (57, Go.TypeDesc.tuple #[56, 28]),
    (58, Go.TypeDesc.func #[43, 55] #[56, 28] false),
    (59, Go.TypeDesc.func #[43, 3, 3] #[28] false),
    (60, Go.TypeDesc.array 2 3),
    (61, Go.TypeDesc.array 2 48),
    (62, Go.TypeDesc.struct #[{ name := "Unit", type := 3, offset := 0, embedded := false, tag := "", pkgPath := "", byteOffset := 0 }, { name := "Zone", type := 3, offset := 1, embedded := false, tag := "", pkgPath := "", byteOffset := 8 }, { name := "Solid", type := 3, offset := 2, embedded := false, tag := "", pkgPath := "", byteOffset := 16 }, { name := "Tint", type := 3, offset := 3, embedded := false, tag := "", pkgPath := "", byteOffset := 24 }]),
    (63, Go.TypeDesc.struct #[{ name := "Unit", type := 3, offset := 0, embedded := false, tag := "", pkgPath := "", byteOffset := 0 }, { name := "Zone", type := 3, offset := 1, embedded := false, tag := "", pkgPath := "", byteOffset := 8 }, { name := "Solid", type := 3, offset := 2, embedded := false, tag := "", pkgPath := "", byteOffset := 16 }, { name := "Tint", type := 3, offset := 3, embedded := false, tag := "", pkgPath := "", byteOffset := 24 }]),
    (64, Go.TypeDesc.func #[43, 55] #[4] false),
    (65, Go.TypeDesc.func #[24, 3] #[24, 28] false),
    (66, Go.TypeDesc.func #[24, 3] #[24] false),
    (67, Go.TypeDesc.func #[24, 3, 3, 3] #[4] false),
    (68, Go.TypeDesc.tuple #[4, 28]),
    (69, Go.TypeDesc.func #[24, 3, 3] #[4, 28] false),
    (70, Go.TypeDesc.func #[24, 3, 3, 4] #[24, 28] false),
    (71, Go.TypeDesc.tuple #[3, 28]),
    (72, Go.TypeDesc.func #[24] #[3, 28] false),
    (73, Go.TypeDesc.func #[24, 3, 3, 4] #[4] false),
    (74, Go.TypeDesc.slice 77),
    (75, Go.TypeDesc.func #[3, 3, 74] #[24, 28] false),
    (76, Go.TypeDesc.struct #[{ name := "Y", type := 3, offset := 0, embedded := false, tag := "", pkgPath := "", byteOffset := 0 }, { name := "X0", type := 3, offset := 1, embedded := false, tag := "", pkgPath := "", byteOffset := 8 }, { name := "X1", type := 3, offset := 2, embedded := false, tag := "", pkgPath := "", byteOffset := 16 }]),
    (77, Go.TypeDesc.struct #[{ name := "Y", type := 3, offset := 0, embedded := false, tag := "", pkgPath := "", byteOffset := 0 }, { name := "X0", type := 3, offset := 1, embedded := false, tag := "", pkgPath := "", byteOffset := 8 }, { name := "X1", type := 3, offset := 2, embedded := false, tag := "", pkgPath := "", byteOffset := 16 }]),
    (78, Go.TypeDesc.func #[3, 3, 74] #[4] false),
    (79, Go.TypeDesc.func #[24, 3, 3, 3, 3] #[24, 28] false),
    (80, Go.TypeDesc.func #[24, 3, 3] #[24, 28] false),
    (81, Go.TypeDesc.func #[24, 3, 3, 3, 3] #[4] false),
    (82, Go.TypeDesc.func #[53, 3] #[24, 28] false),
    (83, Go.TypeDesc.func #[53] #[28] false),
    (84, Go.TypeDesc.tuple #[53, 28]),
    (85, Go.TypeDesc.func #[24, 5] #[53, 28] false),
    (86, Go.TypeDesc.func #[53, 3, 5] #[4] false),
    (87, Go.TypeDesc.struct #[{ name := "W", type := 3, offset := 0, embedded := false, tag := "", pkgPath := "", byteOffset := 0 }, { name := "H", type := 3, offset := 1, embedded := false, tag := "", pkgPath := "", byteOffset := 8 }, { name := "Pix", type := 22, offset := 2, embedded := false, tag := "", pkgPath := "", byteOffset := 16 }]),
    (88, Go.TypeDesc.func #[87, 87, 3] #[3, 28] false),
    (89, Go.TypeDesc.func #[87] #[28] false),
    (90, Go.TypeDesc.func #[87, 87, 3] #[4] false),
    (91, Go.TypeDesc.slice 3),
    (92, Go.TypeDesc.slice 27),
    (93, Go.TypeDesc.tuple #[87, 28]),
    (94, Go.TypeDesc.func #[55, 91, 92] #[87, 28] false),
    (95, Go.TypeDesc.func #[87, 28, 28] #[4] false),
    (96, Go.TypeDesc.func #[87, 3] #[24, 28] false),
    (97, Go.TypeDesc.func #[55, 91, 92, 3] #[4] false),
    (98, Go.TypeDesc.slice 102),
    (99, Go.TypeDesc.tuple #[91, 28]),
    (100, Go.TypeDesc.func #[87, 3] #[91, 28] false),
    (101, Go.TypeDesc.struct #[{ name := "L", type := 3, offset := 0, embedded := false, tag := "", pkgPath := "", byteOffset := 0 }, { name := "A", type := 3, offset := 1, embedded := false, tag := "", pkgPath := "", byteOffset := 8 }, { name := "B", type := 3, offset := 2, embedded := false, tag := "", pkgPath := "", byteOffset := 16 }]),
    (102, Go.TypeDesc.struct #[{ name := "L", type := 3, offset := 0, embedded := false, tag := "", pkgPath := "", byteOffset := 0 }, { name := "A", type := 3, offset := 1, embedded := false, tag := "", pkgPath := "", byteOffset := 8 }, { name := "B", type := 3, offset := 2, embedded := false, tag := "", pkgPath := "", byteOffset := 16 }]),
    (103, Go.TypeDesc.tuple #[102, 28]),
    (104, Go.TypeDesc.func #[87, 98] #[102, 28] false),
    (105, Go.TypeDesc.func #[102] #[28] false),
    (106, Go.TypeDesc.func #[87, 3, 98] #[4] false),
    (107, Go.TypeDesc.func #[22, 22] #[4] false),
    (108, Go.TypeDesc.func #[109, 3, 3] #[4] false),
    (109, Go.TypeDesc.pointer 24),
    (110, Go.TypeDesc.func #[3, 3] #[24] false),
    (111, Go.TypeDesc.func #[109, 3, 3] #[] false),
    (112, Go.TypeDesc.func #[109, 48] #[3] false),
    (113, Go.TypeDesc.func #[] #[24] false),
    (114, Go.TypeDesc.tuple #[74, 28]),
    (115, Go.TypeDesc.func #[24] #[74, 28] false),
    (116, Go.TypeDesc.func #[109, 3] #[24] false),
    (117, Go.TypeDesc.func #[3] #[3] false),
    (118, Go.TypeDesc.func #[5] #[3] false),
    (119, Go.TypeDesc.func #[3, 3, 120] #[24] false),
    (120, Go.TypeDesc.func #[3, 3] #[4] false),
    (121, Go.TypeDesc.func #[109, 3, 3] #[24] false),
    (122, Go.TypeDesc.func #[130] #[] false),
    (123, Go.TypeDesc.func #[130] #[] false),
    (124, Go.TypeDesc.func #[109, 3] #[123] false),
    (125, Go.TypeDesc.func #[] #[55] false),
    (126, Go.TypeDesc.func #[91, 91] #[4] false),
    (127, Go.TypeDesc.func #[128, 3, 3, 3] #[4] false),
    (128, Go.TypeDesc.pointer 87),
    (129, Go.TypeDesc.func #[55, 91, 92] #[28] false),
    (130, Go.TypeDesc.func #[77] #[4] false),
    (131, Go.TypeDesc.func #[] #[9] false),
    (132, Go.TypeDesc.struct #[{ name := "_interface", type := 17, offset := 0, embedded := false, tag := "", pkgPath := "runtime", byteOffset := 0 }, { name := "concrete", type := 17, offset := 1, embedded := false, tag := "", pkgPath := "runtime", byteOffset := 8 }, { name := "asserted", type := 17, offset := 2, embedded := false, tag := "", pkgPath := "runtime", byteOffset := 16 }, { name := "missingMethod", type := 9, offset := 3, embedded := false, tag := "", pkgPath := "runtime", byteOffset := 24 }]),
    (133, Go.TypeDesc.struct #[{ name := "_interface", type := 17, offset := 0, embedded := false, tag := "", pkgPath := "runtime", byteOffset := 0 }, { name := "concrete", type := 17, offset := 1, embedded := false, tag := "", pkgPath := "runtime", byteOffset := 8 }, { name := "asserted", type := 17, offset := 2, embedded := false, tag := "", pkgPath := "runtime", byteOffset := 16 }, { name := "missingMethod", type := 9, offset := 3, embedded := false, tag := "", pkgPath := "runtime", byteOffset := 24 }]),
    (134, Go.TypeDesc.array 0 16),
    (135, Go.TypeDesc.struct #[{ name := "_", type := 134, offset := 0, embedded := false, tag := "", pkgPath := "runtime", byteOffset := 0 }]),
    (136, Go.TypeDesc.struct #[{ name := "_", type := 134, offset := 0, embedded := false, tag := "", pkgPath := "runtime", byteOffset := 0 }]),
    (137, Go.TypeDesc.func #[] #[3] false),
    (138, Go.TypeDesc.int (Go.IntKind.u32)),
    (139, Go.TypeDesc.int (Go.IntKind.u8)),
    (140, Go.TypeDesc.int (Go.IntKind.u8)),
    (141, Go.TypeDesc.func #[147, 147] #[4] false),
    (142, Go.TypeDesc.pointer 5),
    (143, Go.TypeDesc.int (Go.IntKind.i32)),
    (144, Go.TypeDesc.int (Go.IntKind.i32)),
    (145, Go.TypeDesc.struct #[{ name := "Size_", type := 12, offset := 0, embedded := false, tag := "", pkgPath := "", byteOffset := 0 }, { name := "PtrBytes", type := 12, offset := 1, embedded := false, tag := "", pkgPath := "", byteOffset := 8 }, { name := "Hash", type := 138, offset := 2, embedded := false, tag := "", pkgPath := "", byteOffset := 16 }, { name := "TFlag", type := 139, offset := 3, embedded := false, tag := "", pkgPath := "", byteOffset := 20 }, { name := "Align_", type := 5, offset := 4, embedded := false, tag := "", pkgPath := "", byteOffset := 21 }, { name := "FieldAlign_", type := 5, offset := 5, embedded := false, tag := "", pkgPath := "", byteOffset := 22 }, { name := "Kind_", type := 140, offset := 6, embedded := false, tag := "", pkgPath := "", byteOffset := 23 }, { name := "Equal", type := 141, offset := 7, embedded := false, tag := "", pkgPath := "", byteOffset := 24 }, { name := "GCData", type := 142, offset := 8, embedded := false, tag := "", pkgPath := "", byteOffset := 32 }, { name := "Str", type := 143, offset := 9, embedded := false, tag := "", pkgPath := "", byteOffset := 40 }, { name := "PtrToThis", type := 144, offset := 10, embedded := false, tag := "", pkgPath := "", byteOffset := 44 }]),
    (146, Go.TypeDesc.struct #[{ name := "Size_", type := 12, offset := 0, embedded := false, tag := "", pkgPath := "", byteOffset := 0 }, { name := "PtrBytes", type := 12, offset := 1, embedded := false, tag := "", pkgPath := "", byteOffset := 8 }, { name := "Hash", type := 138, offset := 2, embedded := false, tag := "", pkgPath := "", byteOffset := 16 }, { name := "TFlag", type := 139, offset := 3, embedded := false, tag := "", pkgPath := "", byteOffset := 20 }, { name := "Align_", type := 5, offset := 4, embedded := false, tag := "", pkgPath := "", byteOffset := 21 }, { name := "FieldAlign_", type := 5, offset := 5, embedded := false, tag := "", pkgPath := "", byteOffset := 22 }, { name := "Kind_", type := 140, offset := 6, embedded := false, tag := "", pkgPath := "", byteOffset := 23 }, { name := "Equal", type := 141, offset := 7, embedded := false, tag := "", pkgPath := "", byteOffset := 24 }, { name := "GCData", type := 142, offset := 8, embedded := false, tag := "", pkgPath := "", byteOffset := 32 }, { name := "Str", type := 143, offset := 9, embedded := false, tag := "", pkgPath := "", byteOffset := 40 }, { name := "PtrToThis", type := 144, offset := 10, embedded := false, tag := "", pkgPath := "", byteOffset := 44 }]),
    (147, Go.TypeDesc.unsafePointer)],
  inf := [(1, (some (.nilFunc), 1, 8)),
    (2, (some (.int .i64 0), 1, 8)),
    (3, (some (.int .i64 0), 1, 8)),
    (4, (some (.bool false), 1, 1)),
    (5, (some (.int .u8 0), 1, 1)),
    (6, (some (.int .u8 0), 1, 1)),
    (7, (some (.agg #[.int .i64 0, .int .i64 0, .bool false, .int .u8 0]), 4, 24)),
    (8, (some (.agg #[.int .i64 0, .int .i64 0, .bool false, .int .u8 0]), 4, 24)),
    (9, (some (.string ByteArray.empty), 1, 16)),
    (10, (some (.string ByteArray.empty), 1, 16)),
    (11, (some (.string ByteArray.empty), 1, 16)),
    (12, (some (.int .u64 0), 1, 8)),
    (13, (some (.agg #[.string ByteArray.empty, .int .u64 0]), 2, 24)),
    (14, (some (.agg #[.string ByteArray.empty, .int .u64 0]), 2, 24)),
    (15, (some (.pointer none), 1, 8)),
    (16, (some (.pointer none), 1, 8)),
    (17, (some (.pointer none), 1, 8)),
    (18, (some (.agg #[.pointer none]), 1, 8)),
    (19, (some (.agg #[.pointer none]), 1, 8)),
    (20, (some (.nilIface), 1, 16)),
    (21, (some (.int .i32 0), 1, 4)),
    (22, (some (.slice none 0 0), 1, 24)),
    (23, (some (.agg #[.int .i64 0, .int .i64 0, .slice none 0 0]), 3, 40)),
    (24, (some (.agg #[.int .i64 0, .int .i64 0, .slice none 0 0]), 3, 40)),
    (25, (some (.nilFunc), 1, 8)),
    (26, (some (.agg #[.int .i64 0, .int .i64 0]), 2, 16)),
    (27, (some (.agg #[.int .i64 0, .int .i64 0]), 2, 16)),
    (28, (some (.int .i64 0), 1, 8)),
    (30, (some (.nilFunc), 1, 8)),
    (32, (some (.nilFunc), 1, 8)),
    (33, (some (.nilFunc), 1, 8)),
    (34, (some (.nilFunc), 1, 8)),
    (35, (some (.slice none 0 0), 1, 24)),
    (36, (some (.nilFunc), 1, 8)),
    (37, (some (.nilFunc), 1, 8)),
    (38, (some (.nilFunc), 1, 8)),
    (39, (some (.nilFunc), 1, 8)),
    (40, (some (.nilFunc), 1, 8)),
    (41, (some (.nilFunc), 1, 8)),
    (42, (some (.nilFunc), 1, 8)),
    (43, (some (.slice none 0 0), 1, 24)),
    (45, (some (.nilFunc), 1, 8)),
    (46, (some (.nilFunc), 1, 8)),
    (47, (some (.agg #[.int .i64 0, .int .i64 0, .int .i64 0, .int .i64 0, .int .i64 0]), 5, 40)),
    (48, (some (.agg #[.int .i64 0, .int .i64 0, .int .i64 0, .int .i64 0, .int .i64 0]), 5, 40)),
    (49, (some (.slice none 0 0), 1, 24)),
    (51, (some (.nilFunc), 1, 8)),
    (52, (some (.agg #[.int .i64 0, .int .i64 0, .slice none 0 0]), 3, 40)),
    (53, (some (.agg #[.int .i64 0, .int .i64 0, .slice none 0 0]), 3, 40)),
    (54, (some (.nilFunc), 1, 8)),
    (55, (some (.slice none 0 0), 1, 24)),
    (56, (some (.slice none 0 0), 1, 24)),
    (58, (some (.nilFunc), 1, 8)),
    (59, (some (.nilFunc), 1, 8)),
    (60, (some (.agg #[.int .i64 0, .int .i64 0]), 2, 16)),
    (61, (some (.agg #[.int .i64 0, .int .i64 0, .int .i64 0, .int .i64 0, .int .i64 0, .int .i64 0, .int .i64 0, .int .i64 0, .int .i64 0, .int .i64 0]), 10, 80)),
    (62, (some (.agg #[.int .i64 0, .int .i64 0, .int .i64 0, .int .i64 0]), 4, 32)),
    (63, (some (.agg #[.int .i64 0, .int .i64 0, .int .i64 0, .int .i64 0]), 4, 32)),
    (64, (some (.nilFunc), 1, 8)),
    (65, (some (.nilFunc), 1, 8)),
    (66, (some (.nilFunc), 1, 8)),
    (67, (some (.nilFunc), 1, 8)),
    (69, (some (.nilFunc), 1, 8)),
    (70, (some (.nilFunc), 1, 8)),
    (72, (some (.nilFunc), 1, 8)),
    (73, (some (.nilFunc), 1, 8)),
    (74, (some (.slice none 0 0), 1, 24)),
    (75, (some (.nilFunc), 1, 8)),
    (76, (some (.agg #[.int .i64 0, .int .i64 0, .int .i64 0]), 3, 24)),
    (77, (some (.agg #[.int .i64 0, .int .i64 0, .int .i64 0]), 3, 24)),
    (78, (some (.nilFunc), 1, 8)),
    (79, (some (.nilFunc), 1, 8)),
    (80, (some (.nilFunc), 1, 8)),
    (81, (some (.nilFunc), 1, 8)),
    (82, (some (.nilFunc), 1, 8)),
    (83, (some (.nilFunc), 1, 8)),
    (85, (some (.nilFunc), 1, 8)),
    (86, (some (.nilFunc), 1, 8)),
    (87, (some (.agg #[.int .i64 0, .int .i64 0, .slice none 0 0]), 3, 40)),
    (88, (some (.nilFunc), 1, 8)),
    (89, (some (.nilFunc), 1, 8)),
    (90, (some (.nilFunc), 1, 8)),
    (91, (some (.slice none 0 0), 1, 24)),
    (92, (some (.slice none 0 0), 1, 24)),
    (94, (some (.nilFunc), 1, 8)),
    (95, (some (.nilFunc), 1, 8)),
    (96, (some (.nilFunc), 1, 8)),
    (97, (some (.nilFunc), 1, 8)),
    (98, (some (.slice none 0 0), 1, 24)),
    (100, (some (.nilFunc), 1, 8)),
    (101, (some (.agg #[.int .i64 0, .int .i64 0, .int .i64 0]), 3, 24)),
    (102, (some (.agg #[.int .i64 0, .int .i64 0, .int .i64 0]), 3, 24)),
    (104, (some (.nilFunc), 1, 8)),
    (105, (some (.nilFunc), 1, 8)),
    (106, (some (.nilFunc), 1, 8)),
    (107, (some (.nilFunc), 1, 8)),
    (108, (some (.nilFunc), 1, 8)),
    (109, (some (.pointer none), 1, 8)),
    (110, (some (.nilFunc), 1, 8)),
    (111, (some (.nilFunc), 1, 8)),
    (112, (some (.nilFunc), 1, 8)),
    (113, (some (.nilFunc), 1, 8)),
    (115, (some (.nilFunc), 1, 8)),
    (116, (some (.nilFunc), 1, 8)),
    (117, (some (.nilFunc), 1, 8)),
    (118, (some (.nilFunc), 1, 8)),
    (119, (some (.nilFunc), 1, 8)),
    (120, (some (.nilFunc), 1, 8)),
    (121, (some (.nilFunc), 1, 8)),
    (122, (some (.nilFunc), 1, 8)),
    (123, (some (.nilFunc), 1, 8)),
    (124, (some (.nilFunc), 1, 8)),
    (125, (some (.nilFunc), 1, 8)),
    (126, (some (.nilFunc), 1, 8)),
    (127, (some (.nilFunc), 1, 8)),
    (128, (some (.pointer none), 1, 8)),
    (129, (some (.nilFunc), 1, 8)),
    (130, (some (.nilFunc), 1, 8)),
    (131, (some (.nilFunc), 1, 8)),
    (132, (some (.agg #[.pointer none, .pointer none, .pointer none, .string ByteArray.empty]), 4, 40)),
    (133, (some (.agg #[.pointer none, .pointer none, .pointer none, .string ByteArray.empty]), 4, 40)),
    (134, (some (.agg #[]), 0, 0)),
    (135, (some (.agg #[]), 0, 0)),
    (136, (some (.agg #[]), 0, 0)),
    (137, (some (.nilFunc), 1, 8)),
    (138, (some (.int .u32 0), 1, 4)),
    (139, (some (.int .u8 0), 1, 1)),
    (140, (some (.int .u8 0), 1, 1)),
    (141, (some (.nilFunc), 1, 8)),
    (142, (some (.pointer none), 1, 8)),
    (143, (some (.int .i32 0), 1, 4)),
    (144, (some (.int .i32 0), 1, 4)),
    (145, (some (.agg #[.int .u64 0, .int .u64 0, .int .u32 0, .int .u8 0, .int .u8 0, .int .u8 0, .int .u8 0, .nilFunc, .pointer none, .int .i32 0, .int .i32 0]), 11, 48)),
    (146, (some (.agg #[.int .u64 0, .int .u64 0, .int .u32 0, .int .u8 0, .int .u8 0, .int .u8 0, .int .u8 0, .nilFunc, .pointer none, .int .i32 0, .int .i32 0]), 11, 48)),
    (147, (some (.pointer none), 1, 8))],
  fld := [(7, [(0, (1, false)), (1, (1, false)), (2, (1, false)), (3, (1, false))]),
    (8, [(0, (1, false)), (1, (1, false)), (2, (1, false)), (3, (1, false))]),
    (13, [(0, (1, false)), (1, (1, false))]),
    (14, [(0, (1, false)), (1, (1, false))]),
    (18, [(0, (1, false))]),
    (19, [(0, (1, false))]),
    (23, [(0, (1, false)), (1, (1, false)), (2, (1, false))]),
    (24, [(0, (1, false)), (1, (1, false)), (2, (1, false))]),
    (26, [(0, (1, false)), (1, (1, false))]),
    (27, [(0, (1, false)), (1, (1, false))]),
    (47, [(0, (1, false)), (1, (1, false)), (2, (1, false)), (3, (1, false)), (4, (1, false))]),
    (48, [(0, (1, false)), (1, (1, false)), (2, (1, false)), (3, (1, false)), (4, (1, false))]),
    (52, [(0, (1, false)), (1, (1, false)), (2, (1, false))]),
    (53, [(0, (1, false)), (1, (1, false)), (2, (1, false))]),
    (62, [(0, (1, false)), (1, (1, false)), (2, (1, false)), (3, (1, false))]),
    (63, [(0, (1, false)), (1, (1, false)), (2, (1, false)), (3, (1, false))]),
    (76, [(0, (1, false)), (1, (1, false)), (2, (1, false))]),
    (77, [(0, (1, false)), (1, (1, false)), (2, (1, false))]),
    (87, [(0, (1, false)), (1, (1, false)), (2, (1, false))]),
    (101, [(0, (1, false)), (1, (1, false)), (2, (1, false))]),
    (102, [(0, (1, false)), (1, (1, false)), (2, (1, false))]),
    (132, [(0, (1, false)), (1, (1, false)), (2, (1, false)), (3, (1, false))]),
    (133, [(0, (1, false)), (1, (1, false)), (2, (1, false)), (3, (1, false))]),
    (135, [(0, (0, true))]),
    (136, [(0, (0, true))]),
    (145, [(0, (1, false)), (1, (1, false)), (2, (1, false)), (3, (1, false)), (4, (1, false)), (5, (1, false)), (6, (1, false)), (7, (1, false)), (8, (1, false)), (9, (1, false)), (10, (1, false))]),
    (146, [(0, (1, false)), (1, (1, false)), (2, (1, false)), (3, (1, false)), (4, (1, false)), (5, (1, false)), (6, (1, false)), (7, (1, false)), (8, (1, false)), (9, (1, false)), (10, (1, false))])],
  eqs := [(26, 2), (27, 2), (47, 5), (48, 5), (62, 4), (63, 4), (76, 3), (77, 3), (101, 3), (102, 3)] }
theorem ty_1 : tyI Try.prog 1 = some (some (.nilFunc), 1, 8) := by kernel_rfl
theorem ty_2 : tyI Try.prog 2 = some (some (.int .i64 0), 1, 8) := by kernel_rfl
theorem ty_3 : tyI Try.prog 3 = some (some (.int .i64 0), 1, 8) := by kernel_rfl
theorem ty_4 : tyI Try.prog 4 = some (some (.bool false), 1, 1) := by kernel_rfl
theorem ty_5 : tyI Try.prog 5 = some (some (.int .u8 0), 1, 1) := by kernel_rfl
theorem ty_6 : tyI Try.prog 6 = some (some (.int .u8 0), 1, 1) := by kernel_rfl
theorem ty_7 : tyI Try.prog 7 = some (some (.agg #[.int .i64 0, .int .i64 0, .bool false, .int .u8 0]), 4, 24) := by kernel_rfl
theorem ty_8 : tyI Try.prog 8 = some (some (.agg #[.int .i64 0, .int .i64 0, .bool false, .int .u8 0]), 4, 24) := by kernel_rfl
theorem ty_9 : tyI Try.prog 9 = some (some (.string ByteArray.empty), 1, 16) := by kernel_rfl
theorem ty_10 : tyI Try.prog 10 = some (some (.string ByteArray.empty), 1, 16) := by kernel_rfl
theorem ty_11 : tyI Try.prog 11 = some (some (.string ByteArray.empty), 1, 16) := by kernel_rfl
theorem ty_12 : tyI Try.prog 12 = some (some (.int .u64 0), 1, 8) := by kernel_rfl
theorem ty_13 : tyI Try.prog 13 = some (some (.agg #[.string ByteArray.empty, .int .u64 0]), 2, 24) := by kernel_rfl
theorem ty_14 : tyI Try.prog 14 = some (some (.agg #[.string ByteArray.empty, .int .u64 0]), 2, 24) := by kernel_rfl
theorem ty_15 : tyI Try.prog 15 = some (some (.pointer none), 1, 8) := by kernel_rfl
theorem ty_16 : tyI Try.prog 16 = some (some (.pointer none), 1, 8) := by kernel_rfl
theorem ty_17 : tyI Try.prog 17 = some (some (.pointer none), 1, 8) := by kernel_rfl
theorem ty_18 : tyI Try.prog 18 = some (some (.agg #[.pointer none]), 1, 8) := by kernel_rfl
theorem ty_19 : tyI Try.prog 19 = some (some (.agg #[.pointer none]), 1, 8) := by kernel_rfl
theorem ty_20 : tyI Try.prog 20 = some (some (.nilIface), 1, 16) := by kernel_rfl
theorem ty_21 : tyI Try.prog 21 = some (some (.int .i32 0), 1, 4) := by kernel_rfl
theorem ty_22 : tyI Try.prog 22 = some (some (.slice none 0 0), 1, 24) := by kernel_rfl
theorem ty_23 : tyI Try.prog 23 = some (some (.agg #[.int .i64 0, .int .i64 0, .slice none 0 0]), 3, 40) := by kernel_rfl
theorem ty_24 : tyI Try.prog 24 = some (some (.agg #[.int .i64 0, .int .i64 0, .slice none 0 0]), 3, 40) := by kernel_rfl
theorem ty_25 : tyI Try.prog 25 = some (some (.nilFunc), 1, 8) := by kernel_rfl
theorem ty_26 : tyI Try.prog 26 = some (some (.agg #[.int .i64 0, .int .i64 0]), 2, 16) := by kernel_rfl
theorem ty_27 : tyI Try.prog 27 = some (some (.agg #[.int .i64 0, .int .i64 0]), 2, 16) := by kernel_rfl
theorem ty_28 : tyI Try.prog 28 = some (some (.int .i64 0), 1, 8) := by kernel_rfl
theorem ty_30 : tyI Try.prog 30 = some (some (.nilFunc), 1, 8) := by kernel_rfl
theorem ty_32 : tyI Try.prog 32 = some (some (.nilFunc), 1, 8) := by kernel_rfl
theorem ty_33 : tyI Try.prog 33 = some (some (.nilFunc), 1, 8) := by kernel_rfl
theorem ty_34 : tyI Try.prog 34 = some (some (.nilFunc), 1, 8) := by kernel_rfl
theorem ty_35 : tyI Try.prog 35 = some (some (.slice none 0 0), 1, 24) := by kernel_rfl
theorem ty_36 : tyI Try.prog 36 = some (some (.nilFunc), 1, 8) := by kernel_rfl
theorem ty_37 : tyI Try.prog 37 = some (some (.nilFunc), 1, 8) := by kernel_rfl
theorem ty_38 : tyI Try.prog 38 = some (some (.nilFunc), 1, 8) := by kernel_rfl
theorem ty_39 : tyI Try.prog 39 = some (some (.nilFunc), 1, 8) := by kernel_rfl
theorem ty_40 : tyI Try.prog 40 = some (some (.nilFunc), 1, 8) := by kernel_rfl
theorem ty_41 : tyI Try.prog 41 = some (some (.nilFunc), 1, 8) := by kernel_rfl
theorem ty_42 : tyI Try.prog 42 = some (some (.nilFunc), 1, 8) := by kernel_rfl
theorem ty_43 : tyI Try.prog 43 = some (some (.slice none 0 0), 1, 24) := by kernel_rfl
theorem ty_45 : tyI Try.prog 45 = some (some (.nilFunc), 1, 8) := by kernel_rfl
theorem ty_46 : tyI Try.prog 46 = some (some (.nilFunc), 1, 8) := by kernel_rfl
theorem ty_47 : tyI Try.prog 47 = some (some (.agg #[.int .i64 0, .int .i64 0, .int .i64 0, .int .i64 0, .int .i64 0]), 5, 40) := by kernel_rfl
theorem ty_48 : tyI Try.prog 48 = some (some (.agg #[.int .i64 0, .int .i64 0, .int .i64 0, .int .i64 0, .int .i64 0]), 5, 40) := by kernel_rfl
theorem ty_49 : tyI Try.prog 49 = some (some (.slice none 0 0), 1, 24) := by kernel_rfl
theorem ty_51 : tyI Try.prog 51 = some (some (.nilFunc), 1, 8) := by kernel_rfl
theorem ty_52 : tyI Try.prog 52 = some (some (.agg #[.int .i64 0, .int .i64 0, .slice none 0 0]), 3, 40) := by kernel_rfl
theorem ty_53 : tyI Try.prog 53 = some (some (.agg #[.int .i64 0, .int .i64 0, .slice none 0 0]), 3, 40) := by kernel_rfl
theorem ty_54 : tyI Try.prog 54 = some (some (.nilFunc), 1, 8) := by kernel_rfl
theorem ty_55 : tyI Try.prog 55 = some (some (.slice none 0 0), 1, 24) := by kernel_rfl
theorem ty_56 : tyI Try.prog 56 = some (some (.slice none 0 0), 1, 24) := by kernel_rfl
theorem ty_58 : tyI Try.prog 58 = some (some (.nilFunc), 1, 8) := by kernel_rfl
theorem ty_59 : tyI Try.prog 59 = some (some (.nilFunc), 1, 8) := by kernel_rfl
theorem ty_60 : tyI Try.prog 60 = some (some (.agg #[.int .i64 0, .int .i64 0]), 2, 16) := by kernel_rfl
theorem ty_61 : tyI Try.prog 61 = some (some (.agg #[.int .i64 0, .int .i64 0, .int .i64 0, .int .i64 0, .int .i64 0, .int .i64 0, .int .i64 0, .int .i64 0, .int .i64 0, .int .i64 0]), 10, 80) := by kernel_rfl
theorem ty_62 : tyI Try.prog 62 = some (some (.agg #[.int .i64 0, .int .i64 0, .int .i64 0, .int .i64 0]), 4, 32) := by kernel_rfl
theorem ty_63 : tyI Try.prog 63 = some (some (.agg #[.int .i64 0, .int .i64 0, .int .i64 0, .int .i64 0]), 4, 32) := by kernel_rfl
theorem ty_64 : tyI Try.prog 64 = some (some (.nilFunc), 1, 8) := by kernel_rfl
theorem ty_65 : tyI Try.prog 65 = some (some (.nilFunc), 1, 8) := by kernel_rfl
theorem ty_66 : tyI Try.prog 66 = some (some (.nilFunc), 1, 8) := by kernel_rfl
theorem ty_67 : tyI Try.prog 67 = some (some (.nilFunc), 1, 8) := by kernel_rfl
theorem ty_69 : tyI Try.prog 69 = some (some (.nilFunc), 1, 8) := by kernel_rfl
theorem ty_70 : tyI Try.prog 70 = some (some (.nilFunc), 1, 8) := by kernel_rfl
theorem ty_72 : tyI Try.prog 72 = some (some (.nilFunc), 1, 8) := by kernel_rfl
theorem ty_73 : tyI Try.prog 73 = some (some (.nilFunc), 1, 8) := by kernel_rfl
theorem ty_74 : tyI Try.prog 74 = some (some (.slice none 0 0), 1, 24) := by kernel_rfl
theorem ty_75 : tyI Try.prog 75 = some (some (.nilFunc), 1, 8) := by kernel_rfl
theorem ty_76 : tyI Try.prog 76 = some (some (.agg #[.int .i64 0, .int .i64 0, .int .i64 0]), 3, 24) := by kernel_rfl
theorem ty_77 : tyI Try.prog 77 = some (some (.agg #[.int .i64 0, .int .i64 0, .int .i64 0]), 3, 24) := by kernel_rfl
theorem ty_78 : tyI Try.prog 78 = some (some (.nilFunc), 1, 8) := by kernel_rfl
theorem ty_79 : tyI Try.prog 79 = some (some (.nilFunc), 1, 8) := by kernel_rfl
theorem ty_80 : tyI Try.prog 80 = some (some (.nilFunc), 1, 8) := by kernel_rfl
theorem ty_81 : tyI Try.prog 81 = some (some (.nilFunc), 1, 8) := by kernel_rfl
theorem ty_82 : tyI Try.prog 82 = some (some (.nilFunc), 1, 8) := by kernel_rfl
theorem ty_83 : tyI Try.prog 83 = some (some (.nilFunc), 1, 8) := by kernel_rfl
theorem ty_85 : tyI Try.prog 85 = some (some (.nilFunc), 1, 8) := by kernel_rfl
theorem ty_86 : tyI Try.prog 86 = some (some (.nilFunc), 1, 8) := by kernel_rfl
theorem ty_87 : tyI Try.prog 87 = some (some (.agg #[.int .i64 0, .int .i64 0, .slice none 0 0]), 3, 40) := by kernel_rfl
theorem ty_88 : tyI Try.prog 88 = some (some (.nilFunc), 1, 8) := by kernel_rfl
theorem ty_89 : tyI Try.prog 89 = some (some (.nilFunc), 1, 8) := by kernel_rfl
theorem ty_90 : tyI Try.prog 90 = some (some (.nilFunc), 1, 8) := by kernel_rfl
theorem ty_91 : tyI Try.prog 91 = some (some (.slice none 0 0), 1, 24) := by kernel_rfl
theorem ty_92 : tyI Try.prog 92 = some (some (.slice none 0 0), 1, 24) := by kernel_rfl
theorem ty_94 : tyI Try.prog 94 = some (some (.nilFunc), 1, 8) := by kernel_rfl
theorem ty_95 : tyI Try.prog 95 = some (some (.nilFunc), 1, 8) := by kernel_rfl
theorem ty_96 : tyI Try.prog 96 = some (some (.nilFunc), 1, 8) := by kernel_rfl
theorem ty_97 : tyI Try.prog 97 = some (some (.nilFunc), 1, 8) := by kernel_rfl
theorem ty_98 : tyI Try.prog 98 = some (some (.slice none 0 0), 1, 24) := by kernel_rfl
theorem ty_100 : tyI Try.prog 100 = some (some (.nilFunc), 1, 8) := by kernel_rfl
theorem ty_101 : tyI Try.prog 101 = some (some (.agg #[.int .i64 0, .int .i64 0, .int .i64 0]), 3, 24) := by kernel_rfl
theorem ty_102 : tyI Try.prog 102 = some (some (.agg #[.int .i64 0, .int .i64 0, .int .i64 0]), 3, 24) := by kernel_rfl
theorem ty_104 : tyI Try.prog 104 = some (some (.nilFunc), 1, 8) := by kernel_rfl
theorem ty_105 : tyI Try.prog 105 = some (some (.nilFunc), 1, 8) := by kernel_rfl
theorem ty_106 : tyI Try.prog 106 = some (some (.nilFunc), 1, 8) := by kernel_rfl
theorem ty_107 : tyI Try.prog 107 = some (some (.nilFunc), 1, 8) := by kernel_rfl
theorem ty_108 : tyI Try.prog 108 = some (some (.nilFunc), 1, 8) := by kernel_rfl
theorem ty_109 : tyI Try.prog 109 = some (some (.pointer none), 1, 8) := by kernel_rfl
theorem ty_110 : tyI Try.prog 110 = some (some (.nilFunc), 1, 8) := by kernel_rfl
theorem ty_111 : tyI Try.prog 111 = some (some (.nilFunc), 1, 8) := by kernel_rfl
theorem ty_112 : tyI Try.prog 112 = some (some (.nilFunc), 1, 8) := by kernel_rfl
theorem ty_113 : tyI Try.prog 113 = some (some (.nilFunc), 1, 8) := by kernel_rfl
theorem ty_115 : tyI Try.prog 115 = some (some (.nilFunc), 1, 8) := by kernel_rfl
theorem ty_116 : tyI Try.prog 116 = some (some (.nilFunc), 1, 8) := by kernel_rfl
theorem ty_117 : tyI Try.prog 117 = some (some (.nilFunc), 1, 8) := by kernel_rfl
theorem ty_118 : tyI Try.prog 118 = some (some (.nilFunc), 1, 8) := by kernel_rfl
theorem ty_119 : tyI Try.prog 119 = some (some (.nilFunc), 1, 8) := by kernel_rfl
theorem ty_120 : tyI Try.prog 120 = some (some (.nilFunc), 1, 8) := by kernel_rfl
theorem ty_121 : tyI Try.prog 121 = some (some (.nilFunc), 1, 8) := by kernel_rfl
theorem ty_122 : tyI Try.prog 122 = some (some (.nilFunc), 1, 8) := by kernel_rfl
theorem ty_123 : tyI Try.prog 123 = some (some (.nilFunc), 1, 8) := by kernel_rfl
theorem ty_124 : tyI Try.prog 124 = some (some (.nilFunc), 1, 8) := by kernel_rfl
theorem ty_125 : tyI Try.prog 125 = some (some (.nilFunc), 1, 8) := by kernel_rfl
theorem ty_126 : tyI Try.prog 126 = some (some (.nilFunc), 1, 8) := by kernel_rfl
theorem ty_127 : tyI Try.prog 127 = some (some (.nilFunc), 1, 8) := by kernel_rfl
theorem ty_128 : tyI Try.prog 128 = some (some (.pointer none), 1, 8) := by kernel_rfl
theorem ty_129 : tyI Try.prog 129 = some (some (.nilFunc), 1, 8) := by kernel_rfl
theorem ty_130 : tyI Try.prog 130 = some (some (.nilFunc), 1, 8) := by kernel_rfl
theorem ty_131 : tyI Try.prog 131 = some (some (.nilFunc), 1, 8) := by kernel_rfl
theorem ty_132 : tyI Try.prog 132 = some (some (.agg #[.pointer none, .pointer none, .pointer none, .string ByteArray.empty]), 4, 40) := by kernel_rfl
theorem ty_133 : tyI Try.prog 133 = some (some (.agg #[.pointer none, .pointer none, .pointer none, .string ByteArray.empty]), 4, 40) := by kernel_rfl
theorem ty_134 : tyI Try.prog 134 = some (some (.agg #[]), 0, 0) := by kernel_rfl
theorem ty_135 : tyI Try.prog 135 = some (some (.agg #[]), 0, 0) := by kernel_rfl
theorem ty_136 : tyI Try.prog 136 = some (some (.agg #[]), 0, 0) := by kernel_rfl
theorem ty_137 : tyI Try.prog 137 = some (some (.nilFunc), 1, 8) := by kernel_rfl
theorem ty_138 : tyI Try.prog 138 = some (some (.int .u32 0), 1, 4) := by kernel_rfl
theorem ty_139 : tyI Try.prog 139 = some (some (.int .u8 0), 1, 1) := by kernel_rfl
theorem ty_140 : tyI Try.prog 140 = some (some (.int .u8 0), 1, 1) := by kernel_rfl
theorem ty_141 : tyI Try.prog 141 = some (some (.nilFunc), 1, 8) := by kernel_rfl
theorem ty_142 : tyI Try.prog 142 = some (some (.pointer none), 1, 8) := by kernel_rfl
theorem ty_143 : tyI Try.prog 143 = some (some (.int .i32 0), 1, 4) := by kernel_rfl
theorem ty_144 : tyI Try.prog 144 = some (some (.int .i32 0), 1, 4) := by kernel_rfl
theorem ty_145 : tyI Try.prog 145 = some (some (.agg #[.int .u64 0, .int .u64 0, .int .u32 0, .int .u8 0, .int .u8 0, .int .u8 0, .int .u8 0, .nilFunc, .pointer none, .int .i32 0, .int .i32 0]), 11, 48) := by kernel_rfl
theorem ty_146 : tyI Try.prog 146 = some (some (.agg #[.int .u64 0, .int .u64 0, .int .u32 0, .int .u8 0, .int .u8 0, .int .u8 0, .int .u8 0, .nilFunc, .pointer none, .int .i32 0, .int .i32 0]), 11, 48) := by kernel_rfl
theorem ty_147 : tyI Try.prog 147 = some (some (.pointer none), 1, 8) := by kernel_rfl
theorem fl_7 : fieldsP Try.prog 7 = some [(0, (1, false)), (1, (1, false)), (2, (1, false)), (3, (1, false))] := by kernel_rfl
theorem fl_8 : fieldsP Try.prog 8 = some [(0, (1, false)), (1, (1, false)), (2, (1, false)), (3, (1, false))] := by kernel_rfl
theorem fl_13 : fieldsP Try.prog 13 = some [(0, (1, false)), (1, (1, false))] := by kernel_rfl
theorem fl_14 : fieldsP Try.prog 14 = some [(0, (1, false)), (1, (1, false))] := by kernel_rfl
theorem fl_18 : fieldsP Try.prog 18 = some [(0, (1, false))] := by kernel_rfl
theorem fl_19 : fieldsP Try.prog 19 = some [(0, (1, false))] := by kernel_rfl
theorem fl_23 : fieldsP Try.prog 23 = some [(0, (1, false)), (1, (1, false)), (2, (1, false))] := by kernel_rfl
theorem fl_24 : fieldsP Try.prog 24 = some [(0, (1, false)), (1, (1, false)), (2, (1, false))] := by kernel_rfl
theorem fl_26 : fieldsP Try.prog 26 = some [(0, (1, false)), (1, (1, false))] := by kernel_rfl
theorem fl_27 : fieldsP Try.prog 27 = some [(0, (1, false)), (1, (1, false))] := by kernel_rfl
theorem fl_47 : fieldsP Try.prog 47 = some [(0, (1, false)), (1, (1, false)), (2, (1, false)), (3, (1, false)), (4, (1, false))] := by kernel_rfl
theorem fl_48 : fieldsP Try.prog 48 = some [(0, (1, false)), (1, (1, false)), (2, (1, false)), (3, (1, false)), (4, (1, false))] := by kernel_rfl
theorem fl_52 : fieldsP Try.prog 52 = some [(0, (1, false)), (1, (1, false)), (2, (1, false))] := by kernel_rfl
theorem fl_53 : fieldsP Try.prog 53 = some [(0, (1, false)), (1, (1, false)), (2, (1, false))] := by kernel_rfl
theorem fl_62 : fieldsP Try.prog 62 = some [(0, (1, false)), (1, (1, false)), (2, (1, false)), (3, (1, false))] := by kernel_rfl
theorem fl_63 : fieldsP Try.prog 63 = some [(0, (1, false)), (1, (1, false)), (2, (1, false)), (3, (1, false))] := by kernel_rfl
theorem fl_76 : fieldsP Try.prog 76 = some [(0, (1, false)), (1, (1, false)), (2, (1, false))] := by kernel_rfl
theorem fl_77 : fieldsP Try.prog 77 = some [(0, (1, false)), (1, (1, false)), (2, (1, false))] := by kernel_rfl
theorem fl_87 : fieldsP Try.prog 87 = some [(0, (1, false)), (1, (1, false)), (2, (1, false))] := by kernel_rfl
theorem fl_101 : fieldsP Try.prog 101 = some [(0, (1, false)), (1, (1, false)), (2, (1, false))] := by kernel_rfl
theorem fl_102 : fieldsP Try.prog 102 = some [(0, (1, false)), (1, (1, false)), (2, (1, false))] := by kernel_rfl
theorem fl_132 : fieldsP Try.prog 132 = some [(0, (1, false)), (1, (1, false)), (2, (1, false)), (3, (1, false))] := by kernel_rfl
theorem fl_133 : fieldsP Try.prog 133 = some [(0, (1, false)), (1, (1, false)), (2, (1, false)), (3, (1, false))] := by kernel_rfl
theorem fl_135 : fieldsP Try.prog 135 = some [(0, (0, true))] := by kernel_rfl
theorem fl_136 : fieldsP Try.prog 136 = some [(0, (0, true))] := by kernel_rfl
theorem fl_145 : fieldsP Try.prog 145 = some [(0, (1, false)), (1, (1, false)), (2, (1, false)), (3, (1, false)), (4, (1, false)), (5, (1, false)), (6, (1, false)), (7, (1, false)), (8, (1, false)), (9, (1, false)), (10, (1, false))] := by kernel_rfl
theorem fl_146 : fieldsP Try.prog 146 = some [(0, (1, false)), (1, (1, false)), (2, (1, false)), (3, (1, false)), (4, (1, false)), (5, (1, false)), (6, (1, false)), (7, (1, false)), (8, (1, false)), (9, (1, false)), (10, (1, false))] := by kernel_rfl
theorem eq_26 : eqInts Try.prog 26 = true ∧ (match Try.prog.underlying 26 with | some (.struct fs) => fs.size | _ => 0) = 2 := ⟨by kernel_rfl, by rw [Try.underlying26]; rfl⟩
theorem eq_27 : eqInts Try.prog 27 = true ∧ (match Try.prog.underlying 27 with | some (.struct fs) => fs.size | _ => 0) = 2 := ⟨by kernel_rfl, by rw [Try.underlying27]; rfl⟩
theorem eq_47 : eqInts Try.prog 47 = true ∧ (match Try.prog.underlying 47 with | some (.struct fs) => fs.size | _ => 0) = 5 := ⟨by kernel_rfl, by rw [Try.underlying47]; rfl⟩
theorem eq_48 : eqInts Try.prog 48 = true ∧ (match Try.prog.underlying 48 with | some (.struct fs) => fs.size | _ => 0) = 5 := ⟨by kernel_rfl, by rw [Try.underlying48]; rfl⟩
theorem eq_62 : eqInts Try.prog 62 = true ∧ (match Try.prog.underlying 62 with | some (.struct fs) => fs.size | _ => 0) = 4 := ⟨by kernel_rfl, by rw [Try.underlying62]; rfl⟩
theorem eq_63 : eqInts Try.prog 63 = true ∧ (match Try.prog.underlying 63 with | some (.struct fs) => fs.size | _ => 0) = 4 := ⟨by kernel_rfl, by rw [Try.underlying63]; rfl⟩
theorem eq_76 : eqInts Try.prog 76 = true ∧ (match Try.prog.underlying 76 with | some (.struct fs) => fs.size | _ => 0) = 3 := ⟨by kernel_rfl, by rw [Try.underlying76]; rfl⟩
theorem eq_77 : eqInts Try.prog 77 = true ∧ (match Try.prog.underlying 77 with | some (.struct fs) => fs.size | _ => 0) = 3 := ⟨by kernel_rfl, by rw [Try.underlying77]; rfl⟩
theorem eq_101 : eqInts Try.prog 101 = true ∧ (match Try.prog.underlying 101 with | some (.struct fs) => fs.size | _ => 0) = 3 := ⟨by kernel_rfl, by rw [Try.underlying101]; rfl⟩
theorem eq_102 : eqInts Try.prog 102 = true ∧ (match Try.prog.underlying 102 with | some (.struct fs) => fs.size | _ => 0) = 3 := ⟨by kernel_rfl, by rw [Try.underlying102]; rfl⟩
theorem tab_und : allP (fun k D => Try.prog.underlying k = some D) tab.und := ⟨Try.underlying0, ⟨Try.underlying1, ⟨Try.underlying2, ⟨Try.underlying3, ⟨Try.underlying4, ⟨Try.underlying5, ⟨Try.underlying6, ⟨Try.underlying7, ⟨Try.underlying8, ⟨Try.underlying9, ⟨Try.underlying10, ⟨Try.underlying11, ⟨Try.underlying12, ⟨Try.underlying13, ⟨Try.underlying14, ⟨Try.underlying15, ⟨Try.underlying16, ⟨Try.underlying17, ⟨Try.underlying18, ⟨Try.underlying19, ⟨Try.underlying20, ⟨Try.underlying21, ⟨Try.underlying22, ⟨Try.underlying23, ⟨Try.underlying24, ⟨Try.underlying25, ⟨Try.underlying26, ⟨Try.underlying27, ⟨Try.underlying28, ⟨Try.underlying29, ⟨Try.underlying30, ⟨Try.underlying31, ⟨Try.underlying32, ⟨Try.underlying33, ⟨Try.underlying34, ⟨Try.underlying35, ⟨Try.underlying36, ⟨Try.underlying37, ⟨Try.underlying38, ⟨Try.underlying39, ⟨Try.underlying40, ⟨Try.underlying41, ⟨Try.underlying42, ⟨Try.underlying43, ⟨Try.underlying44, ⟨Try.underlying45, ⟨Try.underlying46, ⟨Try.underlying47, ⟨Try.underlying48, ⟨Try.underlying49, ⟨Try.underlying50, ⟨Try.underlying51, ⟨Try.underlying52, ⟨Try.underlying53, ⟨Try.underlying54, ⟨Try.underlying55, ⟨Try.underlying56, ⟨Try.underlying57, ⟨Try.underlying58, ⟨Try.underlying59, ⟨Try.underlying60, ⟨Try.underlying61, ⟨Try.underlying62, ⟨Try.underlying63, ⟨Try.underlying64, ⟨Try.underlying65, ⟨Try.underlying66, ⟨Try.underlying67, ⟨Try.underlying68, ⟨Try.underlying69, ⟨Try.underlying70, ⟨Try.underlying71, ⟨Try.underlying72, ⟨Try.underlying73, ⟨Try.underlying74, ⟨Try.underlying75, ⟨Try.underlying76, ⟨Try.underlying77, ⟨Try.underlying78, ⟨Try.underlying79, ⟨Try.underlying80, ⟨Try.underlying81, ⟨Try.underlying82, ⟨Try.underlying83, ⟨Try.underlying84, ⟨Try.underlying85, ⟨Try.underlying86, ⟨Try.underlying87, ⟨Try.underlying88, ⟨Try.underlying89, ⟨Try.underlying90, ⟨Try.underlying91, ⟨Try.underlying92, ⟨Try.underlying93, ⟨Try.underlying94, ⟨Try.underlying95, ⟨Try.underlying96, ⟨Try.underlying97, ⟨Try.underlying98, ⟨Try.underlying99, ⟨Try.underlying100, ⟨Try.underlying101, ⟨Try.underlying102, ⟨Try.underlying103, ⟨Try.underlying104, ⟨Try.underlying105, ⟨Try.underlying106, ⟨Try.underlying107, ⟨Try.underlying108, ⟨Try.underlying109, ⟨Try.underlying110, ⟨Try.underlying111, ⟨Try.underlying112, ⟨Try.underlying113, ⟨Try.underlying114, ⟨Try.underlying115, ⟨Try.underlying116, ⟨Try.underlying117, ⟨Try.underlying118, ⟨Try.underlying119, ⟨Try.underlying120, ⟨Try.underlying121, ⟨Try.underlying122, ⟨Try.underlying123, ⟨Try.underlying124, ⟨Try.underlying125, ⟨Try.underlying126, ⟨Try.underlying127, ⟨Try.underlying128, ⟨Try.underlying129, ⟨Try.underlying130, ⟨Try.underlying131, ⟨Try.underlying132, ⟨Try.underlying133, ⟨Try.underlying134, ⟨Try.underlying135, ⟨Try.underlying136, ⟨Try.underlying137, ⟨Try.underlying138, ⟨Try.underlying139, ⟨Try.underlying140, ⟨Try.underlying141, ⟨Try.underlying142, ⟨Try.underlying143, ⟨Try.underlying144, ⟨Try.underlying145, ⟨Try.underlying146, ⟨Try.underlying147, trivial⟩⟩⟩⟩⟩⟩⟩⟩⟩⟩⟩⟩⟩⟩⟩⟩⟩⟩⟩⟩⟩⟩⟩⟩⟩⟩⟩⟩⟩⟩⟩⟩⟩⟩⟩⟩⟩⟩⟩⟩⟩⟩⟩⟩⟩⟩⟩⟩⟩⟩⟩⟩⟩⟩⟩⟩⟩⟩⟩⟩⟩⟩⟩⟩⟩⟩⟩⟩⟩⟩⟩⟩⟩⟩⟩⟩⟩⟩⟩⟩⟩⟩⟩⟩⟩⟩⟩⟩⟩⟩⟩⟩⟩⟩⟩⟩⟩⟩⟩⟩⟩⟩⟩⟩⟩⟩⟩⟩⟩⟩⟩⟩⟩⟩⟩⟩⟩⟩⟩⟩⟩⟩⟩⟩⟩⟩⟩⟩⟩⟩⟩⟩⟩⟩⟩⟩⟩⟩⟩⟩⟩⟩⟩⟩⟩⟩⟩⟩
theorem tab_inf : allP (fun k x => tyI Try.prog k = some x) tab.inf := ⟨ty_1, ⟨ty_2, ⟨ty_3, ⟨ty_4, ⟨ty_5, ⟨ty_6, ⟨ty_7, ⟨ty_8, ⟨ty_9, ⟨ty_10, ⟨ty_11, ⟨ty_12, ⟨ty_13, ⟨ty_14, ⟨ty_15, ⟨ty_16, ⟨ty_17, ⟨ty_18, ⟨ty_19, ⟨ty_20, ⟨ty_21, ⟨ty_22, ⟨ty_23, ⟨ty_24, ⟨ty_25, ⟨ty_26, ⟨ty_27, ⟨ty_28, ⟨ty_30, ⟨ty_32, ⟨ty_33, ⟨ty_34, ⟨ty_35, ⟨ty_36, ⟨ty_37, ⟨ty_38, ⟨ty_39, ⟨ty_40, ⟨ty_41, ⟨ty_42, ⟨ty_43, ⟨ty_45, ⟨ty_46, ⟨ty_47, ⟨ty_48, ⟨ty_49, ⟨ty_51, ⟨ty_52, ⟨ty_53, ⟨ty_54, ⟨ty_55, ⟨ty_56, ⟨ty_58, ⟨ty_59, ⟨ty_60, ⟨ty_61, ⟨ty_62, ⟨ty_63, ⟨ty_64, ⟨ty_65, ⟨ty_66, ⟨ty_67, ⟨ty_69, ⟨ty_70, ⟨ty_72, ⟨ty_73, ⟨ty_74, ⟨ty_75, ⟨ty_76, ⟨ty_77, ⟨ty_78, ⟨ty_79, ⟨ty_80, ⟨ty_81, ⟨ty_82, ⟨ty_83, ⟨ty_85, ⟨ty_86, ⟨ty_87, ⟨ty_88, ⟨ty_89, ⟨ty_90, ⟨ty_91, ⟨ty_92, ⟨ty_94, ⟨ty_95, ⟨ty_96, ⟨ty_97, ⟨ty_98, ⟨ty_100, ⟨ty_101, ⟨ty_102, ⟨ty_104, ⟨ty_105, ⟨ty_106, ⟨ty_107, ⟨ty_108, ⟨ty_109, ⟨ty_110, ⟨ty_111, ⟨ty_112, ⟨ty_113, ⟨ty_115, ⟨ty_116, ⟨ty_117, ⟨ty_118, ⟨ty_119, ⟨ty_120, ⟨ty_121, ⟨ty_122, ⟨ty_123, ⟨ty_124, ⟨ty_125, ⟨ty_126, ⟨ty_127, ⟨ty_128, ⟨ty_129, ⟨ty_130, ⟨ty_131, ⟨ty_132, ⟨ty_133, ⟨ty_134, ⟨ty_135, ⟨ty_136, ⟨ty_137, ⟨ty_138, ⟨ty_139, ⟨ty_140, ⟨ty_141, ⟨ty_142, ⟨ty_143, ⟨ty_144, ⟨ty_145, ⟨ty_146, ⟨ty_147, trivial⟩⟩⟩⟩⟩⟩⟩⟩⟩⟩⟩⟩⟩⟩⟩⟩⟩⟩⟩⟩⟩⟩⟩⟩⟩⟩⟩⟩⟩⟩⟩⟩⟩⟩⟩⟩⟩⟩⟩⟩⟩⟩⟩⟩⟩⟩⟩⟩⟩⟩⟩⟩⟩⟩⟩⟩⟩⟩⟩⟩⟩⟩⟩⟩⟩⟩⟩⟩⟩⟩⟩⟩⟩⟩⟩⟩⟩⟩⟩⟩⟩⟩⟩⟩⟩⟩⟩⟩⟩⟩⟩⟩⟩⟩⟩⟩⟩⟩⟩⟩⟩⟩⟩⟩⟩⟩⟩⟩⟩⟩⟩⟩⟩⟩⟩⟩⟩⟩⟩⟩⟩⟩⟩⟩⟩⟩⟩⟩⟩⟩⟩⟩⟩⟩⟩
theorem tab_fld : allP (fun k x => fieldsP Try.prog k = some x) tab.fld := ⟨fl_7, ⟨fl_8, ⟨fl_13, ⟨fl_14, ⟨fl_18, ⟨fl_19, ⟨fl_23, ⟨fl_24, ⟨fl_26, ⟨fl_27, ⟨fl_47, ⟨fl_48, ⟨fl_52, ⟨fl_53, ⟨fl_62, ⟨fl_63, ⟨fl_76, ⟨fl_77, ⟨fl_87, ⟨fl_101, ⟨fl_102, ⟨fl_132, ⟨fl_133, ⟨fl_135, ⟨fl_136, ⟨fl_145, ⟨fl_146, trivial⟩⟩⟩⟩⟩⟩⟩⟩⟩⟩⟩⟩⟩⟩⟩⟩⟩⟩⟩⟩⟩⟩⟩⟩⟩⟩⟩
set_option maxRecDepth 100000 in
theorem tab_eqs : allP (fun k L => eqInts Try.prog k = true ∧ (match Try.prog.underlying k with | some (.struct fs) => fs.size | _ => 0) = L) tab.eqs := ⟨eq_26, ⟨eq_27, ⟨eq_47, ⟨eq_48, ⟨eq_62, ⟨eq_63, ⟨eq_76, ⟨eq_77, ⟨eq_101, ⟨eq_102, trivial⟩⟩⟩⟩⟩⟩⟩⟩⟩⟩
set_option maxRecDepth 100000 in
theorem tab_ok : tab.ok Try.prog := ⟨tab_und, tab_inf, tab_fld, tab_eqs⟩
theorem und_of {k : Nat} {D : TypeDesc} (h : lk tab.und k = some D) : Try.prog.underlying k = some D := allP_at tab_und h
theorem tyi_of {k : Nat} {x : Option Value × Nat × Nat} (h : lk tab.inf k = some x) : tyI Try.prog k = some x := allP_at tab_inf h
def cas : List (Nat × Nat) := [(2, 0), (3, 0), (4, 0), (5, 0), (6, 0), (7, 0), (8, 0), (9, 0), (10, 0), (11, 0), (12, 0), (13, 0), (14, 0), (15, 0), (16, 0), (17, 0), (18, 0), (19, 0), (20, 0), (21, 0), (22, 0), (23, 0), (24, 0), (25, 0), (26, 0), (27, 0), (28, 0), (29, 0), (30, 0), (31, 0), (32, 0), (33, 0), (34, 0), (35, 0), (36, 0), (37, 0), (38, 0), (39, 0), (40, 0), (41, 0), (42, 0), (43, 0), (44, 0), (45, 0), (46, 0), (47, 0), (48, 0), (49, 0), (50, 0), (51, 0), (52, 0), (53, 0), (54, 0), (55, 0), (56, 0), (57, 0), (58, 0), (59, 0), (60, 0), (61, 0), (62, 0), (63, 0), (64, 0), (65, 0), (66, 0), (67, 0), (68, 0), (69, 0), (70, 0), (71, 0), (72, 0), (73, 0), (74, 0), (75, 0), (76, 0), (77, 0), (78, 0), (79, 0), (80, 0), (81, 0), (82, 0), (83, 0), (84, 0), (85, 0), (86, 0), (87, 0)]
theorem ca_2 : callable Try.prog 2 = true := by kernel_rfl
theorem ca_3 : callable Try.prog 3 = true := by kernel_rfl
theorem ca_4 : callable Try.prog 4 = true := by kernel_rfl
theorem ca_5 : callable Try.prog 5 = true := by kernel_rfl
theorem ca_6 : callable Try.prog 6 = true := by kernel_rfl
theorem ca_7 : callable Try.prog 7 = true := by kernel_rfl
theorem ca_8 : callable Try.prog 8 = true := by kernel_rfl
theorem ca_9 : callable Try.prog 9 = true := by kernel_rfl
theorem ca_10 : callable Try.prog 10 = true := by kernel_rfl
theorem ca_11 : callable Try.prog 11 = true := by kernel_rfl
theorem ca_12 : callable Try.prog 12 = true := by kernel_rfl
theorem ca_13 : callable Try.prog 13 = true := by kernel_rfl
theorem ca_14 : callable Try.prog 14 = true := by kernel_rfl
theorem ca_15 : callable Try.prog 15 = true := by kernel_rfl
theorem ca_16 : callable Try.prog 16 = true := by kernel_rfl
theorem ca_17 : callable Try.prog 17 = true := by kernel_rfl
theorem ca_18 : callable Try.prog 18 = true := by kernel_rfl
theorem ca_19 : callable Try.prog 19 = true := by kernel_rfl
theorem ca_20 : callable Try.prog 20 = true := by kernel_rfl
theorem ca_21 : callable Try.prog 21 = true := by kernel_rfl
theorem ca_22 : callable Try.prog 22 = true := by kernel_rfl
theorem ca_23 : callable Try.prog 23 = true := by kernel_rfl
theorem ca_24 : callable Try.prog 24 = true := by kernel_rfl
theorem ca_25 : callable Try.prog 25 = true := by kernel_rfl
theorem ca_26 : callable Try.prog 26 = true := by kernel_rfl
theorem ca_27 : callable Try.prog 27 = true := by kernel_rfl
theorem ca_28 : callable Try.prog 28 = true := by kernel_rfl
theorem ca_29 : callable Try.prog 29 = true := by kernel_rfl
theorem ca_30 : callable Try.prog 30 = true := by kernel_rfl
theorem ca_31 : callable Try.prog 31 = true := by kernel_rfl
theorem ca_32 : callable Try.prog 32 = true := by kernel_rfl
theorem ca_33 : callable Try.prog 33 = true := by kernel_rfl
theorem ca_34 : callable Try.prog 34 = true := by kernel_rfl
theorem ca_35 : callable Try.prog 35 = true := by kernel_rfl
theorem ca_36 : callable Try.prog 36 = true := by kernel_rfl
theorem ca_37 : callable Try.prog 37 = true := by kernel_rfl
theorem ca_38 : callable Try.prog 38 = true := by kernel_rfl
theorem ca_39 : callable Try.prog 39 = true := by kernel_rfl
theorem ca_40 : callable Try.prog 40 = true := by kernel_rfl
theorem ca_41 : callable Try.prog 41 = true := by kernel_rfl
theorem ca_42 : callable Try.prog 42 = true := by kernel_rfl
theorem ca_43 : callable Try.prog 43 = true := by kernel_rfl
theorem ca_44 : callable Try.prog 44 = true := by kernel_rfl
theorem ca_45 : callable Try.prog 45 = true := by kernel_rfl
theorem ca_46 : callable Try.prog 46 = true := by kernel_rfl
theorem ca_47 : callable Try.prog 47 = true := by kernel_rfl
theorem ca_48 : callable Try.prog 48 = true := by kernel_rfl
theorem ca_49 : callable Try.prog 49 = true := by kernel_rfl
theorem ca_50 : callable Try.prog 50 = true := by kernel_rfl
theorem ca_51 : callable Try.prog 51 = true := by kernel_rfl
theorem ca_52 : callable Try.prog 52 = true := by kernel_rfl
theorem ca_53 : callable Try.prog 53 = true := by kernel_rfl
theorem ca_54 : callable Try.prog 54 = true := by kernel_rfl
theorem ca_55 : callable Try.prog 55 = true := by kernel_rfl
theorem ca_56 : callable Try.prog 56 = true := by kernel_rfl
theorem ca_57 : callable Try.prog 57 = true := by kernel_rfl
theorem ca_58 : callable Try.prog 58 = true := by kernel_rfl
theorem ca_59 : callable Try.prog 59 = true := by kernel_rfl
theorem ca_60 : callable Try.prog 60 = true := by kernel_rfl
theorem ca_61 : callable Try.prog 61 = true := by kernel_rfl
theorem ca_62 : callable Try.prog 62 = true := by kernel_rfl
theorem ca_63 : callable Try.prog 63 = true := by kernel_rfl
theorem ca_64 : callable Try.prog 64 = true := by kernel_rfl
theorem ca_65 : callable Try.prog 65 = true := by kernel_rfl
theorem ca_66 : callable Try.prog 66 = true := by kernel_rfl
theorem ca_67 : callable Try.prog 67 = true := by kernel_rfl
theorem ca_68 : callable Try.prog 68 = true := by kernel_rfl
theorem ca_69 : callable Try.prog 69 = true := by kernel_rfl
theorem ca_70 : callable Try.prog 70 = true := by kernel_rfl
theorem ca_71 : callable Try.prog 71 = true := by kernel_rfl
theorem ca_72 : callable Try.prog 72 = true := by kernel_rfl
theorem ca_73 : callable Try.prog 73 = true := by kernel_rfl
theorem ca_74 : callable Try.prog 74 = true := by kernel_rfl
theorem ca_75 : callable Try.prog 75 = true := by kernel_rfl
theorem ca_76 : callable Try.prog 76 = true := by kernel_rfl
theorem ca_77 : callable Try.prog 77 = true := by kernel_rfl
theorem ca_78 : callable Try.prog 78 = true := by kernel_rfl
theorem ca_79 : callable Try.prog 79 = true := by kernel_rfl
theorem ca_80 : callable Try.prog 80 = true := by kernel_rfl
theorem ca_81 : callable Try.prog 81 = true := by kernel_rfl
theorem ca_82 : callable Try.prog 82 = true := by kernel_rfl
theorem ca_83 : callable Try.prog 83 = true := by kernel_rfl
theorem ca_84 : callable Try.prog 84 = true := by kernel_rfl
theorem ca_85 : callable Try.prog 85 = true := by kernel_rfl
theorem ca_86 : callable Try.prog 86 = true := by kernel_rfl
theorem ca_87 : callable Try.prog 87 = true := by kernel_rfl
theorem cas_ok : allP (fun k _ => callable Try.prog k = true) cas := ⟨ca_2, ⟨ca_3, ⟨ca_4, ⟨ca_5, ⟨ca_6, ⟨ca_7, ⟨ca_8, ⟨ca_9, ⟨ca_10, ⟨ca_11, ⟨ca_12, ⟨ca_13, ⟨ca_14, ⟨ca_15, ⟨ca_16, ⟨ca_17, ⟨ca_18, ⟨ca_19, ⟨ca_20, ⟨ca_21, ⟨ca_22, ⟨ca_23, ⟨ca_24, ⟨ca_25, ⟨ca_26, ⟨ca_27, ⟨ca_28, ⟨ca_29, ⟨ca_30, ⟨ca_31, ⟨ca_32, ⟨ca_33, ⟨ca_34, ⟨ca_35, ⟨ca_36, ⟨ca_37, ⟨ca_38, ⟨ca_39, ⟨ca_40, ⟨ca_41, ⟨ca_42, ⟨ca_43, ⟨ca_44, ⟨ca_45, ⟨ca_46, ⟨ca_47, ⟨ca_48, ⟨ca_49, ⟨ca_50, ⟨ca_51, ⟨ca_52, ⟨ca_53, ⟨ca_54, ⟨ca_55, ⟨ca_56, ⟨ca_57, ⟨ca_58, ⟨ca_59, ⟨ca_60, ⟨ca_61, ⟨ca_62, ⟨ca_63, ⟨ca_64, ⟨ca_65, ⟨ca_66, ⟨ca_67, ⟨ca_68, ⟨ca_69, ⟨ca_70, ⟨ca_71, ⟨ca_72, ⟨ca_73, ⟨ca_74, ⟨ca_75, ⟨ca_76, ⟨ca_77, ⟨ca_78, ⟨ca_79, ⟨ca_80, ⟨ca_81, ⟨ca_82, ⟨ca_83, ⟨ca_84, ⟨ca_85, ⟨ca_86, ⟨ca_87, trivial⟩⟩⟩⟩⟩⟩⟩⟩⟩⟩⟩⟩⟩⟩⟩⟩⟩⟩⟩⟩⟩⟩⟩⟩⟩⟩⟩⟩⟩⟩⟩⟩⟩⟩⟩⟩⟩⟩⟩⟩⟩⟩⟩⟩⟩⟩⟩⟩⟩⟩⟩⟩⟩⟩⟩⟩⟩⟩⟩⟩⟩⟩⟩⟩⟩⟩⟩⟩⟩⟩⟩⟩⟩⟩⟩⟩⟩⟩⟩⟩⟩⟩⟩⟩⟩⟩
theorem ca_of {k x : Nat} (h : lk cas k = some x) : callable Try.prog k = true := allP_at cas_ok h
end Go.Proofs.Ytnbmldnahacnlaa
