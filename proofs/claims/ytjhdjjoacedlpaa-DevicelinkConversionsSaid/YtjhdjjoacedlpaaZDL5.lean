/- Facts on the types and functions that the symbolic walks ask for (printed by a program). -/
import Derived.Test.YtjhdjjoacedlpaaZDL4
import Derived.Test.YtjhdjjoacedlpaaProg
/- Facts on the types and functions that the symbolic walks ask for (printed by a program). -/
set_option maxRecDepth 1000000
namespace Go.Proofs.Ytjhdjjoacedlpaa
open Go
def tab : Tab := {
  und := [(0, Go.TypeDesc.tuple #[]),
    (1, Go.TypeDesc.func #[] #[] false),
    (2, Go.TypeDesc.int (Go.IntKind.i64)),
    (3, Go.TypeDesc.int (Go.IntKind.i64)),
    (4, Go.TypeDesc.bool),
    (5, Go.TypeDesc.int (Go.IntKind.u8)),
    (6, Go.TypeDesc.int (Go.IntKind.u8)),
    (7, Go.TypeDesc.struct #[{ name := "x", type := 2, offset := 0, embedded := false, tag := "", pkgPath := "runtime", byteOffset := 0 }, { name := "y", type := 3, offset := 1, embedded := false, tag := "", pkgPath := "runtime", byteOffset := 8 }, { name := "signed", type := 4, offset := 2, embedded := false, tag := "", pkgPath := "runtime", byteOffset := 16 }, { name := "code", type := 6, offset := 3, embedded := false, tag := "", pkgPath := "runtime", byteOffset := 17 }]),
    (8, Go.TypeDesc.struct #[{ name := "x", type := 2, offset := 0, embedded := false, tag := "", pkgPath := "runtime", byteOffset := 0 }, { name := "y", type := 3, offset := 1, embedded := false, tag := "", pkgPath := "runtime", byteOffset := 8 }, { name := "signed", type := 4, offset := 2, embedded := false, tag := "", pkgPath := "runtime", byteOffset := 16 }, { name := "code", type := 6, offset := 3, embedded := false, tag := "", pkgPath := "runtime", byteOffset := 17 }]),
    (9, Go.TypeDesc.string),
    (10, Go.TypeDesc.string),
    (11, Go.TypeDesc.string),
    (12, Go.TypeDesc.int (Go.IntKind.u64)),
    (13, Go.TypeDesc.struct #[{ name := "msg", type := 9, offset := 0, embedded := false, tag := "", pkgPath := "runtime", byteOffset := 0 }, { name := "addr", type := 12, offset := 1, embedded := false, tag := "", pkgPath := "runtime", byteOffset := 16 }]),
    (14, Go.TypeDesc.struct #[{ name := "msg", type := 9, offset := 0, embedded := false, tag := "", pkgPath := "runtime", byteOffset := 0 }, { name := "addr", type := 12, offset := 1, embedded := false, tag := "", pkgPath := "runtime", byteOffset := 16 }]),
    (15, Go.TypeDesc.pointer 218),
    (16, Go.TypeDesc.pointer 221),
    (17, Go.TypeDesc.pointer 229),
    (18, Go.TypeDesc.struct #[{ name := "typ", type := 17, offset := 0, embedded := false, tag := "", pkgPath := "internal/runtime/maps", byteOffset := 0 }]),
    (19, Go.TypeDesc.struct #[{ name := "typ", type := 17, offset := 0, embedded := false, tag := "", pkgPath := "internal/runtime/maps", byteOffset := 0 }]),
    (20, Go.TypeDesc.interface #[]),
    (21, Go.TypeDesc.int (Go.IntKind.i32)),
    (22, Go.TypeDesc.slice 9),
    (23, Go.TypeDesc.slice 73),
    (24, Go.TypeDesc.slice 3),
    (25, Go.TypeDesc.struct #[{ name := "In", type := 3, offset := 0, embedded := false, tag := "", pkgPath := "", byteOffset := 0 }, { name := "Out", type := 3, offset := 1, embedded := false, tag := "", pkgPath := "", byteOffset := 8 }, { name := "Size", type := 3, offset := 2, embedded := false, tag := "", pkgPath := "", byteOffset := 16 }, { name := "Values", type := 24, offset := 3, embedded := false, tag := "", pkgPath := "", byteOffset := 24 }]),
    (26, Go.TypeDesc.struct #[{ name := "In", type := 3, offset := 0, embedded := false, tag := "", pkgPath := "", byteOffset := 0 }, { name := "Out", type := 3, offset := 1, embedded := false, tag := "", pkgPath := "", byteOffset := 8 }, { name := "Size", type := 3, offset := 2, embedded := false, tag := "", pkgPath := "", byteOffset := 16 }, { name := "Values", type := 24, offset := 3, embedded := false, tag := "", pkgPath := "", byteOffset := 24 }]),
    (27, Go.TypeDesc.struct #[{ name := "Name", type := 9, offset := 0, embedded := false, tag := "", pkgPath := "", byteOffset := 0 }, { name := "Inks", type := 22, offset := 1, embedded := false, tag := "", pkgPath := "", byteOffset := 16 }, { name := "Curves", type := 23, offset := 2, embedded := false, tag := "", pkgPath := "", byteOffset := 40 }, { name := "Table", type := 26, offset := 3, embedded := false, tag := "", pkgPath := "", byteOffset := 64 }]),
    (28, Go.TypeDesc.struct #[{ name := "Name", type := 9, offset := 0, embedded := false, tag := "", pkgPath := "", byteOffset := 0 }, { name := "Inks", type := 22, offset := 1, embedded := false, tag := "", pkgPath := "", byteOffset := 16 }, { name := "Curves", type := 23, offset := 2, embedded := false, tag := "", pkgPath := "", byteOffset := 40 }, { name := "Table", type := 26, offset := 3, embedded := false, tag := "", pkgPath := "", byteOffset := 64 }]),
    (29, Go.TypeDesc.struct #[{ name := "L", type := 3, offset := 0, embedded := false, tag := "", pkgPath := "", byteOffset := 0 }, { name := "A", type := 3, offset := 1, embedded := false, tag := "", pkgPath := "", byteOffset := 8 }, { name := "B", type := 3, offset := 2, embedded := false, tag := "", pkgPath := "", byteOffset := 16 }]),
    (30, Go.TypeDesc.struct #[{ name := "L", type := 3, offset := 0, embedded := false, tag := "", pkgPath := "", byteOffset := 0 }, { name := "A", type := 3, offset := 1, embedded := false, tag := "", pkgPath := "", byteOffset := 8 }, { name := "B", type := 3, offset := 2, embedded := false, tag := "", pkgPath := "", byteOffset := 16 }]),
    (31, Go.TypeDesc.func #[] #[4] false),
    (32, Go.TypeDesc.int (Go.IntKind.i64)),
    (33, Go.TypeDesc.tuple #[4, 32]),
    (34, Go.TypeDesc.func #[28, 30] #[4, 32] false),
    (35, Go.TypeDesc.func #[28] #[32] false),
    (36, Go.TypeDesc.func #[30] #[32] false),
    (37, Go.TypeDesc.func #[4, 32, 32] #[4] false),
    (38, Go.TypeDesc.func #[39, 41, 3] #[4] false),
    (39, Go.TypeDesc.slice 127),
    (40, Go.TypeDesc.func #[26] #[39] false),
    (41, Go.TypeDesc.array 3 3),
    (42, Go.TypeDesc.func #[28, 30] #[4] false),
    (43, Go.TypeDesc.tuple #[30, 3, 32]),
    (44, Go.TypeDesc.func #[28, 30, 30] #[30, 3, 32] false),
    (45, Go.TypeDesc.func #[39, 30, 30] #[3] false),
    (46, Go.TypeDesc.func #[30, 30, 3, 3] #[30] false),
    (47, Go.TypeDesc.func #[28, 30, 30] #[4] false),
    (48, Go.TypeDesc.struct #[{ name := "Target", type := 30, offset := 0, embedded := false, tag := "", pkgPath := "", byteOffset := 0 }, { name := "Step", type := 3, offset := 3, embedded := false, tag := "", pkgPath := "", byteOffset := 24 }, { name := "Total", type := 3, offset := 4, embedded := false, tag := "", pkgPath := "", byteOffset := 32 }, { name := "Low", type := 24, offset := 5, embedded := false, tag := "", pkgPath := "", byteOffset := 40 }, { name := "High", type := 24, offset := 6, embedded := false, tag := "", pkgPath := "", byteOffset := 64 }]),
    (49, Go.TypeDesc.struct #[{ name := "Target", type := 30, offset := 0, embedded := false, tag := "", pkgPath := "", byteOffset := 0 }, { name := "Step", type := 3, offset := 3, embedded := false, tag := "", pkgPath := "", byteOffset := 24 }, { name := "Total", type := 3, offset := 4, embedded := false, tag := "", pkgPath := "", byteOffset := 32 }, { name := "Low", type := 24, offset := 5, embedded := false, tag := "", pkgPath := "", byteOffset := 40 }, { name := "High", type := 24, offset := 6, embedded := false, tag := "", pkgPath := "", byteOffset := 64 }]),
    (50, Go.TypeDesc.func #[3, 49] #[32] false),
    (51, Go.TypeDesc.tuple #[24, 3, 32]),
    (52, Go.TypeDesc.func #[28, 49] #[24, 3, 32] false),
    (53, Go.TypeDesc.tuple #[24, 3, 4]),
    (54, Go.TypeDesc.func #[28, 49] #[24, 3, 4] false),
    (55, Go.TypeDesc.func #[24, 24] #[4] false),
    (56, Go.TypeDesc.func #[28, 49, 3] #[4] false),
    (57, Go.TypeDesc.slice 5),
    (58, Go.TypeDesc.func #[57] #[3] false),
    (59, Go.TypeDesc.func #[57] #[4] false),
    (60, Go.TypeDesc.tuple #[57, 32]),
    (61, Go.TypeDesc.func #[28] #[57, 32] false),
    (62, Go.TypeDesc.func #[57, 57] #[4] false),
    (63, Go.TypeDesc.func #[28, 24, 3] #[57] false),
    (64, Go.TypeDesc.func #[28] #[4] false),
    (65, Go.TypeDesc.tuple #[30, 32]),
    (66, Go.TypeDesc.func #[28, 24] #[30, 32] false),
    (67, Go.TypeDesc.tuple #[24, 32]),
    (68, Go.TypeDesc.func #[28, 24] #[24, 32] false),
    (69, Go.TypeDesc.func #[24, 3, 3] #[32] false),
    (70, Go.TypeDesc.func #[73, 3] #[3] false),
    (71, Go.TypeDesc.slice 143),
    (72, Go.TypeDesc.struct #[{ name := "Points", type := 71, offset := 0, embedded := false, tag := "", pkgPath := "", byteOffset := 0 }]),
    (73, Go.TypeDesc.struct #[{ name := "Points", type := 71, offset := 0, embedded := false, tag := "", pkgPath := "", byteOffset := 0 }]),
    (74, Go.TypeDesc.func #[28, 24] #[30] false),
    (75, Go.TypeDesc.func #[26, 24] #[24] false),
    (76, Go.TypeDesc.func #[28, 24] #[4] false),
    (77, Go.TypeDesc.func #[3, 3] #[3] false),
    (78, Go.TypeDesc.tuple #[28, 32]),
    (79, Go.TypeDesc.func #[57] #[28, 32] false),
    (80, Go.TypeDesc.tuple #[22, 32]),
    (81, Go.TypeDesc.func #[57] #[22, 32] false),
    (82, Go.TypeDesc.func #[28, 28] #[4] false),
    (83, Go.TypeDesc.array 5 9),
    (84, Go.TypeDesc.func #[28, 3, 3, 4] #[4] false),
    (85, Go.TypeDesc.func #[28, 3] #[4] false),
    (86, Go.TypeDesc.slice 106),
    (87, Go.TypeDesc.struct #[{ name := "Inks", type := 22, offset := 0, embedded := false, tag := "", pkgPath := "", byteOffset := 0 }, { name := "Process", type := 24, offset := 1, embedded := false, tag := "", pkgPath := "", byteOffset := 24 }, { name := "Light", type := 24, offset := 2, embedded := false, tag := "", pkgPath := "", byteOffset := 48 }, { name := "Gray", type := 26, offset := 3, embedded := false, tag := "", pkgPath := "", byteOffset := 72 }, { name := "RGB", type := 26, offset := 7, embedded := false, tag := "", pkgPath := "", byteOffset := 120 }, { name := "Spots", type := 86, offset := 11, embedded := false, tag := "", pkgPath := "", byteOffset := 168 }, { name := "Total", type := 3, offset := 12, embedded := false, tag := "", pkgPath := "", byteOffset := 192 }]),
    (88, Go.TypeDesc.struct #[{ name := "Inks", type := 22, offset := 0, embedded := false, tag := "", pkgPath := "", byteOffset := 0 }, { name := "Process", type := 24, offset := 1, embedded := false, tag := "", pkgPath := "", byteOffset := 24 }, { name := "Light", type := 24, offset := 2, embedded := false, tag := "", pkgPath := "", byteOffset := 48 }, { name := "Gray", type := 26, offset := 3, embedded := false, tag := "", pkgPath := "", byteOffset := 72 }, { name := "RGB", type := 26, offset := 7, embedded := false, tag := "", pkgPath := "", byteOffset := 120 }, { name := "Spots", type := 86, offset := 11, embedded := false, tag := "", pkgPath := "", byteOffset := 168 }, { name := "Total", type := 3, offset := 12, embedded := false, tag := "", pkgPath := "", byteOffset := 192 }]),
    (89, Go.TypeDesc.array 8 5),
    (90, Go.TypeDesc.array 8 5),
    (91, Go.TypeDesc.tuple #[90, 32]),
    (92, Go.TypeDesc.func #[88, 5] #[90, 32] false),
    (93, Go.TypeDesc.func #[88, 5, 5, 5] #[90, 32] false),
    (94, Go.TypeDesc.func #[88] #[32] false),
    (95, Go.TypeDesc.func #[88, 24] #[90] false),
    (96, Go.TypeDesc.func #[88, 5, 5, 5] #[4] false),
    (97, Go.TypeDesc.array 4 5),
    (98, Go.TypeDesc.func #[88] #[22, 32] false),
    (99, Go.TypeDesc.func #[88] #[24, 32] false),
    (100, Go.TypeDesc.func #[88, 97] #[90, 32] false),
    (101, Go.TypeDesc.func #[88, 9, 5] #[90, 32] false),
    (102, Go.TypeDesc.func #[22, 22] #[4] false),
    (103, Go.TypeDesc.func #[86, 9] #[3] false),
    (104, Go.TypeDesc.func #[106, 3] #[24] false),
    (105, Go.TypeDesc.struct #[{ name := "Name", type := 9, offset := 0, embedded := false, tag := "", pkgPath := "", byteOffset := 0 }, { name := "Paper", type := 30, offset := 1, embedded := false, tag := "", pkgPath := "", byteOffset := 16 }, { name := "Solid", type := 30, offset := 4, embedded := false, tag := "", pkgPath := "", byteOffset := 40 }, { name := "Curve", type := 73, offset := 7, embedded := false, tag := "", pkgPath := "", byteOffset := 64 }, { name := "Process", type := 24, offset := 8, embedded := false, tag := "", pkgPath := "", byteOffset := 88 }]),
    (106, Go.TypeDesc.struct #[{ name := "Name", type := 9, offset := 0, embedded := false, tag := "", pkgPath := "", byteOffset := 0 }, { name := "Paper", type := 30, offset := 1, embedded := false, tag := "", pkgPath := "", byteOffset := 16 }, { name := "Solid", type := 30, offset := 4, embedded := false, tag := "", pkgPath := "", byteOffset := 40 }, { name := "Curve", type := 73, offset := 7, embedded := false, tag := "", pkgPath := "", byteOffset := 64 }, { name := "Process", type := 24, offset := 8, embedded := false, tag := "", pkgPath := "", byteOffset := 88 }]),
    (107, Go.TypeDesc.func #[88, 97, 9, 5] #[4] false),
    (108, Go.TypeDesc.struct #[{ name := "Size", type := 3, offset := 0, embedded := false, tag := "", pkgPath := "", byteOffset := 0 }, { name := "Step", type := 3, offset := 1, embedded := false, tag := "", pkgPath := "", byteOffset := 8 }, { name := "Total", type := 3, offset := 2, embedded := false, tag := "", pkgPath := "", byteOffset := 16 }, { name := "Map", type := 4, offset := 3, embedded := false, tag := "", pkgPath := "", byteOffset := 24 }, { name := "Anchor", type := 30, offset := 4, embedded := false, tag := "", pkgPath := "", byteOffset := 32 }]),
    (109, Go.TypeDesc.struct #[{ name := "Size", type := 3, offset := 0, embedded := false, tag := "", pkgPath := "", byteOffset := 0 }, { name := "Step", type := 3, offset := 1, embedded := false, tag := "", pkgPath := "", byteOffset := 8 }, { name := "Total", type := 3, offset := 2, embedded := false, tag := "", pkgPath := "", byteOffset := 16 }, { name := "Map", type := 4, offset := 3, embedded := false, tag := "", pkgPath := "", byteOffset := 24 }, { name := "Anchor", type := 30, offset := 4, embedded := false, tag := "", pkgPath := "", byteOffset := 32 }]),
    (110, Go.TypeDesc.tuple #[26, 32]),
    (111, Go.TypeDesc.func #[28, 28, 109] #[26, 32] false),
    (112, Go.TypeDesc.func #[28, 28, 109] #[32] false),
    (113, Go.TypeDesc.func #[26, 3] #[24] false),
    (114, Go.TypeDesc.func #[28, 28, 109, 3] #[4] false),
    (115, Go.TypeDesc.func #[26, 24] #[24, 32] false),
    (116, Go.TypeDesc.func #[26] #[32] false),
    (117, Go.TypeDesc.func #[26, 24] #[4] false),
    (118, Go.TypeDesc.func #[] #[28] false),
    (119, Go.TypeDesc.func #[120] #[32] false),
    (120, Go.TypeDesc.pointer 28),
    (121, Go.TypeDesc.func #[122, 30] #[4] false),
    (122, Go.TypeDesc.pointer 26),
    (123, Go.TypeDesc.func #[9] #[4] false),
    (124, Go.TypeDesc.func #[22] #[32] false),
    (125, Go.TypeDesc.func #[73] #[32] false),
    (126, Go.TypeDesc.func #[3, 3, 3] #[4] false),
    (127, Go.TypeDesc.array 4 41),
    (128, Go.TypeDesc.func #[127, 41, 3] #[4] false),
    (129, Go.TypeDesc.slice 24),
    (130, Go.TypeDesc.func #[3] #[129] false),
    (131, Go.TypeDesc.slice 41),
    (132, Go.TypeDesc.func #[41, 41, 41, 41] #[3] false),
    (133, Go.TypeDesc.func #[120, 30, 30] #[30, 3, 32] false),
    (134, Go.TypeDesc.func #[24, 3] #[32] false),
    (135, Go.TypeDesc.func #[120, 136] #[24, 3, 32] false),
    (136, Go.TypeDesc.pointer 49),
    (137, Go.TypeDesc.func #[30, 30] #[3] false),
    (138, Go.TypeDesc.int (Go.IntKind.u32)),
    (139, Go.TypeDesc.int (Go.IntKind.u64)),
    (140, Go.TypeDesc.func #[138, 3] #[138] false),
    (141, Go.TypeDesc.array 4 57),
    (142, Go.TypeDesc.struct #[{ name := "X", type := 3, offset := 0, embedded := false, tag := "", pkgPath := "", byteOffset := 0 }, { name := "Y", type := 3, offset := 1, embedded := false, tag := "", pkgPath := "", byteOffset := 8 }]),
    (143, Go.TypeDesc.struct #[{ name := "X", type := 3, offset := 0, embedded := false, tag := "", pkgPath := "", byteOffset := 0 }, { name := "Y", type := 3, offset := 1, embedded := false, tag := "", pkgPath := "", byteOffset := 8 }]),
    (144, Go.TypeDesc.func #[57, 3] #[57] false),
    (145, Go.TypeDesc.array 4 9),
    (146, Go.TypeDesc.func #[] #[145] false),
    (147, Go.TypeDesc.func #[28, 3] #[57] false),
    (148, Go.TypeDesc.func #[57, 3, 3] #[57] false),
    (149, Go.TypeDesc.func #[120, 24] #[30] false),
    (150, Go.TypeDesc.func #[122, 24] #[24] false),
    (151, Go.TypeDesc.func #[120, 24] #[24] false),
    (152, Go.TypeDesc.slice 156),
    (153, Go.TypeDesc.tuple #[152, 32]),
    (154, Go.TypeDesc.func #[57] #[152, 32] false),
    (155, Go.TypeDesc.struct #[{ name := "name", type := 9, offset := 0, embedded := false, tag := "", pkgPath := "printworks/profile", byteOffset := 0 }, { name := "data", type := 57, offset := 1, embedded := false, tag := "", pkgPath := "printworks/profile", byteOffset := 16 }]),
    (156, Go.TypeDesc.struct #[{ name := "name", type := 9, offset := 0, embedded := false, tag := "", pkgPath := "printworks/profile", byteOffset := 0 }, { name := "data", type := 57, offset := 1, embedded := false, tag := "", pkgPath := "printworks/profile", byteOffset := 16 }]),
    (157, Go.TypeDesc.struct #[]),
    (158, Go.TypeDesc.struct #[]),
    (159, Go.TypeDesc.tuple #[158, 4]),
    (160, Go.TypeDesc.struct #[{ name := "b", type := 57, offset := 0, embedded := false, tag := "", pkgPath := "printworks/profile", byteOffset := 0 }]),
    (161, Go.TypeDesc.struct #[{ name := "b", type := 57, offset := 0, embedded := false, tag := "", pkgPath := "printworks/profile", byteOffset := 0 }]),
    (162, Go.TypeDesc.func #[3] #[57] false),
    (163, Go.TypeDesc.func #[] #[3] false),
    (164, Go.TypeDesc.int (Go.IntKind.i16)),
    (165, Go.TypeDesc.func #[26, 26] #[4] false),
    (166, Go.TypeDesc.func #[73, 73] #[4] false),
    (167, Go.TypeDesc.func #[] #[88] false),
    (168, Go.TypeDesc.func #[169, 122, 57] #[90] true),
    (169, Go.TypeDesc.pointer 88),
    (170, Go.TypeDesc.slice 26),
    (171, Go.TypeDesc.func #[86] #[32] false),
    (172, Go.TypeDesc.func #[26, 3, 3] #[32] false),
    (173, Go.TypeDesc.func #[24, 3, 3] #[24] false),
    (174, Go.TypeDesc.func #[169, 24] #[90] false),
    (175, Go.TypeDesc.func #[176, 3] #[24] false),
    (176, Go.TypeDesc.pointer 106),
    (177, Go.TypeDesc.func #[3, 3] #[26] false),
    (178, Go.TypeDesc.func #[120, 120, 179] #[32] false),
    (179, Go.TypeDesc.pointer 109),
    (180, Go.TypeDesc.func #[3, 3, 3, 182] #[26, 32] false),
    (181, Go.TypeDesc.func #[3, 30, 179] #[49] false),
    (182, Go.TypeDesc.func #[24] #[24, 32] false),
    (183, Go.TypeDesc.func #[] #[73] false),
    (184, Go.TypeDesc.func #[122, 191] #[] false),
    (185, Go.TypeDesc.array 3 3),
    (186, Go.TypeDesc.array 4 185),
    (187, Go.TypeDesc.array 4 3),
    (188, Go.TypeDesc.tuple #[187, 3]),
    (189, Go.TypeDesc.func #[186, 3, 185] #[187, 3] false),
    (190, Go.TypeDesc.func #[30] #[185] false),
    (191, Go.TypeDesc.func #[186, 3] #[4] false),
    (192, Go.TypeDesc.func #[3, 3, 3] #[32] false),
    (193, Go.TypeDesc.array 3 41),
    (194, Go.TypeDesc.func #[3] #[3] false),
    (195, Go.TypeDesc.tuple #[3, 3]),
    (196, Go.TypeDesc.func #[3, 3, 3, 3] #[3, 3] false),
    (197, Go.TypeDesc.func #[30, 30, 3, 3] #[30, 32] false),
    (198, Go.TypeDesc.pointer 200),
    (199, Go.TypeDesc.struct #[{ name := "p", type := 120, offset := 0, embedded := false, tag := "", pkgPath := "printworks/inverse", byteOffset := 0 }, { name := "ask", type := 136, offset := 1, embedded := false, tag := "", pkgPath := "printworks/inverse", byteOffset := 8 }, { name := "best", type := 24, offset := 2, embedded := false, tag := "", pkgPath := "printworks/inverse", byteOffset := 16 }, { name := "far", type := 3, offset := 3, embedded := false, tag := "", pkgPath := "printworks/inverse", byteOffset := 40 }, { name := "low", type := 24, offset := 4, embedded := false, tag := "", pkgPath := "printworks/inverse", byteOffset := 48 }, { name := "high", type := 24, offset := 5, embedded := false, tag := "", pkgPath := "printworks/inverse", byteOffset := 72 }, { name := "from", type := 24, offset := 6, embedded := false, tag := "", pkgPath := "printworks/inverse", byteOffset := 96 }, { name := "to", type := 24, offset := 7, embedded := false, tag := "", pkgPath := "printworks/inverse", byteOffset := 120 }]),
    (200, Go.TypeDesc.struct #[{ name := "p", type := 120, offset := 0, embedded := false, tag := "", pkgPath := "printworks/inverse", byteOffset := 0 }, { name := "ask", type := 136, offset := 1, embedded := false, tag := "", pkgPath := "printworks/inverse", byteOffset := 8 }, { name := "best", type := 24, offset := 2, embedded := false, tag := "", pkgPath := "printworks/inverse", byteOffset := 16 }, { name := "far", type := 3, offset := 3, embedded := false, tag := "", pkgPath := "printworks/inverse", byteOffset := 40 }, { name := "low", type := 24, offset := 4, embedded := false, tag := "", pkgPath := "printworks/inverse", byteOffset := 48 }, { name := "high", type := 24, offset := 5, embedded := false, tag := "", pkgPath := "printworks/inverse", byteOffset := 72 }, { name := "from", type := 24, offset := 6, embedded := false, tag := "", pkgPath := "printworks/inverse", byteOffset := 96 }, { name := "to", type := 24, offset := 7, embedded := false, tag := "", pkgPath := "printworks/inverse", byteOffset := 120 }]),
    (201, Go.TypeDesc.func #[122, 24] #[3] false),
    (202, Go.TypeDesc.func #[120, 3, 3] #[3] false),
    (203, Go.TypeDesc.tuple #[3, 32]),
    (204, Go.TypeDesc.func #[3, 3, 3] #[3, 32] false),
    (205, Go.TypeDesc.pointer 161),
    (206, Go.TypeDesc.func #[106] #[32] false),
    (207, Go.TypeDesc.func #[176] #[32] false),
    (208, Go.TypeDesc.func #[24] #[3] false),
    (209, Go.TypeDesc.func #[122, 212] #[] false),
    (210, Go.TypeDesc.func #[185, 185, 185] #[3] false),
    (211, Go.TypeDesc.func #[185, 185] #[185] false),
    (212, Go.TypeDesc.func #[24] #[4] false),
    (213, Go.TypeDesc.func #[3, 3] #[4] false),
    (214, Go.TypeDesc.tuple #[24, 24]),
    (215, Go.TypeDesc.func #[122, 24, 24] #[24, 24] false),
    (216, Go.TypeDesc.func #[] #[9] false),
    (217, Go.TypeDesc.struct #[{ name := "_interface", type := 17, offset := 0, embedded := false, tag := "", pkgPath := "runtime", byteOffset := 0 }, { name := "concrete", type := 17, offset := 1, embedded := false, tag := "", pkgPath := "runtime", byteOffset := 8 }, { name := "asserted", type := 17, offset := 2, embedded := false, tag := "", pkgPath := "runtime", byteOffset := 16 }, { name := "missingMethod", type := 9, offset := 3, embedded := false, tag := "", pkgPath := "runtime", byteOffset := 24 }]),
    (218, Go.TypeDesc.struct #[{ name := "_interface", type := 17, offset := 0, embedded := false, tag := "", pkgPath := "runtime", byteOffset := 0 }, { name := "concrete", type := 17, offset := 1, embedded := false, tag := "", pkgPath := "runtime", byteOffset := 8 }, { name := "asserted", type := 17, offset := 2, embedded := false, tag := "", pkgPath := "runtime", byteOffset := 16 }, { name := "missingMethod", type := 9, offset := 3, embedded := false, tag := "", pkgPath := "runtime", byteOffset := 24 }]),
    (219, Go.TypeDesc.array 0 16),
    (220, Go.TypeDesc.struct #[{ name := "_", type := 219, offset := 0, embedded := false, tag := "", pkgPath := "runtime", byteOffset := 0 }]),
    (221, Go.TypeDesc.struct #[{ name := "_", type := 219, offset := 0, embedded := false, tag := "", pkgPath := "runtime", byteOffset := 0 }]),
    (222, Go.TypeDesc.int (Go.IntKind.u8)),
    (223, Go.TypeDesc.int (Go.IntKind.u8)),
    (224, Go.TypeDesc.func #[230, 230] #[4] false),
    (225, Go.TypeDesc.pointer 5),
    (226, Go.TypeDesc.int (Go.IntKind.i32)),
    (227, Go.TypeDesc.int (Go.IntKind.i32)),
    (228, Go.TypeDesc.struct #[{ name := "Size_", type := 12, offset := 0, embedded := false, tag := "", pkgPath := "", byteOffset := 0 }, { name := "PtrBytes", type := 12, offset := 1, embedded := false, tag := "", pkgPath := "", byteOffset := 8 }, { name := "Hash", type := 138, offset := 2, embedded := false, tag := "", pkgPath := "", byteOffset := 16 }, { name := "TFlag", type := 222, offset := 3, embedded := false, tag := "", pkgPath := "", byteOffset := 20 }, { name := "Align_", type := 5, offset := 4, embedded := false, tag := "", pkgPath := "", byteOffset := 21 }, { name := "FieldAlign_", type := 5, offset := 5, embedded := false, tag := "", pkgPath := "", byteOffset := 22 }, { name := "Kind_", type := 223, offset := 6, embedded := false, tag := "", pkgPath := "", byteOffset := 23 }, { name := "Equal", type := 224, offset := 7, embedded := false, tag := "", pkgPath := "", byteOffset := 24 }, { name := "GCData", type := 225, offset := 8, embedded := false, tag := "", pkgPath := "", byteOffset := 32 }, { name := "Str", type := 226, offset := 9, embedded := false, tag := "", pkgPath := "", byteOffset := 40 }, { name := "PtrToThis", type := 227, offset := 10, embedded := false, tag := "", pkgPath := "", byteOffset := 44 }]),
    (229, Go.TypeDesc.struct #[{ name := "Size_", type := 12, offset := 0, embedded := false, tag := "", pkgPath := "", byteOffset := 0 }, { name := "PtrBytes", type := 12, offset := 1, embedded := false, tag := "", pkgPath := "", byteOffset := 8 }, { name := "Hash", type := 138, offset := 2, embedded := false, tag := "", pkgPath := "", byteOffset := 16 }, { name := "TFlag", type := 222, offset := 3, embedded := false, tag := "", pkgPath := "", byteOffset := 20 }, { name := "Align_", type := 5, offset := 4, embedded := false, tag := "", pkgPath := "", byteOffset := 21 }, { name := "FieldAlign_", type := 5, offset := 5, embedded := false, tag := "", pkgPath := "", byteOffset := 22 }, { name := "Kind_", type := 223, offset := 6, embedded := false, tag := "", pkgPath := "", byteOffset := 23 }, { name := "Equal", type := 224, offset := 7, embedded := false, tag := "", pkgPath := "", byteOffset := 24 }, { name := "GCData", type := 225, offset := 8, embedded := false, tag := "", pkgPath := "", byteOffset := 32 }, { name := "Str", type := 226, offset := 9, embedded := false, tag := "", pkgPath := "", byteOffset := 40 }, { name := "PtrToThis", type := 227, offset := 10, embedded := false, tag := "", pkgPath := "", byteOffset := 44 }]),
    (230, Go.TypeDesc.unsafePointer)],
  inf := [(1, (some (.nilFunc), 1, 8)),
    (2, (some (.int .i64 0), 1, 8)),
    (3, (some (.int .i64 0), 1, 8)),
    (4, (some (.bool false), 1, 1)),
    (5, (some (.int .u8 0), 1, 1)),
    (6, (some (.int .u8 0), 1, 1)),
    (7, (some (.agg #[.int .i64 0, .int .i64 0, .bool false, .int .u8 0]), 4, 24)),
    (8, (some (.agg #[.int .i64 0, .int .i64 0, .bool false, .int .u8 0]), 4, 24)),
    (9, (some (.string ByteArray.empty), 1, 16)),
    (10, (some (.string ByteArray.empty), 1, 16)),
    (11, (some (.string ByteArray.empty), 1, 16)),
    (12, (some (.int .u64 0), 1, 8)),
    (13, (some (.agg #[.string ByteArray.empty, .int .u64 0]), 2, 24)),
    (14, (some (.agg #[.string ByteArray.empty, .int .u64 0]), 2, 24)),
    (15, (some (.pointer none), 1, 8)),
    (16, (some (.pointer none), 1, 8)),
    (17, (some (.pointer none), 1, 8)),
    (18, (some (.agg #[.pointer none]), 1, 8)),
    (19, (some (.agg #[.pointer none]), 1, 8)),
    (20, (some (.nilIface), 1, 16)),
    (21, (some (.int .i32 0), 1, 4)),
    (22, (some (.slice none 0 0), 1, 24)),
    (23, (some (.slice none 0 0), 1, 24)),
    (24, (some (.slice none 0 0), 1, 24)),
    (25, (some (.agg #[.int .i64 0, .int .i64 0, .int .i64 0, .slice none 0 0]), 4, 48)),
    (26, (some (.agg #[.int .i64 0, .int .i64 0, .int .i64 0, .slice none 0 0]), 4, 48)),
    (27, (some (.agg #[.string ByteArray.empty, .slice none 0 0, .slice none 0 0, .int .i64 0, .int .i64 0, .int .i64 0, .slice none 0 0]), 7, 112)),
    (28, (some (.agg #[.string ByteArray.empty, .slice none 0 0, .slice none 0 0, .int .i64 0, .int .i64 0, .int .i64 0, .slice none 0 0]), 7, 112)),
    (29, (some (.agg #[.int .i64 0, .int .i64 0, .int .i64 0]), 3, 24)),
    (30, (some (.agg #[.int .i64 0, .int .i64 0, .int .i64 0]), 3, 24)),
    (31, (some (.nilFunc), 1, 8)),
    (32, (some (.int .i64 0), 1, 8)),
    (34, (some (.nilFunc), 1, 8)),
    (35, (some (.nilFunc), 1, 8)),
    (36, (some (.nilFunc), 1, 8)),
    (37, (some (.nilFunc), 1, 8)),
    (38, (some (.nilFunc), 1, 8)),
    (39, (some (.slice none 0 0), 1, 24)),
    (40, (some (.nilFunc), 1, 8)),
    (41, (some (.agg #[.int .i64 0, .int .i64 0, .int .i64 0]), 3, 24)),
    (42, (some (.nilFunc), 1, 8)),
    (44, (some (.nilFunc), 1, 8)),
    (45, (some (.nilFunc), 1, 8)),
    (46, (some (.nilFunc), 1, 8)),
    (47, (some (.nilFunc), 1, 8)),
    (48, (some (.agg #[.int .i64 0, .int .i64 0, .int .i64 0, .int .i64 0, .int .i64 0, .slice none 0 0, .slice none 0 0]), 7, 88)),
    (49, (some (.agg #[.int .i64 0, .int .i64 0, .int .i64 0, .int .i64 0, .int .i64 0, .slice none 0 0, .slice none 0 0]), 7, 88)),
    (50, (some (.nilFunc), 1, 8)),
    (52, (some (.nilFunc), 1, 8)),
    (54, (some (.nilFunc), 1, 8)),
    (55, (some (.nilFunc), 1, 8)),
    (56, (some (.nilFunc), 1, 8)),
    (57, (some (.slice none 0 0), 1, 24)),
    (58, (some (.nilFunc), 1, 8)),
    (59, (some (.nilFunc), 1, 8)),
    (61, (some (.nilFunc), 1, 8)),
    (62, (some (.nilFunc), 1, 8)),
    (63, (some (.nilFunc), 1, 8)),
    (64, (some (.nilFunc), 1, 8)),
    (66, (some (.nilFunc), 1, 8)),
    (68, (some (.nilFunc), 1, 8)),
    (69, (some (.nilFunc), 1, 8)),
    (70, (some (.nilFunc), 1, 8)),
    (71, (some (.slice none 0 0), 1, 24)),
    (72, (some (.agg #[.slice none 0 0]), 1, 24)),
    (73, (some (.agg #[.slice none 0 0]), 1, 24)),
    (74, (some (.nilFunc), 1, 8)),
    (75, (some (.nilFunc), 1, 8)),
    (76, (some (.nilFunc), 1, 8)),
    (77, (some (.nilFunc), 1, 8)),
    (79, (some (.nilFunc), 1, 8)),
    (81, (some (.nilFunc), 1, 8)),
    (82, (some (.nilFunc), 1, 8)),
    (83, (some (.agg #[.string ByteArray.empty, .string ByteArray.empty, .string ByteArray.empty, .string ByteArray.empty, .string ByteArray.empty]), 5, 80)),
    (84, (some (.nilFunc), 1, 8)),
    (85, (some (.nilFunc), 1, 8)),
    (86, (some (.slice none 0 0), 1, 24)),
    (87, (some (.agg #[.slice none 0 0, .slice none 0 0, .slice none 0 0, .int .i64 0, .int .i64 0, .int .i64 0, .slice none 0 0, .int .i64 0, .int .i64 0, .int .i64 0, .slice none 0 0, .slice none 0 0, .int .i64 0]), 13, 200)),
    (88, (some (.agg #[.slice none 0 0, .slice none 0 0, .slice none 0 0, .int .i64 0, .int .i64 0, .int .i64 0, .slice none 0 0, .int .i64 0, .int .i64 0, .int .i64 0, .slice none 0 0, .slice none 0 0, .int .i64 0]), 13, 200)),
    (89, (some (.agg #[.int .u8 0, .int .u8 0, .int .u8 0, .int .u8 0, .int .u8 0, .int .u8 0, .int .u8 0, .int .u8 0]), 8, 8)),
    (90, (some (.agg #[.int .u8 0, .int .u8 0, .int .u8 0, .int .u8 0, .int .u8 0, .int .u8 0, .int .u8 0, .int .u8 0]), 8, 8)),
    (92, (some (.nilFunc), 1, 8)),
    (93, (some (.nilFunc), 1, 8)),
    (94, (some (.nilFunc), 1, 8)),
    (95, (some (.nilFunc), 1, 8)),
    (96, (some (.nilFunc), 1, 8)),
    (97, (some (.agg #[.int .u8 0, .int .u8 0, .int .u8 0, .int .u8 0]), 4, 4)),
    (98, (some (.nilFunc), 1, 8)),
    (99, (some (.nilFunc), 1, 8)),
    (100, (some (.nilFunc), 1, 8)),
    (101, (some (.nilFunc), 1, 8)),
    (102, (some (.nilFunc), 1, 8)),
    (103, (some (.nilFunc), 1, 8)),
    (104, (some (.nilFunc), 1, 8)),
    (105, (some (.agg #[.string ByteArray.empty, .int .i64 0, .int .i64 0, .int .i64 0, .int .i64 0, .int .i64 0, .int .i64 0, .slice none 0 0, .slice none 0 0]), 9, 112)),
    (106, (some (.agg #[.string ByteArray.empty, .int .i64 0, .int .i64 0, .int .i64 0, .int .i64 0, .int .i64 0, .int .i64 0, .slice none 0 0, .slice none 0 0]), 9, 112)),
    (107, (some (.nilFunc), 1, 8)),
    (108, (some (.agg #[.int .i64 0, .int .i64 0, .int .i64 0, .bool false, .int .i64 0, .int .i64 0, .int .i64 0]), 7, 56)),
    (109, (some (.agg #[.int .i64 0, .int .i64 0, .int .i64 0, .bool false, .int .i64 0, .int .i64 0, .int .i64 0]), 7, 56)),
    (111, (some (.nilFunc), 1, 8)),
    (112, (some (.nilFunc), 1, 8)),
    (113, (some (.nilFunc), 1, 8)),
    (114, (some (.nilFunc), 1, 8)),
    (115, (some (.nilFunc), 1, 8)),
    (116, (some (.nilFunc), 1, 8)),
    (117, (some (.nilFunc), 1, 8)),
    (118, (some (.nilFunc), 1, 8)),
    (119, (some (.nilFunc), 1, 8)),
    (120, (some (.pointer none), 1, 8)),
    (121, (some (.nilFunc), 1, 8)),
    (122, (some (.pointer none), 1, 8)),
    (123, (some (.nilFunc), 1, 8)),
    (124, (some (.nilFunc), 1, 8)),
    (125, (some (.nilFunc), 1, 8)),
    (126, (some (.nilFunc), 1, 8)),
    (127, (some (.agg #[.int .i64 0, .int .i64 0, .int .i64 0, .int .i64 0, .int .i64 0, .int .i64 0, .int .i64 0, .int .i64 0, .int .i64 0, .int .i64 0, .int .i64 0, .int .i64 0]), 12, 96)),
    (128, (some (.nilFunc), 1, 8)),
    (129, (some (.slice none 0 0), 1, 24)),
    (130, (some (.nilFunc), 1, 8)),
    (131, (some (.slice none 0 0), 1, 24)),
    (132, (some (.nilFunc), 1, 8)),
    (133, (some (.nilFunc), 1, 8)),
    (134, (some (.nilFunc), 1, 8)),
    (135, (some (.nilFunc), 1, 8)),
    (136, (some (.pointer none), 1, 8)),
    (137, (some (.nilFunc), 1, 8)),
    (138, (some (.int .u32 0), 1, 4)),
    (139, (some (.int .u64 0), 1, 8)),
    (140, (some (.nilFunc), 1, 8)),
    (141, (some (.agg #[.slice none 0 0, .slice none 0 0, .slice none 0 0, .slice none 0 0]), 4, 96)),
    (142, (some (.agg #[.int .i64 0, .int .i64 0]), 2, 16)),
    (143, (some (.agg #[.int .i64 0, .int .i64 0]), 2, 16)),
    (144, (some (.nilFunc), 1, 8)),
    (145, (some (.agg #[.string ByteArray.empty, .string ByteArray.empty, .string ByteArray.empty, .string ByteArray.empty]), 4, 64)),
    (146, (some (.nilFunc), 1, 8)),
    (147, (some (.nilFunc), 1, 8)),
    (148, (some (.nilFunc), 1, 8)),
    (149, (some (.nilFunc), 1, 8)),
    (150, (some (.nilFunc), 1, 8)),
    (151, (some (.nilFunc), 1, 8)),
    (152, (some (.slice none 0 0), 1, 24)),
    (154, (some (.nilFunc), 1, 8)),
    (155, (some (.agg #[.string ByteArray.empty, .slice none 0 0]), 2, 40)),
    (156, (some (.agg #[.string ByteArray.empty, .slice none 0 0]), 2, 40)),
    (157, (some (.agg #[]), 0, 0)),
    (158, (some (.agg #[]), 0, 0)),
    (160, (some (.agg #[.slice none 0 0]), 1, 24)),
    (161, (some (.agg #[.slice none 0 0]), 1, 24)),
    (162, (some (.nilFunc), 1, 8)),
    (163, (some (.nilFunc), 1, 8)),
    (164, (some (.int .i16 0), 1, 2)),
    (165, (some (.nilFunc), 1, 8)),
    (166, (some (.nilFunc), 1, 8)),
    (167, (some (.nilFunc), 1, 8)),
    (168, (some (.nilFunc), 1, 8)),
    (169, (some (.pointer none), 1, 8)),
    (170, (some (.slice none 0 0), 1, 24)),
    (171, (some (.nilFunc), 1, 8)),
    (172, (some (.nilFunc), 1, 8)),
    (173, (some (.nilFunc), 1, 8)),
    (174, (some (.nilFunc), 1, 8)),
    (175, (some (.nilFunc), 1, 8)),
    (176, (some (.pointer none), 1, 8)),
    (177, (some (.nilFunc), 1, 8)),
    (178, (some (.nilFunc), 1, 8)),
    (179, (some (.pointer none), 1, 8)),
    (180, (some (.nilFunc), 1, 8)),
    (181, (some (.nilFunc), 1, 8)),
    (182, (some (.nilFunc), 1, 8)),
    (183, (some (.nilFunc), 1, 8)),
    (184, (some (.nilFunc), 1, 8)),
    (185, (some (.agg #[.int .i64 0, .int .i64 0, .int .i64 0]), 3, 24)),
    (186, (some (.agg #[.int .i64 0, .int .i64 0, .int .i64 0, .int .i64 0, .int .i64 0, .int .i64 0, .int .i64 0, .int .i64 0, .int .i64 0, .int .i64 0, .int .i64 0, .int .i64 0]), 12, 96)),
    (187, (some (.agg #[.int .i64 0, .int .i64 0, .int .i64 0, .int .i64 0]), 4, 32)),
    (189, (some (.nilFunc), 1, 8)),
    (190, (some (.nilFunc), 1, 8)),
    (191, (some (.nilFunc), 1, 8)),
    (192, (some (.nilFunc), 1, 8)),
    (193, (some (.agg #[.int .i64 0, .int .i64 0, .int .i64 0, .int .i64 0, .int .i64 0, .int .i64 0, .int .i64 0, .int .i64 0, .int .i64 0]), 9, 72)),
    (194, (some (.nilFunc), 1, 8)),
    (196, (some (.nilFunc), 1, 8)),
    (197, (some (.nilFunc), 1, 8)),
    (198, (some (.pointer none), 1, 8)),
    (199, (some (.agg #[.pointer none, .pointer none, .slice none 0 0, .int .i64 0, .slice none 0 0, .slice none 0 0, .slice none 0 0, .slice none 0 0]), 8, 144)),
    (200, (some (.agg #[.pointer none, .pointer none, .slice none 0 0, .int .i64 0, .slice none 0 0, .slice none 0 0, .slice none 0 0, .slice none 0 0]), 8, 144)),
    (201, (some (.nilFunc), 1, 8)),
    (202, (some (.nilFunc), 1, 8)),
    (204, (some (.nilFunc), 1, 8)),
    (205, (some (.pointer none), 1, 8)),
    (206, (some (.nilFunc), 1, 8)),
    (207, (some (.nilFunc), 1, 8)),
    (208, (some (.nilFunc), 1, 8)),
    (209, (some (.nilFunc), 1, 8)),
    (210, (some (.nilFunc), 1, 8)),
    (211, (some (.nilFunc), 1, 8)),
    (212, (some (.nilFunc), 1, 8)),
    (213, (some (.nilFunc), 1, 8)),
    (215, (some (.nilFunc), 1, 8)),
    (216, (some (.nilFunc), 1, 8)),
    (217, (some (.agg #[.pointer none, .pointer none, .pointer none, .string ByteArray.empty]), 4, 40)),
    (218, (some (.agg #[.pointer none, .pointer none, .pointer none, .string ByteArray.empty]), 4, 40)),
    (219, (some (.agg #[]), 0, 0)),
    (220, (some (.agg #[]), 0, 0)),
    (221, (some (.agg #[]), 0, 0)),
    (222, (some (.int .u8 0), 1, 1)),
    (223, (some (.int .u8 0), 1, 1)),
    (224, (some (.nilFunc), 1, 8)),
    (225, (some (.pointer none), 1, 8)),
    (226, (some (.int .i32 0), 1, 4)),
    (227, (some (.int .i32 0), 1, 4)),
    (228, (some (.agg #[.int .u64 0, .int .u64 0, .int .u32 0, .int .u8 0, .int .u8 0, .int .u8 0, .int .u8 0, .nilFunc, .pointer none, .int .i32 0, .int .i32 0]), 11, 48)),
    (229, (some (.agg #[.int .u64 0, .int .u64 0, .int .u32 0, .int .u8 0, .int .u8 0, .int .u8 0, .int .u8 0, .nilFunc, .pointer none, .int .i32 0, .int .i32 0]), 11, 48)),
    (230, (some (.pointer none), 1, 8))],
  fld := [(7, [(0, (1, false)), (1, (1, false)), (2, (1, false)), (3, (1, false))]),
    (8, [(0, (1, false)), (1, (1, false)), (2, (1, false)), (3, (1, false))]),
    (13, [(0, (1, false)), (1, (1, false))]),
    (14, [(0, (1, false)), (1, (1, false))]),
    (18, [(0, (1, false))]),
    (19, [(0, (1, false))]),
    (25, [(0, (1, false)), (1, (1, false)), (2, (1, false)), (3, (1, false))]),
    (26, [(0, (1, false)), (1, (1, false)), (2, (1, false)), (3, (1, false))]),
    (27, [(0, (1, false)), (1, (1, false)), (2, (1, false)), (3, (4, true))]),
    (28, [(0, (1, false)), (1, (1, false)), (2, (1, false)), (3, (4, true))]),
    (29, [(0, (1, false)), (1, (1, false)), (2, (1, false))]),
    (30, [(0, (1, false)), (1, (1, false)), (2, (1, false))]),
    (48, [(0, (3, true)), (3, (1, false)), (4, (1, false)), (5, (1, false)), (6, (1, false))]),
    (49, [(0, (3, true)), (3, (1, false)), (4, (1, false)), (5, (1, false)), (6, (1, false))]),
    (72, [(0, (1, false))]),
    (73, [(0, (1, false))]),
    (87, [(0, (1, false)), (1, (1, false)), (2, (1, false)), (3, (4, true)), (7, (4, true)), (11, (1, false)), (12, (1, false))]),
    (88, [(0, (1, false)), (1, (1, false)), (2, (1, false)), (3, (4, true)), (7, (4, true)), (11, (1, false)), (12, (1, false))]),
    (105, [(0, (1, false)), (1, (3, true)), (4, (3, true)), (7, (1, true)), (8, (1, false))]),
    (106, [(0, (1, false)), (1, (3, true)), (4, (3, true)), (7, (1, true)), (8, (1, false))]),
    (108, [(0, (1, false)), (1, (1, false)), (2, (1, false)), (3, (1, false)), (4, (3, true))]),
    (109, [(0, (1, false)), (1, (1, false)), (2, (1, false)), (3, (1, false)), (4, (3, true))]),
    (142, [(0, (1, false)), (1, (1, false))]),
    (143, [(0, (1, false)), (1, (1, false))]),
    (155, [(0, (1, false)), (1, (1, false))]),
    (156, [(0, (1, false)), (1, (1, false))]),
    (157, []),
    (158, []),
    (160, [(0, (1, false))]),
    (161, [(0, (1, false))]),
    (199, [(0, (1, false)), (1, (1, false)), (2, (1, false)), (3, (1, false)), (4, (1, false)), (5, (1, false)), (6, (1, false)), (7, (1, false))]),
    (200, [(0, (1, false)), (1, (1, false)), (2, (1, false)), (3, (1, false)), (4, (1, false)), (5, (1, false)), (6, (1, false)), (7, (1, false))]),
    (217, [(0, (1, false)), (1, (1, false)), (2, (1, false)), (3, (1, false))]),
    (218, [(0, (1, false)), (1, (1, false)), (2, (1, false)), (3, (1, false))]),
    (220, [(0, (0, true))]),
    (221, [(0, (0, true))]),
    (228, [(0, (1, false)), (1, (1, false)), (2, (1, false)), (3, (1, false)), (4, (1, false)), (5, (1, false)), (6, (1, false)), (7, (1, false)), (8, (1, false)), (9, (1, false)), (10, (1, false))]),
    (229, [(0, (1, false)), (1, (1, false)), (2, (1, false)), (3, (1, false)), (4, (1, false)), (5, (1, false)), (6, (1, false)), (7, (1, false)), (8, (1, false)), (9, (1, false)), (10, (1, false))])],
  eqs := [(29, 3), (30, 3), (142, 2), (143, 2), (157, 0), (158, 0)] }
theorem ty_1 : tyI Try.prog 1 = some (some (.nilFunc), 1, 8) := by kernel_rfl
theorem ty_2 : tyI Try.prog 2 = some (some (.int .i64 0), 1, 8) := by kernel_rfl
theorem ty_3 : tyI Try.prog 3 = some (some (.int .i64 0), 1, 8) := by kernel_rfl
theorem ty_4 : tyI Try.prog 4 = some (some (.bool false), 1, 1) := by kernel_rfl
theorem ty_5 : tyI Try.prog 5 = some (some (.int .u8 0), 1, 1) := by kernel_rfl
theorem ty_6 : tyI Try.prog 6 = some (some (.int .u8 0), 1, 1) := by kernel_rfl
theorem ty_7 : tyI Try.prog 7 = some (some (.agg #[.int .i64 0, .int .i64 0, .bool false, .int .u8 0]), 4, 24) := by kernel_rfl
theorem ty_8 : tyI Try.prog 8 = some (some (.agg #[.int .i64 0, .int .i64 0, .bool false, .int .u8 0]), 4, 24) := by kernel_rfl
theorem ty_9 : tyI Try.prog 9 = some (some (.string ByteArray.empty), 1, 16) := by kernel_rfl
theorem ty_10 : tyI Try.prog 10 = some (some (.string ByteArray.empty), 1, 16) := by kernel_rfl
theorem ty_11 : tyI Try.prog 11 = some (some (.string ByteArray.empty), 1, 16) := by kernel_rfl
theorem ty_12 : tyI Try.prog 12 = some (some (.int .u64 0), 1, 8) := by kernel_rfl
theorem ty_13 : tyI Try.prog 13 = some (some (.agg #[.string ByteArray.empty, .int .u64 0]), 2, 24) := by kernel_rfl
theorem ty_14 : tyI Try.prog 14 = some (some (.agg #[.string ByteArray.empty, .int .u64 0]), 2, 24) := by kernel_rfl
theorem ty_15 : tyI Try.prog 15 = some (some (.pointer none), 1, 8) := by kernel_rfl
theorem ty_16 : tyI Try.prog 16 = some (some (.pointer none), 1, 8) := by kernel_rfl
theorem ty_17 : tyI Try.prog 17 = some (some (.pointer none), 1, 8) := by kernel_rfl
theorem ty_18 : tyI Try.prog 18 = some (some (.agg #[.pointer none]), 1, 8) := by kernel_rfl
theorem ty_19 : tyI Try.prog 19 = some (some (.agg #[.pointer none]), 1, 8) := by kernel_rfl
theorem ty_20 : tyI Try.prog 20 = some (some (.nilIface), 1, 16) := by kernel_rfl
theorem ty_21 : tyI Try.prog 21 = some (some (.int .i32 0), 1, 4) := by kernel_rfl
theorem ty_22 : tyI Try.prog 22 = some (some (.slice none 0 0), 1, 24) := by kernel_rfl
theorem ty_23 : tyI Try.prog 23 = some (some (.slice none 0 0), 1, 24) := by kernel_rfl
theorem ty_24 : tyI Try.prog 24 = some (some (.slice none 0 0), 1, 24) := by kernel_rfl
theorem ty_25 : tyI Try.prog 25 = some (some (.agg #[.int .i64 0, .int .i64 0, .int .i64 0, .slice none 0 0]), 4, 48) := by kernel_rfl
theorem ty_26 : tyI Try.prog 26 = some (some (.agg #[.int .i64 0, .int .i64 0, .int .i64 0, .slice none 0 0]), 4, 48) := by kernel_rfl
theorem ty_27 : tyI Try.prog 27 = some (some (.agg #[.string ByteArray.empty, .slice none 0 0, .slice none 0 0, .int .i64 0, .int .i64 0, .int .i64 0, .slice none 0 0]), 7, 112) := by kernel_rfl
theorem ty_28 : tyI Try.prog 28 = some (some (.agg #[.string ByteArray.empty, .slice none 0 0, .slice none 0 0, .int .i64 0, .int .i64 0, .int .i64 0, .slice none 0 0]), 7, 112) := by kernel_rfl
theorem ty_29 : tyI Try.prog 29 = some (some (.agg #[.int .i64 0, .int .i64 0, .int .i64 0]), 3, 24) := by kernel_rfl
theorem ty_30 : tyI Try.prog 30 = some (some (.agg #[.int .i64 0, .int .i64 0, .int .i64 0]), 3, 24) := by kernel_rfl
theorem ty_31 : tyI Try.prog 31 = some (some (.nilFunc), 1, 8) := by kernel_rfl
theorem ty_32 : tyI Try.prog 32 = some (some (.int .i64 0), 1, 8) := by kernel_rfl
theorem ty_34 : tyI Try.prog 34 = some (some (.nilFunc), 1, 8) := by kernel_rfl
theorem ty_35 : tyI Try.prog 35 = some (some (.nilFunc), 1, 8) := by kernel_rfl
theorem ty_36 : tyI Try.prog 36 = some (some (.nilFunc), 1, 8) := by kernel_rfl
theorem ty_37 : tyI Try.prog 37 = some (some (.nilFunc), 1, 8) := by kernel_rfl
theorem ty_38 : tyI Try.prog 38 = some (some (.nilFunc), 1, 8) := by kernel_rfl
theorem ty_39 : tyI Try.prog 39 = some (some (.slice none 0 0), 1, 24) := by kernel_rfl
theorem ty_40 : tyI Try.prog 40 = some (some (.nilFunc), 1, 8) := by kernel_rfl
theorem ty_41 : tyI Try.prog 41 = some (some (.agg #[.int .i64 0, .int .i64 0, .int .i64 0]), 3, 24) := by kernel_rfl
theorem ty_42 : tyI Try.prog 42 = some (some (.nilFunc), 1, 8) := by kernel_rfl
theorem ty_44 : tyI Try.prog 44 = some (some (.nilFunc), 1, 8) := by kernel_rfl
theorem ty_45 : tyI Try.prog 45 = some (some (.nilFunc), 1, 8) := by kernel_rfl
theorem ty_46 : tyI Try.prog 46 = some (some (.nilFunc), 1, 8) := by kernel_rfl
theorem ty_47 : tyI Try.prog 47 = some (some (.nilFunc), 1, 8) := by kernel_rfl
theorem ty_48 : tyI Try.prog 48 = some (some (.agg #[.int .i64 0, .int .i64 0, .int .i64 0, .int .i64 0, .int .i64 0, .slice none 0 0, .slice none 0 0]), 7, 88) := by kernel_rfl
theorem ty_49 : tyI Try.prog 49 = some (some (.agg #[.int .i64 0, .int .i64 0, .int .i64 0, .int .i64 0, .int .i64 0, .slice none 0 0, .slice none 0 0]), 7, 88) := by kernel_rfl
theorem ty_50 : tyI Try.prog 50 = some (some (.nilFunc), 1, 8) := by kernel_rfl
theorem ty_52 : tyI Try.prog 52 = some (some (.nilFunc), 1, 8) := by kernel_rfl
theorem ty_54 : tyI Try.prog 54 = some (some (.nilFunc), 1, 8) := by kernel_rfl
theorem ty_55 : tyI Try.prog 55 = some (some (.nilFunc), 1, 8) := by kernel_rfl
theorem ty_56 : tyI Try.prog 56 = some (some (.nilFunc), 1, 8) := by kernel_rfl
theorem ty_57 : tyI Try.prog 57 = some (some (.slice none 0 0), 1, 24) := by kernel_rfl
theorem ty_58 : tyI Try.prog 58 = some (some (.nilFunc), 1, 8) := by kernel_rfl
theorem ty_59 : tyI Try.prog 59 = some (some (.nilFunc), 1, 8) := by kernel_rfl
theorem ty_61 : tyI Try.prog 61 = some (some (.nilFunc), 1, 8) := by kernel_rfl
theorem ty_62 : tyI Try.prog 62 = some (some (.nilFunc), 1, 8) := by kernel_rfl
theorem ty_63 : tyI Try.prog 63 = some (some (.nilFunc), 1, 8) := by kernel_rfl
theorem ty_64 : tyI Try.prog 64 = some (some (.nilFunc), 1, 8) := by kernel_rfl
theorem ty_66 : tyI Try.prog 66 = some (some (.nilFunc), 1, 8) := by kernel_rfl
theorem ty_68 : tyI Try.prog 68 = some (some (.nilFunc), 1, 8) := by kernel_rfl
theorem ty_69 : tyI Try.prog 69 = some (some (.nilFunc), 1, 8) := by kernel_rfl
theorem ty_70 : tyI Try.prog 70 = some (some (.nilFunc), 1, 8) := by kernel_rfl
theorem ty_71 : tyI Try.prog 71 = some (some (.slice none 0 0), 1, 24) := by kernel_rfl
theorem ty_72 : tyI Try.prog 72 = some (some (.agg #[.slice none 0 0]), 1, 24) := by kernel_rfl
theorem ty_73 : tyI Try.prog 73 = some (some (.agg #[.slice none 0 0]), 1, 24) := by kernel_rfl
theorem ty_74 : tyI Try.prog 74 = some (some (.nilFunc), 1, 8) := by kernel_rfl
theorem ty_75 : tyI Try.prog 75 = some (some (.nilFunc), 1, 8) := by kernel_rfl
theorem ty_76 : tyI Try.prog 76 = some (some (.nilFunc), 1, 8) := by kernel_rfl
theorem ty_77 : tyI Try.prog 77 = some (some (.nilFunc), 1, 8) := by kernel_rfl
theorem ty_79 : tyI Try.prog 79 = some (some (.nilFunc), 1, 8) := by kernel_rfl
theorem ty_81 : tyI Try.prog 81 = some (some (.nilFunc), 1, 8) := by kernel_rfl
theorem ty_82 : tyI Try.prog 82 = some (some (.nilFunc), 1, 8) := by kernel_rfl
theorem ty_83 : tyI Try.prog 83 = some (some (.agg #[.string ByteArray.empty, .string ByteArray.empty, .string ByteArray.empty, .string ByteArray.empty, .string ByteArray.empty]), 5, 80) := by kernel_rfl
theorem ty_84 : tyI Try.prog 84 = some (some (.nilFunc), 1, 8) := by kernel_rfl
theorem ty_85 : tyI Try.prog 85 = some (some (.nilFunc), 1, 8) := by kernel_rfl
theorem ty_86 : tyI Try.prog 86 = some (some (.slice none 0 0), 1, 24) := by kernel_rfl
theorem ty_87 : tyI Try.prog 87 = some (some (.agg #[.slice none 0 0, .slice none 0 0, .slice none 0 0, .int .i64 0, .int .i64 0, .int .i64 0, .slice none 0 0, .int .i64 0, .int .i64 0, .int .i64 0, .slice none 0 0, .slice none 0 0, .int .i64 0]), 13, 200) := by kernel_rfl
theorem ty_88 : tyI Try.prog 88 = some (some (.agg #[.slice none 0 0, .slice none 0 0, .slice none 0 0, .int .i64 0, .int .i64 0, .int .i64 0, .slice none 0 0, .int .i64 0, .int .i64 0, .int .i64 0, .slice none 0 0, .slice none 0 0, .int .i64 0]), 13, 200) := by kernel_rfl
theorem ty_89 : tyI Try.prog 89 = some (some (.agg #[.int .u8 0, .int .u8 0, .int .u8 0, .int .u8 0, .int .u8 0, .int .u8 0, .int .u8 0, .int .u8 0]), 8, 8) := by kernel_rfl
theorem ty_90 : tyI Try.prog 90 = some (some (.agg #[.int .u8 0, .int .u8 0, .int .u8 0, .int .u8 0, .int .u8 0, .int .u8 0, .int .u8 0, .int .u8 0]), 8, 8) := by kernel_rfl
theorem ty_92 : tyI Try.prog 92 = some (some (.nilFunc), 1, 8) := by kernel_rfl
theorem ty_93 : tyI Try.prog 93 = some (some (.nilFunc), 1, 8) := by kernel_rfl
theorem ty_94 : tyI Try.prog 94 = some (some (.nilFunc), 1, 8) := by kernel_rfl
theorem ty_95 : tyI Try.prog 95 = some (some (.nilFunc), 1, 8) := by kernel_rfl
theorem ty_96 : tyI Try.prog 96 = some (some (.nilFunc), 1, 8) := by kernel_rfl
theorem ty_97 : tyI Try.prog 97 = some (some (.agg #[.int .u8 0, .int .u8 0, .int .u8 0, .int .u8 0]), 4, 4) := by kernel_rfl
theorem ty_98 : tyI Try.prog 98 = some (some (.nilFunc), 1, 8) := by kernel_rfl
theorem ty_99 : tyI Try.prog 99 = some (some (.nilFunc), 1, 8) := by kernel_rfl
theorem ty_100 : tyI Try.prog 100 = some (some (.nilFunc), 1, 8) := by kernel_rfl
theorem ty_101 : tyI Try.prog 101 = some (some (.nilFunc), 1, 8) := by kernel_rfl
theorem ty_102 : tyI Try.prog 102 = some (some (.nilFunc), 1, 8) := by kernel_rfl
theorem ty_103 : tyI Try.prog 103 = some (some (.nilFunc), 1, 8) := by kernel_rfl
theorem ty_104 : tyI Try.prog 104 = some (some (.nilFunc), 1, 8) := by kernel_rfl
theorem ty_105 : tyI Try.prog 105 = some (some (.agg #[.string ByteArray.empty, .int .i64 0, .int .i64 0, .int .i64 0, .int .i64 0, .int .i64 0, .int .i64 0, .slice none 0 0, .slice none 0 0]), 9, 112) := by kernel_rfl
theorem ty_106 : tyI Try.prog 106 = some (some (.agg #[.string ByteArray.empty, .int .i64 0, .int .i64 0, .int .i64 0, .int .i64 0, .int .i64 0, .int .i64 0, .slice none 0 0, .slice none 0 0]), 9, 112) := by kernel_rfl
theorem ty_107 : tyI Try.prog 107 = some (some (.nilFunc), 1, 8) := by kernel_rfl
theorem ty_108 : tyI Try.prog 108 = some (some (.agg #[.int .i64 0, .int .i64 0, .int .i64 0, .bool false, .int .i64 0, .int .i64 0, .int .i64 0]), 7, 56) := by kernel_rfl
theorem ty_109 : tyI Try.prog 109 = some (some (.agg #[.int .i64 0, .int .i64 0, .int .i64 0, .bool false, .int .i64 0, .int .i64 0, .int .i64 0]), 7, 56) := by kernel_rfl
theorem ty_111 : tyI Try.prog 111 = some (some (.nilFunc), 1, 8) := by kernel_rfl
theorem ty_112 : tyI Try.prog 112 = some (some (.nilFunc), 1, 8) := by kernel_rfl
theorem ty_113 : tyI Try.prog 113 = some (some (.nilFunc), 1, 8) := by kernel_rfl
theorem ty_114 : tyI Try.prog 114 = some (some (.nilFunc), 1, 8) := by kernel_rfl
theorem ty_115 : tyI Try.prog 115 = some (some (.nilFunc), 1, 8) := by kernel_rfl
theorem ty_116 : tyI Try.prog 116 = some (some (.nilFunc), 1, 8) := by kernel_rfl
theorem ty_117 : tyI Try.prog 117 = some (some (.nilFunc), 1, 8) := by kernel_rfl
theorem ty_118 : tyI Try.prog 118 = some (some (.nilFunc), 1, 8) := by kernel_rfl
theorem ty_119 : tyI Try.prog 119 = some (some (.nilFunc), 1, 8) := by kernel_rfl
theorem ty_120 : tyI Try.prog 120 = some (some (.pointer none), 1, 8) := by kernel_rfl
theorem ty_121 : tyI Try.prog 121 = some (some (.nilFunc), 1, 8) := by kernel_rfl
theorem ty_122 : tyI Try.prog 122 = some (some (.pointer none), 1, 8) := by kernel_rfl
theorem ty_123 : tyI Try.prog 123 = some (some (.nilFunc), 1, 8) := by kernel_rfl
theorem ty_124 : tyI Try.prog 124 = some (some (.nilFunc), 1, 8) := by kernel_rfl
theorem ty_125 : tyI Try.prog 125 = some (some (.nilFunc), 1, 8) := by kernel_rfl
theorem ty_126 : tyI Try.prog 126 = some (some (.nilFunc), 1, 8) := by kernel_rfl
theorem ty_127 : tyI Try.prog 127 = some (some (.agg #[.int .i64 0, .int .i64 0, .int .i64 0, .int .i64 0, .int .i64 0, .int .i64 0, .int .i64 0, .int .i64 0, .int .i64 0, .int .i64 0, .int .i64 0, .int .i64 0]), 12, 96) := by kernel_rfl
theorem ty_128 : tyI Try.prog 128 = some (some (.nilFunc), 1, 8) := by kernel_rfl
theorem ty_129 : tyI Try.prog 129 = some (some (.slice none 0 0), 1, 24) := by kernel_rfl
theorem ty_130 : tyI Try.prog 130 = some (some (.nilFunc), 1, 8) := by kernel_rfl
theorem ty_131 : tyI Try.prog 131 = some (some (.slice none 0 0), 1, 24) := by kernel_rfl
theorem ty_132 : tyI Try.prog 132 = some (some (.nilFunc), 1, 8) := by kernel_rfl
theorem ty_133 : tyI Try.prog 133 = some (some (.nilFunc), 1, 8) := by kernel_rfl
theorem ty_134 : tyI Try.prog 134 = some (some (.nilFunc), 1, 8) := by kernel_rfl
theorem ty_135 : tyI Try.prog 135 = some (some (.nilFunc), 1, 8) := by kernel_rfl
theorem ty_136 : tyI Try.prog 136 = some (some (.pointer none), 1, 8) := by kernel_rfl
theorem ty_137 : tyI Try.prog 137 = some (some (.nilFunc), 1, 8) := by kernel_rfl
theorem ty_138 : tyI Try.prog 138 = some (some (.int .u32 0), 1, 4) := by kernel_rfl
theorem ty_139 : tyI Try.prog 139 = some (some (.int .u64 0), 1, 8) := by kernel_rfl
theorem ty_140 : tyI Try.prog 140 = some (some (.nilFunc), 1, 8) := by kernel_rfl
theorem ty_141 : tyI Try.prog 141 = some (some (.agg #[.slice none 0 0, .slice none 0 0, .slice none 0 0, .slice none 0 0]), 4, 96) := by kernel_rfl
theorem ty_142 : tyI Try.prog 142 = some (some (.agg #[.int .i64 0, .int .i64 0]), 2, 16) := by kernel_rfl
theorem ty_143 : tyI Try.prog 143 = some (some (.agg #[.int .i64 0, .int .i64 0]), 2, 16) := by kernel_rfl
theorem ty_144 : tyI Try.prog 144 = some (some (.nilFunc), 1, 8) := by kernel_rfl
theorem ty_145 : tyI Try.prog 145 = some (some (.agg #[.string ByteArray.empty, .string ByteArray.empty, .string ByteArray.empty, .string ByteArray.empty]), 4, 64) := by kernel_rfl
theorem ty_146 : tyI Try.prog 146 = some (some (.nilFunc), 1, 8) := by kernel_rfl
theorem ty_147 : tyI Try.prog 147 = some (some (.nilFunc), 1, 8) := by kernel_rfl
theorem ty_148 : tyI Try.prog 148 = some (some (.nilFunc), 1, 8) := by kernel_rfl
theorem ty_149 : tyI Try.prog 149 = some (some (.nilFunc), 1, 8) := by kernel_rfl
theorem ty_150 : tyI Try.prog 150 = some (some (.nilFunc), 1, 8) := by kernel_rfl
theorem ty_151 : tyI Try.prog 151 = some (some (.nilFunc), 1, 8) := by kernel_rfl
theorem ty_152 : tyI Try.prog 152 = some (some (.slice none 0 0), 1, 24) := by kernel_rfl
theorem ty_154 : tyI Try.prog 154 = some (some (.nilFunc), 1, 8) := by kernel_rfl
theorem ty_155 : tyI Try.prog 155 = some (some (.agg #[.string ByteArray.empty, .slice none 0 0]), 2, 40) := by kernel_rfl
theorem ty_156 : tyI Try.prog 156 = some (some (.agg #[.string ByteArray.empty, .slice none 0 0]), 2, 40) := by kernel_rfl
theorem ty_157 : tyI Try.prog 157 = some (some (.agg #[]), 0, 0) := by kernel_rfl
theorem ty_158 : tyI Try.prog 158 = some (some (.agg #[]), 0, 0) := by kernel_rfl
theorem ty_160 : tyI Try.prog 160 = some (some (.agg #[.slice none 0 0]), 1, 24) := by kernel_rfl
theorem ty_161 : tyI Try.prog 161 = some (some (.agg #[.slice none 0 0]), 1, 24) := by kernel_rfl
theorem ty_162 : tyI Try.prog 162 = some (some (.nilFunc), 1, 8) := by kernel_rfl
theorem ty_163 : tyI Try.prog 163 = some (some (.nilFunc), 1, 8) := by kernel_rfl
theorem ty_164 : tyI Try.prog 164 = some (some (.int .i16 0), 1, 2) := by kernel_rfl
theorem ty_165 : tyI Try.prog 165 = some (some (.nilFunc), 1, 8) := by kernel_rfl
theorem ty_166 : tyI Try.prog 166 = some (some (.nilFunc), 1, 8) := by kernel_rfl
theorem ty_167 : tyI Try.prog 167 = some (some (.nilFunc), 1, 8) := by kernel_rfl
theorem ty_168 : tyI Try.prog 168 = some (some (.nilFunc), 1, 8) := by kernel_rfl
theorem ty_169 : tyI Try.prog 169 = some (some (.pointer none), 1, 8) := by kernel_rfl
theorem ty_170 : tyI Try.prog 170 = some (some (.slice none 0 0), 1, 24) := by kernel_rfl
theorem ty_171 : tyI Try.prog 171 = some (some (.nilFunc), 1, 8) := by kernel_rfl
theorem ty_172 : tyI Try.prog 172 = some (some (.nilFunc), 1, 8) := by kernel_rfl
theorem ty_173 : tyI Try.prog 173 = some (some (.nilFunc), 1, 8) := by kernel_rfl
theorem ty_174 : tyI Try.prog 174 = some (some (.nilFunc), 1, 8) := by kernel_rfl
theorem ty_175 : tyI Try.prog 175 = some (some (.nilFunc), 1, 8) := by kernel_rfl
theorem ty_176 : tyI Try.prog 176 = some (some (.pointer none), 1, 8) := by kernel_rfl
theorem ty_177 : tyI Try.prog 177 = some (some (.nilFunc), 1, 8) := by kernel_rfl
theorem ty_178 : tyI Try.prog 178 = some (some (.nilFunc), 1, 8) := by kernel_rfl
theorem ty_179 : tyI Try.prog 179 = some (some (.pointer none), 1, 8) := by kernel_rfl
theorem ty_180 : tyI Try.prog 180 = some (some (.nilFunc), 1, 8) := by kernel_rfl
theorem ty_181 : tyI Try.prog 181 = some (some (.nilFunc), 1, 8) := by kernel_rfl
theorem ty_182 : tyI Try.prog 182 = some (some (.nilFunc), 1, 8) := by kernel_rfl
theorem ty_183 : tyI Try.prog 183 = some (some (.nilFunc), 1, 8) := by kernel_rfl
theorem ty_184 : tyI Try.prog 184 = some (some (.nilFunc), 1, 8) := by kernel_rfl
theorem ty_185 : tyI Try.prog 185 = some (some (.agg #[.int .i64 0, .int .i64 0, .int .i64 0]), 3, 24) := by kernel_rfl
theorem ty_186 : tyI Try.prog 186 = some (some (.agg #[.int .i64 0, .int .i64 0, .int .i64 0, .int .i64 0, .int .i64 0, .int .i64 0, .int .i64 0, .int .i64 0, .int .i64 0, .int .i64 0, .int .i64 0, .int .i64 0]), 12, 96) := by kernel_rfl
theorem ty_187 : tyI Try.prog 187 = some (some (.agg #[.int .i64 0, .int .i64 0, .int .i64 0, .int .i64 0]), 4, 32) := by kernel_rfl
theorem ty_189 : tyI Try.prog 189 = some (some (.nilFunc), 1, 8) := by kernel_rfl
theorem ty_190 : tyI Try.prog 190 = some (some (.nilFunc), 1, 8) := by kernel_rfl
theorem ty_191 : tyI Try.prog 191 = some (some (.nilFunc), 1, 8) := by kernel_rfl
theorem ty_192 : tyI Try.prog 192 = some (some (.nilFunc), 1, 8) := by kernel_rfl
theorem ty_193 : tyI Try.prog 193 = some (some (.agg #[.int .i64 0, .int .i64 0, .int .i64 0, .int .i64 0, .int .i64 0, .int .i64 0, .int .i64 0, .int .i64 0, .int .i64 0]), 9, 72) := by kernel_rfl
theorem ty_194 : tyI Try.prog 194 = some (some (.nilFunc), 1, 8) := by kernel_rfl
theorem ty_196 : tyI Try.prog 196 = some (some (.nilFunc), 1, 8) := by kernel_rfl
theorem ty_197 : tyI Try.prog 197 = some (some (.nilFunc), 1, 8) := by kernel_rfl
theorem ty_198 : tyI Try.prog 198 = some (some (.pointer none), 1, 8) := by kernel_rfl
theorem ty_199 : tyI Try.prog 199 = some (some (.agg #[.pointer none, .pointer none, .slice none 0 0, .int .i64 0, .slice none 0 0, .slice none 0 0, .slice none 0 0, .slice none 0 0]), 8, 144) := by kernel_rfl
theorem ty_200 : tyI Try.prog 200 = some (some (.agg #[.pointer none, .pointer none, .slice none 0 0, .int .i64 0, .slice none 0 0, .slice none 0 0, .slice none 0 0, .slice none 0 0]), 8, 144) := by kernel_rfl
theorem ty_201 : tyI Try.prog 201 = some (some (.nilFunc), 1, 8) := by kernel_rfl
theorem ty_202 : tyI Try.prog 202 = some (some (.nilFunc), 1, 8) := by kernel_rfl
theorem ty_204 : tyI Try.prog 204 = some (some (.nilFunc), 1, 8) := by kernel_rfl
theorem ty_205 : tyI Try.prog 205 = some (some (.pointer none), 1, 8) := by kernel_rfl
theorem ty_206 : tyI Try.prog 206 = some (some (.nilFunc), 1, 8) := by kernel_rfl
theorem ty_207 : tyI Try.prog 207 = some (some (.nilFunc), 1, 8) := by kernel_rfl
theorem ty_208 : tyI Try.prog 208 = some (some (.nilFunc), 1, 8) := by kernel_rfl
theorem ty_209 : tyI Try.prog 209 = some (some (.nilFunc), 1, 8) := by kernel_rfl
theorem ty_210 : tyI Try.prog 210 = some (some (.nilFunc), 1, 8) := by kernel_rfl
theorem ty_211 : tyI Try.prog 211 = some (some (.nilFunc), 1, 8) := by kernel_rfl
theorem ty_212 : tyI Try.prog 212 = some (some (.nilFunc), 1, 8) := by kernel_rfl
theorem ty_213 : tyI Try.prog 213 = some (some (.nilFunc), 1, 8) := by kernel_rfl
theorem ty_215 : tyI Try.prog 215 = some (some (.nilFunc), 1, 8) := by kernel_rfl
theorem ty_216 : tyI Try.prog 216 = some (some (.nilFunc), 1, 8) := by kernel_rfl
theorem ty_217 : tyI Try.prog 217 = some (some (.agg #[.pointer none, .pointer none, .pointer none, .string ByteArray.empty]), 4, 40) := by kernel_rfl
theorem ty_218 : tyI Try.prog 218 = some (some (.agg #[.pointer none, .pointer none, .pointer none, .string ByteArray.empty]), 4, 40) := by kernel_rfl
theorem ty_219 : tyI Try.prog 219 = some (some (.agg #[]), 0, 0) := by kernel_rfl
theorem ty_220 : tyI Try.prog 220 = some (some (.agg #[]), 0, 0) := by kernel_rfl
theorem ty_221 : tyI Try.prog 221 = some (some (.agg #[]), 0, 0) := by kernel_rfl
theorem ty_222 : tyI Try.prog 222 = some (some (.int .u8 0), 1, 1) := by kernel_rfl
theorem ty_223 : tyI Try.prog 223 = some (some (.int .u8 0), 1, 1) := by kernel_rfl
theorem ty_224 : tyI Try.prog 224 = some (some (.nilFunc), 1, 8) := by kernel_rfl
theorem ty_225 : tyI Try.prog 225 = some (some (.pointer none), 1, 8) := by kernel_rfl
theorem ty_226 : tyI Try.prog 226 = some (some (.int .i32 0), 1, 4) := by kernel_rfl
theorem ty_227 : tyI Try.prog 227 = some (some (.int .i32 0), 1, 4) := by kernel_rfl
theorem ty_228 : tyI Try.prog 228 = some (some (.agg #[.int .u64 0, .int .u64 0, .int .u32 0, .int .u8 0, .int .u8 0, .int .u8 0, .int .u8 0, .nilFunc, .pointer none, .int .i32 0, .int .i32 0]), 11, 48) := by kernel_rfl
theorem ty_229 : tyI Try.prog 229 = some (some (.agg #[.int .u64 0, .int .u64 0, .int .u32 0, .int .u8 0, .int .u8 0, .int .u8 0, .int .u8 0, .nilFunc, .pointer none, .int .i32 0, .int .i32 0]), 11, 48) := by kernel_rfl
theorem ty_230 : tyI Try.prog 230 = some (some (.pointer none), 1, 8) := by kernel_rfl
theorem fl_7 : fieldsP Try.prog 7 = some [(0, (1, false)), (1, (1, false)), (2, (1, false)), (3, (1, false))] := by kernel_rfl
theorem fl_8 : fieldsP Try.prog 8 = some [(0, (1, false)), (1, (1, false)), (2, (1, false)), (3, (1, false))] := by kernel_rfl
theorem fl_13 : fieldsP Try.prog 13 = some [(0, (1, false)), (1, (1, false))] := by kernel_rfl
theorem fl_14 : fieldsP Try.prog 14 = some [(0, (1, false)), (1, (1, false))] := by kernel_rfl
theorem fl_18 : fieldsP Try.prog 18 = some [(0, (1, false))] := by kernel_rfl
theorem fl_19 : fieldsP Try.prog 19 = some [(0, (1, false))] := by kernel_rfl
theorem fl_25 : fieldsP Try.prog 25 = some [(0, (1, false)), (1, (1, false)), (2, (1, false)), (3, (1, false))] := by kernel_rfl
theorem fl_26 : fieldsP Try.prog 26 = some [(0, (1, false)), (1, (1, false)), (2, (1, false)), (3, (1, false))] := by kernel_rfl
theorem fl_27 : fieldsP Try.prog 27 = some [(0, (1, false)), (1, (1, false)), (2, (1, false)), (3, (4, true))] := by kernel_rfl
theorem fl_28 : fieldsP Try.prog 28 = some [(0, (1, false)), (1, (1, false)), (2, (1, false)), (3, (4, true))] := by kernel_rfl
theorem fl_29 : fieldsP Try.prog 29 = some [(0, (1, false)), (1, (1, false)), (2, (1, false))] := by kernel_rfl
theorem fl_30 : fieldsP Try.prog 30 = some [(0, (1, false)), (1, (1, false)), (2, (1, false))] := by kernel_rfl
theorem fl_48 : fieldsP Try.prog 48 = some [(0, (3, true)), (3, (1, false)), (4, (1, false)), (5, (1, false)), (6, (1, false))] := by kernel_rfl
theorem fl_49 : fieldsP Try.prog 49 = some [(0, (3, true)), (3, (1, false)), (4, (1, false)), (5, (1, false)), (6, (1, false))] := by kernel_rfl
theorem fl_72 : fieldsP Try.prog 72 = some [(0, (1, false))] := by kernel_rfl
theorem fl_73 : fieldsP Try.prog 73 = some [(0, (1, false))] := by kernel_rfl
theorem fl_87 : fieldsP Try.prog 87 = some [(0, (1, false)), (1, (1, false)), (2, (1, false)), (3, (4, true)), (7, (4, true)), (11, (1, false)), (12, (1, false))] := by kernel_rfl
theorem fl_88 : fieldsP Try.prog 88 = some [(0, (1, false)), (1, (1, false)), (2, (1, false)), (3, (4, true)), (7, (4, true)), (11, (1, false)), (12, (1, false))] := by kernel_rfl
theorem fl_105 : fieldsP Try.prog 105 = some [(0, (1, false)), (1, (3, true)), (4, (3, true)), (7, (1, true)), (8, (1, false))] := by kernel_rfl
theorem fl_106 : fieldsP Try.prog 106 = some [(0, (1, false)), (1, (3, true)), (4, (3, true)), (7, (1, true)), (8, (1, false))] := by kernel_rfl
theorem fl_108 : fieldsP Try.prog 108 = some [(0, (1, false)), (1, (1, false)), (2, (1, false)), (3, (1, false)), (4, (3, true))] := by kernel_rfl
theorem fl_109 : fieldsP Try.prog 109 = some [(0, (1, false)), (1, (1, false)), (2, (1, false)), (3, (1, false)), (4, (3, true))] := by kernel_rfl
theorem fl_142 : fieldsP Try.prog 142 = some [(0, (1, false)), (1, (1, false))] := by kernel_rfl
theorem fl_143 : fieldsP Try.prog 143 = some [(0, (1, false)), (1, (1, false))] := by kernel_rfl
theorem fl_155 : fieldsP Try.prog 155 = some [(0, (1, false)), (1, (1, false))] := by kernel_rfl
theorem fl_156 : fieldsP Try.prog 156 = some [(0, (1, false)), (1, (1, false))] := by kernel_rfl
theorem fl_157 : fieldsP Try.prog 157 = some [] := by kernel_rfl
theorem fl_158 : fieldsP Try.prog 158 = some [] := by kernel_rfl
theorem fl_160 : fieldsP Try.prog 160 = some [(0, (1, false))] := by kernel_rfl
theorem fl_161 : fieldsP Try.prog 161 = some [(0, (1, false))] := by kernel_rfl
theorem fl_199 : fieldsP Try.prog 199 = some [(0, (1, false)), (1, (1, false)), (2, (1, false)), (3, (1, false)), (4, (1, false)), (5, (1, false)), (6, (1, false)), (7, (1, false))] := by kernel_rfl
theorem fl_200 : fieldsP Try.prog 200 = some [(0, (1, false)), (1, (1, false)), (2, (1, false)), (3, (1, false)), (4, (1, false)), (5, (1, false)), (6, (1, false)), (7, (1, false))] := by kernel_rfl
theorem fl_217 : fieldsP Try.prog 217 = some [(0, (1, false)), (1, (1, false)), (2, (1, false)), (3, (1, false))] := by kernel_rfl
theorem fl_218 : fieldsP Try.prog 218 = some [(0, (1, false)), (1, (1, false)), (2, (1, false)), (3, (1, false))] := by kernel_rfl
theorem fl_220 : fieldsP Try.prog 220 = some [(0, (0, true))] := by kernel_rfl
theorem fl_221 : fieldsP Try.prog 221 = some [(0, (0, true))] := by kernel_rfl
theorem fl_228 : fieldsP Try.prog 228 = some [(0, (1, false)), (1, (1, false)), (2, (1, false)), (3, (1, false)), (4, (1, false)), (5, (1, false)), (6, (1, false)), (7, (1, false)), (8, (1, false)), (9, (1, false)), (10, (1, false))] := by kernel_rfl
theorem fl_229 : fieldsP Try.prog 229 = some [(0, (1, false)), (1, (1, false)), (2, (1, false)), (3, (1, false)), (4, (1, false)), (5, (1, false)), (6, (1, false)), (7, (1, false)), (8, (1, false)), (9, (1, false)), (10, (1, false))] := by kernel_rfl
theorem eq_29 : eqInts Try.prog 29 = true ∧ (match Try.prog.underlying 29 with | some (.struct fs) => fs.size | _ => 0) = 3 := ⟨by kernel_rfl, by rw [Try.underlying29]; rfl⟩
theorem eq_30 : eqInts Try.prog 30 = true ∧ (match Try.prog.underlying 30 with | some (.struct fs) => fs.size | _ => 0) = 3 := ⟨by kernel_rfl, by rw [Try.underlying30]; rfl⟩
theorem eq_142 : eqInts Try.prog 142 = true ∧ (match Try.prog.underlying 142 with | some (.struct fs) => fs.size | _ => 0) = 2 := ⟨by kernel_rfl, by rw [Try.underlying142]; rfl⟩
theorem eq_143 : eqInts Try.prog 143 = true ∧ (match Try.prog.underlying 143 with | some (.struct fs) => fs.size | _ => 0) = 2 := ⟨by kernel_rfl, by rw [Try.underlying143]; rfl⟩
theorem eq_157 : eqInts Try.prog 157 = true ∧ (match Try.prog.underlying 157 with | some (.struct fs) => fs.size | _ => 0) = 0 := ⟨by kernel_rfl, by rw [Try.underlying157]; rfl⟩
theorem eq_158 : eqInts Try.prog 158 = true ∧ (match Try.prog.underlying 158 with | some (.struct fs) => fs.size | _ => 0) = 0 := ⟨by kernel_rfl, by rw [Try.underlying158]; rfl⟩
theorem tab_und : allP (fun k D => Try.prog.underlying k = some D) tab.und := ⟨Try.underlying0, ⟨Try.underlying1, ⟨Try.underlying2, ⟨Try.underlying3, ⟨Try.underlying4, ⟨Try.underlying5, ⟨Try.underlying6, ⟨Try.underlying7, ⟨Try.underlying8, ⟨Try.underlying9, ⟨Try.underlying10, ⟨Try.underlying11, ⟨Try.underlying12, ⟨Try.underlying13, ⟨Try.underlying14, ⟨Try.underlying15, ⟨Try.underlying16, ⟨Try.underlying17, ⟨Try.underlying18, ⟨Try.underlying19, ⟨Try.underlying20, ⟨Try.underlying21, ⟨Try.underlying22, ⟨Try.underlying23, ⟨Try.underlying24, ⟨Try.underlying25, ⟨Try.underlying26, ⟨Try.underlying27, ⟨Try.underlying28, ⟨Try.underlying29, ⟨Try.underlying30, ⟨Try.underlying31, ⟨Try.underlying32, ⟨Try.underlying33, ⟨Try.underlying34, ⟨Try.underlying35, ⟨Try.underlying36, ⟨Try.underlying37, ⟨Try.underlying38, ⟨Try.underlying39, ⟨Try.underlying40, ⟨Try.underlying41, ⟨Try.underlying42, ⟨Try.underlying43, ⟨Try.underlying44, ⟨Try.underlying45, ⟨Try.underlying46, ⟨Try.underlying47, ⟨Try.underlying48, ⟨Try.underlying49, ⟨Try.underlying50, ⟨Try.underlying51, ⟨Try.underlying52, ⟨Try.underlying53, ⟨Try.underlying54, ⟨Try.underlying55, ⟨Try.underlying56, ⟨Try.underlying57, ⟨Try.underlying58, ⟨Try.underlying59, ⟨Try.underlying60, ⟨Try.underlying61, ⟨Try.underlying62, ⟨Try.underlying63, ⟨Try.underlying64, ⟨Try.underlying65, ⟨Try.underlying66, ⟨Try.underlying67, ⟨Try.underlying68, ⟨Try.underlying69, ⟨Try.underlying70, ⟨Try.underlying71, ⟨Try.underlying72, ⟨Try.underlying73, ⟨Try.underlying74, ⟨Try.underlying75, ⟨Try.underlying76, ⟨Try.underlying77, ⟨Try.underlying78, ⟨Try.underlying79, ⟨Try.underlying80, ⟨Try.underlying81, ⟨Try.underlying82, ⟨Try.underlying83, ⟨Try.underlying84, ⟨Try.underlying85, ⟨Try.underlying86, ⟨Try.underlying87, ⟨Try.underlying88, ⟨Try.underlying89, ⟨Try.underlying90, ⟨Try.underlying91, ⟨Try.underlying92, ⟨Try.underlying93, ⟨Try.underlying94, ⟨Try.underlying95, ⟨Try.underlying96, ⟨Try.underlying97, ⟨Try.underlying98, ⟨Try.underlying99, ⟨Try.underlying100, ⟨Try.underlying101, ⟨Try.underlying102, ⟨Try.underlying103, ⟨Try.underlying104, ⟨Try.underlying105, ⟨Try.underlying106, ⟨Try.underlying107, ⟨Try.underlying108, ⟨Try.underlying109, ⟨Try.underlying110, ⟨Try.underlying111, ⟨Try.underlying112, ⟨Try.underlying113, ⟨Try.underlying114, ⟨Try.underlying115, ⟨Try.underlying116, ⟨Try.underlying117, ⟨Try.underlying118, ⟨Try.underlying119, ⟨Try.underlying120, ⟨Try.underlying121, ⟨Try.underlying122, ⟨Try.underlying123, ⟨Try.underlying124, ⟨Try.underlying125, ⟨Try.underlying126, ⟨Try.underlying127, ⟨Try.underlying128, ⟨Try.underlying129, ⟨Try.underlying130, ⟨Try.underlying131, ⟨Try.underlying132, ⟨Try.underlying133, ⟨Try.underlying134, ⟨Try.underlying135, ⟨Try.underlying136, ⟨Try.underlying137, ⟨Try.underlying138, ⟨Try.underlying139, ⟨Try.underlying140, ⟨Try.underlying141, ⟨Try.underlying142, ⟨Try.underlying143, ⟨Try.underlying144, ⟨Try.underlying145, ⟨Try.underlying146, ⟨Try.underlying147, ⟨Try.underlying148, ⟨Try.underlying149, ⟨Try.underlying150, ⟨Try.underlying151, ⟨Try.underlying152, ⟨Try.underlying153, ⟨Try.underlying154, ⟨Try.underlying155, ⟨Try.underlying156, ⟨Try.underlying157, ⟨Try.underlying158, ⟨Try.underlying159, ⟨Try.underlying160, ⟨Try.underlying161, ⟨Try.underlying162, ⟨Try.underlying163, ⟨Try.underlying164, ⟨Try.underlying165, ⟨Try.underlying166, ⟨Try.underlying167, ⟨Try.underlying168, ⟨Try.underlying169, ⟨Try.underlying170, ⟨Try.underlying171, ⟨Try.underlying172, ⟨Try.underlying173, ⟨Try.underlying174, ⟨Try.underlying175, ⟨Try.underlying176, ⟨Try.underlying177, ⟨Try.underlying178, ⟨Try.underlying179, ⟨Try.underlying180, ⟨Try.underlying181, ⟨Try.underlying182, ⟨Try.underlying183, ⟨Try.underlying184, ⟨Try.underlying185, ⟨Try.underlying186, ⟨Try.underlying187, ⟨Try.underlying188, ⟨Try.underlying189, ⟨Try.underlying190, ⟨Try.underlying191, ⟨Try.underlying192, ⟨Try.underlying193, ⟨Try.underlying194, ⟨Try.underlying195, ⟨Try.underlying196, ⟨Try.underlying197, ⟨Try.underlying198, ⟨Try.underlying199, ⟨Try.underlying200, ⟨Try.underlying201, ⟨Try.underlying202, ⟨Try.underlying203, ⟨Try.underlying204, ⟨Try.underlying205, ⟨Try.underlying206, ⟨Try.underlying207, ⟨Try.underlying208, ⟨Try.underlying209, ⟨Try.underlying210, ⟨Try.underlying211, ⟨Try.underlying212, ⟨Try.underlying213, ⟨Try.underlying214, ⟨Try.underlying215, ⟨Try.underlying216, ⟨Try.underlying217, ⟨Try.underlying218, ⟨Try.underlying219, ⟨Try.underlying220, ⟨Try.underlying221, ⟨Try.underlying222, ⟨Try.underlying223, ⟨Try.underlying224, ⟨Try.underlying225, ⟨Try.underlying226, ⟨Try.underlying227, ⟨Try.underlying228, ⟨Try.underlying229, ⟨Try.underlying230, trivial⟩⟩⟩⟩⟩⟩⟩⟩⟩⟩⟩⟩⟩⟩⟩⟩⟩⟩⟩⟩⟩⟩⟩⟩⟩⟩⟩⟩⟩⟩⟩⟩⟩⟩⟩⟩⟩⟩⟩⟩⟩⟩⟩⟩⟩⟩⟩⟩⟩⟩⟩⟩⟩⟩⟩⟩⟩⟩⟩⟩⟩⟩⟩⟩⟩⟩⟩⟩⟩⟩⟩⟩⟩⟩⟩⟩⟩⟩⟩⟩⟩⟩⟩⟩⟩⟩⟩⟩⟩⟩⟩⟩⟩⟩⟩⟩⟩⟩⟩⟩⟩⟩⟩⟩⟩⟩⟩⟩⟩⟩⟩⟩⟩⟩⟩⟩⟩⟩⟩⟩⟩⟩⟩⟩⟩⟩⟩⟩⟩⟩⟩⟩⟩⟩⟩⟩⟩⟩⟩⟩⟩⟩⟩⟩⟩⟩⟩⟩⟩⟩⟩⟩⟩⟩⟩⟩⟩⟩⟩⟩⟩⟩⟩⟩⟩⟩⟩⟩⟩⟩⟩⟩⟩⟩⟩⟩⟩⟩⟩⟩⟩⟩⟩⟩⟩⟩⟩⟩⟩⟩⟩⟩⟩⟩⟩⟩⟩⟩⟩⟩⟩⟩⟩⟩⟩⟩⟩⟩⟩⟩⟩⟩⟩⟩⟩⟩⟩⟩⟩⟩⟩⟩⟩⟩⟩⟩⟩⟩⟩⟩⟩
theorem tab_inf : allP (fun k x => tyI Try.prog k = some x) tab.inf := ⟨ty_1, ⟨ty_2, ⟨ty_3, ⟨ty_4, ⟨ty_5, ⟨ty_6, ⟨ty_7, ⟨ty_8, ⟨ty_9, ⟨ty_10, ⟨ty_11, ⟨ty_12, ⟨ty_13, ⟨ty_14, ⟨ty_15, ⟨ty_16, ⟨ty_17, ⟨ty_18, ⟨ty_19, ⟨ty_20, ⟨ty_21, ⟨ty_22, ⟨ty_23, ⟨ty_24, ⟨ty_25, ⟨ty_26, ⟨ty_27, ⟨ty_28, ⟨ty_29, ⟨ty_30, ⟨ty_31, ⟨ty_32, ⟨ty_34, ⟨ty_35, ⟨ty_36, ⟨ty_37, ⟨ty_38, ⟨ty_39, ⟨ty_40, ⟨ty_41, ⟨ty_42, ⟨ty_44, ⟨ty_45, ⟨ty_46, ⟨ty_47, ⟨ty_48, ⟨ty_49, ⟨ty_50, ⟨ty_52, ⟨ty_54, ⟨ty_55, ⟨ty_56, ⟨ty_57, ⟨ty_58, ⟨ty_59, ⟨ty_61, ⟨ty_62, ⟨ty_63, ⟨ty_64, ⟨ty_66, ⟨ty_68, ⟨ty_69, ⟨ty_70, ⟨ty_71, ⟨ty_72, ⟨ty_73, ⟨ty_74, ⟨ty_75, ⟨ty_76, ⟨ty_77, ⟨ty_79, ⟨ty_81, ⟨ty_82, ⟨ty_83, ⟨ty_84, ⟨ty_85, ⟨ty_86, ⟨ty_87, ⟨ty_88, ⟨ty_89, ⟨ty_90, ⟨ty_92, ⟨ty_93, ⟨ty_94, ⟨ty_95, ⟨ty_96, ⟨ty_97, ⟨ty_98, ⟨ty_99, ⟨ty_100, ⟨ty_101, ⟨ty_102, ⟨ty_103, ⟨ty_104, ⟨ty_105, ⟨ty_106, ⟨ty_107, ⟨ty_108, ⟨ty_109, ⟨ty_111, ⟨ty_112, ⟨ty_113, ⟨ty_114, ⟨ty_115, ⟨ty_116, ⟨ty_117, ⟨ty_118, ⟨ty_119, ⟨ty_120, ⟨ty_121, ⟨ty_122, ⟨ty_123, ⟨ty_124, ⟨ty_125, ⟨ty_126, ⟨ty_127, ⟨ty_128, ⟨ty_129, ⟨ty_130, ⟨ty_131, ⟨ty_132, ⟨ty_133, ⟨ty_134, ⟨ty_135, ⟨ty_136, ⟨ty_137, ⟨ty_138, ⟨ty_139, ⟨ty_140, ⟨ty_141, ⟨ty_142, ⟨ty_143, ⟨ty_144, ⟨ty_145, ⟨ty_146, ⟨ty_147, ⟨ty_148, ⟨ty_149, ⟨ty_150, ⟨ty_151, ⟨ty_152, ⟨ty_154, ⟨ty_155, ⟨ty_156, ⟨ty_157, ⟨ty_158, ⟨ty_160, ⟨ty_161, ⟨ty_162, ⟨ty_163, ⟨ty_164, ⟨ty_165, ⟨ty_166, ⟨ty_167, ⟨ty_168, ⟨ty_169, ⟨ty_170, ⟨ty_171, ⟨ty_172, ⟨ty_173, ⟨ty_174, ⟨ty_175, ⟨ty_176, ⟨ty_177, ⟨ty_178, ⟨ty_179, ⟨ty_180, ⟨ty_181, ⟨ty_182, ⟨ty_183, ⟨ty_184, ⟨ty_185, ⟨ty_186, ⟨ty_187, ⟨ty_189, ⟨ty_190, ⟨ty_191, ⟨ty_192, ⟨ty_193, ⟨ty_194, ⟨ty_196, ⟨ty_197, ⟨ty_198, ⟨ty_199, ⟨ty_200, ⟨ty_201, ⟨ty_202, ⟨ty_204, ⟨ty_205, ⟨ty_206, ⟨ty_207, ⟨ty_208, ⟨ty_209, ⟨ty_210, ⟨ty_211, ⟨ty_212, ⟨ty_213, ⟨ty_215, ⟨ty_216, ⟨ty_217, ⟨ty_218, ⟨ty_219, ⟨ty_220, ⟨ty_221, ⟨ty_222, ⟨ty_223, ⟨ty_224, ⟨ty_225, ⟨ty_226, ⟨ty_227, ⟨ty_228, ⟨ty_229, ⟨ty_230, trivial⟩⟩⟩⟩⟩⟩⟩⟩⟩⟩⟩⟩⟩⟩⟩⟩⟩⟩⟩⟩⟩⟩⟩⟩⟩⟩⟩⟩⟩⟩⟩⟩⟩⟩⟩⟩⟩⟩⟩⟩⟩⟩⟩⟩⟩⟩⟩⟩⟩⟩⟩⟩⟩⟩⟩⟩⟩⟩⟩⟩⟩⟩⟩⟩⟩⟩⟩⟩⟩⟩⟩⟩⟩⟩⟩⟩⟩⟩⟩⟩⟩⟩⟩⟩⟩⟩⟩⟩⟩⟩⟩⟩⟩⟩⟩⟩⟩⟩⟩⟩⟩⟩⟩⟩⟩⟩⟩⟩⟩⟩⟩⟩⟩⟩⟩⟩⟩⟩⟩⟩⟩⟩⟩⟩⟩⟩⟩⟩⟩⟩⟩⟩⟩⟩⟩⟩⟩⟩⟩⟩⟩⟩⟩⟩⟩⟩⟩⟩⟩⟩⟩⟩⟩⟩⟩⟩⟩⟩⟩⟩⟩⟩⟩⟩⟩⟩⟩⟩⟩⟩⟩⟩⟩⟩⟩⟩⟩⟩⟩⟩⟩⟩⟩⟩⟩⟩⟩⟩⟩⟩⟩⟩⟩⟩⟩⟩⟩⟩⟩⟩⟩⟩⟩⟩⟩⟩⟩⟩⟩⟩⟩⟩⟩
theorem tab_fld : allP (fun k x => fieldsP Try.prog k = some x) tab.fld := ⟨fl_7, ⟨fl_8, ⟨fl_13, ⟨fl_14, ⟨fl_18, ⟨fl_19, ⟨fl_25, ⟨fl_26, ⟨fl_27, ⟨fl_28, ⟨fl_29, ⟨fl_30, ⟨fl_48, ⟨fl_49, ⟨fl_72, ⟨fl_73, ⟨fl_87, ⟨fl_88, ⟨fl_105, ⟨fl_106, ⟨fl_108, ⟨fl_109, ⟨fl_142, ⟨fl_143, ⟨fl_155, ⟨fl_156, ⟨fl_157, ⟨fl_158, ⟨fl_160, ⟨fl_161, ⟨fl_199, ⟨fl_200, ⟨fl_217, ⟨fl_218, ⟨fl_220, ⟨fl_221, ⟨fl_228, ⟨fl_229, trivial⟩⟩⟩⟩⟩⟩⟩⟩⟩⟩⟩⟩⟩⟩⟩⟩⟩⟩⟩⟩⟩⟩⟩⟩⟩⟩⟩⟩⟩⟩⟩⟩⟩⟩⟩⟩⟩⟩
set_option maxRecDepth 100000 in
theorem tab_eqs : allP (fun k L => eqInts Try.prog k = true ∧ (match Try.prog.underlying k with | some (.struct fs) => fs.size | _ => 0) = L) tab.eqs := ⟨eq_29, ⟨eq_30, ⟨eq_142, ⟨eq_143, ⟨eq_157, ⟨eq_158, trivial⟩⟩⟩⟩⟩⟩
set_option maxRecDepth 100000 in
theorem tab_ok : tab.ok Try.prog := ⟨tab_und, tab_inf, tab_fld, tab_eqs⟩
def cas : List (Nat × Nat) := [(2, 0), (3, 0), (4, 0), (5, 0), (6, 0), (7, 0), (8, 0), (9, 0), (10, 0), (11, 0), (12, 0), (13, 0), (14, 0), (15, 0), (16, 0), (17, 0), (18, 0), (19, 0), (20, 0), (21, 0), (22, 0), (23, 0), (24, 0), (25, 0), (26, 0), (27, 0), (28, 0), (29, 0), (30, 0), (31, 0), (32, 0), (33, 0), (34, 0), (35, 0), (36, 0), (37, 0), (38, 0), (39, 0), (40, 0), (41, 0), (42, 0), (43, 0), (44, 0), (45, 0), (46, 0), (47, 0), (48, 0), (49, 0), (50, 0), (51, 0), (52, 0), (53, 0), (54, 0), (55, 0), (56, 0), (57, 0), (58, 0), (59, 0), (60, 0), (61, 0), (62, 0), (63, 0), (64, 0), (65, 0), (66, 0), (67, 0), (68, 0), (69, 0), (70, 0), (71, 0), (72, 0), (73, 0), (74, 0), (75, 0), (76, 0), (77, 0), (78, 0), (79, 0), (80, 0), (81, 0), (82, 0), (83, 0), (84, 0), (85, 0), (86, 0), (87, 0), (88, 0), (89, 0), (90, 0), (91, 0), (92, 0), (93, 0), (94, 0), (95, 0), (96, 0), (97, 0), (98, 0), (99, 0), (100, 0), (101, 0), (102, 0), (103, 0), (104, 0), (105, 0), (106, 0), (107, 0), (108, 0), (109, 0), (110, 0), (111, 0), (112, 0), (113, 0), (114, 0), (115, 0), (116, 0), (117, 0), (118, 0), (119, 0), (120, 0), (121, 0), (122, 0), (123, 0), (124, 0), (125, 0), (126, 0), (127, 0), (128, 0), (129, 0), (130, 0), (131, 0), (132, 0), (133, 0), (134, 0), (135, 0), (136, 0), (137, 0), (138, 0), (139, 0), (140, 0), (141, 0), (142, 0), (143, 0), (144, 0), (145, 0), (146, 0), (147, 0), (148, 0), (149, 0), (150, 0), (151, 0), (152, 0), (153, 0), (154, 0), (155, 0), (156, 0), (157, 0), (158, 0), (159, 0)]
theorem ca_2 : callable Try.prog 2 = true := by kernel_rfl
theorem ca_3 : callable Try.prog 3 = true := by kernel_rfl
theorem ca_4 : callable Try.prog 4 = true := by kernel_rfl
theorem ca_5 : callable Try.prog 5 = true := by kernel_rfl
theorem ca_6 : callable Try.prog 6 = true := by kernel_rfl
theorem ca_7 : callable Try.prog 7 = true := by kernel_rfl
theorem ca_8 : callable Try.prog 8 = true := by kernel_rfl
theorem ca_9 : callable Try.prog 9 = true := by kernel_rfl
theorem ca_10 : callable Try.prog 10 = true := by kernel_rfl
theorem ca_11 : callable Try.prog 11 = true := by kernel_rfl
theorem ca_12 : callable Try.prog 12 = true := by kernel_rfl
theorem ca_13 : callable Try.prog 13 = true := by kernel_rfl
theorem ca_14 : callable Try.prog 14 = true := by kernel_rfl
theorem ca_15 : callable Try.prog 15 = true := by kernel_rfl
theorem ca_16 : callable Try.prog 16 = true := by kernel_rfl
theorem ca_17 : callable Try.prog 17 = true := by kernel_rfl
theorem ca_18 : callable Try.prog 18 = true := by kernel_rfl
theorem ca_19 : callable Try.prog 19 = true := by kernel_rfl
theorem ca_20 : callable Try.prog 20 = true := by kernel_rfl
theorem ca_21 : callable Try.prog 21 = true := by kernel_rfl
theorem ca_22 : callable Try.prog 22 = true := by kernel_rfl
theorem ca_23 : callable Try.prog 23 = true := by kernel_rfl
theorem ca_24 : callable Try.prog 24 = true := by kernel_rfl
theorem ca_25 : callable Try.prog 25 = true := by kernel_rfl
theorem ca_26 : callable Try.prog 26 = true := by kernel_rfl
theorem ca_27 : callable Try.prog 27 = true := by kernel_rfl
theorem ca_28 : callable Try.prog 28 = true := by kernel_rfl
theorem ca_29 : callable Try.prog 29 = true := by kernel_rfl
theorem ca_30 : callable Try.prog 30 = true := by kernel_rfl
theorem ca_31 : callable Try.prog 31 = true := by kernel_rfl
theorem ca_32 : callable Try.prog 32 = true := by kernel_rfl
theorem ca_33 : callable Try.prog 33 = true := by kernel_rfl
theorem ca_34 : callable Try.prog 34 = true := by kernel_rfl
theorem ca_35 : callable Try.prog 35 = true := by kernel_rfl
theorem ca_36 : callable Try.prog 36 = true := by kernel_rfl
theorem ca_37 : callable Try.prog 37 = true := by kernel_rfl
theorem ca_38 : callable Try.prog 38 = true := by kernel_rfl
theorem ca_39 : callable Try.prog 39 = true := by kernel_rfl
theorem ca_40 : callable Try.prog 40 = true := by kernel_rfl
theorem ca_41 : callable Try.prog 41 = true := by kernel_rfl
theorem ca_42 : callable Try.prog 42 = true := by kernel_rfl
theorem ca_43 : callable Try.prog 43 = true := by kernel_rfl
theorem ca_44 : callable Try.prog 44 = true := by kernel_rfl
theorem ca_45 : callable Try.prog 45 = true := by kernel_rfl
theorem ca_46 : callable Try.prog 46 = true := by kernel_rfl
theorem ca_47 : callable Try.prog 47 = true := by kernel_rfl
theorem ca_48 : callable Try.prog 48 = true := by kernel_rfl
theorem ca_49 : callable Try.prog 49 = true := by kernel_rfl
theorem ca_50 : callable Try.prog 50 = true := by kernel_rfl
theorem ca_51 : callable Try.prog 51 = true := by kernel_rfl
theorem ca_52 : callable Try.prog 52 = true := by kernel_rfl
theorem ca_53 : callable Try.prog 53 = true := by kernel_rfl
theorem ca_54 : callable Try.prog 54 = true := by kernel_rfl
theorem ca_55 : callable Try.prog 55 = true := by kernel_rfl
theorem ca_56 : callable Try.prog 56 = true := by kernel_rfl
theorem ca_57 : callable Try.prog 57 = true := by kernel_rfl
theorem ca_58 : callable Try.prog 58 = true := by kernel_rfl
theorem ca_59 : callable Try.prog 59 = true := by kernel_rfl
theorem ca_60 : callable Try.prog 60 = true := by kernel_rfl
theorem ca_61 : callable Try.prog 61 = true := by kernel_rfl
theorem ca_62 : callable Try.prog 62 = true := by kernel_rfl
theorem ca_63 : callable Try.prog 63 = true := by kernel_rfl
theorem ca_64 : callable Try.prog 64 = true := by kernel_rfl
theorem ca_65 : callable Try.prog 65 = true := by kernel_rfl
theorem ca_66 : callable Try.prog 66 = true := by kernel_rfl
theorem ca_67 : callable Try.prog 67 = true := by kernel_rfl
theorem ca_68 : callable Try.prog 68 = true := by kernel_rfl
theorem ca_69 : callable Try.prog 69 = true := by kernel_rfl
theorem ca_70 : callable Try.prog 70 = true := by kernel_rfl
theorem ca_71 : callable Try.prog 71 = true := by kernel_rfl
theorem ca_72 : callable Try.prog 72 = true := by kernel_rfl
theorem ca_73 : callable Try.prog 73 = true := by kernel_rfl
theorem ca_74 : callable Try.prog 74 = true := by kernel_rfl
theorem ca_75 : callable Try.prog 75 = true := by kernel_rfl
theorem ca_76 : callable Try.prog 76 = true := by kernel_rfl
theorem ca_77 : callable Try.prog 77 = true := by kernel_rfl
theorem ca_78 : callable Try.prog 78 = true := by kernel_rfl
theorem ca_79 : callable Try.prog 79 = true := by kernel_rfl
theorem ca_80 : callable Try.prog 80 = true := by kernel_rfl
theorem ca_81 : callable Try.prog 81 = true := by kernel_rfl
theorem ca_82 : callable Try.prog 82 = true := by kernel_rfl
theorem ca_83 : callable Try.prog 83 = true := by kernel_rfl
theorem ca_84 : callable Try.prog 84 = true := by kernel_rfl
theorem ca_85 : callable Try.prog 85 = true := by kernel_rfl
theorem ca_86 : callable Try.prog 86 = true := by kernel_rfl
theorem ca_87 : callable Try.prog 87 = true := by kernel_rfl
theorem ca_88 : callable Try.prog 88 = true := by kernel_rfl
theorem ca_89 : callable Try.prog 89 = true := by kernel_rfl
theorem ca_90 : callable Try.prog 90 = true := by kernel_rfl
theorem ca_91 : callable Try.prog 91 = true := by kernel_rfl
theorem ca_92 : callable Try.prog 92 = true := by kernel_rfl
theorem ca_93 : callable Try.prog 93 = true := by kernel_rfl
theorem ca_94 : callable Try.prog 94 = true := by kernel_rfl
theorem ca_95 : callable Try.prog 95 = true := by kernel_rfl
theorem ca_96 : callable Try.prog 96 = true := by kernel_rfl
theorem ca_97 : callable Try.prog 97 = true := by kernel_rfl
theorem ca_98 : callable Try.prog 98 = true := by kernel_rfl
theorem ca_99 : callable Try.prog 99 = true := by kernel_rfl
theorem ca_100 : callable Try.prog 100 = true := by kernel_rfl
theorem ca_101 : callable Try.prog 101 = true := by kernel_rfl
theorem ca_102 : callable Try.prog 102 = true := by kernel_rfl
theorem ca_103 : callable Try.prog 103 = true := by kernel_rfl
theorem ca_104 : callable Try.prog 104 = true := by kernel_rfl
theorem ca_105 : callable Try.prog 105 = true := by kernel_rfl
theorem ca_106 : callable Try.prog 106 = true := by kernel_rfl
theorem ca_107 : callable Try.prog 107 = true := by kernel_rfl
theorem ca_108 : callable Try.prog 108 = true := by kernel_rfl
theorem ca_109 : callable Try.prog 109 = true := by kernel_rfl
theorem ca_110 : callable Try.prog 110 = true := by kernel_rfl
theorem ca_111 : callable Try.prog 111 = true := by kernel_rfl
theorem ca_112 : callable Try.prog 112 = true := by kernel_rfl
theorem ca_113 : callable Try.prog 113 = true := by kernel_rfl
theorem ca_114 : callable Try.prog 114 = true := by kernel_rfl
theorem ca_115 : callable Try.prog 115 = true := by kernel_rfl
theorem ca_116 : callable Try.prog 116 = true := by kernel_rfl
theorem ca_117 : callable Try.prog 117 = true := by kernel_rfl
theorem ca_118 : callable Try.prog 118 = true := by kernel_rfl
theorem ca_119 : callable Try.prog 119 = true := by kernel_rfl
theorem ca_120 : callable Try.prog 120 = true := by kernel_rfl
theorem ca_121 : callable Try.prog 121 = true := by kernel_rfl
theorem ca_122 : callable Try.prog 122 = true := by kernel_rfl
theorem ca_123 : callable Try.prog 123 = true := by kernel_rfl
theorem ca_124 : callable Try.prog 124 = true := by kernel_rfl
theorem ca_125 : callable Try.prog 125 = true := by kernel_rfl
theorem ca_126 : callable Try.prog 126 = true := by kernel_rfl
theorem ca_127 : callable Try.prog 127 = true := by kernel_rfl
theorem ca_128 : callable Try.prog 128 = true := by kernel_rfl
theorem ca_129 : callable Try.prog 129 = true := by kernel_rfl
theorem ca_130 : callable Try.prog 130 = true := by kernel_rfl
theorem ca_131 : callable Try.prog 131 = true := by kernel_rfl
theorem ca_132 : callable Try.prog 132 = true := by kernel_rfl
theorem ca_133 : callable Try.prog 133 = true := by kernel_rfl
theorem ca_134 : callable Try.prog 134 = true := by kernel_rfl
theorem ca_135 : callable Try.prog 135 = true := by kernel_rfl
theorem ca_136 : callable Try.prog 136 = true := by kernel_rfl
theorem ca_137 : callable Try.prog 137 = true := by kernel_rfl
theorem ca_138 : callable Try.prog 138 = true := by kernel_rfl
theorem ca_139 : callable Try.prog 139 = true := by kernel_rfl
theorem ca_140 : callable Try.prog 140 = true := by kernel_rfl
theorem ca_141 : callable Try.prog 141 = true := by kernel_rfl
theorem ca_142 : callable Try.prog 142 = true := by kernel_rfl
theorem ca_143 : callable Try.prog 143 = true := by kernel_rfl
theorem ca_144 : callable Try.prog 144 = true := by kernel_rfl
theorem ca_145 : callable Try.prog 145 = true := by kernel_rfl
theorem ca_146 : callable Try.prog 146 = true := by kernel_rfl
theorem ca_147 : callable Try.prog 147 = true := by kernel_rfl
theorem ca_148 : callable Try.prog 148 = true := by kernel_rfl
theorem ca_149 : callable Try.prog 149 = true := by kernel_rfl
theorem ca_150 : callable Try.prog 150 = true := by kernel_rfl
theorem ca_151 : callable Try.prog 151 = true := by kernel_rfl
theorem ca_152 : callable Try.prog 152 = true := by kernel_rfl
theorem ca_153 : callable Try.prog 153 = true := by kernel_rfl
theorem ca_154 : callable Try.prog 154 = true := by kernel_rfl
theorem ca_155 : callable Try.prog 155 = true := by kernel_rfl
theorem ca_156 : callable Try.prog 156 = true := by kernel_rfl
theorem ca_157 : callable Try.prog 157 = true := by kernel_rfl
theorem ca_158 : callable Try.prog 158 = true := by kernel_rfl
theorem ca_159 : callable Try.prog 159 = true := by kernel_rfl
theorem cas_ok : allP (fun k _ => callable Try.prog k = true) cas := ⟨ca_2, ⟨ca_3, ⟨ca_4, ⟨ca_5, ⟨ca_6, ⟨ca_7, ⟨ca_8, ⟨ca_9, ⟨ca_10, ⟨ca_11, ⟨ca_12, ⟨ca_13, ⟨ca_14, ⟨ca_15, ⟨ca_16, ⟨ca_17, ⟨ca_18, ⟨ca_19, ⟨ca_20, ⟨ca_21, ⟨ca_22, ⟨ca_23, ⟨ca_24, ⟨ca_25, ⟨ca_26, ⟨ca_27, ⟨ca_28, ⟨ca_29, ⟨ca_30, ⟨ca_31, ⟨ca_32, ⟨ca_33, ⟨ca_34, ⟨ca_35, ⟨ca_36, ⟨ca_37, ⟨ca_38, ⟨ca_39, ⟨ca_40, ⟨ca_41, ⟨ca_42, ⟨ca_43, ⟨ca_44, ⟨ca_45, ⟨ca_46, ⟨ca_47, ⟨ca_48, ⟨ca_49, ⟨ca_50, ⟨ca_51, ⟨ca_52, ⟨ca_53, ⟨ca_54, ⟨ca_55, ⟨ca_56, ⟨ca_57, ⟨ca_58, ⟨ca_59, ⟨ca_60, ⟨ca_61, ⟨ca_62, ⟨ca_63, ⟨ca_64, ⟨ca_65, ⟨ca_66, ⟨ca_67, ⟨ca_68, ⟨ca_69, ⟨ca_70, ⟨ca_71, ⟨ca_72, ⟨ca_73, ⟨ca_74, ⟨ca_75, ⟨ca_76, ⟨ca_77, ⟨ca_78, ⟨ca_79, ⟨ca_80, ⟨ca_81, ⟨ca_82, ⟨ca_83, ⟨ca_84, ⟨ca_85, ⟨ca_86, ⟨ca_87, ⟨ca_88, ⟨ca_89, ⟨ca_90, ⟨ca_91, ⟨ca_92, ⟨ca_93, ⟨ca_94, ⟨ca_95, ⟨ca_96, ⟨ca_97, ⟨ca_98, ⟨ca_99, ⟨ca_100, ⟨ca_101, ⟨ca_102, ⟨ca_103, ⟨ca_104, ⟨ca_105, ⟨ca_106, ⟨ca_107, ⟨ca_108, ⟨ca_109, ⟨ca_110, ⟨ca_111, ⟨ca_112, ⟨ca_113, ⟨ca_114, ⟨ca_115, ⟨ca_116, ⟨ca_117, ⟨ca_118, ⟨ca_119, ⟨ca_120, ⟨ca_121, ⟨ca_122, ⟨ca_123, ⟨ca_124, ⟨ca_125, ⟨ca_126, ⟨ca_127, ⟨ca_128, ⟨ca_129, ⟨ca_130, ⟨ca_131, ⟨ca_132, ⟨ca_133, ⟨ca_134, ⟨ca_135, ⟨ca_136, ⟨ca_137, ⟨ca_138, ⟨ca_139, ⟨ca_140, ⟨ca_141, ⟨ca_142, ⟨ca_143, ⟨ca_144, ⟨ca_145, ⟨ca_146, ⟨ca_147, ⟨ca_148, ⟨ca_149, ⟨ca_150, ⟨ca_151, ⟨ca_152, ⟨ca_153, ⟨ca_154, ⟨ca_155, ⟨ca_156, ⟨ca_157, ⟨ca_158, ⟨ca_159, trivial⟩⟩⟩⟩⟩⟩⟩⟩⟩⟩⟩⟩⟩⟩⟩⟩⟩⟩⟩⟩⟩⟩⟩⟩⟩⟩⟩⟩⟩⟩⟩⟩⟩⟩⟩⟩⟩⟩⟩⟩⟩⟩⟩⟩⟩⟩⟩⟩⟩⟩⟩⟩⟩⟩⟩⟩⟩⟩⟩⟩⟩⟩⟩⟩⟩⟩⟩⟩⟩⟩⟩⟩⟩⟩⟩⟩⟩⟩⟩⟩⟩⟩⟩⟩⟩⟩⟩⟩⟩⟩⟩⟩⟩⟩⟩⟩⟩⟩⟩⟩⟩⟩⟩⟩⟩⟩⟩⟩⟩⟩⟩⟩⟩⟩⟩⟩⟩⟩⟩⟩⟩⟩⟩⟩⟩⟩⟩⟩⟩⟩⟩⟩⟩⟩⟩⟩⟩⟩⟩⟩⟩⟩⟩⟩⟩⟩⟩⟩⟩⟩⟩⟩⟩⟩⟩⟩⟩⟩
end Go.Proofs.Ytjhdjjoacedlpaa
/- What a run of the abstract machine asks of the program (printed by a program). -/
set_option maxRecDepth 1000000
namespace Go.Proofs.Ytjhdjjoacedlpaa
open Go
noncomputable def ctx : Ctx := ⟨tab, [(2, Try.f2), (3, Try.f3), (4, Try.f4), (5, Try.f5), (6, Try.f6), (7, Try.f7), (8, Try.f8), (9, Try.f9), (10, Try.f10), (11, Try.f11), (12, Try.f12), (13, Try.f13), (14, Try.f14), (15, Try.f15), (16, Try.f16), (17, Try.f17), (18, Try.f18), (19, Try.f19), (20, Try.f20), (21, Try.f21), (22, Try.f22), (23, Try.f23), (24, Try.f24), (25, Try.f25), (26, Try.f26), (27, Try.f27), (28, Try.f28), (29, Try.f29), (30, Try.f30), (31, Try.f31), (32, Try.f32), (33, Try.f33), (34, Try.f34), (35, Try.f35), (36, Try.f36), (37, Try.f37), (38, Try.f38), (39, Try.f39), (40, Try.f40), (41, Try.f41), (42, Try.f42), (43, Try.f43), (44, Try.f44), (45, Try.f45), (46, Try.f46), (47, Try.f47), (48, Try.f48), (49, Try.f49), (50, Try.f50), (51, Try.f51), (52, Try.f52), (53, Try.f53), (54, Try.f54), (55, Try.f55), (56, Try.f56), (57, Try.f57), (58, Try.f58), (59, Try.f59), (60, Try.f60), (61, Try.f61), (62, Try.f62), (63, Try.f63), (64, Try.f64), (65, Try.f65), (66, Try.f66), (67, Try.f67), (68, Try.f68), (69, Try.f69), (70, Try.f70), (71, Try.f71), (72, Try.f72), (73, Try.f73), (74, Try.f74), (75, Try.f75), (76, Try.f76), (77, Try.f77), (78, Try.f78), (79, Try.f79), (80, Try.f80), (81, Try.f81), (82, Try.f82), (83, Try.f83), (84, Try.f84), (85, Try.f85), (86, Try.f86), (87, Try.f87), (88, Try.f88), (89, Try.f89), (90, Try.f90), (91, Try.f91), (92, Try.f92), (93, Try.f93), (94, Try.f94), (95, Try.f95), (96, Try.f96), (97, Try.f97), (98, Try.f98), (99, Try.f99), (100, Try.f100), (101, Try.f101), (102, Try.f102), (103, Try.f103), (104, Try.f104), (105, Try.f105), (106, Try.f106), (107, Try.f107), (108, Try.f108), (109, Try.f109), (110, Try.f110), (111, Try.f111), (112, Try.f112), (113, Try.f113), (114, Try.f114), (115, Try.f115), (116, Try.f116), (117, Try.f117), (118, Try.f118), (119, Try.f119), (120, Try.f120), (121, Try.f121), (122, Try.f122), (123, Try.f123), (124, Try.f124), (125, Try.f125), (126, Try.f126), (127, Try.f127), (128, Try.f128), (129, Try.f129), (130, Try.f130), (131, Try.f131), (132, Try.f132), (133, Try.f133), (134, Try.f134), (135, Try.f135), (136, Try.f136), (137, Try.f137), (138, Try.f138), (139, Try.f139), (140, Try.f140), (141, Try.f141), (142, Try.f142), (143, Try.f143), (144, Try.f144), (145, Try.f145), (146, Try.f146), (147, Try.f147), (148, Try.f148), (149, Try.f149), (150, Try.f150), (151, Try.f151), (152, Try.f152), (153, Try.f153), (154, Try.f154), (155, Try.f155), (156, Try.f156), (157, Try.f157), (158, Try.f158), (159, Try.f159)], cas⟩
set_option maxRecDepth 100000 in
theorem fns_ok : allP (fun k f => Try.prog.funcs[k]? = some f) ctx.fns := ⟨Try.func2, ⟨Try.func3, ⟨Try.func4, ⟨Try.func5, ⟨Try.func6, ⟨Try.func7, ⟨Try.func8, ⟨Try.func9, ⟨Try.func10, ⟨Try.func11, ⟨Try.func12, ⟨Try.func13, ⟨Try.func14, ⟨Try.func15, ⟨Try.func16, ⟨Try.func17, ⟨Try.func18, ⟨Try.func19, ⟨Try.func20, ⟨Try.func21, ⟨Try.func22, ⟨Try.func23, ⟨Try.func24, ⟨Try.func25, ⟨Try.func26, ⟨Try.func27, ⟨Try.func28, ⟨Try.func29, ⟨Try.func30, ⟨Try.func31, ⟨Try.func32, ⟨Try.func33, ⟨Try.func34, ⟨Try.func35, ⟨Try.func36, ⟨Try.func37, ⟨Try.func38, ⟨Try.func39, ⟨Try.func40, ⟨Try.func41, ⟨Try.func42, ⟨Try.func43, ⟨Try.func44, ⟨Try.func45, ⟨Try.func46, ⟨Try.func47, ⟨Try.func48, ⟨Try.func49, ⟨Try.func50, ⟨Try.func51, ⟨Try.func52, ⟨Try.func53, ⟨Try.func54, ⟨Try.func55, ⟨Try.func56, ⟨Try.func57, ⟨Try.func58, ⟨Try.func59, ⟨Try.func60, ⟨Try.func61, ⟨Try.func62, ⟨Try.func63, ⟨Try.func64, ⟨Try.func65, ⟨Try.func66, ⟨Try.func67, ⟨Try.func68, ⟨Try.func69, ⟨Try.func70, ⟨Try.func71, ⟨Try.func72, ⟨Try.func73, ⟨Try.func74, ⟨Try.func75, ⟨Try.func76, ⟨Try.func77, ⟨Try.func78, ⟨Try.func79, ⟨Try.func80, ⟨Try.func81, ⟨Try.func82, ⟨Try.func83, ⟨Try.func84, ⟨Try.func85, ⟨Try.func86, ⟨Try.func87, ⟨Try.func88, ⟨Try.func89, ⟨Try.func90, ⟨Try.func91, ⟨Try.func92, ⟨Try.func93, ⟨Try.func94, ⟨Try.func95, ⟨Try.func96, ⟨Try.func97, ⟨Try.func98, ⟨Try.func99, ⟨Try.func100, ⟨Try.func101, ⟨Try.func102, ⟨Try.func103, ⟨Try.func104, ⟨Try.func105, ⟨Try.func106, ⟨Try.func107, ⟨Try.func108, ⟨Try.func109, ⟨Try.func110, ⟨Try.func111, ⟨Try.func112, ⟨Try.func113, ⟨Try.func114, ⟨Try.func115, ⟨Try.func116, ⟨Try.func117, ⟨Try.func118, ⟨Try.func119, ⟨Try.func120, ⟨Try.func121, ⟨Try.func122, ⟨Try.func123, ⟨Try.func124, ⟨Try.func125, ⟨Try.func126, ⟨Try.func127, ⟨Try.func128, ⟨Try.func129, ⟨Try.func130, ⟨Try.func131, ⟨Try.func132, ⟨Try.func133, ⟨Try.func134, ⟨Try.func135, ⟨Try.func136, ⟨Try.func137, ⟨Try.func138, ⟨Try.func139, ⟨Try.func140, ⟨Try.func141, ⟨Try.func142, ⟨Try.func143, ⟨Try.func144, ⟨Try.func145, ⟨Try.func146, ⟨Try.func147, ⟨Try.func148, ⟨Try.func149, ⟨Try.func150, ⟨Try.func151, ⟨Try.func152, ⟨Try.func153, ⟨Try.func154, ⟨Try.func155, ⟨Try.func156, ⟨Try.func157, ⟨Try.func158, ⟨Try.func159, trivial⟩⟩⟩⟩⟩⟩⟩⟩⟩⟩⟩⟩⟩⟩⟩⟩⟩⟩⟩⟩⟩⟩⟩⟩⟩⟩⟩⟩⟩⟩⟩⟩⟩⟩⟩⟩⟩⟩⟩⟩⟩⟩⟩⟩⟩⟩⟩⟩⟩⟩⟩⟩⟩⟩⟩⟩⟩⟩⟩⟩⟩⟩⟩⟩⟩⟩⟩⟩⟩⟩⟩⟩⟩⟩⟩⟩⟩⟩⟩⟩⟩⟩⟩⟩⟩⟩⟩⟩⟩⟩⟩⟩⟩⟩⟩⟩⟩⟩⟩⟩⟩⟩⟩⟩⟩⟩⟩⟩⟩⟩⟩⟩⟩⟩⟩⟩⟩⟩⟩⟩⟩⟩⟩⟩⟩⟩⟩⟩⟩⟩⟩⟩⟩⟩⟩⟩⟩⟩⟩⟩⟩⟩⟩⟩⟩⟩⟩⟩⟩⟩⟩⟩⟩⟩⟩⟩⟩⟩
theorem ctx_ok : ctx.ok Try.prog := ⟨tab_ok, fns_ok, cas_ok, by kernel_rfl⟩
end Go.Proofs.Ytjhdjjoacedlpaa
/- Decompiling: the program's functions as the machine over terms takes them. -/
namespace Go.Proofs.Ytjhdjjoacedlpaa
open Go Go.RowKit
noncomputable def dc (l : List (Nat × Ctr)) : DC := ⟨tab, ctx.fns, ctx.cas, l⟩
theorem dc_ok {l : List (Nat × Ctr)} (h : allP (CtrOk Try.prog) l) : (dc l).ok Try.prog := ⟨ctx_ok.T, ctx_ok.fns, ctx_ok.cas, ctx_ok.mixed, h⟩
theorem ctr_ok {l : List (Nat × Ctr)} (hl : allP (CtrOk Try.prog) l) {f : Nat} {an : An} {Fn : Nat} {σ ρ : Ty} {g : Nat → σ.den → Option ρ.den} (h : ∀ fu x, (topG (ρ := ρ) (dc l) (drR (dc l)) f an Fn σ (.var x)).den fu = g fu x) : CtrOk Try.prog Fn ⟨σ, ρ, g, Fn⟩ :=
  fun fu x _ hy => topG_ok (dc_ok hl) (fun _ _ hS => drR_ok (dc_ok hl) hS) ((h fu x).trans hy)
end Go.Proofs.Ytjhdjjoacedlpaa
/- An operation or a call that touches few blocks: all others stay. No program in sight. -/
namespace Go.Proofs.Ytjhdjjoacedlpaa.Rn
open Go Go.RowKit Go.Proofs.Ytjhdjjoacedlpaa

/-- values that name no memory but blocks of p -/
def pf (p : Nat → Bool) : AV → Bool
  | .box id _ | .elt id _ _ _ | .osl id _ | .vsl id _ _ _ => p id
  | .agg cs | .tup cs | .fn _ cs => go p cs
  | .ro .. => false
  | .peek .. => false
  | _ => true
where go (p : Nat → Bool) : List AV → Bool
  | [] => true
  | a :: l => pf p a && go p l
theorem pf_at {p : Nat → Bool} : ∀ {cs : List AV} {i : Nat} {a : AV}, pf.go p cs = true → cs[i]? = some a → pf p a = true
  | [], i, a, _, h => by simp at h
  | b :: l, i, a, h0, h => by
    rw [pf.go, Bool.and_eq_true] at h0
    cases i with
    | zero => simp at h; subst h; exact h0.1
    | succ i => exact pf_at h0.2 (by simpa using h)
def pfB (p : Nat → Bool) : AB → Bool
  | .dead => true
  | .box cs _ => pf.go p cs
  | .row _ rows _ => rows.all (pf.go p)
/-- what p's blocks stand for is the same in both -/
def SameP (p : Nat → Bool) (G G' : Gh) : Prop := ∀ id, p id = true → id < G.nx → id < G'.nx ∧ G'.ρ id = G.ρ id ∧ G'.ln id = G.ln id ∧ G'.sz id = G.sz id
theorem lift {p : Nat → Bool} {w : World} {G G' : Gh} (h : SameP p G G') {a : AV} {v : Value} (r : RelV w G a v) (hp : pf p a = true) : RelV w G' a v := by
  induction r with
  | dat r =>
    cases r with
    | ro => simp [pf] at hp
    | any => exact .dat (.any _)
    | und => exact .dat .und
    | int => exact .dat (.int _ _)
    | bool => exact .dat (.bool _)
    | str => exact .dat (.str _)
    | nilp => exact .dat .nilp
    | nils => exact .dat .nils
    | nilf => exact .dat .nilf
  | box id off g hid hs hr =>
    obtain ⟨a1, a2, a3, a4⟩ := h id (by simpa only [pf] using hp) hid
    exact .box id off g a1 (a4 ▸ hs) (by rw [a2]; exact hr)
  | elt id n i j v hid hin hs hn hv hr =>
    obtain ⟨a1, a2, a3, a4⟩ := h id (by simpa only [pf] using hp) hid
    refine .elt id n i j v a1 hin (by omega) (by omega) hv (fun e => ?_)
    obtain ⟨g, c, e1, e2⟩ := hr (by omega)
    exact ⟨g, c, by rw [a2]; exact e1, by rw [a4]; exact e2⟩
  | osl id n v hid hs hn hv hr =>
    obtain ⟨a1, a2, a3, a4⟩ := h id (by simpa only [pf] using hp) hid
    exact .osl id n v a1 (by omega) (by omega) hv (fun e => by rw [a2]; exact hr (by omega))
  | vsl id n lo len v hid hs hn hle hv hr =>
    obtain ⟨a1, a2, a3, a4⟩ := h id (by simpa only [pf] using hp) hid
    refine .vsl id n lo len v a1 (by omega) (by omega) hle hv (fun e => ?_)
    obtain ⟨A, c, e1, e2, e3, e4⟩ := hr (by omega)
    refine ⟨A, c, e1, e2, e3, fun hl => ?_⟩
    obtain ⟨g, c', e5, e6⟩ := e4 hl
    exact ⟨g, c', by rw [a2]; exact e5, by rw [a4]; exact e6⟩
  | peek row j b o f hr hb h1 h2 => simp [pf] at hp
  | agg cs vs hl _ ih => exact .agg cs vs hl fun i a v g1 g2 => ih i a v g1 g2 (pf_at (by simpa only [pf] using hp) g1)
  | tup cs vs hl _ ih => exact .tup cs vs hl fun i a v g1 g2 => ih i a v g1 g2 (pf_at (by simpa only [pf] using hp) g1)
  | fn f cs fs vs hf hl _ ih => exact .fn f cs fs vs hf hl fun i a v g1 g2 => ih i a v g1 g2 (pf_at (by simpa only [pf] using hp) g1)
theorem liftB {p : Nat → Bool} {w0 w : World} {G G' : Gh} {id : Nat} {b : AB} (h : SameP p G G') (r : ABok w0 w G id b) (hp : pfB p b = true) (hid : b = .dead ∨ p id = true) : ABok w0 w G' id b := by
  cases b with
  | dead => trivial
  | box cs e =>
    obtain ⟨h1, h2, g, vs, h3, h4, h5, h6⟩ := r
    obtain ⟨p1, p2, p3, p4⟩ := h id (hid.resolve_left (by simp)) h1
    refine ⟨p1, by rw [p4]; exact h2, g, vs, by rw [p2]; exact h3, h4, h5, fun i a hi => ?_⟩
    obtain ⟨v, g1, g2, g3⟩ := h6 i a hi
    exact ⟨v, g1, g2, lift h g3 (pf_at hp hi)⟩
  | row sz rows e =>
    obtain ⟨h1, h2, h3, h4, flat, h5, h6, h7⟩ := r
    obtain ⟨p1, p2, p3, p4⟩ := h id (hid.resolve_left (by simp)) h1
    refine ⟨p1, h2, by rw [p4]; exact h3, by rw [p3]; exact h4, flat, by rw [p2]; exact h5, h6, fun i row hi => ?_⟩
    obtain ⟨g1, g2⟩ := h7 i row hi
    refine ⟨g1, fun j a hj => ?_⟩
    obtain ⟨v, g3, g4⟩ := g2 j a hj
    exact ⟨v, g3, lift h g4 (pf_at (List.all_eq_true.1 hp row (List.mem_of_getElem? hi)) hj)⟩
/-- the memory with the blocks of p alone -/
def cut (G : Gh) (p : Nat → Bool) (k : Nat) : Gh := ⟨fun id => if p id = true ∧ id < G.nx then G.ρ id else undef, fun b => ∃ id, p id = true ∧ id < G.nx ∧ ownBlk (G.ρ id) = some b, G.ln, G.sz, k, G.bs⟩
/-- p's blocks as they are in the one, all others as in the other -/
def join (G G1 : Gh) (p : Nat → Bool) : Gh := ⟨fun id => if p id = true ∧ id < G.nx then G1.ρ id else G.ρ id, fun b => G.own b ∨ G1.own b, fun id => if p id = true ∧ id < G.nx then G1.ln id else G.ln id, fun id => if p id = true ∧ id < G.nx then G1.sz id else G.sz id, G.nx, G.bs⟩
section
variable {p : Nat → Bool} {w0 w w' : World} {G G1 : Gh} {k : Nat} {hp hp2 : List (Nat × AB)}
theorem cut_mv {hp : List (Nat × AB)} (h : HR w0 w G hp) (hk : ∀ id, p id = true → id < k) : Mv p w G w (cut G p k) := by
  refine ⟨fun _ _ _ => rfl, fun b ⟨id, h1, h2, h3⟩ => .inl (h.ownhas id b h2 h3), rfl, fun id h1 h2 => ⟨hk id h1, ?_, rfl, rfl⟩⟩
  show (if p id = true ∧ id < G.nx then G.ρ id else undef) = _
  rw [if_pos ⟨h1, h2⟩]
/-- the few blocks, said of the cut memory -/
theorem cut_hr (h : HR w0 w G hp) (hk : ∀ id, p id = true → id < k) (h2 : ∀ id, look .dead hp2 id = .dead ∨ (p id = true ∧ look .dead hp2 id = look .dead hp id ∧ (look .dead hp2 id).nmd p = true)) : HR w0 w (cut G p k) hp2 := by
  have hm := cut_mv h hk
  refine ⟨h.bs, h.below, fun b ⟨id, h1, h2, h3⟩ => h.ownlt b (h.ownhas id b h2 h3), fun id => ?_, fun id id' g h1 h2 hne e1 e2 => ?_, fun id g h1 h2 => ?_⟩
  · rcases h2 id with e | ⟨e1, e2, e3⟩
    · rw [e]; trivial
    · exact ABok.mv (e2 ▸ h.blk id) hm e3 (.inr e1) (fun g _ => rfl)
  · have e1 : ownBlk (if p id = true ∧ id < G.nx then G.ρ id else undef) = some g := e1
    have e2 : ownBlk (if p id' = true ∧ id' < G.nx then G.ρ id' else undef) = some g := e2
    by_cases c1 : p id = true ∧ id < G.nx
    · by_cases c2 : p id' = true ∧ id' < G.nx
      · rw [if_pos c1] at e1
        rw [if_pos c2] at e2
        exact h.dist id id' g c1.2 c2.2 hne e1 e2
      · rw [if_neg c2] at e2; cases e2
    · rw [if_neg c1] at e1; cases e1
  · have h2 : ownBlk (if p id = true ∧ id < G.nx then G.ρ id else undef) = some g := h2
    by_cases c1 : p id = true ∧ id < G.nx
    · rw [if_pos c1] at h2; exact ⟨id, c1.1, c1.2, h2⟩
    · rw [if_neg c1] at h2; cases h2
/-- G, but with the blocks of N as G' has them -/
def patch (G G' : Gh) (N : Nat → Bool) : Gh := ⟨fun id => if N id = true then G'.ρ id else G.ρ id, G.own, fun id => if N id = true then G'.ln id else G.ln id, fun id => if N id = true then G'.sz id else G.sz id, G.nx, G.bs⟩
theorem patch_mv {lv N : Nat → Bool} {w : World} {G G' : Gh} (h : ∀ id, lv id = true → N id = false) : Mv lv w G w (patch G G' N) := by
  refine ⟨fun _ _ _ => rfl, fun _ hb => .inl hb, rfl, fun id hl hid => ?_⟩
  have hn : ¬ (N id = true) := by rw [h id hl]; decide
  exact ⟨hid, if_neg hn, if_neg hn, if_neg hn⟩
/-- the numbers from k up to k2 -/
def newN (k k2 : Nat) (id : Nat) : Bool := Nat.ble k id && Nat.blt id k2
theorem newN_iff {k k2 id : Nat} : newN k k2 id = true ↔ k ≤ id ∧ id < k2 := by
  unfold newN
  rw [Bool.and_eq_true]
  simp
def orN (p : Nat → Bool) (k k2 : Nat) (id : Nat) : Bool := p id || newN k k2 id
theorem orN_iff {p : Nat → Bool} {k k2 id : Nat} : orN p k k2 id = true ↔ p id = true ∨ (k ≤ id ∧ id < k2) := by
  unfold orN
  rw [Bool.or_eq_true, newN_iff]
/-- the outcome, said of the whole memory -/
structure Out (p : Nat → Bool) (k k2 : Nat) (w0 w : World) (G : Gh) (hp2 : List (Nat × AB)) (w' : World) (G' : Gh) : Prop where
  hr : HR w0 w' G' hp2
  ext : Ext w (patch G G' (newN k k2)) w' G'
  nx : G'.nx = G.nx
  same : ∀ j, orN p k k2 j = false → G'.ρ j = G.ρ j ∧ G'.ln j = G.ln j ∧ (j < G.nx → ∀ g, ownBlk (G.ρ j) = some g → w'.heap[g]? = w.heap[g]?)
theorem join_out {k2 : Nat} (h : HR w0 w G hp) (hk : ∀ id, p id = true → id < k) (hkn : k2 ≤ G.nx) (h1 : HR w0 w' G1 hp2) (hx : Ext w (cut G p k) w' G1) (hn : G1.nx = k2)
    (h2 : ∀ id, look .dead hp2 id = .dead ∨ (orN p k k2 id = true ∧ pfB (orN p k k2) (look .dead hp2 id) = true)) : Out p k k2 w0 w G hp2 w' (join G G1 (orN p k k2)) ∧ SameP (orN p k k2) G1 (join G G1 (orN p k k2)) := by
  have hkk : k ≤ k2 := by rw [← hn]; exact hx.nx
  have hlt2 : ∀ id, orN p k k2 id = true → id < k2 := fun id c => by
    rcases orN_iff.1 c with c | c
    · have := hk id c; omega
    · exact c.2
  have hs : SameP (orN p k k2) G1 (join G G1 (orN p k k2)) := by
    intro id c1 c2
    have hlt : id < G.nx := by have := hlt2 id c1; omega
    refine ⟨hlt, ?_, ?_, ?_⟩
    · show (if orN p k k2 id = true ∧ id < G.nx then G1.ρ id else G.ρ id) = _; rw [if_pos ⟨c1, hlt⟩]
    · show (if orN p k k2 id = true ∧ id < G.nx then G1.ln id else G.ln id) = _; rw [if_pos ⟨c1, hlt⟩]
    · show (if orN p k k2 id = true ∧ id < G.nx then G1.sz id else G.sz id) = _; rw [if_pos ⟨c1, hlt⟩]
  have own1 : ∀ b, G1.own b → G.own b ∨ w.heap.size ≤ b := by
    intro b hb
    rcases hx.own2 b hb with ⟨id, c1, c2, c3⟩ | h'
    · exact .inl (h.ownhas id b c2 c3)
    · exact .inr h'
  have ext : Ext w (patch G (join G G1 (orN p k k2)) (newN k k2)) w' (join G G1 (orN p k k2)) := by
    refine ⟨hx.size, fun b hb hl => hx.keep b (fun ⟨id, c1, c2, c3⟩ => hb (h.ownhas id b c2 c3)) hl, fun b hb => hb.elim .inl (own1 b), Nat.le_refl _, rfl, fun id hid => ?_⟩
    have hid : id < G.nx := hid
    by_cases cn : newN k k2 id = true
    · have e1 : (patch G (join G G1 (orN p k k2)) (newN k k2)).ρ id = (join G G1 (orN p k k2)).ρ id := if_pos cn
      have e2 : (patch G (join G G1 (orN p k k2)) (newN k k2)).ln id = (join G G1 (orN p k k2)).ln id := if_pos cn
      have e3 : (patch G (join G G1 (orN p k k2)) (newN k k2)).sz id = (join G G1 (orN p k k2)).sz id := if_pos cn
      rw [e1, e2, e3]
      exact ⟨Nat.le_refl _, rfl, fun _ => rfl, fun _ => rfl⟩
    · have e1 : (patch G (join G G1 (orN p k k2)) (newN k k2)).ρ id = G.ρ id := if_neg cn
      have e2 : (patch G (join G G1 (orN p k k2)) (newN k k2)).ln id = G.ln id := if_neg cn
      have e3 : (patch G (join G G1 (orN p k k2)) (newN k k2)).sz id = G.sz id := if_neg cn
      rw [e1, e2, e3]
      show G.ln id ≤ (if orN p k k2 id = true ∧ id < G.nx then G1.ln id else G.ln id) ∧ G.sz id = (if orN p k k2 id = true ∧ id < G.nx then G1.sz id else G.sz id) ∧ ((if orN p k k2 id = true ∧ id < G.nx then G1.ln id else G.ln id) = G.ln id → (if orN p k k2 id = true ∧ id < G.nx then G1.ρ id else G.ρ id) = G.ρ id) ∧ (G.sz id = 0 → (if orN p k k2 id = true ∧ id < G.nx then G1.ln id else G.ln id) = G.ln id)
      by_cases c : orN p k k2 id = true ∧ id < G.nx
      · have cp : p id = true := (orN_iff.1 c.1).resolve_right fun h => cn (newN_iff.2 h)
        have hidk : id < (cut G p k).nx := hk id cp
        obtain ⟨a1, a2, a3, a4⟩ := hx.gh id hidk
        have e0 : (cut G p k).ρ id = G.ρ id := by show (if p id = true ∧ id < G.nx then G.ρ id else undef) = _; rw [if_pos ⟨cp, hid⟩]
        have a1 : G.ln id ≤ G1.ln id := a1
        have a2 : G.sz id = G1.sz id := a2
        have a3 : G1.ln id = G.ln id → G1.ρ id = G.ρ id := fun e => (a3 e).trans e0
        have a4 : G.sz id = 0 → G1.ln id = G.ln id := a4
        rw [if_pos c, if_pos c, if_pos c]
        exact ⟨a1, a2, a3, a4⟩
      · rw [if_neg c, if_neg c, if_neg c]
        exact ⟨Nat.le_refl _, rfl, fun _ => rfl, fun _ => rfl⟩
  have jρ : ∀ id, orN p k k2 id = true → id < G.nx → (join G G1 (orN p k k2)).ρ id = G1.ρ id := fun id c1 c2 => if_pos ⟨c1, c2⟩
  have jρ' : ∀ id, ¬ (orN p k k2 id = true ∧ id < G.nx) → (join G G1 (orN p k k2)).ρ id = G.ρ id := fun id c => if_neg c
  have mix : ∀ id id' g, orN p k k2 id = true → id < G.nx → ¬ (orN p k k2 id' = true ∧ id' < G.nx) → id' < G.nx → ownBlk (G1.ρ id) = some g → ownBlk (G.ρ id') = some g → False := by
    intro id id' g c1 c2 c3 c4 e1 e2
    have hg1 : G1.own g := h1.ownhas id g (by rw [hn]; exact hlt2 id c1) e1
    have hg := h.ownhas id' g c4 e2
    rcases hx.own2 g hg1 with ⟨q, d1, d2, d3⟩ | h'
    · exact h.dist q id' g d2 c4 (fun e => c3 (by rw [← e]; exact ⟨orN_iff.2 (.inl d1), d2⟩)) d3 e2
    · have := (h.ownlt g hg).2; omega
  refine ⟨⟨⟨h.bs, h1.below, fun b hb => ?_, fun id => ?_, fun id id' g c1 c2 hne e1 e2 => ?_, fun id g c1 c2 => ?_⟩, ext, rfl, fun j hj => ?_⟩, hs⟩
  · rcases hb with hb | hb
    · have := h.ownlt b hb; have := hx.size; omega
    · exact h1.ownlt b hb
  · rcases h2 id with e | ⟨e1, e2⟩
    · rw [e]; trivial
    · exact liftB hs (h1.blk id) e2 (.inr e1)
  · have c1 : id < G.nx := c1
    have c2 : id' < G.nx := c2
    by_cases d1 : orN p k k2 id = true ∧ id < G.nx
    · rw [jρ id d1.1 d1.2] at e1
      by_cases d2 : orN p k k2 id' = true ∧ id' < G.nx
      · rw [jρ id' d2.1 d2.2] at e2
        exact h1.dist id id' g (by rw [hn]; exact hlt2 id d1.1) (by rw [hn]; exact hlt2 id' d2.1) hne e1 e2
      · rw [jρ' id' d2] at e2
        exact mix id id' g d1.1 d1.2 d2 c2 e1 e2
    · rw [jρ' id d1] at e1
      by_cases d2 : orN p k k2 id' = true ∧ id' < G.nx
      · rw [jρ id' d2.1 d2.2] at e2
        exact mix id' id g d2.1 d2.2 d1 c1 e2 e1
      · rw [jρ' id' d2] at e2
        exact h.dist id id' g c1 c2 hne e1 e2
  · have c1 : id < G.nx := c1
    by_cases d1 : orN p k k2 id = true ∧ id < G.nx
    · rw [jρ id d1.1 d1.2] at c2
      exact .inr (h1.ownhas id g (by rw [hn]; exact hlt2 id d1.1) c2)
    · rw [jρ' id d1] at c2
      exact .inl (h.ownhas id g c1 c2)
  · have c : ¬ (orN p k k2 j = true ∧ j < G.nx) := fun c => by rw [c.1] at hj; cases hj
    refine ⟨jρ' j c, if_neg c, fun hlt g e => ?_⟩
    have hg := h.ownhas j g hlt e
    refine hx.keep g (fun ⟨q, d1, d2, d3⟩ => ?_) (h.ownlt g hg).2
    exact h.dist q j g d2 hlt (fun e => c (by rw [← e]; exact ⟨orN_iff.2 (.inl d1), d2⟩)) d3 e
end
end Go.Proofs.Ytjhdjjoacedlpaa.Rn
/- An operation or a call that touches few blocks, inside a greater memory. No program in sight. -/
namespace Go.Proofs.Ytjhdjjoacedlpaa.Rn
open Go Go.RowKit Go.Proofs.Ytjhdjjoacedlpaa

/-- an operation or a call, from state to state -/
structure OpY (P : Program) (n : Nat) (o : Oper) (st st' : ASt) : Prop where
  out : ∀ K a w (Φ : Act → World → Prop) (Q : Exit → Act → World → Prop), Rel K n st a w → (∀ v w', Rel K n st' (a.put o.dst v) w' → Φ (a.put o.dst v) w') → o.wp P a w Φ Q
section
variable {P : Program} {n : Nat} {o : Oper} {st st' : ASt}
theorem OpY.ofV (h : OpV P n o st st') : OpY P n o st st' := ⟨fun K a w Φ Q r k => by
  obtain ⟨v, w', h1, h2⟩ := h K a w r
  exact oper_of_run h1 (k v w' h2)⟩
theorem OpY.call {cal : Operand} {args : Array Operand} {ats : Array TypeId} {F : FuncId} {caps xs : List AV} {x : AV} {hp : List (Nat × AB)} {nx : Nat}
    (ho : o.op = .call { callee := .value cal, args := args, argTypes := ats }) (hc : st.ev cal = .fn F caps) (hxs : args.toList.map st.ev ++ caps = xs) (hF : callable P F = true) (hd : dok o.dst n = true)
    (h : AC P F xs st.heap st.nx (fun x1 hp1 nx1 => x1 = x ∧ hp1 = hp ∧ nx1 = nx)) : OpY P n o st (callSt st o.dst x hp nx) := ⟨fun K a w Φ Q ⟨G, r⟩ k => by
  subst hxs
  have e1 := r.ev cal
  rw [hc] at e1
  obtain ⟨us, e2, hl, hr⟩ := e1.fn'
  have hargs : ArgsV w G (args.toList.map st.ev ++ caps) (args.map a.eval ++ us) := by
    refine ⟨by simp [hl], fun i x v hx hv => ?_⟩
    by_cases hi : i < args.size
    · rw [List.getElem?_append_left (by simpa using hi)] at hx
      rw [Array.getElem?_append_left (by simpa using hi)] at hv
      refine list_ev r args.toList i x v hx ?_
      rw [List.getElem?_map, Array.getElem?_toList]
      rw [Array.getElem?_map] at hv
      exact hv
    · rw [List.getElem?_append_right (by simp; omega)] at hx
      rw [Array.getElem?_append_right (by simp; omega)] at hv
      exact hr _ x v hx (by simpa using hv)
  have hcall := h K.w0 w G _ r.hr r.nx hargs
  have hrun : (execOp a.eval o).run P w = .ok (.enter F (args.map a.eval ++ us)) w := by
    simp [execOp, ho, resolve, e2, Deferred.ofValue, invoke, run_callFunc' hF]
  unfold Oper.wp
  rw [hrun]
  refine hcall.mono fun e w' ⟨v, x', hp', nx', G', he, ⟨e3, e4, e5⟩, hnx, hHR, hRV, hExt⟩ => ?_
  subst he
  subst e3; subst e4; subst e5
  exact k v w' ⟨G', (r.turn nx' hnx hHR hExt).put (dok_lt hd) hRV⟩⟩
theorem memC_Y {C : Ctx} {self : SelfT} (hC : C.ok P) (hS : SelfOk P self) (hd : dok o.dst n = true) (h : memC C self st o = some st') : OpY P n o st st' := by
  unfold memC at h
  split at h
  · rename_i s p h1
    cases hb : obM C.T st o.op with
    | false => rw [hb] at h; cases h
    | true =>
      rw [hb] at h
      simp only [cond_true] at h
      injection h with h
      subst h
      exact .ofV (stepM_ok hC.T h1 (obM_ok h1 hb) hd)
  · split at h
    · rename_i s h1
      injection h with h
      subst h
      exact .ofV (stepXN_ok hC.T h1 hd)
    · obtain ⟨d, op, ty, ps, af, g⟩ := o
      simp only at h
      unfold callC at h
      split at h
      · rename_i cal args ats _ _
        split at h
        · rename_i F caps h1
          split at h
          · rename_i q h2
            split at h
            · rename_i x hp nx h3
              injection h with h
              subst h
              exact .call rfl h1 (evL_eq (st := st) args.toList caps).symm (allP_at hC.cas h2) hd (hS _ _ _ _ _ _ _ h3)
            · cases h
          · cases h
        · cases h
      · cases h
end
/-- what the operation leaves in its register -/
def dstV (st : ASt) (d : Option Nat) : AV := match d with
  | some t => look .any st.regs t
  | none => .any
theorem OpY.run {P : Program} {n : Nat} {o : Oper} {p : Nat → Bool} {k k2 : Nat} {rg : List (Nat × AV)} {hp Hp : List (Nat × AB)} {st' : ASt} {w0 w : World} {G : Gh} {a : Act}
    (h : OpY P n o ⟨rg, hp, k⟩ st') (hd : dok o.dst n = true) (hk : ∀ id, p id = true → id < k) (hn : st'.nx = k2)
    (hs : ∀ id, look .dead hp id = .dead ∨ (p id = true ∧ look .dead hp id = look .dead Hp id ∧ (look .dead hp id).nmd p = true))
    (ht : ∀ id, look .dead st'.heap id = .dead ∨ (orN p k k2 id = true ∧ pfB (orN p k k2) (look .dead st'.heap id) = true))
    (hr : ∀ t, (look .any rg t).nmd p = true) (hx : pf (orN p k k2) (dstV st' o.dst) = true)
    (hHR : HR w0 w G Hp) (hkn : k2 ≤ G.nx) (hsz : a.tmps.size = n) (hdf : a.defers = []) (hrg : ∀ t, RelV w G (look .any rg t) (a.tmps.getD t undef))
    {Φ : Act → World → Prop} {Q : Exit → Act → World → Prop} (hΦ : ∀ v w' G', Out p k k2 w0 w G st'.heap w' G' → RelV w' G' (dstV st' o.dst) v → Φ (a.put o.dst v) w') : o.wp P a w Φ Q := by
  have hm := cut_mv hHR hk
  have hHR1 := cut_hr (k := k) hHR hk hs
  have hR : RelG ⟨w0, w, cut G p k⟩ n ⟨rg, hp, k⟩ a w (cut G p k) := ⟨rfl, hHR1, Ext.refl _ _, hsz, hdf, fun t => (hrg t).mv hm (hr t)⟩
  refine h.out ⟨w0, w, cut G p k⟩ a w Φ Q ⟨_, hR⟩ fun v w' ⟨G1, r1⟩ => ?_
  obtain ⟨ho, hsm⟩ := join_out (hp := Hp) hHR hk hkn r1.hr r1.ext (r1.nx.trans hn) ht
  refine hΦ v w' _ ho ?_
  cases hdd : o.dst with
  | none => exact .dat (.any v)
  | some t =>
    rw [hdd] at hx r1 hd
    have hlt : t < n := dok_lt hd t rfl
    have e := r1.regs t
    have e2 : (a.put (some t) v).tmps.getD t undef = v := by
      show (a.tmps.setIfInBounds t v).getD t undef = v
      rw [getD_set (by rw [hsz]; exact hlt), if_pos rfl]
    rw [e2] at e
    exact lift hsm e hx
end Go.Proofs.Ytjhdjjoacedlpaa.Rn
/- Regions that draw their order: operations and calls that write, in any order that the edges allow; blocks that are written beside an operation are seen by the cells that stay. No program in sight. -/
namespace Go.Proofs.Ytjhdjjoacedlpaa.Rn
open Go Go.RowKit Go.Proofs.Ytjhdjjoacedlpaa Go.Proofs.Ytjhdjjoacedlpaa.Dr

theorem pf_nmd {p : Nat → Bool} : ∀ (a : AV), pf p a = true → a.nmd p = true
  | .box .., h => by simpa only [pf, AV.nmd] using h
  | .elt .., h => by simpa only [pf, AV.nmd] using h
  | .osl .., h => by simpa only [pf, AV.nmd] using h
  | .vsl .., h => by simpa only [pf, AV.nmd] using h
  | .agg cs, h => by simp only [pf, AV.nmd] at h ⊢; exact pf_nmdL cs h
  | .tup cs, h => by simp only [pf, AV.nmd] at h ⊢; exact pf_nmdL cs h
  | .fn _ cs, h => by simp only [pf, AV.nmd] at h ⊢; exact pf_nmdL cs h
  | .any, _ => rfl
  | .und, _ => rfl
  | .int .., _ => rfl
  | .bool .., _ => rfl
  | .str .., _ => rfl
  | .nilp, _ => rfl
  | .nils, _ => rfl
  | .nilf, _ => rfl
  | .peek .., _ => rfl
  | .ro .., _ => rfl
where pf_nmdL {p : Nat → Bool} : ∀ (cs : List AV), pf.go p cs = true → AV.nmd.go p cs = true
  | [], _ => rfl
  | a :: l, h => by
    rw [pf.go, Bool.and_eq_true] at h
    rw [AV.nmd.go, pf_nmd a h.1, pf_nmdL l h.2]; rfl
theorem pfB_nmd {p : Nat → Bool} {b : AB} (h : pfB p b = true) : b.nmd p = true := by
  cases b with
  | dead => rfl
  | box cs e => exact pf_nmd.pf_nmdL cs h
  | row sz rows e => exact List.all_eq_true.2 fun row hr => pf_nmd.pf_nmdL row (List.all_eq_true.1 h row hr)
/-- the blocks of a list, as f has them, ahead of others -/
def onL (L : List Nat) (f : Nat → AB) (hp : List (Nat × AB)) : List (Nat × AB) := L.map (fun j => (j, f j)) ++ hp
theorem onL_in {L : List Nat} {f : Nat → AB} {hp : List (Nat × AB)} {j : Nat} (hj : j ∈ L) : look .dead (onL L f hp) j = f j := by
  unfold onL
  rw [look_append]
  induction L with
  | nil => cases hj
  | cons c L ih =>
    rw [List.map_cons, look_cons]
    by_cases e : c = j
    · subst e; rw [if_pos rfl]
    · rw [if_neg e]
      exact ih ((List.mem_cons.1 hj).resolve_left fun e' => e e'.symm)
theorem onL_out {L : List Nat} {f : Nat → AB} {hp : List (Nat × AB)} {j : Nat} (hj : j ∉ L) : look .dead (onL L f hp) j = look .dead hp j := by
  unfold onL
  rw [look_append]
  induction L with
  | nil => rfl
  | cons c L ih =>
    rw [List.map_cons, look_cons, if_neg (fun e => hj (by simp [e]))]
    exact ih fun h => hj (List.mem_cons_of_mem _ h)
/-- what an operation may look at: the blocks whose state is settled, of the others the cells that stay -/
def lcl (ops : Array Oper) (T : List (List Nat)) (W : List (Nat × Nat)) (M : List (Nat × AB)) (nx0 i : Nat) (cr : List (Nat × Nat)) (st : ASt) (o : Oper) (k : Nat) : ASt :=
  ⟨lregs ops st o, M.filter (fun p => !visW T W nx0 i cr p.1) ++ st.heap.filter (fun p => visW T W nx0 i cr p.1), k⟩
theorem lcl_heap {ops : Array Oper} {T : List (List Nat)} {W : List (Nat × Nat)} {M : List (Nat × AB)} {nx0 i : Nat} {cr : List (Nat × Nat)} {st : ASt} {o : Oper} {k : Nat} (id : Nat) :
    look .dead (lcl ops T W M nx0 i cr st o k).heap id = bif visW T W nx0 i cr id then look .dead st.heap id else look .dead M id := by
  show look .dead (M.filter (fun p => !visW T W nx0 i cr p.1) ++ st.heap.filter (fun p => visW T W nx0 i cr p.1)) id = _
  rw [look_append, look_filt (f := fun id => visW T W nx0 i cr id), look_filt (f := fun id => !visW T W nx0 i cr id)]
  cases hv : visW T W nx0 i cr id with
  | true => rfl
  | false =>
    simp only [Bool.not_false, cond_true, cond_false]
/-- the new numbers -/
def news (k k2 : Nat) : List Nat := List.range' k (k2 - k)
theorem news_mem {k k2 id : Nat} : id ∈ news k k2 ↔ k ≤ id ∧ id < k2 := by
  unfold news
  rw [List.mem_range'_1]
  omega
/-- the blocks that are there when the done operations are done -/
def lvD (S : Nat → ASt) (m nx0 : Nat) (d : Nat → Bool) (id : Nat) : Bool := Nat.blt id nx0 || (List.range m).any fun j => d j && (Nat.ble (S j).nx id && Nat.blt id (S (j + 1)).nx)
theorem lvD_iff {S : Nat → ASt} {m nx0 : Nat} {d : Nat → Bool} {id : Nat} : lvD S m nx0 d id = true ↔ id < nx0 ∨ ∃ j, j < m ∧ d j = true ∧ (S j).nx ≤ id ∧ id < (S (j + 1)).nx := by
  unfold lvD
  rw [Bool.or_eq_true, List.any_eq_true]
  constructor
  · rintro (h | ⟨j, h1, h2⟩)
    · exact .inl (by simpa using h)
    · simp only [Bool.and_eq_true] at h2
      exact .inr ⟨j, List.mem_range.1 h1, h2.1, by simpa using h2.2.1, by simpa using h2.2.2⟩
  · rintro (h | ⟨j, h1, h2, h3, h4⟩)
    · exact .inl (by simpa using h)
    · refine .inr ⟨j, List.mem_range.2 h1, ?_⟩
      simp [h2, h3, h4]
/-- what has been done of a region -/
def InvG (K : Kn) (n : Nat) (l : List Oper) (W : List (Nat × Nat)) (S : Nat → ASt) (m nx0 : Nat) (d : Nat → Bool) (a : Act) (w : World) : Prop := ∃ R hp G, RelP K n R hp (S m).nx (lvD S m nx0 d) a w G ∧
  (∀ j o t, j < m → l[j]? = some o → d j = true → o.dst = some t → Les (look .any (S (j + 1)).regs t) (R t)) ∧
  (∀ t, (∀ j o, j < m → l[j]? = some o → d j = true → o.dst ≠ some t) → Les (look .any (S 0).regs t) (R t)) ∧
  (∀ id, lvD S m nx0 d id = true → ∃ p, p ≤ m ∧ id < (S p).nx ∧ LesB (look .dead (S p).heap id) (look .dead hp id) ∧ (∀ j, (j, id) ∈ W → j < p → d j = true) ∧ (∀ j, (j, id) ∈ W → p ≤ j → d j = false) ∧ (p = 0 ∨ ∃ q, p = q + 1 ∧ d q = true ∧ ((q, id) ∈ W ∨ (S q).nx ≤ id)))
inductive Loc (P : Program) (n : Nat) (ops : Array Oper) (T : List (List Nat)) (W : List (Nat × Nat)) (M : List (Nat × AB)) (nx0 i : Nat) (cr : List (Nat × Nat)) (o : Oper) (st : ASt) : ASt → List (Nat × Nat) → Prop
  | read {x : AV} (hW : noW W i = true) (hw : o.guard = none ∨ gst ops o (lcl ops T W M nx0 i cr st o 0) = some true) (h : ∀ k, OpR P n o (lcl ops T W M nx0 i cr st o k) x) (hn : x.nmd (vis T nx0 i cr) = true) : Loc P n ops T W M nx0 i cr o st (st.put o.dst x) cr
  | call {x : AV} (hW : noW W i = true) (hw : o.guard = none ∨ gst ops o (lcl ops T W M nx0 i cr st o 0) = some true) (h : ∀ k, OpF P n o (lcl ops T W M nx0 i cr st o k) x) (hn : x.nmd (vis T nx0 i cr) = true) : Loc P n ops T W M nx0 i cr o st (st.put o.dst x) cr
  | new {b : AB} (hW : noW W i = true) (hN : newW T W i st.nx = true) (hw : o.guard = none ∨ gst ops o (lcl ops T W M nx0 i cr st o 0) = some true) (h : ∀ k, OpN P n o (lcl ops T W M nx0 i cr st o k) b) (hn : b.nmd (vis T nx0 i cr) = true) : Loc P n ops T W M nx0 i cr o st ((st.hnew b).put o.dst (refB b st.nx)) ((i, st.nx) :: cr)
  | skip (hW : noW W i = true) (hw : gst ops o (lcl ops T W M nx0 i cr st o 0) = some false) (hd : dok o.dst n = true) : Loc P n ops T W M nx0 i cr o st (st.put o.dst .und) cr
  | write {id : Nat} {b : AB} {x : AV} (L : List Nat) (hL : ∀ j ∈ L, visW T W nx0 i cr j = true ∧ (look .dead st.heap j).nmd (vis T nx0 i cr) = true) (hw : o.guard = none ∨ gst ops o (lcl ops T W M nx0 i cr st o 0) = some true) (hv : visW T W nx0 i cr id = true) (hm : (i, id) ∈ W) (hu : onlyW W i id = true)
      (h : ∀ hp k, (∀ j ∈ L, look .dead hp j = look .dead st.heap j) → OpWr P n o ⟨lregs ops st o, hp, k⟩ id b x) (hb : b.nmd (vis T nx0 i cr) = true) (hn : x.nmd (vis T nx0 i cr) = true) (hM : LesB (look .dead M id) b) : Loc P n ops T W M nx0 i cr o st ((st.hset id b).put o.dst x) cr
  | op {st2 : ASt} (L : List Nat) (hp : List (Nat × AB)) (hw : o.guard = none ∨ gst ops o (lcl ops T W M nx0 i cr st o 0) = some true) (h : OpY P n o ⟨lregs ops st o, hp, st.nx⟩ st2) (hd : dok o.dst n = true) (hn : st.nx ≤ st2.nx) (hN : ∀ id, st.nx ≤ id → id < st2.nx → newW T W i id = true)
      (hv : ∀ id ∈ L, id < st.nx ∧ visW T W nx0 i cr id = true) (hs : ∀ id, look .dead hp id = .dead ∨ (id ∈ L ∧ look .dead hp id = look .dead st.heap id ∧ (look .dead hp id).nmd (hasN L) = true))
      (ht : ∀ id, look .dead st2.heap id = .dead ∨ (orN (hasN L) st.nx st2.nx id = true ∧ pfB (orN (hasN L) st.nx st2.nx) (look .dead st2.heap id) = true)) (hr : ∀ t, (look .any (lregs ops st o) t).nmd (hasN L) = true) (hx : pf (orN (hasN L) st.nx st2.nx) (dstV st2 o.dst) = true)
      (hW : ∀ id, (i, id) ∈ W → id ∈ L) (hu : ∀ id ∈ L, (i, id) ∈ W ∨ look .dead st2.heap id = look .dead st.heap id) (hM : ∀ id, (i, id) ∈ W → LesB (look .dead M id) (look .dead st2.heap id)) :
      Loc P n ops T W M nx0 i cr o st ((⟨st.regs, onL (L ++ news st.nx st2.nx) (look .dead st2.heap) st.heap, st2.nx⟩ : ASt).put o.dst (dstV st2 o.dst)) ((news st.nx st2.nx).map (fun id => (i, id)) ++ cr)
inductive AG (P : Program) (n : Nat) (ops : Array Oper) (T : List (List Nat)) (W : List (Nat × Nat)) (M : List (Nat × AB)) (nx0 : Nat) (Kt : ASt → Prop) : Nat → List (Nat × Nat) → List Oper → ASt → Prop
  | nil {i : Nat} {cr : List (Nat × Nat)} {st : ASt} (h : Kt st) : AG P n ops T W M nx0 Kt i cr [] st
  | step {i : Nat} {cr cr' : List (Nat × Nat)} {o : Oper} {l : List Oper} {st st' : ASt} (h : Loc P n ops T W M nx0 i cr o st st' cr') (k : AG P n ops T W M nx0 Kt (i + 1) cr' l st') : AG P n ops T W M nx0 Kt i cr (o :: l) st
  | same {i : Nat} {cr : List (Nat × Nat)} {l : List Oper} {st st' : ASt} (h : Eqv st st') (k : AG P n ops T W M nx0 Kt i cr l st') : AG P n ops T W M nx0 Kt i cr l st
theorem AG.facts {P : Program} {n : Nat} {ops : Array Oper} {T : List (List Nat)} {W : List (Nat × Nat)} {M : List (Nat × AB)} {nx0 : Nat} {Kt : ASt → Prop} {i : Nat} {cr : List (Nat × Nat)} {l : List Oper} {st : ASt} (h : AG P n ops T W M nx0 Kt i cr l st) :
    ∃ (S : Nat → ASt) (C : Nat → List (Nat × Nat)), Eqv st (S 0) ∧ C 0 = cr ∧ Kt (S l.length) ∧ ∀ j o, l[j]? = some o → ∃ s', Loc P n ops T W M nx0 (i + j) (C j) o (S j) s' (C (j + 1)) ∧ Eqv s' (S (j + 1)) := by
  induction h with
  | @nil i cr st h => exact ⟨fun _ => st, fun _ => cr, Eqv.refl _, rfl, h, fun j o hj => by simp at hj⟩
  | @step i cr cr' o l st st' h k ih =>
    obtain ⟨S, C, h1, h2, h3, h4⟩ := ih
    refine ⟨fun j => match j with | 0 => st | j + 1 => S j, fun j => match j with | 0 => cr | j + 1 => C j, Eqv.refl _, rfl, h3, fun j o' hj => ?_⟩
    cases j with
    | zero =>
      simp at hj
      subst hj
      exact ⟨st', by show Loc P n ops T W M nx0 i cr o st st' (C 0); rw [h2]; exact h, h1⟩
    | succ j =>
      obtain ⟨s', g1, g2⟩ := h4 j o' (by simpa using hj)
      exact ⟨s', by rw [show i + (j + 1) = i + 1 + j by omega]; exact g1, g2⟩
  | @same i cr l st st' h k ih =>
    obtain ⟨S, C, h1, h2, h3, h4⟩ := ih
    exact ⟨S, C, h.trans h1, h2, h3, h4⟩
section
variable {P : Program} {n : Nat} {ops : Array Oper} {T : List (List Nat)} {W : List (Nat × Nat)} {M : List (Nat × AB)} {nx0 i : Nat} {cr cr' : List (Nat × Nat)} {o : Oper} {st st' : ASt}
theorem Loc.nx_le (h : Loc P n ops T W M nx0 i cr o st st' cr') : st.nx ≤ st'.nx := by
  cases h with
  | read => rw [put_nx]; exact Nat.le_refl _
  | call => rw [put_nx]; exact Nat.le_refl _
  | new => rw [put_nx]; exact Nat.le_succ _
  | skip => rw [put_nx]; exact Nat.le_refl _
  | write => rw [put_nx]; exact Nat.le_refl _
  | op _ _ _ _ _ hn => rw [put_nx]; exact hn
theorem Loc.regs (h : Loc P n ops T W M nx0 i cr o st st' cr') {t : Nat} (ht : o.dst ≠ some t) : look .any st'.regs t = look .any st.regs t := by
  cases h with
  | read => exact put_regs _ _ _ _ ht
  | call => exact put_regs _ _ _ _ ht
  | new => rw [put_regs _ _ _ _ ht]; rfl
  | skip => exact put_regs _ _ _ _ ht
  | write => rw [put_regs _ _ _ _ ht]; rfl
  | op => rw [put_regs _ _ _ _ ht]
theorem Loc.heap (h : Loc P n ops T W M nx0 i cr o st st' cr') {id : Nat} (hid : id < st.nx ∨ st'.nx ≤ id) (hw : (i, id) ∉ W) : look .dead st'.heap id = look .dead st.heap id := by
  cases h with
  | read => rw [put_heap']
  | call => rw [put_heap']
  | @new b =>
    rw [put_nx] at hid
    have hid : id < st.nx ∨ st.nx + 1 ≤ id := hid
    rw [put_heap']; exact look_ne _ (fun e => by omega) _ _
  | skip => rw [put_heap']
  | @write id' b x L hL _ hv hm => rw [put_heap']; exact look_ne _ (fun e => hw (by rw [← e]; exact hm)) _ _
  | @op st2 L hp hwa h hd hn hN hv hs htt hr hx hW hu =>
    rw [put_nx] at hid
    have hid : id < st.nx ∨ st2.nx ≤ id := hid
    rw [put_heap']
    show look .dead (onL (L ++ news st.nx st2.nx) _ _) id = _
    by_cases e : id ∈ L ++ news st.nx st2.nx
    · rw [onL_in e]
      rcases List.mem_append.1 e with e | e
      · exact (hu id e).resolve_left hw
      · have := news_mem.1 e; omega
    · exact onL_out e
theorem Loc.heap2 (h : Loc P n ops T W M nx0 i cr o st st' cr') (id : Nat) : look .dead st'.heap id = look .dead st.heap id ∨ (st.nx ≤ id ∧ id < st'.nx) ∨ vis T nx0 i cr id = true := by
  cases h with
  | read => left; rw [put_heap']
  | call => left; rw [put_heap']
  | skip => left; rw [put_heap']
  | @new b =>
    by_cases e : id = st.nx
    · exact .inr (.inl ⟨by omega, by rw [put_nx]; show id < st.nx + 1; omega⟩)
    · left; rw [put_heap']; exact look_ne _ (fun e' => e e'.symm) _ _
  | @write id' b x L hL _ hv hm =>
    by_cases e : id' = id
    · subst e
      unfold visW at hv
      rw [Bool.and_eq_true] at hv
      exact .inr (.inr hv.1)
    · left; rw [put_heap']; exact look_ne _ e _ _
  | @op st2 L hp hwa h hd hn hN hv hs htt hr hx hW hu =>
    by_cases e : id ∈ L ++ news st.nx st2.nx
    · rcases List.mem_append.1 e with e | e
      · have := (hv id e).2
        unfold visW at this
        rw [Bool.and_eq_true] at this
        exact .inr (.inr this.1)
      · exact .inr (.inl ⟨(news_mem.1 e).1, by rw [put_nx]; exact (news_mem.1 e).2⟩)
    · left
      rw [put_heap']
      exact onL_out e
theorem Loc.crm (h : Loc P n ops T W M nx0 i cr o st st' cr') : ∀ c ∈ cr', c ∈ cr ∨ (c.1 = i ∧ st.nx ≤ c.2 ∧ c.2 < st'.nx) := by
  cases h with
  | read => intro c hc; exact .inl hc
  | call => intro c hc; exact .inl hc
  | new =>
    intro c hc
    rcases List.mem_cons.1 hc with h | h
    · subst h; exact .inr ⟨rfl, Nat.le_refl _, by rw [put_nx]; exact Nat.lt_succ_self _⟩
    · exact .inl h
  | skip => intro c hc; exact .inl hc
  | write => intro c hc; exact .inl hc
  | op =>
    intro c hc
    rcases List.mem_append.1 hc with h | h
    · obtain ⟨id, h1, rfl⟩ := List.mem_map.1 h
      exact .inr ⟨rfl, (news_mem.1 h1).1, by rw [put_nx]; exact (news_mem.1 h1).2⟩
    · exact .inl h
theorem Loc.mask (h : Loc P n ops T W M nx0 i cr o st st' cr') (hnx : nx0 ≤ st.nx) (h0 : ∀ id, nx0 ≤ id → look .dead M id = .dead) (hM : ∀ id, LesB (look .dead M id) (look .dead st.heap id)) : ∀ id, LesB (look .dead M id) (look .dead st'.heap id) := by
  intro id
  by_cases hw : (i, id) ∈ W
  · cases h with
    | read hW => exact absurd hw (noW_at hW id)
    | call hW => exact absurd hw (noW_at hW id)
    | new hW => exact absurd hw (noW_at hW id)
    | skip hW => exact absurd hw (noW_at hW id)
    | @write id' b x L hL _ hv hm hu _ hb hn hMb =>
      have := onlyW_at hu hw
      subst this
      rw [put_heap']
      have e1 : look AB.dead (st.hset id b).heap id = b := look_self _ _ _ _
      rw [e1]; exact hMb
    | op L hp hwa h hd hn hN hv hs htt hr hx hW hu hMb =>
      rw [put_heap']
      show LesB _ (look .dead (onL (L ++ news st.nx _) _ _) id)
      rw [onL_in (List.mem_append.2 (.inl (hW id hw)))]
      exact hMb id hw
  · by_cases e : id < st.nx
    · rw [h.heap (.inl e) hw]; exact hM id
    · rw [h0 id (by omega)]; exact .dead _
end
theorem eqv_les {s s' : ASt} (h : Eqv s s') : LeS s' s := ⟨fun d => by rw [h.regs d]; exact .refl _, fun d => by rw [h.heap d]; exact .refl _, h.nx.symm⟩
section
variable {P : Program} {n : Nat} {l : List Oper} {T : List (List Nat)} {W : List (Nat × Nat)} {M : List (Nat × AB)} {S : Nat → ASt} {C : Nat → List (Nat × Nat)} {m : Nat}
theorem AG.step' (hp : ∀ i o, l[i]? = some o → PlanR l n i o) (hT : AncOk l T) (hml : m ≤ l.length) (hC0 : C 0 = [])
    (hE : ∀ j o, j < m → l[j]? = some o → ∃ s', Loc P n l.toArray T W M (S 0).nx j (C j) o (S j) s' (C (j + 1)) ∧ Eqv s' (S (j + 1))) (hM0 : ∀ id, (S 0).nx ≤ id → look .dead M id = .dead) (hM1 : ∀ id, LesB (look .dead M id) (look .dead (S 0).heap id))
    {K : Kn} {Q : Exit → Act → World → Prop} {i : Nat} {o : Oper} {d : Nat → Bool} {a : Act} {w : World} (hi : i < m) (ho : l[i]? = some o) (hd0 : d i = false) (hcl : ClosedD l d) (hdep : ∀ e ∈ o.after, Region.binds .any e = true → d e.on = true)
    (h : InvG K n l W S m (S 0).nx d a w) : if Region.wanted o (yielded l.toArray a.tmps) then o.wp P a w (fun a' w' => InvG K n l W S m (S 0).nx (upd d i) a' w') Q else InvG K n l W S m (S 0).nx (upd d i) (a.put o.dst undef) w := by
  have hL : ∀ j o, j < m → l[j]? = some o → ∃ s', Loc P n l.toArray T W M (S 0).nx j (C j) o (S j) s' (C (j + 1)) ∧ LeS (S (j + 1)) s' := fun j o hj ho => by
    obtain ⟨s', h1, h2⟩ := hE j o hj ho
    exact ⟨s', h1, eqv_les h2⟩
  obtain ⟨R, hpp, G, hR, I1, I2, I3⟩ := h
  have hop : ∀ j, j < m → ∃ o, l[j]? = some o := fun j hj => ⟨l[j], List.getElem?_eq_getElem (by omega)⟩
  have nxS : ∀ j, j < m → (S j).nx ≤ (S (j + 1)).nx := fun j hj => by
    obtain ⟨o, ho⟩ := hop j hj
    obtain ⟨s', h1, h2⟩ := hL j o hj ho
    rw [h2.nx]
    exact h1.nx_le
  have nxM : ∀ q, q ≤ m → ∀ p, p ≤ q → (S p).nx ≤ (S q).nx := by
    intro q
    induction q with
    | zero => intro _ p hp; obtain rfl : p = 0 := (by omega); exact Nat.le_refl _
    | succ q ih =>
      intro hq p hp
      rcases Nat.lt_or_ge p (q + 1) with h | h
      · exact Nat.le_trans (ih (by omega) p (by omega)) (nxS q (by omega))
      · obtain rfl : p = q + 1 := by omega
        exact Nat.le_refl _
  have regM : ∀ t q, q ≤ m → ∀ p, p ≤ q → (∀ j o, p ≤ j → j < q → l[j]? = some o → o.dst ≠ some t) → Les (look AV.any (S q).regs t) (look .any (S p).regs t) := by
    intro t q
    induction q with
    | zero => intro _ p hp _; obtain rfl : p = 0 := (by omega); exact .refl _
    | succ q ih =>
      intro hq p hp hno
      rcases Nat.lt_or_ge p (q + 1) with h | h
      · obtain ⟨o, ho⟩ := hop q (by omega)
        obtain ⟨s', h1, h2⟩ := hL q o (by omega) ho
        have e1 := h2.regs t
        rw [h1.regs (hno q o (by omega) (by omega) ho)] at e1
        exact e1.trans (ih (by omega) p (by omega) fun j o hj1 hj2 => hno j o hj1 (by omega))
      · obtain rfl : p = q + 1 := by omega
        exact .refl _
  have heapM : ∀ id q, q ≤ m → ∀ p, p ≤ q → id < (S p).nx → (∀ j, p ≤ j → j < q → (j, id) ∉ W) → LesB (look AB.dead (S q).heap id) (look .dead (S p).heap id) := by
    intro id q
    induction q with
    | zero => intro _ p hp _ _; obtain rfl : p = 0 := (by omega); exact .refl _
    | succ q ih =>
      intro hq p hp hlt hno
      rcases Nat.lt_or_ge p (q + 1) with h | h
      · obtain ⟨o, ho⟩ := hop q (by omega)
        obtain ⟨s', h1, h2⟩ := hL q o (by omega) ho
        have := nxM q (by omega) p (by omega)
        have e1 := h2.heap id
        rw [h1.heap (by omega) (hno q (by omega) (by omega))] at e1
        exact e1.trans (ih (by omega) p (by omega) hlt fun j j1 j2 => hno j j1 (by omega))
      · obtain rfl : p = q + 1 := by omega
        exact .refl _
  have heapE : ∀ id q, q ≤ m → ∀ p, p ≤ q → id < (S p).nx → (∀ j, p ≤ j → j < q → (j, id) ∉ W) → look AB.dead (S q).heap id = look .dead (S p).heap id := by
    intro id q
    induction q with
    | zero => intro _ p hp _ _; obtain rfl : p = 0 := (by omega); rfl
    | succ q ih =>
      intro hq p hp hlt hno
      rcases Nat.lt_or_ge p (q + 1) with h | h
      · obtain ⟨o, ho⟩ := hop q (by omega)
        obtain ⟨s', h1, h2⟩ := hE q o (by omega) ho
        have := nxM q (by omega) p (by omega)
        have e1 := h2.heap id
        rw [h1.heap (by omega) (hno q (by omega) (by omega))] at e1
        exact e1.symm.trans (ih (by omega) p (by omega) hlt fun j j1 j2 => hno j j1 (by omega))
      · obtain rfl : p = q + 1 := by omega
        rfl
  have hMall : ∀ q, q ≤ m → ∀ id, LesB (look AB.dead M id) (look .dead (S q).heap id) := by
    intro q
    induction q with
    | zero => intro _; exact hM1
    | succ q ih =>
      intro hq id
      obtain ⟨o, ho⟩ := hop q (by omega)
      obtain ⟨s', h1, h2⟩ := hE q o (by omega) ho
      rw [← h2.heap id]
      exact h1.mask (nxM q (by omega) 0 (Nat.zero_le _)) hM0 (ih (by omega)) id
  have crM : ∀ q, q ≤ m → ∀ c ∈ C q, c.1 < q ∧ (S c.1).nx ≤ c.2 ∧ c.2 < (S (c.1 + 1)).nx := by
    intro q
    induction q with
    | zero => intro _ c hc; rw [hC0] at hc; cases hc
    | succ q ih =>
      intro hq c hc
      obtain ⟨o, ho⟩ := hop q (by omega)
      obtain ⟨s', h1, h2⟩ := hL q o (by omega) ho
      rcases h1.crm c hc with h | ⟨h, h', h''⟩
      · obtain ⟨g1, g2⟩ := ih (by omega) c h
        exact ⟨by omega, g2⟩
      · rw [h]
        exact ⟨by omega, h', by rw [h2.nx]; exact h''⟩
  have pa := hp i o ho
  have hlook : ∀ t, t ∈ o.looksAt l.toArray → Les (look .any (S i).regs t) (R t) := by
    intro t ht
    by_cases hw : ∃ (j : Nat) (o' : Oper), l[j]? = some o' ∧ o'.dst = some t
    · obtain ⟨j, o', ho', hdst⟩ := hw
      rcases pa.look j o' t ho' hdst ht with ⟨hj, hr⟩ | ⟨hj, hr⟩
      · have hdj := hr.done hcl ho hdep
        exact (regM t i (by omega) (j + 1) (by omega) fun j2 o2 h1 h2 ho2 => (hp j2 o2 ho2).one j o' t ho' hdst (by omega)).trans (I1 j o' t (by omega) ho' hdj hdst)
      · have hnj : d j = false := by
          cases hdj : d j with
          | false => rfl
          | true => have := hr.done' hcl hdj; rw [hd0] at this; cases this
        have honly : ∀ j2 o2, l[j2]? = some o2 → j2 ≠ j → o2.dst ≠ some t := fun j2 o2 ho2 hne => (hp j2 o2 ho2).one j o' t ho' hdst hne
        refine (regM t i (by omega) 0 (Nat.zero_le _) fun j2 o2 _ h2 ho2 => honly j2 o2 ho2 (by omega)).trans (I2 t fun j2 o2 _ ho2 hd2 => honly j2 o2 ho2 fun e => ?_)
        subst e; rw [hnj] at hd2; cases hd2
    · exact (regM t i (by omega) 0 (Nat.zero_le _) fun j o' _ _ ho' hdst => hw ⟨j, o', ho', hdst⟩).trans (I2 t fun j o' _ ho' _ hdst => hw ⟨j, o', ho', hdst⟩)
  have hvis : ∀ id, vis T (S 0).nx i (C i) id = true → lvD S m (S 0).nx d id = true ∧ id < (S i).nx := by
    intro id h
    unfold vis at h
    rw [Bool.or_eq_true, List.any_eq_true] at h
    rcases h with h | ⟨c, hc, h⟩
    · have h : id < (S 0).nx := by simpa using h
      have := nxM i (by omega) 0 (Nat.zero_le _)
      exact ⟨lvD_iff.2 (.inl h), by omega⟩
    · rw [Bool.and_eq_true] at h
      obtain ⟨g1, g2, g3⟩ := crM i (by omega) c hc
      have hid := Nat.eq_of_beq_eq_true h.1
      have hdc := (reachT hT h.2).done hcl ho hdep
      have := nxM i (by omega) (c.1 + 1) (by omega)
      exact ⟨lvD_iff.2 (.inr ⟨c.1, by omega, hdc, by omega, by omega⟩), by omega⟩
  have hcont : ∀ id, visW T W (S 0).nx i (C i) id = true → LesB (look .dead (S i).heap id) (look AB.dead hpp id) := by
    intro id hv
    unfold visW at hv
    rw [Bool.and_eq_true] at hv
    obtain ⟨h1, h2⟩ := hvis id hv.1
    obtain ⟨p, p1, p2, p3, p4, p5, p6⟩ := I3 id h1
    have hpi : p ≤ i := by
      rcases p6 with rfl | ⟨q, rfl, hdq, hq⟩
      · exact Nat.zero_le _
      · rcases Nat.lt_or_ge q i with h | h
        · omega
        · exfalso
          rcases hq with hq | hq
          · by_cases e : q = i
            · subst e; rw [hd0] at hdq; cases hdq
            · have := (reachT hT ((okW_at hv.2 hq).2 (by omega))).done' hcl hdq
              rw [hd0] at this
              cases this
          · have := nxM q (by omega) i h
            omega
    refine (heapM id i (by omega) p hpi p2 fun j j1 j2 hj => ?_).trans p3
    have hdj := (reachT hT ((okW_at hv.2 hj).1 j2)).done hcl ho hdep
    rw [p5 j hj j1] at hdj
    cases hdj
  have hver : ∀ id, visW T W (S 0).nx i (C i) id = true → ∀ p, p ≤ m → id < (S p).nx → (∀ j, (j, id) ∈ W → p ≤ j → d j = false) → (p = 0 ∨ ∃ q, p = q + 1 ∧ d q = true ∧ ((q, id) ∈ W ∨ (S q).nx ≤ id)) → look .dead (S i).heap id = look AB.dead (S p).heap id := by
    intro id hv p p1 p2 p5 p6
    unfold visW at hv
    rw [Bool.and_eq_true] at hv
    obtain ⟨h1, h2⟩ := hvis id hv.1
    have hpi : p ≤ i := by
      rcases p6 with rfl | ⟨q, rfl, hdq, hq⟩
      · exact Nat.zero_le _
      · rcases Nat.lt_or_ge q i with h | h
        · omega
        · exfalso
          rcases hq with hq | hq
          · by_cases e : q = i
            · subst e; rw [hd0] at hdq; cases hdq
            · have := (reachT hT ((okW_at hv.2 hq).2 (by omega))).done' hcl hdq
              rw [hd0] at this
              cases this
          · have := nxM q (by omega) i h
            omega
    refine heapE id i (by omega) p hpi p2 fun j j1 j2 hj => ?_
    have hdj := (reachT hT ((okW_at hv.2 hj).1 j2)).done hcl ho hdep
    rw [p5 j hj j1] at hdj
    cases hdj
  have hregs : ∀ t, Les (look AV.any (lregs l.toArray (S i) o) t) (R t) := by
    intro t
    by_cases ht : t ∈ o.looksAt l.toArray
    · rcases (look_pick (f := fun t => look AV.any (S i).regs t) (l := o.looksAt l.toArray) (dd := AV.any) (t := t)) with e | e
      · show Les (look AV.any ((o.looksAt l.toArray).map fun t => (t, look AV.any (S i).regs t)) t) _
        rw [e]; exact hlook t ht
      · show Les (look AV.any ((o.looksAt l.toArray).map fun t => (t, look AV.any (S i).regs t)) t) _
        rw [e]; exact .any _
    · show Les (look AV.any ((o.looksAt l.toArray).map fun t => (t, look AV.any (S i).regs t)) t) _
      rw [look_pick_in ht]; exact .any _
  have hrel : RelG K n (lcl l.toArray T W M (S 0).nx i (C i) (S i) o (S m).nx) a w G := by
    refine RelP.rel' hR hregs (fun id => ?_) rfl
    rw [lcl_heap]
    cases hv : visW T W (S 0).nx i (C i) id with
    | false =>
      simp only [cond_false]
      rcases Nat.lt_or_ge id (S 0).nx with hlt | hge
      · obtain ⟨p, p1, p2, p3, _⟩ := I3 id (lvD_iff.2 (.inl hlt))
        exact (hMall p p1 id).trans p3
      · rw [hM0 id hge]; exact .dead _
    | true => exact hcont id hv
  have keep : ∀ id, (i, id) ∉ W → lvD S m (S 0).nx d id = true → ∃ p, p ≤ m ∧ id < (S p).nx ∧ LesB (look .dead (S p).heap id) (look .dead hpp id) ∧ (∀ j, (j, id) ∈ W → j < p → upd d i j = true) ∧ (∀ j, (j, id) ∈ W → p ≤ j → upd d i j = false) ∧ (p = 0 ∨ ∃ q, p = q + 1 ∧ upd d i q = true ∧ ((q, id) ∈ W ∨ (S q).nx ≤ id)) := by
    intro id hni hlv
    obtain ⟨p, p1, p2, p3, p4, p5, p6⟩ := I3 id hlv
    refine ⟨p, p1, p2, p3, fun j hj h => ?_, fun j hj h => ?_, p6.imp (fun h => h) fun ⟨q, e, hq, hw⟩ => ⟨q, e, by simp [upd, hq], hw⟩⟩
    · rw [upd_ne (fun e => hni (by rw [← e]; exact hj))]; exact p4 j hj h
    · rw [upd_ne (fun e => hni (by rw [← e]; exact hj))]; exact p5 j hj h
  have ho0 := ho
  obtain ⟨s', hloc, heq⟩ := hL i o hi ho
  have hdone : ∀ j, upd d i j = true ↔ d j = true ∨ j = i := fun j => by simp [upd]
  have J1 : ∀ (x : AV), (∀ t, o.dst = some t → Les (look .any (S (i + 1)).regs t) x) → ∀ j o' t, j < m → l[j]? = some o' → upd d i j = true → o'.dst = some t → Les (look .any (S (j + 1)).regs t) (updR R o.dst x t) := by
    intro x hx j o' t hj ho' hdj hdst
    by_cases hji : j = i
    · subst hji
      rw [ho] at ho'
      cases ho'
      rw [hdst]
      show Les _ (if t = t then x else R t)
      rw [if_pos rfl]
      exact hx t hdst
    · have hdj : d j = true := ((hdone j).1 hdj).resolve_right hji
      have hne : o.dst ≠ some t := pa.one j o' t ho' hdst (fun e => hji e.symm)
      have : updR R o.dst x t = R t := by
        cases hdd : o.dst with
        | none => rfl
        | some dd => exact if_neg (fun e => hne (by rw [hdd, e]))
      rw [this]
      exact I1 j o' t hj ho' hdj hdst
  have J2 : ∀ (x : AV) t, (∀ j o', j < m → l[j]? = some o' → upd d i j = true → o'.dst ≠ some t) → Les (look .any (S 0).regs t) (updR R o.dst x t) := by
    intro x t hno
    have hne : o.dst ≠ some t := hno i o hi ho ((hdone i).2 (.inr rfl))
    have : updR R o.dst x t = R t := by
      cases hdd : o.dst with
      | none => rfl
      | some dd => exact if_neg (fun e => hne (by rw [hdd, e]))
    rw [this]
    exact I2 t fun j o' hj ho' hdj => hno j o' hj ho' ((hdone j).2 (.inl hdj))
  have lvSame : (S (i + 1)).nx = (S i).nx → lvD S m (S 0).nx (upd d i) = lvD S m (S 0).nx d := by
    intro hn
    funext id
    rw [Bool.eq_iff_iff, lvD_iff, lvD_iff]
    constructor
    · rintro (h | ⟨j, h1, h2, h3, h4⟩)
      · exact .inl h
      · rcases (hdone j).1 h2 with h2 | h2
        · exact .inr ⟨j, h1, h2, h3, h4⟩
        · subst h2; omega
    · rintro (h | ⟨j, h1, h2, h3, h4⟩)
      · exact .inl h
      · exact .inr ⟨j, h1, (hdone j).2 (.inl h2), h3, h4⟩
  have hwant : o.guard = none ∨ gst l.toArray o (lcl l.toArray T W M (S 0).nx i (C i) (S i) o 0) = some true → Region.wanted o (yielded l.toArray a.tmps) = true := by
    rintro (hg | hg)
    · exact wanted_none hg a
    · obtain ⟨dd, want, g1, g2⟩ := gst_yes hg
      exact wanted_of (st := lcl l.toArray T W M (S 0).nx i (C i) (S i) o (S m).nx) g1 g2 K a w G hrel
  have lvmono : ∀ id, vis T (S 0).nx i (C i) id = true → lvD S m (S 0).nx d id = true := fun id h => (hvis id h).1
  have putSelf : ∀ (st : ASt) (x : AV), s' = st.put o.dst x → ∀ t, o.dst = some t → Les (look .any (S (i + 1)).regs t) x := by
    intro st x e t ht
    have := heq.regs t
    rw [e, ht, put_self] at this
    exact this
  generalize C (i + 1) = cr' at hloc
  cases hloc with
  | @read x hW hw h hn =>
    rw [if_pos (hwant hw)]
    obtain ⟨v, h1, h2⟩ := (h (S m).nx).out K a w G hrel
    have hnx : (S (i + 1)).nx = (S i).nx := by rw [heq.nx, put_nx]
    unfold Oper.wp
    rw [h1 w (Below.refl _ _)]
    exact ⟨_, hpp, G, by rw [lvSame hnx]; exact hR.put (h 0).dst h2 (nmd_mono lvmono _ hn), J1 x (putSelf _ x rfl), J2 x, by rw [lvSame hnx]; exact fun id => keep id (noW_at hW id)⟩
  | @call x hW hw h hn =>
    rw [if_pos (hwant hw)]
    obtain ⟨F, args, h1, h2⟩ := (h (S m).nx).out K a w G hrel
    have hnx : (S (i + 1)).nx = (S i).nx := by rw [heq.nx, put_nx]
    unfold Oper.wp
    rw [h1]
    refine h2.mono fun e w' ⟨v, e1, e2, e3⟩ => ?_
    subst e1
    exact ⟨_, hpp, G, by rw [lvSame hnx]; exact (hR.same e2).put (h 0).dst e3 (nmd_mono lvmono _ hn), J1 x (putSelf _ x rfl), J2 x, by rw [lvSame hnx]; exact fun id => keep id (noW_at hW id)⟩
  | @skip hW hw hd =>
    obtain ⟨dd, want, g1, g2⟩ := gst_no hw
    rw [if_neg (by rw [unwanted_of (st := lcl l.toArray T W M (S 0).nx i (C i) (S i) o (S m).nx) g1 g2 hrel]; decide)]
    have hnx : (S (i + 1)).nx = (S i).nx := by rw [heq.nx, put_nx]
    exact ⟨_, hpp, G, by rw [lvSame hnx]; exact hR.put hd (.dat .und) rfl, J1 .und (putSelf _ .und rfl), J2 .und, by rw [lvSame hnx]; exact fun id => keep id (noW_at hW id)⟩
  | @new b hW hN hw h hn =>
    rw [if_pos (hwant hw)]
    obtain ⟨v, w', h1, h2⟩ := (h (S m).nx).out K a w G hrel
    have hnx : (S (i + 1)).nx = (S i).nx + 1 := by rw [heq.nx, put_nx]; rfl
    have hge : (S 0).nx ≤ (S i).nx := nxM i (by omega) 0 (Nat.zero_le _)
    have hfree : lvD S m (S 0).nx d (S i).nx = false := by
      rw [Bool.eq_false_iff]
      intro hlv
      rcases lvD_iff.1 hlv with h | ⟨j, g1, g2, g3, g4⟩
      · omega
      · rcases Nat.lt_trichotomy j i with hlt | e | hlt
        · have := nxM i (by omega) (j + 1) (by omega); omega
        · subst e; rw [hd0] at g2; cases g2
        · have := nxM j (by omega) (i + 1) (by omega); omega
    have hlt : (S i).nx < (S m).nx := by have := nxM m (Nat.le_refl _) (i + 1) (by omega); omega
    have hlv' : lvD S m (S 0).nx (upd d i) = fun id => lvD S m (S 0).nx d id || Nat.beq id (S i).nx := by
      funext id
      rw [Bool.eq_iff_iff, lvD_iff, Bool.or_eq_true, lvD_iff]
      constructor
      · rintro (h | ⟨j, h1, h2, h3, h4⟩)
        · exact .inl (.inl h)
        · rcases (hdone j).1 h2 with h2 | h2
          · exact .inl (.inr ⟨j, h1, h2, h3, h4⟩)
          · subst h2
            right
            have e : id = (S j).nx := by omega
            rw [e]; exact Nat.beq_refl _
      · rintro ((h | ⟨j, h1, h2, h3, h4⟩) | h)
        · exact .inl h
        · exact .inr ⟨j, h1, (hdone j).2 (.inl h2), h3, h4⟩
        · have := Nat.eq_of_beq_eq_true h
          exact .inr ⟨i, hi, (hdone i).2 (.inr rfl), by omega, by omega⟩
    obtain ⟨hR2, hv⟩ := hR.newAt hfree hlt h2 (abnmd_mono lvmono hn)
    unfold Oper.wp
    rw [h1]
    have hb : LesB (look AB.dead (S (i + 1)).heap (S i).nx) b := by
      have := heq.heap (S i).nx
      rw [put_heap'] at this
      have e1 : look AB.dead ((S i).hnew b).heap (S i).nx = b := look_self _ _ _ _
      rw [e1] at this
      exact this
    refine ⟨_, ((S i).nx, b) :: hpp, G.at (S i).nx v (lnB b) (szB b), ?_, J1 (refB b (S i).nx) (putSelf _ _ rfl), J2 _, fun id hid => ?_⟩
    · rw [hlv']
      refine hR2.put (h 0).dst hv ?_
      cases b with
      | dead => rfl
      | box cs e => simp [refB, AV.nmd]
      | row sz rows e => simp [refB, AV.nmd]
    · rw [hlv'] at hid
      by_cases e : (S i).nx = id
      · subst e
        refine ⟨i + 1, by omega, by omega, by rw [look_cons, if_pos rfl]; exact hb, fun j hj hlt2 => ?_, fun j hj hge2 => ?_, .inr ⟨i, rfl, (hdone i).2 (.inr rfl), .inr (Nat.le_refl _)⟩⟩
        · have := (newW_at hN hj).1; omega
        · rw [upd_ne (by omega)]
          cases hdj : d j with
          | false => rfl
          | true =>
            have := (reachT hT (newW_at hN hj).2).done' hcl hdj
            rw [hd0] at this
            cases this
      · rw [Bool.or_eq_true] at hid
        obtain ⟨p, p1, p2, p3, p4, p5, p6⟩ := keep id (noW_at hW id) (hid.resolve_right fun h => e (Nat.eq_of_beq_eq_true h).symm)
        exact ⟨p, p1, p2, by rw [look_cons, if_neg e]; exact p3, p4, p5, p6⟩
  | @write id b x L hLL hw hv hm hu h hb hn =>
    rw [if_pos (hwant hw)]
    have hnx : (S (i + 1)).nx = (S i).nx := by rw [heq.nx, put_nx]; rfl
    have hv1 : vis T (S 0).nx i (C i) id = true := by unfold visW at hv; rw [Bool.and_eq_true] at hv; exact hv.1
    have hv2 : okW T W i id = true := by unfold visW at hv; rw [Bool.and_eq_true] at hv; exact hv.2
    -- the blocks that the operation looks at, as the text has them
    let hp2 : List (Nat × AB) := L.map (fun j => (j, look .dead (S i).heap j)) ++ hpp
    have hlk : ∀ j, (j ∈ L ∧ look AB.dead hp2 j = look .dead (S i).heap j) ∨ (look AB.dead hp2 j = look .dead hpp j) := by
      intro j
      show (_ ∧ look AB.dead (L.map (fun j => (j, look .dead (S i).heap j)) ++ hpp) j = _) ∨ look AB.dead (L.map (fun j => (j, look .dead (S i).heap j)) ++ hpp) j = _
      rw [look_append]
      clear hLL h
      induction L with
      | nil => exact .inr rfl
      | cons c L ih =>
        rw [List.map_cons, look_cons]
        by_cases e : c = j
        · subst e; rw [if_pos rfl]; exact .inl ⟨by simp, rfl⟩
        · rw [if_neg e]
          exact ih.imp (fun ⟨g1, g2⟩ => ⟨List.mem_cons_of_mem _ g1, g2⟩) (fun g => g)
    have hlkL : ∀ j ∈ L, look AB.dead hp2 j = look .dead (S i).heap j := by
      intro j hj
      show look AB.dead (L.map (fun j => (j, look .dead (S i).heap j)) ++ hpp) j = _
      rw [look_append]
      clear hLL h hlk
      induction L with
      | nil => cases hj
      | cons c L ih =>
        rw [List.map_cons, look_cons]
        by_cases e : c = j
        · subst e; rw [if_pos rfl]
        · rw [if_neg e]
          exact ih ((List.mem_cons.1 hj).resolve_left fun e' => e e'.symm)
    have hRP : RelP K n R hp2 (S m).nx (lvD S m (S 0).nx d) a w G := by
      refine RelP.lesH hR (fun j => ?_) (fun j => ?_) (fun j hj => ?_)
      · rcases hlk j with ⟨g1, g2⟩ | g2
        · rw [g2]; exact hcont j (hLL j g1).1
        · rw [g2]; exact .refl _
      · rcases hlk j with ⟨g1, g2⟩ | g2
        · rw [g2]; exact abnmd_mono lvmono (hLL j g1).2
        · rw [g2]; exact hR.bnm j
      · rcases hlk j with ⟨g1, g2⟩ | g2
        · have := (hLL j g1).1
          unfold visW at this
          rw [Bool.and_eq_true] at this
          rw [lvmono j this.1] at hj
          cases hj
        · rw [g2]; exact (hR.free j hj).1
    have hRG : RelG ⟨K.w0, w, G⟩ n ⟨lregs l.toArray (S i) o, hp2, (S m).nx⟩ a w G := by
      have r := RelP.rel' hRP (st := ⟨lregs l.toArray (S i) o, hp2, (S m).nx⟩) hregs (fun _ => .refl _) rfl
      exact ⟨r.nx, r.hr, Ext.refl _ _, r.size, r.defers, r.regs⟩
    have hop' := h hp2 (S m).nx hlkL
    obtain ⟨v, w', G', h1, h2, h3, h4, h5, h6⟩ := hop'.out _ a w G hRG
    have hxm : x.nmd (lvD S m (S 0).nx d) = true := nmd_mono lvmono _ hn
    have hbm : b.nmd (lvD S m (S 0).nx d) = true := abnmd_mono lvmono hb
    have hRP2 : RelP K n (updR R o.dst x) ((id, b) :: hpp) (S m).nx (lvD S m (S 0).nx d) (a.put o.dst v) w' G' := by
      have hHR : HR K.w0 w' G' ((id, b) :: hpp) := by
        refine ⟨h2.bs, h2.below, h2.ownlt, fun j => ?_, h2.dist, h2.ownhas⟩
        rw [look_cons]
        split
        · rename_i e
          subst e
          have := h2.blk id
          rw [look_self] at this
          exact this
        · rename_i e
          obtain ⟨g1, g2, g3⟩ := h5 j (Ne.symm e)
          exact (hR.hr.blk j).step h3 fun hj => ⟨g1, g2, g3 hj⟩
      have base : RelP K n R ((id, b) :: hpp) (S m).nx (lvD S m (S 0).nx d) a w' G' := by
        refine ⟨h4.trans hR.nx, hHR, hR.ext.trans h3, hR.size, hR.defers, fun t => (hR.regs t).ext h3, hR.rnm, fun j => ?_, fun j hj => ?_, hR.old⟩
        · rw [look_cons]
          split
          · exact hbm
          · exact hR.bnm j
        · have hne : id ≠ j := fun e => by subst e; rw [lvmono _ hv1] at hj; cases hj
          rw [look_cons, if_neg hne]
          obtain ⟨g1, g2⟩ := hR.free j hj
          exact ⟨g1, fun hlt => by rw [(h5 j (Ne.symm hne)).1]; exact g2 hlt⟩
      exact base.put hop'.dst h6 hxm
    have fin : InvG K n l W S m (S 0).nx (upd d i) (a.put o.dst v) w' := by
      refine ⟨_, (id, b) :: hpp, G', by rw [lvSame hnx]; exact hRP2, J1 x (putSelf _ x rfl), J2 x, fun id' hid' => ?_⟩
      rw [lvSame hnx] at hid'
      by_cases e : id = id'
      · subst e
        refine ⟨i + 1, by omega, by have := (hvis id hv1).2; omega, ?_, fun j hj hlt2 => ?_, fun j hj hge2 => ?_, .inr ⟨i, rfl, (hdone i).2 (.inr rfl), .inl hm⟩⟩
        · rw [look_cons, if_pos rfl]
          have := heq.heap id
          rw [put_heap'] at this
          have e1 : look AB.dead ((S i).hset id b).heap id = b := look_self _ _ _ _
          rw [e1] at this
          exact this
        · rcases Nat.lt_or_ge j i with g | g
          · exact (hdone j).2 (.inl ((reachT hT ((okW_at hv2 hj).1 g)).done hcl ho hdep))
          · exact (hdone j).2 (.inr (by omega))
        · rw [upd_ne (by omega)]
          cases hdj : d j with
          | false => rfl
          | true =>
            have := (reachT hT ((okW_at hv2 hj).2 (by omega))).done' hcl hdj
            rw [hd0] at this
            cases this
      · obtain ⟨p, p1, p2, p3, p4, p5, p6⟩ := keep id' (fun hj => e (onlyW_at hu hj).symm) hid'
        exact ⟨p, p1, p2, by rw [look_cons, if_neg e]; exact p3, p4, p5, p6⟩
    unfold Oper.wp
    rcases h1 with h1 | ⟨h1, hvu⟩
    · rw [h1]; exact fin
    · subst hvu; rw [h1]; exact fin
  | @op st2 L hp0 hw h hd hn hN hv hs ht hr hx hW hu hM =>
    rw [if_pos (hwant hw)]
    have hnx : (S (i + 1)).nx = st2.nx := by rw [heq.nx, put_nx]
    have hge : (S 0).nx ≤ (S i).nx := nxM i (by omega) 0 (Nat.zero_le _)
    have hvis1 : ∀ id ∈ L, vis T (S 0).nx i (C i) id = true := fun id hid => by
      have := (hv id hid).2
      unfold visW at this
      rw [Bool.and_eq_true] at this
      exact this.1
    have hlvL : ∀ id, hasN L id = true → lvD S m (S 0).nx d id = true := fun id hid => lvmono id (hvis1 id (hasN_mem hid))
    have hdis : ∀ id, lvD S m (S 0).nx d id = true → newN (S i).nx st2.nx id = false := fun id hlv => by
      rw [Bool.eq_false_iff]
      intro hnw
      have hnw := newN_iff.1 hnw
      rcases lvD_iff.1 hlv with h | ⟨j, g1, g2, g3, g4⟩
      · omega
      · rcases Nat.lt_trichotomy j i with hlt | e | hlt
        · have := nxM i (by omega) (j + 1) (by omega); omega
        · subst e; rw [hd0] at g2; cases g2
        · have := nxM j (by omega) (i + 1) (by omega); omega
    have hlv' : ∀ id, lvD S m (S 0).nx (upd d i) id = true ↔ lvD S m (S 0).nx d id = true ∨ newN (S i).nx st2.nx id = true := fun id => by
      rw [lvD_iff, lvD_iff, newN_iff]
      constructor
      · rintro (h | ⟨j, h1, h2, h3, h4⟩)
        · exact .inl (.inl h)
        · rcases (hdone j).1 h2 with h2 | h2
          · exact .inl (.inr ⟨j, h1, h2, h3, h4⟩)
          · subst h2; right; omega
      · rintro ((h | ⟨j, h1, h2, h3, h4⟩) | h)
        · exact .inl h
        · exact .inr ⟨j, h1, (hdone j).2 (.inl h2), h3, h4⟩
        · exact .inr ⟨i, hi, (hdone i).2 (.inr rfl), by omega, by omega⟩
    have lvUp : ∀ id, lvD S m (S 0).nx d id = true → lvD S m (S 0).nx (upd d i) id = true := fun id h => (hlv' id).2 (.inl h)
    have hqL : ∀ id, orN (hasN L) (S i).nx st2.nx id = true → lvD S m (S 0).nx (upd d i) id = true := fun id hid => by
      rcases orN_iff.1 hid with h | h
      · exact lvUp id (hlvL id h)
      · exact (hlv' id).2 (.inr (newN_iff.2 h))
    have hRP : RelP K n R (onL L (look .dead hp0) hpp) (S m).nx (lvD S m (S 0).nx d) a w G := by
      refine RelP.lesH hR (fun j => ?_) (fun j => ?_) (fun j hj => ?_)
      · by_cases e : j ∈ L
        · rw [onL_in e]
          rcases hs j with h' | ⟨_, h', _⟩
          · rw [h']; exact .dead _
          · rw [h']; exact hcont j (hv j e).2
        · rw [onL_out e]; exact .refl _
      · by_cases e : j ∈ L
        · rw [onL_in e]
          rcases hs j with h' | ⟨_, _, h'⟩
          · rw [h']; rfl
          · exact abnmd_mono hlvL h'
        · rw [onL_out e]; exact hR.bnm j
      · by_cases e : j ∈ L
        · rw [lvmono j (hvis1 j e)] at hj; cases hj
        · rw [onL_out e]; exact (hR.free j hj).1
    have hmi : st2.nx ≤ (S m).nx := by rw [← hnx]; exact nxM m (Nat.le_refl _) (i + 1) (by omega)
    refine OpY.run (Hp := onL L (look .dead hp0) hpp) (p := hasN L) (k2 := st2.nx) h hd (fun id hid => (hv id (hasN_mem hid)).1) rfl (fun id => ?_) (fun id => ?_) hr hx hRP.hr (by rw [hR.nx]; exact hmi) hR.size hR.defers (fun t => (hregs t).rel (hR.regs t)) (fun v w' G' ho hvv => ?_)
    · rcases hs id with h' | ⟨h1, h2, h3⟩
      · exact .inl h'
      · exact .inr ⟨hasN_of' h1, by rw [onL_in h1], h3⟩
    · exact ht id
    have memLL : ∀ j, j ∈ L ++ news (S i).nx st2.nx ↔ orN (hasN L) (S i).nx st2.nx j = true := fun j => by
      rw [List.mem_append, orN_iff, news_mem]
      constructor
      · rintro (h | h)
        · exact .inl (hasN_of' h)
        · exact .inr h
      · rintro (h | h)
        · exact .inl (hasN_mem h)
        · exact .inr h
    have hno : ∀ j, j ∉ L ++ news (S i).nx st2.nx → orN (hasN L) (S i).nx st2.nx j = false := fun j hj => by
      rw [Bool.eq_false_iff]
      intro h'
      exact hj ((memLL j).2 h')
    have hmv : Mv (lvD S m (S 0).nx d) w G w (patch G G' (newN (S i).nx st2.nx)) := patch_mv hdis
    have hextP : Ext K.w1 K.G1 w (patch G G' (newN (S i).nx st2.nx)) := by
      refine ⟨hR.ext.size, hR.ext.keep, hR.ext.own2, hR.ext.nx, hR.ext.bs, fun id hid => ?_⟩
      have hn' : ¬ (newN (S i).nx st2.nx id = true) := by rw [hdis id (hR.old id hid)]; decide
      have e1 : (patch G G' (newN (S i).nx st2.nx)).ρ id = G.ρ id := if_neg hn'
      have e2 : (patch G G' (newN (S i).nx st2.nx)).ln id = G.ln id := if_neg hn'
      have e3 : (patch G G' (newN (S i).nx st2.nx)).sz id = G.sz id := if_neg hn'
      rw [e1, e2, e3]
      exact hR.ext.gh id hid
    have hRP2 : RelP K n (updR R o.dst (dstV st2 o.dst)) (onL (L ++ news (S i).nx st2.nx) (look .dead st2.heap) hpp) (S m).nx (lvD S m (S 0).nx (upd d i)) (a.put o.dst v) w' G' := by
      have hHR : HR K.w0 w' G' (onL (L ++ news (S i).nx st2.nx) (look .dead st2.heap) hpp) := by
        refine ⟨ho.hr.bs, ho.hr.below, ho.hr.ownlt, fun j => ?_, ho.hr.dist, ho.hr.ownhas⟩
        by_cases e : j ∈ L ++ news (S i).nx st2.nx
        · rw [onL_in e]; exact ho.hr.blk j
        · rw [onL_out e]
          cases hlj : lvD S m (S 0).nx d j with
          | false => rw [(hR.free j hlj).1]; trivial
          | true =>
            obtain ⟨g1, g2, g3⟩ := ho.same j (hno j e)
            have hn' : ¬ (newN (S i).nx st2.nx j = true) := by rw [hdis j hlj]; decide
            have e1 : (patch G G' (newN (S i).nx st2.nx)).ρ j = G.ρ j := if_neg hn'
            have e2 : (patch G G' (newN (S i).nx st2.nx)).ln j = G.ln j := if_neg hn'
            exact ((hR.hr.blk j).mv hmv (hR.bnm j) (.inr hlj) (fun g _ => rfl)).step ho.ext fun hj => ⟨by rw [e1]; exact g1, by rw [e2]; exact g2, by rw [e1]; exact g3 hj⟩
      have base : RelP K n R (onL (L ++ news (S i).nx st2.nx) (look .dead st2.heap) hpp) (S m).nx (lvD S m (S 0).nx (upd d i)) a w' G' := by
        refine ⟨ho.nx.trans hR.nx, hHR, hextP.trans ho.ext, hR.size, hR.defers, fun t => ((hR.regs t).mv hmv (hR.rnm t)).ext ho.ext, fun t => nmd_mono lvUp _ (hR.rnm t), fun j => ?_, fun j hj => ?_, fun j hj => lvUp j (hR.old j hj)⟩
        · by_cases e : j ∈ L ++ news (S i).nx st2.nx
          · rw [onL_in e]
            rcases ht j with h' | ⟨_, h'⟩
            · rw [h']; rfl
            · exact abnmd_mono hqL (pfB_nmd h')
          · rw [onL_out e]; exact abnmd_mono lvUp (hR.bnm j)
        · have e : j ∉ L ++ news (S i).nx st2.nx := fun e => by rw [hqL j ((memLL j).1 e)] at hj; cases hj
          have hj' : lvD S m (S 0).nx d j = false := by
            rw [Bool.eq_false_iff]
            intro h'
            rw [lvUp j h'] at hj; cases hj
          rw [onL_out e]
          obtain ⟨g1, g2⟩ := hR.free j hj'
          exact ⟨g1, fun hlt => by rw [(ho.same j (hno j e)).1]; exact g2 hlt⟩
      exact base.put hd hvv (nmd_mono hqL _ (pf_nmd _ hx))
    refine ⟨_, onL (L ++ news (S i).nx st2.nx) (look .dead st2.heap) hpp, G', hRP2, J1 (dstV st2 o.dst) (putSelf _ _ rfl), J2 _, fun id' hid' => ?_⟩
    have hheap : ∀ id', id' ∈ L ++ news (S i).nx st2.nx → LesB (look AB.dead (S (i + 1)).heap id') (look .dead (onL (L ++ news (S i).nx st2.nx) (look .dead st2.heap) hpp) id') := fun id' e => by
      rw [onL_in e]
      have := heq.heap id'
      rw [put_heap'] at this
      have e1 : look AB.dead (onL (L ++ news (S i).nx st2.nx) (look .dead st2.heap) (S i).heap) id' = look .dead st2.heap id' := onL_in e
      exact e1 ▸ this
    by_cases hw' : (i, id') ∈ W
    · have e := hW id' hw'
      have hv2 : okW T W i id' = true := by
        have := (hv id' e).2
        unfold visW at this; rw [Bool.and_eq_true] at this; exact this.2
      refine ⟨i + 1, by omega, by have := (hv id' e).1; omega, hheap id' (List.mem_append.2 (.inl e)), fun j hj hlt2 => ?_, fun j hj hge2 => ?_, .inr ⟨i, rfl, (hdone i).2 (.inr rfl), .inl hw'⟩⟩
      · rcases Nat.lt_or_ge j i with g | g
        · exact (hdone j).2 (.inl ((reachT hT ((okW_at hv2 hj).1 g)).done hcl ho0 hdep))
        · exact (hdone j).2 (.inr (by omega))
      · rw [upd_ne (by omega)]
        cases hdj : d j with
        | false => rfl
        | true =>
          have := (reachT hT ((okW_at hv2 hj).2 (by omega))).done' hcl hdj
          rw [hd0] at this
          cases this
    · rcases (hlv' id').1 hid' with hid2 | hnw
      · obtain ⟨p, p1, p2, p3, p4, p5, p6⟩ := I3 id' hid2
        obtain ⟨p', q1, q2, q3, q4, q5, q6⟩ := keep id' hw' hid2
        by_cases e : id' ∈ L
        · refine ⟨p, p1, p2, ?_, fun j hj hlt => ?_, fun j hj hge => ?_, p6.imp (fun h => h) fun ⟨q, e, hq, hw⟩ => ⟨q, e, by simp [upd, hq], hw⟩⟩
          · rw [onL_in (List.mem_append.2 (.inl e)), (hu id' e).resolve_left hw', hver id' (hv id' e).2 p p1 p2 p5 p6]
            exact .refl _
          · rw [upd_ne (fun e => hw' (by rw [← e]; exact hj))]; exact p4 j hj hlt
          · rw [upd_ne (fun e => hw' (by rw [← e]; exact hj))]; exact p5 j hj hge
        · have e2 : id' ∉ L ++ news (S i).nx st2.nx := fun h' => by
            rcases List.mem_append.1 h' with h' | h'
            · exact e h'
            · have := hdis id' hid2
              rw [newN_iff.2 (news_mem.1 h')] at this
              cases this
          exact ⟨p', q1, q2, by rw [onL_out e2]; exact q3, q4, q5, q6⟩
      · have hnw2 := newN_iff.1 hnw
        have hNi := hN id' hnw2.1 hnw2.2
        refine ⟨i + 1, by omega, by omega, hheap id' (List.mem_append.2 (.inr (news_mem.2 hnw2))), fun j hj hlt2 => ?_, fun j hj hge2 => ?_, .inr ⟨i, rfl, (hdone i).2 (.inr rfl), .inr hnw2.1⟩⟩
        · have := (newW_at hNi hj).1; omega
        · rw [upd_ne (by omega)]
          cases hdj : d j with
          | false => rfl
          | true =>
            have := (reachT hT (newW_at hNi hj).2).done' hcl hdj
            rw [hd0] at this
            cases this
theorem AG.last (hp : ∀ i o, l[i]? = some o → PlanR l n i o) (hml : m ≤ l.length)
    (hC0 : C 0 = []) (hL : ∀ j o, j < m → l[j]? = some o → ∃ s', Loc P n l.toArray T W M (S 0).nx j (C j) o (S j) s' (C (j + 1)) ∧ LeS (S (j + 1)) s') (hdead : ∀ id, (S 0).nx ≤ id → look .dead (S 0).heap id = .dead)
    {K : Kn} {d : Nat → Bool} {a : Act} {w : World} (hall : ∀ i, i < m → d i = true) (h : InvG K n l W S m (S 0).nx d a w) : ∃ G, RelG K n (S m) a w G := by
  obtain ⟨R, hpp, G, hR, I1, I2, I3⟩ := h
  have hop : ∀ j, j < m → ∃ o, l[j]? = some o := fun j hj => ⟨l[j], List.getElem?_eq_getElem (by omega)⟩
  have regM : ∀ t q, q ≤ m → ∀ p, p ≤ q → (∀ j o, p ≤ j → j < q → l[j]? = some o → o.dst ≠ some t) → Les (look AV.any (S q).regs t) (look .any (S p).regs t) := by
    intro t q
    induction q with
    | zero => intro _ p hp _; obtain rfl : p = 0 := (by omega); exact .refl _
    | succ q ih =>
      intro hq p hp hno
      rcases Nat.lt_or_ge p (q + 1) with h | h
      · obtain ⟨o, ho⟩ := hop q (by omega)
        obtain ⟨s', h1, h2⟩ := hL q o (by omega) ho
        have e1 := h2.regs t
        rw [h1.regs (hno q o (by omega) (by omega) ho)] at e1
        exact e1.trans (ih (by omega) p (by omega) fun j o hj1 hj2 => hno j o hj1 (by omega))
      · obtain rfl : p = q + 1 := by omega
        exact .refl _
  have heapM : ∀ id q, q ≤ m → ∀ p, p ≤ q → (∀ j, p ≤ j → j < q → (id < (S j).nx ∨ (S (j + 1)).nx ≤ id) ∧ (j, id) ∉ W) → LesB (look AB.dead (S q).heap id) (look .dead (S p).heap id) := by
    intro id q
    induction q with
    | zero => intro _ p hp _; obtain rfl : p = 0 := (by omega); exact .refl _
    | succ q ih =>
      intro hq p hp hno
      rcases Nat.lt_or_ge p (q + 1) with h | h
      · obtain ⟨o, ho⟩ := hop q (by omega)
        obtain ⟨s', h1, h2⟩ := hL q o (by omega) ho
        obtain ⟨g1, g2⟩ := hno q (by omega) (by omega)
        refine (h2.heap id).trans ?_
        have e1 : look AB.dead s'.heap id = look .dead (S q).heap id := h1.heap (by rw [← h2.nx]; exact g1) g2
        rw [e1]
        exact ih (by omega) p (by omega) fun j j1 j2 => hno j j1 (by omega)
      · obtain rfl : p = q + 1 := by omega
        exact .refl _
  have nxM : ∀ q, q ≤ m → ∀ p, p ≤ q → (S p).nx ≤ (S q).nx := by
    intro q
    induction q with
    | zero => intro _ p hp; obtain rfl : p = 0 := (by omega); exact Nat.le_refl _
    | succ q ih =>
      intro hq p hp
      rcases Nat.lt_or_ge p (q + 1) with h | h
      · obtain ⟨o, ho⟩ := hop q (by omega)
        obtain ⟨s', h1, h2⟩ := hL q o (by omega) ho
        have := h1.nx_le
        have := h2.nx
        have := ih (by omega) p (by omega)
        omega
      · obtain rfl : p = q + 1 := by omega
        exact Nat.le_refl _
  have crM : ∀ q, q ≤ m → ∀ c ∈ C q, c.1 < q ∧ (S c.1).nx ≤ c.2 ∧ c.2 < (S (c.1 + 1)).nx := by
    intro q
    induction q with
    | zero => intro _ c hc; rw [hC0] at hc; cases hc
    | succ q ih =>
      intro hq c hc
      obtain ⟨o, ho⟩ := hop q (by omega)
      obtain ⟨s', h1, h2⟩ := hL q o (by omega) ho
      rcases h1.crm c hc with h | ⟨h, h', h''⟩
      · obtain ⟨g1, g2⟩ := ih (by omega) c h
        exact ⟨by omega, g2⟩
      · rw [h]
        exact ⟨by omega, h', by rw [h2.nx]; exact h''⟩
  refine ⟨G, RelP.rel' hR (fun t => ?_) (fun id => ?_) rfl⟩
  · by_cases hw : ∃ (j : Nat) (o' : Oper), j < m ∧ l[j]? = some o' ∧ o'.dst = some t
    · obtain ⟨j, o', hj, ho', hdst⟩ := hw
      exact (regM t m (Nat.le_refl _) (j + 1) (by omega) fun j2 o2 h1 h2 ho2 => (hp j2 o2 ho2).one j o' t ho' hdst (by omega)).trans (I1 j o' t hj ho' (hall j hj) hdst)
    · exact (regM t m (Nat.le_refl _) 0 (Nat.zero_le _) fun j o' _ hj ho' hdst => hw ⟨j, o', hj, ho', hdst⟩).trans (I2 t fun j o' hj ho' _ hdst => hw ⟨j, o', hj, ho', hdst⟩)
  · cases hlv : lvD S m (S 0).nx d id with
    | true =>
      obtain ⟨p, p1, p2, p3, p4, p5, _⟩ := I3 id hlv
      exact (heapM id m (Nat.le_refl _) p p1 fun j j1 j2 => ⟨.inl (by have := nxM j (by omega) p j1; omega), fun hj => by have := p5 j hj j1; rw [hall j j2] at this; cases this⟩).trans p3
    | false =>
      have hno : ¬ (id < (S 0).nx ∨ ∃ j, j < m ∧ d j = true ∧ (S j).nx ≤ id ∧ id < (S (j + 1)).nx) := fun h => by rw [lvD_iff.2 h] at hlv; cases hlv
      have hnl : ∀ j, j < m → (S j).nx ≤ id → id < (S (j + 1)).nx → False := fun j hj e h => hno (.inr ⟨j, hj, hall j hj, e, h⟩)
      have hdd : look AB.dead (S 0).heap id = .dead := hdead id (by omega)
      have hz : ∀ q, q ≤ m → LesB (look AB.dead (S q).heap id) .dead := by
        intro q
        induction q with
        | zero => intro _; rw [hdd]; exact .refl _
        | succ q ih =>
          intro hq
          obtain ⟨o, ho⟩ := hop q (by omega)
          obtain ⟨s', h1, h2⟩ := hL q o (by omega) ho
          refine (h2.heap id).trans ?_
          rcases h1.heap2 id with g | ⟨g1, g2⟩ | g
          · rw [g]; exact ih (by omega)
          · exact (hnl q (by omega) g1 (by rw [h2.nx]; exact g2)).elim
          · unfold vis at g
            rw [Bool.or_eq_true, List.any_eq_true] at g
            rcases g with g | ⟨c, hc, g⟩
            · exact absurd (.inl (by simpa using g)) hno
            · rw [Bool.and_eq_true] at g
              obtain ⟨c1, c2, c3⟩ := crM q (by omega) c hc
              have e := Nat.eq_of_beq_eq_true g.1
              exact (hnl c.1 (by omega) (by rw [← e]; exact c2) (by rw [← e]; exact c3)).elim
      exact (hz m (Nat.le_refl _)).trans (.dead _)
end
/-- a region that draws: its operations in any order, and what lies wholly behind them -/
theorem AW.drawR {P : Program} {n : Nat} {Q : Exit → ASt → Prop} {st : ASt} {id : Nat} {l : List Oper} {T : List (List Nat)} (W : List (Nat × Nat)) (M : List (Nat × AB)) (m : Nat) (hm : P.follows .mixedOrders = true) (hT : ancs l [] = T) (hk : planR l T = true) (htl : tailR l T m = true) (hM0 : ∀ id, st.nx ≤ id → look .dead M id = .dead) (hM1 : ∀ id, LesB (look .dead M id) (look .dead st.heap id))
    (h : AG P n l.toArray T W M st.nx (fun s => AL P n l.toArray Q (l.drop m) s) 0 [] (l.take m) st) : AW P n (.region id l.toArray true) Q st := .mk fun K a w ⟨G, r⟩ => by
  have hT' : AncOk l T := by
    rw [← hT]
    exact ancs_ok l [] (fun i A hA => by simp at hA) rfl
  have hpl := planR_at n hT' hk
  obtain ⟨S, C, e0', hC0, hK, hS⟩ := h.facts
  have e0 := eqv_les e0'
  have hm' : (l.take m).length = min m l.length := by simp
  have r2 : RelG K n (S 0) a w.drew G := (r.same (below_drew' w)).les e0
  have hE : ∀ j o, j < (l.take m).length → l[j]? = some o → ∃ s', Loc P n l.toArray T W M (S 0).nx j (C j) o (S j) s' (C (j + 1)) ∧ Eqv s' (S (j + 1)) := by
    intro j o hj ho
    have := hS j o (by rw [List.getElem?_take, if_pos (by omega)]; exact ho)
    rw [Nat.zero_add, ← e0.nx] at this
    exact this
  have hL : ∀ j o, j < (l.take m).length → l[j]? = some o → ∃ s', Loc P n l.toArray T W M (S 0).nx j (C j) o (S j) s' (C (j + 1)) ∧ LeS (S (j + 1)) s' := fun j o hj ho => by
    obtain ⟨s', h1, h2⟩ := hE j o hj ho
    exact ⟨s', h1, eqv_les h2⟩
  have hM0' : ∀ id, (S 0).nx ≤ id → look .dead M id = .dead := fun id hid => hM0 id (by rw [← e0.nx]; exact hid)
  have hM1' : ∀ id, LesB (look .dead M id) (look .dead (S 0).heap id) := fun id => by rw [← e0'.heap id]; exact hM1 id
  have hdead : ∀ id, (S 0).nx ≤ id → look .dead (S 0).heap id = .dead := by
    intro id hid
    have hkk := r2.hr.blk id
    have hn := r2.nx
    cases hb : look AB.dead (S 0).heap id with
    | dead => rfl
    | box cs e => rw [hb] at hkk; have := hkk.1; omega
    | row sz rows e => rw [hb] at hkk; have := hkk.1; omega
  have hnxM : (S 0).nx ≤ (S (l.take m).length).nx := by
    have : ∀ q, q ≤ (l.take m).length → (S 0).nx ≤ (S q).nx := by
      intro q
      induction q with
      | zero => intro _; exact Nat.le_refl _
      | succ q ih =>
        intro hq
        have hql : q < l.length := by omega
        obtain ⟨s', g1, g2⟩ := hL q l[q] (by omega) (List.getElem?_eq_getElem hql)
        have := g1.nx_le
        have := g2.nx
        have := ih (by omega)
        omega
    exact this _ (Nat.le_refl _)
  have hdr : l.drop (l.take m).length = l.drop m := by
    rw [hm']
    rcases Nat.lt_or_ge m l.length with h | h
    · rw [Nat.min_eq_left (by omega)]
    · rw [Nat.min_eq_right h, List.drop_length, List.drop_eq_nil_of_le h]
  refine wp_region_inv (Inv := InvG K n l W S (l.take m).length (S 0).nx) hm (fun i o ho => (hpl i o (by simpa using ho)).after) (l.take m).length (by omega) ?_ (fun i o d a w hi ho hd0 hcl hdep hI => AG.step' hpl hT' (by omega) hC0 hE hM0' hM1' hi ho hd0 hcl hdep hI) (fun d a w hall hI => ?_) (fun i hi hil j hj => ?_)
  · obtain ⟨G', hR⟩ := r2.reserve (Nat.le_trans r.ext.size (below_drew' w).size) (S (l.take m).length).nx hnxM
    have hlv : lvD S (l.take m).length (S 0).nx (fun _ => false) = fun id => Nat.blt id (S 0).nx := by
      funext id
      rw [Bool.eq_iff_iff, lvD_iff]
      constructor
      · rintro (h | ⟨j, _, h, _⟩)
        · simpa using h
        · cases h
      · intro h; exact .inl (by simpa using h)
    refine ⟨_, _, G', by rw [hlv]; exact hR, fun j o t _ _ h => absurd h (by simp), fun t _ => .refl _, fun id hid => ?_⟩
    rw [hlv] at hid
    have hid : id < (S 0).nx := by simpa using hid
    exact ⟨0, Nat.zero_le _, hid, .refl _, fun j _ h => absurd h (Nat.not_lt_zero _), fun _ _ _ => rfl, .inl rfl⟩
  · obtain ⟨G', hr⟩ := AG.last hpl (by omega) hC0 hL hdead hall hI
    rw [hdr]
    exact AL.out hK K a w ⟨G', hr⟩
  · have hge : m ≤ i := by rw [hm'] at hi; omega
    have := List.all_eq_true.1 htl i (List.mem_range.2 hil)
    rw [Bool.or_eq_true] at this
    rcases this with h | h
    · have h : i < m := by simpa using h
      omega
    · exact reachT hT' (List.all_eq_true.1 h j (List.mem_range.2 hj))
end Go.Proofs.Ytjhdjjoacedlpaa.Rn
/- A run of the abstract machine by one computed function, with regions that draw as RnR has them. No program in sight. -/
namespace Go.Proofs.Ytjhdjjoacedlpaa.Rn
open Go Go.RowKit Go.Proofs.Ytjhdjjoacedlpaa Go.Proofs.Ytjhdjjoacedlpaa.Dr

/-! ### Equal values, equal blocks -/
def strE (s t : ByteArray) : Bool := decide (s.data.toList = t.data.toList)
theorem strE_eq {s t : ByteArray} (h : strE s t = true) : s = t := by
  have := of_decide_eq_true h
  obtain ⟨⟨a⟩⟩ := s
  obtain ⟨⟨b⟩⟩ := t
  have this : a = b := this
  rw [this]
def avE : AV → AV → Bool
  | .any, .any => true
  | .und, .und => true
  | .int k n, .int k' n' => decide (k = k') && decide (n = n')
  | .bool b, .bool b' => b == b'
  | .str s, .str s' => strE s s'
  | .nilp, .nilp => true
  | .nils, .nils => true
  | .nilf, .nilf => true
  | .box i o, .box i' o' => Nat.beq i i' && Nat.beq o o'
  | .elt i n j o, .elt i' n' j' o' => Nat.beq i i' && Nat.beq n n' && Nat.beq j j' && Nat.beq o o'
  | .osl i n, .osl i' n' => Nat.beq i i' && Nat.beq n n'
  | .vsl i n l k, .vsl i' n' l' k' => Nat.beq i i' && Nat.beq n n' && Nat.beq l l' && Nat.beq k k'
  | .agg cs, .agg cs' => go cs cs'
  | .tup cs, .tup cs' => go cs cs'
  | .fn f cs, .fn f' cs' => Nat.beq f f' && go cs cs'
  | _, _ => false
where go : List AV → List AV → Bool
  | [], [] => true
  | a :: l, b :: m => avE a b && go l m
  | _, _ => false
theorem avE_eq : ∀ (a b : AV), avE a b = true → a = b
  | .any, b, h => by cases b <;> first | rfl | (simp [avE] at h)
  | .und, b, h => by cases b <;> first | rfl | (simp [avE] at h)
  | .nilp, b, h => by cases b <;> first | rfl | (simp [avE] at h)
  | .nils, b, h => by cases b <;> first | rfl | (simp [avE] at h)
  | .nilf, b, h => by cases b <;> first | rfl | (simp [avE] at h)
  | .int k n, b, h => by
    cases b <;> simp [avE] at h
    rw [h.1, h.2]
  | .bool k, b, h => by
    cases b <;> simp [avE] at h
    rw [h]
  | .str s, b, h => by
    cases b <;> simp [avE] at h
    rw [strE_eq h]
  | .box .., b, h => by
    cases b <;> simp [avE] at h
    rw [h.1, h.2]
  | .elt .., b, h => by
    cases b <;> simp [avE] at h
    obtain ⟨⟨⟨h1, h2⟩, h3⟩, h4⟩ := h
    rw [h1, h2, h3, h4]
  | .osl .., b, h => by
    cases b <;> simp [avE] at h
    rw [h.1, h.2]
  | .vsl .., b, h => by
    cases b <;> simp [avE] at h
    obtain ⟨⟨⟨h1, h2⟩, h3⟩, h4⟩ := h
    rw [h1, h2, h3, h4]
  | .agg cs, b, h => by
    cases b <;> simp [avE] at h
    rw [avE_go cs _ h]
  | .tup cs, b, h => by
    cases b <;> simp [avE] at h
    rw [avE_go cs _ h]
  | .fn f cs, b, h => by
    cases b <;> simp [avE] at h
    rw [h.1, avE_go cs _ h.2]
  | .peek .., b, h => by cases b <;> simp [avE] at h
  | .ro .., b, h => by cases b <;> simp [avE] at h
where avE_go : ∀ (l m : List AV), avE.go l m = true → l = m
  | [], [], _ => rfl
  | a :: l, b :: m, h => by
    rw [avE.go, Bool.and_eq_true] at h
    rw [avE_eq a b h.1, avE_go l m h.2]
  | [], _ :: _, h => by simp [avE.go] at h
  | _ :: _, [], h => by simp [avE.go] at h
def rowsE : List (List AV) → List (List AV) → Bool
  | [], [] => true
  | a :: l, b :: m => avE.go a b && rowsE l m
  | _, _ => false
theorem rowsE_eq : ∀ (l m : List (List AV)), rowsE l m = true → l = m
  | [], [], _ => rfl
  | a :: l, b :: m, h => by
    rw [rowsE, Bool.and_eq_true] at h
    rw [avE_eq.avE_go a b h.1, rowsE_eq l m h.2]
  | [], _ :: _, h => by simp [rowsE] at h
  | _ :: _, [], h => by simp [rowsE] at h
def abE : AB → AB → Bool
  | .dead, .dead => true
  | .box cs e, .box cs' e' => Nat.beq e e' && avE.go cs cs'
  | .row sz rows e, .row sz' rows' e' => Nat.beq e e' && Nat.beq sz sz' && rowsE rows rows'
  | _, _ => false
theorem abE_eq {a b : AB} (h : abE a b = true) : a = b := by
  cases a with
  | dead => cases b <;> first | rfl | (simp [abE] at h)
  | box cs e =>
    cases b <;> simp [abE] at h
    rw [h.1, avE_eq.avE_go _ _ h.2]
  | row sz rows e =>
    cases b <;> simp [abE] at h
    rw [h.1.1, h.1.2, rowsE_eq _ _ h.2]
/-! ### The blocks that an operation touches -/
def idsV : AV → List Nat
  | .box id _ | .elt id _ _ _ | .osl id _ | .vsl id _ _ _ => [id]
  | .agg cs | .tup cs | .fn _ cs => go cs
  | _ => []
where go : List AV → List Nat
  | [] => []
  | a :: l => idsV a ++ go l
def idsAB : AB → List Nat
  | .dead => []
  | .box cs _ => idsV.go cs
  | .row _ rows _ => rows.flatMap idsV.go
def clo (h : Nat → AB) : Nat → List Nat → List Nat → List Nat
  | 0, _, d => d
  | _ + 1, [], d => d
  | f + 1, x :: t, d => bif hasN d x then clo h f t d else clo h f (idsAB (h x) ++ t) (x :: d)
end Go.Proofs.Ytjhdjjoacedlpaa.Rn
/- More operations of the run: arrays as rows, comparisons with nil, the greatest of several. No program in sight. -/
namespace Go.Proofs.Ytjhdjjoacedlpaa.Rn
open Go Go.RowKit Go.Proofs.Ytjhdjjoacedlpaa Go.Proofs.Ytjhdjjoacedlpaa.Dr

section
variable {P : Program} {n : Nat} {T : Tab} {st st' : ASt} {d : Option Nat} {ty t t' : TypeId} {ps : String} {af : Array Edge} {g : Option (Nat × Bool)} {x y : Operand}
/-! ### nil -/
theorem eq_nils {t e : TypeId} (hT : P.underlying t = some (.slice e)) (w : World) : (Op.equal t (.slice none 0 0) (.slice none 0 0)).run P w = .ok true w := by
  unfold Op.equal
  rw [show Op.maxDepth = 9999 + 1 from rfl, Op.equalIn]
  simp [run_underlying hT]
theorem eq_someNil {t e : TypeId} {a : Addr} {m c : Nat} (hT : P.underlying t = some (.slice e)) (w : World) : (Op.equal t (.slice (some a) m c) (.slice none 0 0)).run P w = .ok false w := by
  unfold Op.equal
  rw [show Op.maxDepth = 9999 + 1 from rfl, Op.equalIn]
  simp [run_underlying hT]
theorem op_nilEq {neq : Bool} {e : TypeId} (hx : st.ev x = .nils) (hy : st.ev y = .nils) (hT : P.underlying t = some (.slice e)) (hd : dok d n = true) :
    OpR P n ⟨d, .binOp (bif neq then .neq else .eql) t x y t', ty, ps, af, g⟩ st (.bool (!neq)) := .mk hd fun K a w G rr => by
  have e1 := rr.ev x
  rw [hx] at e1
  have e1 := e1.nils'
  have e2 := rr.ev y
  rw [hy] at e2
  have e2 := e2.nils'
  refine ⟨.bool (!neq), fun w' _ => ?_, .dat (.bool _)⟩
  cases neq <;> simp [execOp, e1, e2, binOp, eqGuard, eq_nils hT w']
theorem op_oslNil {neq : Bool} {e : TypeId} {id m sz : Nat} {rows : List (List AV)} {e' : TypeId} (hx : st.ev x = .osl id m) (hb : look .dead st.heap id = .row sz rows e') (hm : m = rows.length) (h0 : 0 < m) (hy : st.ev y = .nils) (hT : P.underlying t = some (.slice e)) (hd : dok d n = true) :
    OpR P n ⟨d, .binOp (bif neq then .neq else .eql) t x y t', ty, ps, af, g⟩ st (.bool neq) := .mk hd fun K a w G rr => by
  have e1 := rr.ev x
  rw [hx] at e1
  obtain ⟨gg, c, flat, q1, q2, q3, q4, q5, q6, q7, q8⟩ := rr.rowAt hb hm h0
  have e2 := rr.ev y
  rw [hy] at e2
  have e2 := e2.nils'
  refine ⟨.bool neq, fun w' _ => ?_, .dat (.bool _)⟩
  generalize he : a.eval x = v at e1
  cases e1 with
  | dat h => cases h
  | osl _ _ _ hid hs hn hv hr =>
    have e3 := hr (by rw [q5, hm])
    rw [q1] at e3
    subst e3
    cases neq <;> simp [execOp, he, e2, binOp, eqGuard, eq_someNil hT w']
theorem eq_ptrs {t e : TypeId} (hT : P.underlying t = some (.pointer e)) (w : World) : (Op.equal t (.pointer none) (.pointer none)).run P w = .ok true w := by
  unfold Op.equal
  rw [show Op.maxDepth = 9999 + 1 from rfl, Op.equalIn]
  simp [run_underlying hT]
theorem eq_somePtr {t e : TypeId} {a : Addr} (hT : P.underlying t = some (.pointer e)) (w : World) : (Op.equal t (.pointer (some a)) (.pointer none)).run P w = .ok false w := by
  unfold Op.equal
  rw [show Op.maxDepth = 9999 + 1 from rfl, Op.equalIn]
  simp [run_underlying hT]
theorem op_nilpEq {neq : Bool} {e : TypeId} (hx : st.ev x = .nilp) (hy : st.ev y = .nilp) (hT : P.underlying t = some (.pointer e)) (hd : dok d n = true) :
    OpR P n ⟨d, .binOp (bif neq then .neq else .eql) t x y t', ty, ps, af, g⟩ st (.bool (!neq)) := .mk hd fun K a w G rr => by
  have e1 := rr.ev x
  rw [hx] at e1
  have e2 := rr.ev y
  rw [hy] at e2
  refine ⟨.bool (!neq), fun w' _ => ?_, .dat (.bool _)⟩
  generalize he1 : a.eval x = v1 at e1
  generalize he2 : a.eval y = v2 at e2
  cases e1 with
  | dat h1 =>
    cases h1
    cases e2 with
    | dat h2 =>
      cases h2
      cases neq <;> simp [execOp, he1, he2, binOp, eqGuard, eq_ptrs hT w']
theorem op_boxNil {neq : Bool} {e : TypeId} {id off : Nat} (hx : st.ev x = .box id off) (hy : st.ev y = .nilp) (hT : P.underlying t = some (.pointer e)) (hd : dok d n = true) :
    OpR P n ⟨d, .binOp (bif neq then .neq else .eql) t x y t', ty, ps, af, g⟩ st (.bool neq) := .mk hd fun K a w G rr => by
  have e1 := rr.ev x
  rw [hx] at e1
  have e2 := rr.ev y
  rw [hy] at e2
  refine ⟨.bool neq, fun w' _ => ?_, .dat (.bool _)⟩
  generalize he1 : a.eval x = v1 at e1
  generalize he2 : a.eval y = v2 at e2
  cases e2 with
  | dat h2 =>
    cases h2
    cases e1 with
    | dat h => cases h
    | box _ _ g hid hs hr =>
      cases neq <;> simp [execOp, he1, he2, binOp, eqGuard, eq_somePtr hT w']
/-! ### the greatest, the least of several -/
theorem foldMax (k : IntKind) (w : World) : ∀ (ns : List Int) (m : Int), ((ns.map fun q => Value.int k q).foldlM Builtin.max2 (.int k m)).run P w = .ok (.int k (ns.foldl max m)) w
  | [], m => by simp
  | q :: ns, m => by
    have h : (Builtin.max2 (.int k m) (.int k q)).run P w = .ok (.int k (max m q)) w := by
      have : (if m < q then q else m) = max m q := by split <;> omega
      simp [Builtin.max2, this]
    rw [List.map_cons, List.foldlM_cons, List.foldl_cons]
    simp [h, foldMax k w ns]
theorem foldMin (k : IntKind) (w : World) : ∀ (ns : List Int) (m : Int), ((ns.map fun q => Value.int k q).foldlM Builtin.min2 (.int k m)).run P w = .ok (.int k (ns.foldl min m)) w
  | [], m => by simp
  | q :: ns, m => by
    have h : (Builtin.min2 (.int k m) (.int k q)).run P w = .ok (.int k (min m q)) w := by
      have : (if q < m then q else m) = min m q := by split <;> omega
      simp [Builtin.min2, this]
    rw [List.map_cons, List.foldlM_cons, List.foldl_cons]
    simp [h, foldMin k w ns]
theorem ints_eval {K : Kn} {a : Act} {w : World} {G : Gh} (r : RelG K n st a w G) {k : IntKind} : ∀ (l : List Operand) (ns : List Int), l.map st.ev = ns.map (AV.int k) → l.map a.eval = ns.map (fun q => Value.int k q)
  | [], [], _ => rfl
  | [], _ :: _, h => by simp at h
  | _ :: _, [], h => by simp at h
  | y :: l, q :: ns, h => by
    simp only [List.map_cons, List.cons.injEq] at h
    have e := r.ev y
    rw [h.1] at e
    rw [List.map_cons, List.map_cons, e.int', ints_eval r l ns h.2]
theorem op_maxs {hi : Bool} {k : IntKind} {args : List Operand} {tt : Array TypeId} {m : Int} {ns : List Int} (h : intsOf k (args.map st.ev) = some (m :: ns)) (hd : dok d n = true) :
    OpR P n ⟨d, .call { callee := .builtin (bif hi then .max else .min), args := ⟨args⟩, argTypes := tt }, ty, ps, af, g⟩ st (.int k (bif hi then ns.foldl max m else ns.foldl min m)) := .mk hd fun K a w G rr => by
  have e := ints_eval rr args (m :: ns) (intsOf_eq h)
  refine ⟨_, fun w' _ => ?_, .dat (.int _ _)⟩
  have e2 : (Array.map a.eval ⟨args⟩).toList = (m :: ns).map (fun q => Value.int k q) := by rw [Array.toList_map]; exact e
  have e3 : Array.map a.eval ⟨args⟩ = ((m :: ns).map (fun q => Value.int k q)).toArray := by rw [← e2]
  cases hi
  · have := foldMin (P := P) k w' ns m
    simp [execOp, resolve, invoke, builtin, e3, Builtin.min_, this]
  · have := foldMax (P := P) k w' ns m
    simp [execOp, resolve, invoke, builtin, e3, Builtin.max_, this]
theorem op_compl' {k : IntKind} {m : Int} (hx : st.ev x = .int k m) (hd : dok d n = true) : OpR P n ⟨d, .unOp .xor t x, ty, ps, af, g⟩ st (.int k (bits .xor k (if k.signed then -1 else k.max) m)) :=
  .mk hd fun K a w G rr => by
    have e1 := rr.ev x
    rw [hx] at e1
    have e1 := e1.int'
    exact ⟨_, fun w' _ => by simp [execOp, e1, Op.unary, intBits_xor], .dat (.int _ _)⟩
end
/-! ### arrays of single cells are rows -/
def arrOf (T : Tab) (t : TypeId) : Option (Nat × TypeId × Option Value × Nat) := match lk T.und t with
  | some (.array L e) => match lk T.inf e with
    | some (z, s, b) => bif Nat.beq s 1 then some (L, e, z, b) else none
    | none => none
  | _ => none
theorem arrOf_ok {P : Program} {T : Tab} {t : TypeId} {L : Nat} {e : TypeId} {z : Option Value} {b : Nat} (hT : T.ok P) (h : arrOf T t = some (L, e, z, b)) : P.underlying t = some (.array L e) ∧ tyI P e = some (z, 1, b) := by
  unfold arrOf at h
  split at h
  · rename_i L' e' h1
    split at h
    · rename_i z' s' b' h2
      cases hs : Nat.beq s' 1 with
      | false => rw [hs] at h; cases h
      | true =>
        rw [hs] at h
        simp only [cond_true, Option.some.injEq, Prod.mk.injEq] at h
        obtain ⟨rfl, rfl, rfl, rfl⟩ := h
        have := Nat.eq_of_beq_eq_true hs
        subst this
        exact ⟨allP_at hT.und h1, allP_at hT.inf h2⟩
    · cases h
  · cases h
def ones (cs : List AV) : List (List AV) := cs.map fun a => [a]
theorem ones_flat : ∀ cs : List AV, (ones cs).flatten = cs
  | [] => rfl
  | a :: l => by
    show [a] ++ (ones l).flatten = _
    rw [ones_flat l]; rfl
theorem ones_row {cs : List AV} : ∀ r ∈ ones cs, r.length = 1 := fun r hr => by
  obtain ⟨a, _, rfl⟩ := List.mem_map.1 hr
  rfl
theorem ones_len (cs : List AV) : (ones cs).length = cs.length := List.length_map _
def memX (T : Tab) (st : ASt) (d : Option Nat) : Op → Option ASt
  | .alloc e => match arrOf T e, lk T.inf e with
    | some _, some (some z, _, _) => bif allOne (z.cells.toList.map avOf) && Nat.blt 0 z.cells.toList.length && Nat.ble z.cells.toList.length 1000000 then
        some ((st.hnew (.row 1 (ones (z.cells.toList.map avOf)) e)).put d (.elt st.nx (z.cells.toList.map avOf).length 0 0)) else none
    | _, _ => none
  | .box e x => match arrOf T e with
    | some _ => bif allOne (st.ev x).cells && Nat.blt 0 (st.ev x).cells.length && Nat.ble (st.ev x).cells.length 1000000 then
        some ((st.hnew (.row 1 (ones (st.ev x).cells) e)).put d (.elt st.nx (st.ev x).cells.length 0 0)) else none
    | none => none
  | .store t a v => match d, st.ev a with
    | none, .elt id m 0 0 => match arrOf T t, look .dead st.heap id, lk T.inf t with
      | some _, .row 1 rows e, some (_, s, _) => bif Nat.beq m rows.length && Nat.blt 0 m && allOne (st.ev v).cells && Nat.beq (st.ev v).cells.length m && Nat.beq s m && rows.all (fun r => Nat.beq r.length 1) then
          some (st.hset id (.row 1 (ones (st.ev v).cells) e)) else none
      | _, _, _ => none
    | _, _ => none
  | .makeSlice t l c => match lk T.und t, st.ev l, st.ev c with
    | some (.slice e), .int _ L, .int _ C => match lk T.inf e with
      | some (some z, sz, b) => bif decide (0 ≤ L) && decide (L < C) && decide ((b : Int) * C ≤ 281474976710656) && decide (C ≤ 9223372036854775807) && Nat.beq (z.cells.toList.map avOf).length sz && Nat.blt 0 sz && allOne (z.cells.toList.map avOf) then
          some ((st.hnew (.row sz (List.replicate L.toNat (z.cells.toList.map avOf)) e)).put d (.osl st.nx L.toNat)) else none
      | _ => none
    | _, _, _ => none
  | _ => none
/-- reading -/
def rdX (T : Tab) (st : ASt) : Op → Option AV
  | .binOp .eql t x y _ => match lk T.und t, st.ev x, st.ev y with
    | some (.pointer _), .nilp, .nilp => some (.bool true)
    | some (.pointer _), .box _ _, .nilp => some (.bool false)
    | some (.slice _), .nils, .nils => some (.bool true)
    | some (.slice _), .osl id m, .nils => match look .dead st.heap id with
      | .row _ rows _ => bif Nat.beq m rows.length && Nat.blt 0 m then some (.bool false) else none
      | _ => none
    | _, _, _ => none
  | .binOp .neq t x y _ => match lk T.und t, st.ev x, st.ev y with
    | some (.pointer _), .nilp, .nilp => some (.bool false)
    | some (.pointer _), .box _ _, .nilp => some (.bool true)
    | some (.slice _), .nils, .nils => some (.bool false)
    | some (.slice _), .osl id m, .nils => match look .dead st.heap id with
      | .row _ rows _ => bif Nat.beq m rows.length && Nat.blt 0 m then some (.bool true) else none
      | _ => none
    | _, _, _ => none
  | .call ⟨.builtin .max, ⟨args⟩, _⟩ => match intsOf .i64 (evL st args []) with
    | some (m :: ns) => some (.int .i64 (ns.foldl max m))
    | _ => none
  | .call ⟨.builtin .min, ⟨args⟩, _⟩ => match intsOf .i64 (evL st args []) with
    | some (m :: ns) => some (.int .i64 (ns.foldl min m))
    | _ => none
  | .build t parts => match lk T.und t, lk T.inf t with
    | some (.array _ e), some (some z, _, _) => match lk T.inf e with
      | some (_, ss, _) => bif allOne (z.cells.toList.map avOf) then (match fillA (fun i => some (i * ss, ss)) (z.cells.toList.map avOf) (evParts st parts.toList) with
        | some out => some (.agg out)
        | none => none) else none
      | none => none
    | _, _ => none
  | .unOp .xor _ x => match st.ev x with
    | .int k m => some (.int k (bits .xor k (if k.signed then -1 else k.max) m))
    | _ => none
  | .indexAddr t x y => match st.ev x, st.ev y with
    | .elt id m 0 0, .int _ i => match arrOf T t, look .dead st.heap id with
      | some (L, _, _, _), .row 1 rows _ => bif Nat.beq m rows.length && decide (0 ≤ i) && decide (i < (L : Int)) && decide (i < (m : Int)) then some (.elt id m i.toNat 0) else none
      | _, _ => none
    | _, _ => none
  | .load t x => match st.ev x with
    | .elt id m 0 0 => match arrOf T t, look .dead st.heap id, lk T.inf t with
      | some _, .row 1 rows _, some (_, s, _) => bif Nat.beq m rows.length && Nat.blt 0 m && Nat.beq s m then some (.agg rows.flatten) else none
      | _, _, _ => none
    | _ => none
  | .slice t x lo hi none => match st.ev x with
    | .elt id m 0 0 => match arrOf T t, look .dead st.heap id with
      | some (L, _, _, _), .row 1 rows _ => match bndN st 0 lo, bndN st m hi with
        | some l, some h => bif Nat.beq m rows.length && Nat.beq L m && Nat.blt 0 m && inB3 l h m then some (.vsl id m l.toNat (h.toNat - l.toNat)) else none
        | _, _ => none
      | _, _ => none
    | _ => none
  | _ => none
section
variable {P : Program} {n : Nat} {T : Tab} {st st' : ASt} {o : Oper} {x : AV}
theorem memX_ok (hT : T.ok P) (h : memX T st o.dst o.op = some st') (hd : dok o.dst n = true) : OpV P n o st st' := by
  obtain ⟨d, op, ty, ps, af, g⟩ := o
  simp only at h
  have hd : dok d n = true := hd
  unfold memX at h
  split at h
  · split at h
    · rename_i e _ q z s b h1 h2
      cases hc : (allOne (z.cells.toList.map avOf) && Nat.blt 0 z.cells.toList.length && Nat.ble z.cells.toList.length 1000000) with
      | false => rw [hc] at h; cases h
      | true =>
        rw [hc] at h
        simp only [cond_true, Option.some.injEq] at h
        simp only [Bool.and_eq_true] at hc
        obtain ⟨⟨c1, c2⟩, c3⟩ := hc
        have c2 : 0 < z.cells.toList.length := by simpa using c2
        have c3 := Nat.le_of_ble_eq_true c3
        subst h
        have key := op_alloc_arr (P := P) (n := n) (st := st) (d := d) (ty := ty) (ps := ps) (af := af) (g := g) (rows := ones (z.cells.toList.map avOf)) (sz := 1) (allP_at hT.inf h2) (ones_flat _).symm (by rw [ones_flat]; exact c1) (by omega) (by rw [ones_len, List.length_map]; exact c2) (by rw [ones_len, List.length_map]; exact Nat.le_trans c3 (by decide)) ones_row hd
        rw [ones_len] at key
        exact key
    · cases h
  · rename_i e y
    split at h
    · rename_i q h1
      cases hc : (allOne (st.ev y).cells && Nat.blt 0 (st.ev y).cells.length && Nat.ble (st.ev y).cells.length 1000000) with
      | false => rw [hc] at h; cases h
      | true =>
        rw [hc] at h
        simp only [cond_true, Option.some.injEq] at h
        simp only [Bool.and_eq_true] at hc
        obtain ⟨⟨c1, c2⟩, c3⟩ := hc
        have c2 : 0 < (st.ev y).cells.length := by simpa using c2
        have c3 := Nat.le_of_ble_eq_true c3
        subst h
        have key := op_box_arr (P := P) (n := n) (st := st) (d := d) (ty := ty) (ps := ps) (af := af) (g := g) (e := e) (x := y) (rows := ones (st.ev y).cells) (sz := 1) (ones_flat _).symm (by rw [ones_flat]; exact c1) (by omega) (by rw [ones_len]; exact c2) (by rw [ones_len]; exact Nat.le_trans c3 (by decide)) ones_row hd
        rw [ones_len] at key
        exact key
    · cases h
  · rename_i t a v
    split at h
    · rename_i id m ha _
      split at h
      · rename_i q rows e z s b h1 h2 h3
        cases hc : (Nat.beq m rows.length && Nat.blt 0 m && allOne (st.ev v).cells && Nat.beq (st.ev v).cells.length m && Nat.beq s m && rows.all (fun r => Nat.beq r.length 1)) with
        | false => rw [hc] at h; cases h
        | true =>
          rw [hc] at h
          simp only [cond_true, Option.some.injEq] at h
          simp only [Bool.and_eq_true] at hc
          obtain ⟨⟨⟨⟨⟨c1, c2⟩, c3⟩, c4⟩, c5⟩, c6⟩ := hc
          have c1 := Nat.eq_of_beq_eq_true c1
          have c2 : 0 < m := by simpa using c2
          have c4 := Nat.eq_of_beq_eq_true c4
          have c5 := Nat.eq_of_beq_eq_true c5
          subst h
          exact op_store_arr ha h2 c1 c2 (ones_flat _).symm (by rw [ones_flat]; exact c3) (allP_at hT.inf h3) (by rw [ones_flat, c4, c5]) (by rw [ones_len, c4]) ones_row
      · cases h
    · cases h
  · rename_i t l c
    split at h
    · rename_i e k1 L k2 C hu hl hc
      split at h
      · rename_i z sz b hI
        cases hb : (decide (0 ≤ L) && decide (L < C) && decide ((b : Int) * C ≤ 281474976710656) && decide (C ≤ 9223372036854775807) && Nat.beq (z.cells.toList.map avOf).length sz && Nat.blt 0 sz && allOne (z.cells.toList.map avOf)) with
        | false => rw [hb] at h; cases h
        | true =>
          rw [hb] at h
          simp only [cond_true, Option.some.injEq] at h
          subst h
          simp only [Bool.and_eq_true] at hb
          obtain ⟨⟨⟨⟨⟨⟨b1, b2⟩, b3⟩, b4⟩, b5⟩, b6⟩, b7⟩ := hb
          have b2 : L < C := of_decide_eq_true b2
          exact op_makeC (allP_at hT.und hu) (allP_at hT.inf hI) rfl (Nat.eq_of_beq_eq_true b5) (by simpa using b6) b7 hl hc (of_decide_eq_true b1) (by omega) (of_decide_eq_true b3) (of_decide_eq_true b4) hd
      · cases h
    · cases h
  · cases h
theorem rdX_ok (hT : T.ok P) (h : rdX T st o.op = some x) (hd : dok o.dst n = true) : OpR P n o st x := by
  obtain ⟨d, op, ty, ps, af, g⟩ := o
  simp only at h
  have hd : dok d n = true := hd
  unfold rdX at h
  split at h
  · split at h
    · rename_i hu hx hy
      injection h with h
      subst h
      exact op_nilpEq (neq := false) hx hy (allP_at hT.und hu) hd
    · rename_i hu hx hy
      injection h with h
      subst h
      exact op_boxNil (neq := false) hx hy (allP_at hT.und hu) hd
    · rename_i hu hx hy
      injection h with h
      subst h
      exact op_nilEq (neq := false) hx hy (allP_at hT.und hu) hd
    · rename_i id m hu hx hy
      split at h
      · rename_i sz rows e hb
        cases hc : (Nat.beq m rows.length && Nat.blt 0 m) with
        | false => rw [hc] at h; cases h
        | true =>
          rw [hc] at h
          injection h with h
          subst h
          rw [Bool.and_eq_true] at hc
          exact op_oslNil (neq := false) hx hb (Nat.eq_of_beq_eq_true hc.1) (by simpa using hc.2) hy (allP_at hT.und hu) hd
      · cases h
    · cases h
  · split at h
    · rename_i hu hx hy
      injection h with h
      subst h
      exact op_nilpEq (neq := true) hx hy (allP_at hT.und hu) hd
    · rename_i hu hx hy
      injection h with h
      subst h
      exact op_boxNil (neq := true) hx hy (allP_at hT.und hu) hd
    · rename_i hu hx hy
      injection h with h
      subst h
      exact op_nilEq (neq := true) hx hy (allP_at hT.und hu) hd
    · rename_i id m hu hx hy
      split at h
      · rename_i sz rows e hb
        cases hc : (Nat.beq m rows.length && Nat.blt 0 m) with
        | false => rw [hc] at h; cases h
        | true =>
          rw [hc] at h
          injection h with h
          subst h
          rw [Bool.and_eq_true] at hc
          exact op_oslNil (neq := true) hx hb (Nat.eq_of_beq_eq_true hc.1) (by simpa using hc.2) hy (allP_at hT.und hu) hd
      · cases h
    · cases h
  · split at h
    · rename_i args _ m ns h1
      injection h with h
      subst h
      rw [evL_eq, List.append_nil] at h1
      exact op_maxs (hi := true) h1 hd
    · cases h
  · split at h
    · rename_i args _ m ns h1
      injection h with h
      subst h
      rw [evL_eq, List.append_nil] at h1
      exact op_maxs (hi := false) h1 hd
    · cases h
  · split at h
    · rename_i L e z s b hu hI
      split at h
      · rename_i zz ss bb hE
        cases hb : allOne (z.cells.toList.map avOf) with
        | false => rw [hb] at h; cases h
        | true =>
          rw [hb] at h
          simp only [cond_true] at h
          split at h
          · rename_i out hf
            injection h with h
            subst h
            exact op_build_arr (allP_at hT.und hu) (allP_at hT.inf hI) (allP_at hT.inf hE) rfl hb hf hd
          · cases h
      · cases h
    · cases h
  · split at h
    · rename_i k m hx
      injection h with h
      subst h
      exact op_compl' hx hd
    · cases h
  · split at h
    · rename_i t y z id m k i hx hy
      split at h
      · rename_i L e zz b rows e' h1 h2
        cases hc : (Nat.beq m rows.length && decide (0 ≤ i) && decide (i < (L : Int)) && decide (i < (m : Int))) with
        | false => rw [hc] at h; cases h
        | true =>
          rw [hc] at h
          injection h with h
          subst h
          simp only [Bool.and_eq_true] at hc
          obtain ⟨⟨⟨c1, c2⟩, c3⟩, c4⟩ := hc
          obtain ⟨g1, g2⟩ := arrOf_ok hT h1
          exact op_index_arr hx h2 (Nat.eq_of_beq_eq_true c1) hy g1 g2 (of_decide_eq_true c2) (of_decide_eq_true c3) (of_decide_eq_true c4) hd
      · cases h
    · cases h
  · split at h
    · rename_i t y id m hx
      split at h
      · rename_i q rows e' zz s b h1 h2 h3
        cases hc : (Nat.beq m rows.length && Nat.blt 0 m && Nat.beq s m) with
        | false => rw [hc] at h; cases h
        | true =>
          rw [hc] at h
          injection h with h
          subst h
          simp only [Bool.and_eq_true] at hc
          obtain ⟨⟨c1, c2⟩, c3⟩ := hc
          obtain ⟨L, e, z, bb⟩ := q
          obtain ⟨g1, g2⟩ := arrOf_ok hT h1
          exact op_load_arr hx h2 (Nat.eq_of_beq_eq_true c1) (by simpa using c2) g1 rfl (allP_at hT.inf h3) (by rw [Nat.eq_of_beq_eq_true c3, Nat.mul_one]) hd
      · cases h
    · cases h
  · split at h
    · rename_i t y lo hi id m hx
      split at h
      · rename_i L e zz b rows e' h1 h2
        split at h
        · rename_i l hh g3 g4
          cases hc : (Nat.beq m rows.length && Nat.beq L m && Nat.blt 0 m && inB3 l hh m) with
          | false => rw [hc] at h; cases h
          | true =>
            rw [hc] at h
            injection h with h
            subst h
            simp only [Bool.and_eq_true] at hc
            obtain ⟨⟨⟨c1, c2⟩, c3⟩, c4⟩ := hc
            obtain ⟨g1, g2⟩ := arrOf_ok hT h1
            have c2 := Nat.eq_of_beq_eq_true c2
            subst c2
            obtain ⟨b1, b2, b3⟩ := inB3_ok c4
            exact op_slice_arr hx h2 (Nat.eq_of_beq_eq_true c1) (bndN_ok g3) (bndN_ok g4) g1 g2 b1 b2 b3 (by simpa using c3) hd
        · cases h
      · cases h
    · cases h
  · cases h
theorem rdX_nx (r : List (Nat × AV)) (h : List (Nat × AB)) (k k' : Nat) (op : Op) : rdX T ⟨r, h, k⟩ op = rdX T ⟨r, h, k'⟩ op := by
  unfold rdX
  split <;> simp only [ev_nx r h k k', evL_nx r h k k', bndN_nx r h k k', evParts_nx r h k k']
def readR (T : Tab) (st : ASt) (op : Op) : Option AV := match readC T st op with
  | some x => some x
  | none => rdX T st op
theorem readR_ok (hT : T.ok P) (h : readR T st o.op = some x) (hd : dok o.dst n = true) : OpR P n o st x := by
  unfold readR at h
  split at h
  · rename_i y h1
    injection h with h
    subst h
    exact readC_ok hT h1 hd
  · exact rdX_ok hT h hd
theorem readR_nx (r : List (Nat × AV)) (h : List (Nat × AB)) (k k' : Nat) (op : Op) : readR T ⟨r, h, k⟩ op = readR T ⟨r, h, k'⟩ op := by
  unfold readR
  rw [readC_nx r h k k', rdX_nx r h k k']
def memR (C : Ctx) (self : SelfT) (st : ASt) (o : Oper) : Option ASt := match memX C.T st o.dst o.op with
  | some s => some s
  | none => memC C self st o
theorem memR_Y {C : Ctx} {self : SelfT} (hC : C.ok P) (hS : SelfOk P self) (hd : dok o.dst n = true) (h : memR C self st o = some st') : OpY P n o st st' := by
  unfold memR at h
  split at h
  · rename_i s h1
    injection h with h
    subst h
    exact .ofV (memX_ok hC.T h1 hd)
  · exact memC_Y hC hS hd h
theorem memR_ok {C : Ctx} {self : SelfT} {ops : Array Oper} {l : List Oper} {Q : Exit → ASt → Prop} (hC : C.ok P) (hS : SelfOk P self) (hd : dok o.dst n = true) (h : memR C self st o = some st') (hw : ∀ (K : Kn) (a : Act) (w : World) (G : Gh), RelG K n st a w G → Region.wanted o (yielded ops a.tmps) = true) (k : AL P n ops Q l st') : AL P n ops Q (o :: l) st := by
  unfold memR at h
  split at h
  · rename_i s h1
    injection h with h
    subst h
    exact AL.opw hw (memX_ok hC.T h1 hd) k
  · exact memC_ok hC hS hd h hw k
end
/-! ### The whole memory in order, each block once -/
/-! ### Blocks that nobody can reach are dropped at the end of a function -/
def fNs {α : Type} : List Nat → (List Nat → α) → α
  | [], k => k []
  | a :: l, k => fN a fun a => fNs l fun l => k (a :: l)
theorem fNs_eq {α : Type} (l : List Nat) : ∀ (k : List Nat → α), fNs l k = k l := by
  induction l with
  | nil => intro k; rfl
  | cons a l ih => intro k; rw [fNs, fN_eq, ih]
def pickK {α : Type} (h : List (Nat × AB)) : List Nat → List (Nat × AB) → (List (Nat × AB) → α) → α
  | [], acc, k => k acc
  | j :: l, acc, k => fB (look .dead h j) fun b => pickK h l ((j, b) :: acc) k
def pickA (h : List (Nat × AB)) : List Nat → List (Nat × AB) → List (Nat × AB)
  | [], acc => acc
  | j :: l, acc => pickA h l ((j, look .dead h j) :: acc)
theorem pickK_eq {α : Type} (h : List (Nat × AB)) : ∀ (l : List Nat) (acc : List (Nat × AB)) (k : List (Nat × AB) → α), pickK h l acc k = k (pickA h l acc)
  | [], _, _ => rfl
  | j :: l, acc, k => by rw [pickK, pickA, fB_eq]; exact pickK_eq h l _ k
theorem pickA_les (h : List (Nat × AB)) : ∀ (l : List Nat) (acc : List (Nat × AB)), (∀ id, LesB (look .dead acc id) (look .dead h id)) → ∀ id, LesB (look .dead (pickA h l acc) id) (look .dead h id)
  | [], _, ha, id => ha id
  | j :: l, acc, ha, id => pickA_les h l _ (fun id => by
      rw [look_cons]
      by_cases e : j = id
      · subst e; rw [if_pos rfl]; exact .refl _
      · rw [if_neg e]; exact ha id) id
def gcK {α : Type} (h : List (Nat × AB)) (nx0 : Nat) (x : AV) (k : List (Nat × AB) → α) : α := bif Nat.blt 40 h.length then
    fNs (clo (look .dead h) 100000 (idsV x ++ (h.filter fun p => Nat.blt p.1 nx0).map (·.1)) []) fun l => pickK h l [] k
  else k h
theorem gcK_eq (h : List (Nat × AB)) (nx0 : Nat) (x : AV) : ∃ h', (∀ id, LesB (look .dead h' id) (look .dead h id)) ∧ ∀ {α : Type} (k : List (Nat × AB) → α), gcK h nx0 x k = k h' := by
  unfold gcK
  cases Nat.blt 40 h.length with
  | false => exact ⟨h, fun _ => .refl _, fun k => rfl⟩
  | true => exact ⟨_, pickA_les h _ [] (fun _ => .dead _), fun k => by simp only [cond_true]; rw [fNs_eq, pickK_eq]⟩
theorem AC.lesH {P : Program} {F : FuncId} {xs : List AV} {hp hp1 hp2 : List (Nat × AB)} {nx nx1 : Nat} {x : AV} (h : AC P F xs hp nx (fun y h' n' => y = x ∧ h' = hp1 ∧ n' = nx1)) (hl : ∀ id, LesB (look .dead hp2 id) (look .dead hp1 id)) : AC P F xs hp nx (fun y h' n' => y = x ∧ h' = hp2 ∧ n' = nx1) := fun w0 w G vs a1 a2 a3 => by
  refine (h w0 w G vs a1 a2 a3).mono fun e w' ⟨v, x', hp', nx', G', he, ⟨e3, e4, e5⟩, hnx, hHR, hRV, hExt⟩ => ?_
  subst e4
  exact ⟨v, x', hp2, nx', G', he, ⟨e3, rfl, e5⟩, hnx, ⟨hHR.bs, hHR.below, hHR.ownlt, fun id => (hl id).ok (hHR.blk id), hHR.dist, hHR.ownhas⟩, hRV, hExt⟩
end Go.Proofs.Ytjhdjjoacedlpaa.Rn
/- A run of the abstract machine by one computed function: control, functions. No program in sight. -/
namespace Go.Proofs.Ytjhdjjoacedlpaa.Rn
open Go Go.RowKit Go.Proofs.Ytjhdjjoacedlpaa Go.Proofs.Ytjhdjjoacedlpaa.Dr

section
variable {P : Program} {n : Nat} {T : List (List Nat)} {W : List (Nat × Nat)} {M : List (Nat × AB)} {st st' : ASt} {o : Oper} {x : AV} {Q : Exit → ASt → Prop} {ops : Array Oper} {l : List Oper}
theorem look_mem {d : AB} : ∀ {l : List (Nat × AB)} {id : Nat}, look d l id ≠ d → ∃ p ∈ l, p.1 = id
  | [], id, h => absurd rfl h
  | (j, v) :: l, id, h => by
    rw [look_cons] at h
    by_cases e : j = id
    · exact ⟨(j, v), by simp, e⟩
    · rw [if_neg e] at h
      obtain ⟨p, h1, h2⟩ := look_mem h
      exact ⟨p, List.mem_cons_of_mem _ h1, h2⟩
theorem srcRows_nx (r : List (Nat × AV)) (h : List (Nat × AB)) (k k' : Nat) (sz : Nat) (a : AV) : srcRows ⟨r, h, k⟩ sz a = srcRows ⟨r, h, k'⟩ sz a := by
  cases a <;> rfl
end
end Go.Proofs.Ytjhdjjoacedlpaa.Rn
/- Short ways for the commonest operations: small bodies, for the kernel's sake. No program in sight. -/
namespace Go.Proofs.Ytjhdjjoacedlpaa.Rn
open Go Go.RowKit Go.Proofs.Ytjhdjjoacedlpaa Go.Proofs.Ytjhdjjoacedlpaa.Dr

def chk64 (r : Int) : Option AV := bif decide (-9223372036854775808 ≤ r) && decide (r ≤ 9223372036854775807) then some (.int .i64 r) else none
def fastI (o : BinOp) (m q : Int) : Option AV := match o with
  | .add => chk64 (m + q)
  | .sub => chk64 (m - q)
  | .mul => chk64 (m * q)
  | .lss => some (.bool (decide (m < q)))
  | .leq => some (.bool (decide (m ≤ q)))
  | .gtr => some (.bool (decide (q < m)))
  | .geq => some (.bool (decide (q ≤ m)))
  | .eql => some (.bool (decide (m = q)))
  | .neq => some (.bool (decide (m ≠ q)))
  | .quo => bif decide (q = 0) then none else chk64 (m.tdiv q)
  | .rem => bif decide (q = 0) then none else some (.int .i64 (m.tmod q))
  | _ => none
def kc : IntKind → Nat
  | .i8 => 0 | .i16 => 1 | .i32 => 2 | .i64 => 3 | .u8 => 4 | .u16 => 5 | .u32 => 6 | .u64 => 7
theorem kc_inj {k k' : IntKind} (h : Nat.beq (kc k) (kc k') = true) : k = k' := by
  cases k <;> cases k' <;> first | rfl | (simp [kc] at h)
def fastK (k : IntKind) (o : BinOp) (m q : Int) : Option AV := match o with
  | .and => some (.int k (bits .and k m q))
  | .or => some (.int k (bits .or k m q))
  | .xor => some (.int k (bits .xor k m q))
  | .add => some (.int k (k.wrap (m + q)))
  | .sub => some (.int k (k.wrap (m - q)))
  | .eql => some (.bool (decide (m = q)))
  | .neq => some (.bool (decide (m ≠ q)))
  | _ => none
def fastSh (k : IntKind) (o : BinOp) (m q : Int) : Option AV := match o with
  | .shr => bif decide (0 ≤ q) && decide (q ≤ (k.bits : Int)) then some (.int k (m / 2 ^ q.toNat)) else none
  | .shl => bif decide (0 ≤ q) && decide (q ≤ (k.bits : Int)) then some (.int k (k.wrap (m * 2 ^ q.toNat))) else none
  | _ => none
def fastB (o : BinOp) (a b : AV) : Option AV := match a, b with
  | .int k m, .int k' q => match fastSh k o m q with
    | some x => some x
    | none => bif Nat.beq (kc k) (kc k') then (match fastI3 k o m q with
      | some x => some x
      | none => fastK k o m q) else none
  | _, _ => none
where fastI3 (k : IntKind) (o : BinOp) (m q : Int) : Option AV := bif Nat.beq (kc k) 3 then fastI o m q else none
def fastL (T : Tab) (st : ASt) (t : TypeId) (a : AV) : Option AV := match a with
  | .box id o => match look .dead st.heap id, lk T.und t, lk T.inf t with
    | .box cs _, some D, some (_, s, _) => partA cs o s (aggB D)
    | _, _, _ => none
  | .elt id m i o => match look .dead st.heap id, lk T.und t, lk T.inf t with
    | .row _ rows _, some D, some (_, s, _) => match rows[i]? with
      | some row => bif Nat.beq m rows.length then partA row o s (aggB D) else none
      | none => none
    | _, _, _ => none
  | _ => none
def fastX (T : Tab) (st : ASt) (t : TypeId) (a b : AV) : Option AV := match a, b with
  | .osl id m, .int _ i => match look .dead st.heap id, lk T.und t with
    | .row sz rows _, some (.slice e) => match lk T.inf e with
      | some (_, s, _) => bif Nat.beq s sz && Nat.beq m rows.length && decide (0 ≤ i) && decide (i < (m : Int)) then some (.elt id m i.toNat 0) else none
      | none => none
    | _, _ => none
  | _, _ => none
def fastF (T : Tab) (t f : Nat) (a : AV) : Option AV := match a with
  | .box id o => match lk T.fld t with
    | some fl => match fl[f]? with
      | some (off, s, _) => bif Nat.beq s 0 then none else some (.box id (o + off))
      | none => none
    | none => none
  | _ => none
def fast (T : Tab) (st : ASt) : Op → Option AV
  | .move x => some (st.ev x)
  | .assign x => some (st.ev x)
  | .binOp o _ x y _ => fastB o (st.ev x) (st.ev y)
  | .load t x => fastL T st t (st.ev x)
  | .indexAddr t x y => fastX T st t (st.ev x) (st.ev y)
  | .fieldAddr t x f => fastF T t f (st.ev x)
  | _ => none
section
variable {P : Program} {n : Nat} {T : Tab} {st st' : ASt} {o : Oper} {x : AV}
theorem chk64_ok {r : Int} (h : chk64 r = some x) : x = .int .i64 r ∧ IntKind.i64.wrap r = r := by
  unfold chk64 at h
  cases hc : (decide (-9223372036854775808 ≤ r) && decide (r ≤ 9223372036854775807)) with
  | false => rw [hc] at h; cases h
  | true =>
    rw [hc] at h
    injection h with h
    rw [Bool.and_eq_true] at hc
    exact ⟨h.symm, wr64 (of_decide_eq_true hc.1) (of_decide_eq_true hc.2)⟩
theorem fast_ok (hT : T.ok P) (h : fast T st o.op = some x) (hd : dok o.dst n = true) : OpR P n o st x := by
  obtain ⟨d, op, ty, ps, af, g⟩ := o
  simp only at h
  have hd : dok d n = true := hd
  unfold fast at h
  split at h
  · injection h with h
    exact op_move h hd
  · injection h with h
    exact op_assign h hd
  · rename_i o t y z t'
    unfold fastB at h
    split at h
    · rename_i k m k' q hy hz
      split at h
      · rename_i x2 h1
        injection h with h
        subst h
        unfold fastSh at h1
        split at h1
        · cases hc : (decide (0 ≤ q) && decide (q ≤ (k.bits : Int))) with
          | false => rw [hc] at h1; cases h1
          | true =>
            rw [hc] at h1
            injection h1 with h1
            subst h1
            rw [Bool.and_eq_true] at hc
            exact op_shr hy hz (of_decide_eq_true hc.1) (of_decide_eq_true hc.2) hd
        · cases hc : (decide (0 ≤ q) && decide (q ≤ (k.bits : Int))) with
          | false => rw [hc] at h1; cases h1
          | true =>
            rw [hc] at h1
            injection h1 with h1
            subst h1
            rw [Bool.and_eq_true] at hc
            exact op_shl hy hz (of_decide_eq_true hc.1) (of_decide_eq_true hc.2) rfl hd
        · cases h1
      · cases hk : Nat.beq (kc k) (kc k') with
        | false => rw [hk] at h; cases h
        | true =>
          rw [hk] at h
          simp only [cond_true] at h
          have hkk := kc_inj hk
          subst hkk
          split at h
          · rename_i x2 h1
            injection h with h
            subst h
            unfold fastB.fastI3 at h1
            cases h3 : Nat.beq (kc k) 3 with
            | false => rw [h3] at h1; cases h1
            | true =>
              rw [h3] at h1
              have hki : k = .i64 := kc_inj (k' := .i64) h3
              subst hki
              have h : fastI o m q = some x2 := h1
              unfold fastI at h
              split at h
              · obtain ⟨rfl, h2⟩ := chk64_ok h; exact op_add hy hz h2 hd
              · obtain ⟨rfl, h2⟩ := chk64_ok h; exact op_sub hy hz h2 hd
              · obtain ⟨rfl, h2⟩ := chk64_ok h; exact op_mul hy hz h2 hd
              · injection h with h; subst h; exact op_lss hy hz hd
              · injection h with h; subst h; exact op_leq hy hz hd
              · injection h with h; subst h; exact op_gtr hy hz hd
              · injection h with h; subst h; exact op_geq hy hz hd
              · injection h with h; subst h; exact op_eql hy hz hd
              · injection h with h; subst h; exact op_neq hy hz hd
              · by_cases e : q = 0
                · rw [decide_eq_true e] at h; cases h
                · rw [decide_eq_false e] at h
                  obtain ⟨rfl, h2⟩ := chk64_ok h
                  exact op_quo hy hz e h2 hd
              · by_cases e : q = 0
                · rw [decide_eq_true e] at h; cases h
                · rw [decide_eq_false e] at h
                  injection h with h
                  subst h
                  exact op_rem hy hz e hd
              · cases h
          · unfold fastK at h
            split at h
            · injection h with h; subst h; exact op_bits (.inl rfl) hy hz rfl hd
            · injection h with h; subst h; exact op_bits (.inr (.inl rfl)) hy hz rfl hd
            · injection h with h; subst h; exact op_bits (.inr (.inr (.inl rfl))) hy hz rfl hd
            · injection h with h; subst h; exact op_add hy hz rfl hd
            · injection h with h; subst h; exact op_sub hy hz rfl hd
            · injection h with h; subst h; exact op_eql hy hz hd
            · injection h with h; subst h; exact op_neq hy hz hd
            · cases h
    · cases h
  · rename_i t y
    unfold fastL at h
    split at h
    · rename_i id off hy
      split at h
      · rename_i cs e D z s b hb hu hI
        exact op_load_box hy hb (allP_at hT.und hu) (allP_at hT.inf hI) h hd
      · cases h
    · rename_i id m i off hy
      split at h
      · rename_i sz rows e D z s b hb hu hI
        split at h
        · rename_i row hr
          cases hm : Nat.beq m rows.length with
          | false => rw [hm] at h; cases h
          | true =>
            rw [hm] at h
            exact op_load_elt hy hb (Nat.eq_of_beq_eq_true hm) hr (allP_at hT.und hu) (allP_at hT.inf hI) h hd
        · cases h
      · cases h
    · cases h
  · rename_i t y z
    unfold fastX at h
    split at h
    · rename_i id m k i hy hz
      split at h
      · rename_i sz rows e' e hb hu
        split at h
        · rename_i zz s b hI
          cases hc : (Nat.beq s sz && Nat.beq m rows.length && decide (0 ≤ i) && decide (i < (m : Int))) with
          | false => rw [hc] at h; cases h
          | true =>
            rw [hc] at h
            injection h with h
            subst h
            simp only [Bool.and_eq_true] at hc
            obtain ⟨⟨⟨c1, c2⟩, c3⟩, c4⟩ := hc
            exact op_index_osl hy hb (Nat.eq_of_beq_eq_true c2) hz (allP_at hT.und hu) (allP_at hT.inf hI) (Nat.eq_of_beq_eq_true c1) (of_decide_eq_true c3) (of_decide_eq_true c4) hd
        · cases h
      · cases h
    · cases h
  · rename_i t y f
    unfold fastF at h
    split at h
    · rename_i id off hy
      split at h
      · rename_i fl hF
        split at h
        · rename_i o2 s b hf
          cases hs : Nat.beq s 0 with
          | true => rw [hs] at h; cases h
          | false =>
            rw [hs] at h
            injection h with h
            subst h
            exact op_fieldAddr_box hy (allP_at hT.fld hF) hf (fun e => by subst e; cases hs) hd
        · cases h
      · cases h
    · cases h
  · cases h
theorem fast_nx (r : List (Nat × AV)) (h : List (Nat × AB)) (k k' : Nat) (op : Op) : fast T ⟨r, h, k⟩ op = fast T ⟨r, h, k'⟩ op := by
  unfold fast
  split <;> simp only [ev_nx r h k k', fastL, fastX]
/-- reading -/
def readF (T : Tab) (st : ASt) (op : Op) : Option AV := match fast T st op with
  | some x => some x
  | none => readR T st op
theorem readF_ok (hT : T.ok P) (h : readF T st o.op = some x) (hd : dok o.dst n = true) : OpR P n o st x := by
  unfold readF at h
  split at h
  · rename_i y h1
    injection h with h
    subst h
    exact fast_ok hT h1 hd
  · exact readR_ok hT h hd
theorem readF_nx (r : List (Nat × AV)) (h : List (Nat × AB)) (k k' : Nat) (op : Op) : readF T ⟨r, h, k⟩ op = readF T ⟨r, h, k'⟩ op := by
  unfold readF
  rw [fast_nx r h k k', readR_nx r h k k']
/-- calls at once; a store into a box or a row at once -/
def isVal : Op → Bool
  | .call ⟨.value _, _, _⟩ => true
  | _ => false
def fastS (T : Tab) (st : ASt) (t : TypeId) (a : AV) (vs : List AV) : Option ASt := match a with
  | .box id o => match look .dead st.heap id, lk T.inf t with
    | .box cs e, some (_, s, _) => bif allOne vs && Nat.beq vs.length s && Nat.ble (o + s) cs.length then some (st.hset id (.box (setR cs o vs) e)) else none
    | _, _ => none
  | _ => none
def fastM (T : Tab) (st : ASt) (d : Option Nat) : Op → Option ASt
  | .store t a v => match d with
    | none => fastS T st t (st.ev a) (st.ev v).cells
    | some _ => none
  | _ => none
theorem fastM_ok (hT : T.ok P) (h : fastM T st o.dst o.op = some st') : OpV P n o st st' := by
  obtain ⟨d, op, ty, ps, af, g⟩ := o
  simp only at h
  unfold fastM at h
  split at h
  · rename_i t a v
    split at h
    · unfold fastS at h
      split at h
      · rename_i id off ha
        split at h
        · rename_i cs e z s b hb hI
          cases hc : (allOne (st.ev v).cells && Nat.beq (st.ev v).cells.length s && Nat.ble (off + s) cs.length) with
          | false => rw [hc] at h; cases h
          | true =>
            rw [hc] at h
            injection h with h
            subst h
            simp only [Bool.and_eq_true] at hc
            exact op_store_box ha hb rfl hc.1.1 (allP_at hT.inf hI) (Nat.eq_of_beq_eq_true hc.1.2) (Nat.le_of_ble_eq_true hc.2)
        · cases h
      · cases h
    · cases h
  · cases h
def memF (C : Ctx) (self : SelfT) (st : ASt) (o : Oper) : Option ASt := bif isVal o.op then callC C self st o.dst o.op else match fastM C.T st o.dst o.op with
  | some s => some s
  | none => memR C self st o
theorem memR_call {C : Ctx} {self : SelfT} (h : isVal o.op = true) : callC C self st o.dst o.op = some st' → memC C self st o = some st' := by
  obtain ⟨d, op, ty, ps, af, g⟩ := o
  simp only at h ⊢
  unfold isVal at h
  split at h
  · intro h2
    exact h2
  · cases h
theorem memF_Y {C : Ctx} {self : SelfT} (hC : C.ok P) (hS : SelfOk P self) (hd : dok o.dst n = true) (h : memF C self st o = some st') : OpY P n o st st' := by
  unfold memF at h
  cases hv : isVal o.op with
  | true =>
    rw [hv] at h
    exact memC_Y hC hS hd (memR_call hv h)
  | false =>
    rw [hv] at h
    simp only [cond_false] at h
    split at h
    · rename_i s h1
      injection h with h
      subst h
      exact .ofV (fastM_ok hC.T h1)
    · exact memR_Y hC hS hd h
theorem memF_ok {C : Ctx} {self : SelfT} {ops : Array Oper} {l : List Oper} {Q : Exit → ASt → Prop} (hC : C.ok P) (hS : SelfOk P self) (hd : dok o.dst n = true) (h : memF C self st o = some st') (hw : ∀ (K : Kn) (a : Act) (w : World) (G : Gh), RelG K n st a w G → Region.wanted o (yielded ops a.tmps) = true) (k : AL P n ops Q l st') : AL P n ops Q (o :: l) st := by
  unfold memF at h
  cases hv : isVal o.op with
  | true =>
    rw [hv] at h
    exact memC_ok hC hS hd (memR_call hv h) hw k
  | false =>
    rw [hv] at h
    simp only [cond_false] at h
    split at h
    · rename_i s h1
      injection h with h
      subst h
      exact AL.opw hw (fastM_ok hC.T h1) k
    · exact memR_ok hC hS hd h hw k
/-- a key taken out -/
def remK {β α : Type} (d : Nat) : List (Nat × β) → (List (Nat × β) → α) → α
  | [], k => k []
  | (j, x) :: l, k => bif Nat.beq j d then remK d l k else remK d l fun l => k ((j, x) :: l)
def remA {β : Type} (d : Nat) : List (Nat × β) → List (Nat × β)
  | [] => []
  | (j, x) :: l => bif Nat.beq j d then remA d l else (j, x) :: remA d l
theorem remK_eq {β α : Type} (d : Nat) (l : List (Nat × β)) : ∀ (k : List (Nat × β) → α), remK d l k = k (remA d l) := by
  induction l with
  | nil => intro k; rfl
  | cons p l ih =>
    intro k
    obtain ⟨j, x⟩ := p
    rw [remK, remA]
    cases Nat.beq j d with
    | true => simp only [cond_true]; exact ih k
    | false => simp only [cond_false]; rw [ih]
theorem remA_look {β : Type} (dd : β) (d : Nat) (l : List (Nat × β)) {i : Nat} (h : d ≠ i) : look dd (remA d l) i = look dd l i := by
  induction l with
  | nil => rfl
  | cons p l ih =>
    obtain ⟨j, x⟩ := p
    rw [remA, look_cons]
    cases hb : Nat.beq j d with
    | true =>
      have := Nat.eq_of_beq_eq_true hb
      subst this
      simp only [cond_true]
      rw [if_neg h, ih]
    | false =>
      simp only [cond_false]
      rw [look_cons, ih]
theorem front_look {β : Type} (dd : β) (d : Nat) (v : β) (l : List (Nat × β)) (i : Nat) : look dd ((d, v) :: remA d l) i = look dd ((d, v) :: l) i := by
  rw [look_cons, look_cons]
  by_cases e : d = i
  · rw [if_pos e, if_pos e]
  · rw [if_neg e, if_neg e, remA_look dd d l e]
def nmQ {α : Type} (st : ASt) (d : Option Nat) (x : AV) (k : ASt → α) : α := match d with
  | some d => fA1 x fun x => match st with
    | ⟨r, h, n⟩ => k ⟨(d, x) :: r, h, n⟩
  | none => k st
theorem nmQ_eq (st : ASt) (d : Option Nat) (x : AV) : ∃ st', Eqv (st.put d x) st' ∧ ∀ {α : Type} (k : ASt → α), nmQ st d x k = k st' := by
  cases d with
  | none => exact ⟨st, Eqv.refl _, fun k => rfl⟩
  | some d =>
    obtain ⟨r, h, n⟩ := st
    exact ⟨⟨(d, x) :: r, h, n⟩, ⟨fun t => rfl, fun _ => rfl, rfl⟩, fun k => by rw [nmQ, fA1_eq]⟩
def nm2R {α : Type} : List (Nat × AV) → (List (Nat × AV) → α) → α
  | [], k => k []
  | (d, v) :: l, k => fA1 v fun v => remK d l fun l => k ((d, v) :: l)
def nm2H {α : Type} : List (Nat × AB) → (List (Nat × AB) → α) → α
  | [], k => k []
  | (d, v) :: l, k => fB v fun v => remK d l fun l => k ((d, v) :: l)
def nm2 {α : Type} (st : ASt) (k : ASt → α) : α := nm2R st.regs fun r => nm2H st.heap fun h => fN st.nx fun x => k ⟨r, h, x⟩
theorem nm2_eq (st : ASt) : ∃ st', Eqv st st' ∧ ∀ {α : Type} (k : ASt → α), nm2 st k = k st' := by
  obtain ⟨r, h, x⟩ := st
  have h1 : ∃ r', (∀ d, look AV.any r d = look .any r' d) ∧ ∀ {α : Type} (k : List (Nat × AV) → α), nm2R r k = k r' := by
    cases r with
    | nil => exact ⟨[], fun _ => rfl, fun _ => rfl⟩
    | cons p l =>
      obtain ⟨d, v⟩ := p
      exact ⟨(d, v) :: remA d l, fun i => (front_look _ _ _ _ _).symm, fun k => by rw [nm2R, fA1_eq, remK_eq]⟩
  have h2 : ∃ r', (∀ d, look AB.dead h d = look .dead r' d) ∧ ∀ {α : Type} (k : List (Nat × AB) → α), nm2H h k = k r' := by
    cases h with
    | nil => exact ⟨[], fun _ => rfl, fun _ => rfl⟩
    | cons p l =>
      obtain ⟨d, v⟩ := p
      exact ⟨(d, v) :: remA d l, fun i => (front_look _ _ _ _ _).symm, fun k => by rw [nm2H, fB_eq, remK_eq]⟩
  obtain ⟨r', a1, a2⟩ := h1
  obtain ⟨h', b1, b2⟩ := h2
  exact ⟨⟨r', h', x⟩, ⟨a1, b1, rfl⟩, fun k => by rw [nm2, a2, b2, fN_eq]⟩
/-- registers that are hidden by newer ones are dropped -/
def longer {β : Type} : Nat → List β → Bool
  | _, [] => false
  | 0, _ :: _ => true
  | n + 1, _ :: l => longer n l
def dedK {α : Type} : Nat → List (Nat × AV) → (List (Nat × AV) → α) → α
  | 0, l, k => k l
  | _ + 1, [], k => k []
  | n + 1, (d, v) :: l, k => remK d l fun l => dedK n l fun l => k ((d, v) :: l)
theorem dedK_eq : ∀ (n : Nat) (l : List (Nat × AV)), ∃ l', (∀ d, look AV.any l d = look .any l' d) ∧ ∀ {α : Type} (k : List (Nat × AV) → α), dedK n l k = k l'
  | 0, l => ⟨l, fun _ => rfl, fun _ => rfl⟩
  | _ + 1, [] => ⟨[], fun _ => rfl, fun _ => rfl⟩
  | n + 1, (d, v) :: l => by
    obtain ⟨l', h1, h2⟩ := dedK_eq n (remA d l)
    refine ⟨(d, v) :: l', fun i => ?_, fun k => by rw [dedK, remK_eq, h2]⟩
    rw [← front_look, look_cons, look_cons, h1]
def prune {α : Type} (st : ASt) (k : ASt → α) : α := match st with
  | ⟨r, h, x⟩ => bif longer 300 r then dedK 1000 r fun r => k ⟨r, h, x⟩ else k ⟨r, h, x⟩
theorem prune_eq (st : ASt) : ∃ st', Eqv st st' ∧ ∀ {α : Type} (k : ASt → α), prune st k = k st' := by
  obtain ⟨r, h, x⟩ := st
  cases h0 : longer 300 r with
  | false => exact ⟨⟨r, h, x⟩, Eqv.refl _, fun k => by rw [prune, h0]; rfl⟩
  | true =>
    obtain ⟨r', h1, h2⟩ := dedK_eq 1000 r
    exact ⟨⟨r', h, x⟩, ⟨h1, fun _ => rfl, rfl⟩, fun k => by rw [prune, h0]; simp only [cond_true]; rw [h2]⟩
/-- one after another -/
def runF (C : Ctx) (self : SelfT) (n : Nat) (ops : Array Oper) : List Oper → ASt → Option ASt
  | [], st => prune st fun s => some s
  | o :: l, st => bif dok o.dst n then (match wantC ops o st with
    | some true => match readF C.T st o.op with
      | some x => nmQ st o.dst x (runF C self n ops l)
      | none => match memF C self st o with
        | some st' => nm2 st' (runF C self n ops l)
        | none => none
    | some false => nmQ st o.dst .und (runF C self n ops l)
    | none => none) else none
theorem runF_ok {C : Ctx} {self : SelfT} {ops : Array Oper} {Q : Exit → ASt → Prop} (hC : C.ok P) (hS : SelfOk P self) : ∀ (l : List Oper) (st st' : ASt), runF C self n ops l st = some st' → Q .normal st' → AL P n ops Q l st
  | [], st, st', h, hq => by
    rw [runF] at h
    obtain ⟨s', e1, e2⟩ := prune_eq st
    rw [e2] at h
    injection h with h
    subst h
    exact AL.eqv e1 (AL.nil hq)
  | o :: l, st, st', h, hq => by
    rw [runF] at h
    cases hd : dok o.dst n with
    | false => rw [hd] at h; cases h
    | true =>
      rw [hd] at h
      simp only [cond_true] at h
      split at h
      · rename_i hw
        have hw' : ∀ (K : Kn) (a : Act) (w : World) (G : Gh), RelG K n st a w G → Region.wanted o (yielded ops a.tmps) = true := by
          rcases wantC_yes hw with hg | hg
          · exact fun _ a _ _ _ => wanted_none hg a
          · obtain ⟨d, want, g1, g2⟩ := gst_yes hg
            exact wanted_of g1 g2
        split at h
        · rename_i x h1
          obtain ⟨s', e1, e2⟩ := nmQ_eq st o.dst x
          rw [e2] at h
          exact AL.opw hw' (readF_ok hC.T h1 hd).opv (AL.eqv e1 (runF_ok hC hS l s' st' h hq))
        · split at h
          · rename_i s h1
            obtain ⟨s', e1, e2⟩ := nm2_eq s
            rw [e2] at h
            exact memF_ok hC hS hd h1 hw' (AL.eqv e1 (runF_ok hC hS l s' st' h hq))
          · cases h
      · rename_i hw
        obtain ⟨d, want, g1, g2⟩ := gst_no (wantC_no hw)
        obtain ⟨s', e1, e2⟩ := nmQ_eq st o.dst .und
        rw [e2] at h
        exact AL.skipg g1 hd g2 (AL.eqv e1 (runF_ok hC hS l s' st' h hq))
      · cases h
end
end Go.Proofs.Ytjhdjjoacedlpaa.Rn
/- Regions that draw, run once: each operation on the blocks that it reaches; what is asked of the order is tested at the end. No program in sight. -/
namespace Go.Proofs.Ytjhdjjoacedlpaa.Rn
open Go Go.RowKit Go.Proofs.Ytjhdjjoacedlpaa Go.Proofs.Ytjhdjjoacedlpaa.Dr

/-- blocks put in place -/
def putK {α : Type} (f : Nat → AB) : List Nat → List (Nat × AB) → (List (Nat × AB) → α) → α
  | [], h, k => k h
  | j :: l, h, k => fB (f j) fun b => setK j b h fun h => putK f l h k
def putA (f : Nat → AB) : List Nat → List (Nat × AB) → List (Nat × AB)
  | [], h => h
  | j :: l, h => putA f l (setA j (f j) h)
theorem putK_eq {α : Type} (f : Nat → AB) : ∀ (l : List Nat) (h : List (Nat × AB)) (k : List (Nat × AB) → α), putK f l h k = k (putA f l h)
  | [], _, _ => rfl
  | j :: l, h, k => by rw [putK, putA, fB_eq, setK_eq]; exact putK_eq f l _ k
theorem putA_look (f : Nat → AB) : ∀ (l : List Nat) (h : List (Nat × AB)) (id : Nat), (id ∈ l → look .dead (putA f l h) id = f id) ∧ (id ∉ l → look .dead (putA f l h) id = look .dead h id)
  | [], h, id => ⟨fun h => by simp at h, fun _ => rfl⟩
  | j :: l, h, id => by
    obtain ⟨h1, h2⟩ := putA_look f l (setA j (f j) h) id
    rw [putA]
    constructor
    · intro hm
      by_cases e : id ∈ l
      · exact h1 e
      · have : id = j := (List.mem_cons.1 hm).resolve_right e
        subst this
        rw [h2 e, look_setA, look_cons, if_pos rfl]
    · intro hm
      rw [h2 fun e => hm (List.mem_cons_of_mem _ e), look_setA, look_cons, if_neg fun e => hm (by rw [e]; exact List.mem_cons_self ..)]
section
variable {P : Program} {n : Nat} {T : List (List Nat)} {W : List (Nat × Nat)} {st st' : ASt} {o : Oper} {x : AV} {Q : Exit → ASt → Prop} {ops : Array Oper} {l : List Oper}
def stepH (C : Ctx) (self : SelfT) (st : ASt) (o : Oper) : Option ASt := match readF C.T st o.op with
  | some x => some (st.put o.dst x)
  | none => memF C self st o
theorem stepH_Y {C : Ctx} {self : SelfT} (hC : C.ok P) (hS : SelfOk P self) (hd : dok o.dst n = true) (h : stepH C self st o = some st') : OpY P n o st st' := by
  unfold stepH at h
  split at h
  · rename_i x h1
    injection h with h
    subst h
    exact .ofV (readF_ok hC.T h1 hd).opv
  · exact memF_Y hC hS hd h
/-- the registers that an operation looks at, laid out -/
def fRs {α : Type} (r : List (Nat × AV)) : List Nat → (List (Nat × AV) → α) → α
  | [], k => k []
  | t :: l, k => fN t fun t => fA1 (look .any r t) fun v => fRs r l fun m => k ((t, v) :: m)
theorem fRs_eq {α : Type} (r : List (Nat × AV)) : ∀ (l : List Nat) (k : List (Nat × AV) → α), fRs r l k = k (l.map fun t => (t, look .any r t))
  | [], _ => rfl
  | t :: l, k => by rw [fRs, fN_eq, fA1_eq, fRs_eq r l]; rfl
theorem pickA_look (h : List (Nat × AB)) : ∀ (l : List Nat) (acc : List (Nat × AB)) (id : Nat), (id ∈ l → look .dead (pickA h l acc) id = look .dead h id) ∧ (id ∉ l → look .dead (pickA h l acc) id = look .dead acc id)
  | [], acc, id => ⟨fun h => by simp at h, fun _ => rfl⟩
  | j :: l, acc, id => by
    obtain ⟨h1, h2⟩ := pickA_look h l ((j, look .dead h j) :: acc) id
    rw [pickA]
    constructor
    · intro hm
      by_cases e : id ∈ l
      · exact h1 e
      · have : id = j := (List.mem_cons.1 hm).resolve_right e
        subst this
        rw [h2 e, look_cons, if_pos rfl]
    · intro hm
      rw [h2 fun e => hm (List.mem_cons_of_mem _ e), look_cons, if_neg fun e => hm (by rw [← e]; exact List.mem_cons_self ..)]
/-- the blocks that are named -/
def pickN (h : List (Nat × AB)) (l : List Nat) : List (Nat × AB) := l.map fun j => (j, look .dead h j)
theorem pickN_look (h : List (Nat × AB)) : ∀ (l : List Nat) (id : Nat), (id ∈ l → look .dead (pickN h l) id = look .dead h id) ∧ (id ∉ l → look .dead (pickN h l) id = .dead)
  | [], id => ⟨fun h => by simp at h, fun _ => rfl⟩
  | j :: l, id => by
    obtain ⟨h1, h2⟩ := pickN_look h l id
    show (_ → look .dead ((j, look .dead h j) :: pickN h l) id = _) ∧ (_ → look .dead ((j, look .dead h j) :: pickN h l) id = _)
    rw [look_cons]
    by_cases e : j = id
    · subst e
      exact ⟨fun _ => by rw [if_pos rfl], fun hm => absurd (List.mem_cons_self ..) hm⟩
    · rw [if_neg e]
      exact ⟨fun hm => h1 ((List.mem_cons.1 hm).resolve_left fun e' => e e'.symm), fun hm => h2 fun e' => hm (List.mem_cons_of_mem _ e')⟩
theorem OpR.less {st' : ASt} (h : OpR P n o st' x) (hl : LeS st' st) : OpR P n o st x := ⟨h.dst, fun K a w G r => h.out K a w G (r.les hl)⟩
/-- what an operation did: its place, the blocks that were there, the blocks it looked at, those it wrote, the new ones -/
structure Rec where
  i : Nat
  cr : List (Nat × Nat)
  L : List Nat
  Wi : List Nat
  k : Nat
  k2 : Nat
def opH (C : Ctx) (self : SelfT) (lr : List (Nat × AV)) (lh : List (Nat × AB)) (nx : Nat) (o : Oper) (L : List Nat) : Option (ASt × List Nat) :=
  bif L.all (fun id => Nat.blt id nx && (look .dead lh id).nmd (hasN L)) && lr.all (fun p => p.2.nmd (hasN L)) then
    (match stepH C self ⟨lr, lh, nx⟩ o with
    | some s2 => bif Nat.ble nx s2.nx && (news nx s2.nx).all (fun id => pfB (orN (hasN L) nx s2.nx) (look .dead s2.heap id)) && s2.heap.all (fun p => orN (hasN L) nx s2.nx p.1)
        && L.all (fun id => pfB (orN (hasN L) nx s2.nx) (look .dead s2.heap id)) && pf (orN (hasN L) nx s2.nx) (dstV s2 o.dst) then some (s2, L.filter fun id => !abE (look .dead s2.heap id) (look .dead lh id)) else none
    | none => none) else none
/-- what is asked of the writes of all -/
structure RecOk (T : List (List Nat)) (W : List (Nat × Nat)) (nx0 : Nat) (r : Rec) : Prop where
  vis : ∀ id ∈ r.L, visW T W nx0 r.i r.cr id = true
  new : ∀ id, r.k ≤ id → id < r.k2 → newW T W r.i id = true
  wr : ∀ id, (r.i, id) ∈ W → id ∈ r.Wi
  wr2 : ∀ id ∈ r.Wi, (r.i, id) ∈ W
theorem noW_of {i : Nat} (h : ∀ id, (i, id) ∉ W) : noW W i = true := by
  unfold noW
  refine List.all_eq_true.2 fun p hp => ?_
  rw [Bool.not_eq_true', Bool.eq_false_iff]
  intro e
  have e := Nat.eq_of_beq_eq_true e
  obtain ⟨a, b⟩ := p
  simp only at e
  subst e
  exact h b hp
theorem opH_ok {C : Ctx} {self : SelfT} (hC : C.ok P) (hS : SelfOk P self) {nx0 i : Nat} {cr : List (Nat × Nat)} {L Wi : List Nat} {s2 : ASt} (hd : dok o.dst n = true) (hw : o.guard = none ∨ gst ops o (lcl ops T W [] nx0 i cr st o 0) = some true)
    (hr : RecOk T W nx0 ⟨i, cr, L, Wi, st.nx, s2.nx⟩) {lh : List (Nat × AB)} (hlh : ∀ id, (id ∈ L → look .dead lh id = look .dead st.heap id) ∧ (id ∉ L → look .dead lh id = .dead)) (h : opH C self (lregs ops st o) lh st.nx o L = some (s2, Wi)) : Loc P n ops T W [] nx0 i cr o st ((⟨st.regs, onL (L ++ news st.nx s2.nx) (look .dead s2.heap) st.heap, s2.nx⟩ : ASt).put o.dst (dstV s2 o.dst)) ((news st.nx s2.nx).map (fun id => (i, id)) ++ cr) ∧ (∀ id ∈ L, id ∉ Wi → look .dead s2.heap id = look .dead st.heap id) ∧ ∀ id ∈ Wi, id ∈ L := by
  unfold opH at h
  cases h0 : (L.all (fun id => Nat.blt id st.nx && (look .dead lh id).nmd (hasN L)) && (lregs ops st o).all (fun p => p.2.nmd (hasN L))) with
  | false => rw [h0] at h; cases h
  | true =>
    rw [h0] at h
    simp only [cond_true] at h
    rw [Bool.and_eq_true] at h0
    obtain ⟨h1, h2⟩ := h0
    have a1 : ∀ id ∈ L, id < st.nx ∧ (look .dead st.heap id).nmd (hasN L) = true := fun id hid => by
      have := List.all_eq_true.1 h1 id hid
      rw [Bool.and_eq_true] at this
      exact ⟨by simpa using this.1, by rw [← (hlh id).1 hid]; exact this.2⟩
    split at h
    · rename_i t2 hm
      cases h3 : (Nat.ble st.nx t2.nx && (news st.nx t2.nx).all (fun id => pfB (orN (hasN L) st.nx t2.nx) (look .dead t2.heap id)) && t2.heap.all (fun p => orN (hasN L) st.nx t2.nx p.1)
        && L.all (fun id => pfB (orN (hasN L) st.nx t2.nx) (look .dead t2.heap id)) && pf (orN (hasN L) st.nx t2.nx) (dstV t2 o.dst)) with
      | false => rw [h3] at h; cases h
      | true =>
        rw [h3] at h
        simp only [cond_true, Option.some.injEq, Prod.mk.injEq] at h
        obtain ⟨rfl, hWi⟩ := h
        simp only [Bool.and_eq_true] at h3
        obtain ⟨⟨⟨⟨b1, b6⟩, b2⟩, b3⟩, b4⟩ := h3
        have c3 : ∀ id ∈ L, pfB (orN (hasN L) st.nx t2.nx) (look .dead t2.heap id) = true := fun id hid => List.all_eq_true.1 b3 id hid
        have c6 : ∀ id, st.nx ≤ id → id < t2.nx → pfB (orN (hasN L) st.nx t2.nx) (look .dead t2.heap id) = true := fun id g1 g2 => List.all_eq_true.1 b6 id (news_mem.2 ⟨g1, g2⟩)
        have cu : ∀ id ∈ L, id ∉ Wi → look .dead t2.heap id = look .dead st.heap id := fun id hid hn => by
          rw [← hWi] at hn
          have : ¬ ((!abE (look .dead t2.heap id) (look .dead st.heap id)) = true) := fun e => hn (List.mem_filter.2 ⟨hid, by rw [(hlh id).1 hid]; exact e⟩)
          exact abE_eq (by simpa using this)
        have cw : ∀ id ∈ Wi, id ∈ L := fun id hid => by
          rw [← hWi] at hid
          exact (List.mem_filter.1 hid).1
        refine ⟨.op L lh hw (stepH_Y hC hS hd hm) hd (Nat.le_of_ble_eq_true b1) hr.new (fun id hid => ⟨(a1 id hid).1, hr.vis id hid⟩) (fun id => ?_) (fun id => ?_) (fun t => ?_) b4 (fun id hid => cw id (hr.wr id hid)) (fun id hid => ?_) (fun id _ => .dead _), cu, cw⟩
        · by_cases e : id ∈ L
          · exact .inr ⟨e, (hlh id).1 e, by rw [(hlh id).1 e]; exact (a1 id e).2⟩
          · exact .inl ((hlh id).2 e)
        · by_cases e2 : look .dead t2.heap id = .dead
          · exact .inl e2
          · obtain ⟨q, q1, q2⟩ := look_mem e2
            have := List.all_eq_true.1 b2 q q1
            rw [q2] at this
            rcases orN_iff.1 this with e | e
            · exact .inr ⟨this, c3 id (hasN_mem e)⟩
            · exact .inr ⟨this, c6 id e.1 e.2⟩
        · have key : ∀ (rg : List (Nat × AV)), (rg.all fun p => p.2.nmd (hasN L)) = true → (look AV.any rg t).nmd (hasN L) = true := by
            intro rg
            induction rg with
            | nil => intro _; rfl
            | cons c rg ih =>
              obtain ⟨j, v⟩ := c
              intro hh
              rw [List.all_cons, Bool.and_eq_true] at hh
              rw [look_cons]
              split
              · exact hh.1
              · exact ih hh.2
          exact key _ h2
        · by_cases e : id ∈ Wi
          · exact .inl (hr.wr2 id e)
          · exact .inr (cu id hid e)
    · cases h
def runH (C : Ctx) (self : SelfT) (n : Nat) (ops : Array Oper) : Nat → List (Nat × Nat) → List Oper → ASt → Option (List Rec × ASt)
  | _, _, [], st => some ([], st)
  | i, cr, o :: l, st => bif dok o.dst n then (fRs st.regs (o.looksAt ops) fun lr => match wantC ops o ⟨lr, [], 0⟩ with
    | some true => fNs (idsV.go (lr.map (·.2))) fun L1 => match readF C.T ⟨lr, pickN st.heap L1, 0⟩ o.op with
      | some x => fA1 x fun x => fNs (idsV x ++ L1) fun L => nmQ st o.dst x fun s => (match fN i fun i => runH C self n ops (i + 1) cr l s with
          | some (rs, s') => some (⟨i, cr, L, [], st.nx, st.nx⟩ :: rs, s')
          | none => none)
      | none => fNs (clo (look .dead st.heap) 400 L1 []) fun L => pickK st.heap L [] fun lh => match opH C self lr lh st.nx o L with
        | some (s2, Wi) => fNs Wi fun Wi => fN s2.nx fun k2 => fNs (news st.nx k2) fun ns => putK (look .dead s2.heap) (Wi ++ ns) st.heap fun h => nmQ ⟨st.regs, h, k2⟩ o.dst (dstV s2 o.dst) fun s =>
          (match fN i fun i => runH C self n ops (i + 1) (ns.map (fun id => (i, id)) ++ cr) l s with
          | some (rs, s') => some (⟨i, cr, L, Wi, st.nx, k2⟩ :: rs, s')
          | none => none)
        | none => none
    | some false => nmQ st o.dst .und fun s => (match fN i fun i => runH C self n ops (i + 1) cr l s with
          | some (rs, s') => some (⟨i, cr, [], [], st.nx, st.nx⟩ :: rs, s')
          | none => none)
    | none => none) else none
theorem wantC_lcl {ops : Array Oper} {M : List (Nat × AB)} {nx0 i : Nat} {cr : List (Nat × Nat)} {b : Bool} (h : wantC ops o ⟨lregs ops st o, [], 0⟩ = some b) : (b = true → o.guard = none ∨ gst ops o (lcl ops T W M nx0 i cr st o 0) = some true) ∧ (b = false → gst ops o (lcl ops T W M nx0 i cr st o 0) = some false) := by
  cases b with
  | true => exact ⟨fun _ => wantC_yes h, fun h => absurd h (by decide)⟩
  | false => exact ⟨fun h => absurd h (by decide), fun _ => wantC_no h⟩
theorem idsV_nmd {p : Nat → Bool} : ∀ (x : AV), (∀ id ∈ idsV x, p id = true) → x.nmd p = true
  | .box id _, h => by rw [AV.nmd]; exact h id (by rw [idsV]; exact List.mem_singleton.2 rfl)
  | .elt id .., h => by rw [AV.nmd]; exact h id (by rw [idsV]; exact List.mem_singleton.2 rfl)
  | .osl id _, h => by rw [AV.nmd]; exact h id (by rw [idsV]; exact List.mem_singleton.2 rfl)
  | .vsl id .., h => by rw [AV.nmd]; exact h id (by rw [idsV]; exact List.mem_singleton.2 rfl)
  | .agg cs, h => by rw [AV.nmd]; exact go cs (by rw [idsV] at h; exact h)
  | .tup cs, h => by rw [AV.nmd]; exact go cs (by rw [idsV] at h; exact h)
  | .fn _ cs, h => by rw [AV.nmd]; exact go cs (by rw [idsV] at h; exact h)
  | .any, _ => rfl
  | .und, _ => rfl
  | .int .., _ => rfl
  | .bool .., _ => rfl
  | .str .., _ => rfl
  | .nilp, _ => rfl
  | .nils, _ => rfl
  | .nilf, _ => rfl
  | .peek .., _ => rfl
  | .ro .., _ => rfl
where go {p : Nat → Bool} : ∀ (cs : List AV), (∀ id ∈ idsV.go cs, p id = true) → AV.nmd.go p cs = true
  | [], _ => rfl
  | a :: l, h => by
    rw [idsV.go] at h
    rw [AV.nmd.go, idsV_nmd a fun id hid => h id (List.mem_append.2 (.inl hid)), go l fun id hid => h id (List.mem_append.2 (.inr hid))]; rfl
theorem runH_ok {C : Ctx} {self : SelfT} (hC : C.ok P) (hS : SelfOk P self) {nx0 : Nat} {Kt : ASt → Prop} : ∀ (l : List Oper) (i : Nat) (cr : List (Nat × Nat)) (st : ASt) (rs : List Rec) (st' : ASt), runH C self n ops i cr l st = some (rs, st') → (∀ r ∈ rs, RecOk T W nx0 r) → Kt st' → AG P n ops T W [] nx0 Kt i cr l st
  | [], i, cr, st, rs, st', h, _, hk => by
    rw [runH] at h
    injection h with h
    injection h with h1 h2
    subst h2
    exact .nil hk
  | o :: l, i, cr, st, rs, st', h, hrs, hk => by
    rw [runH] at h
    cases hd : dok o.dst n with
    | false => rw [hd] at h; cases h
    | true =>
      rw [hd] at h
      simp only [cond_true] at h
      rw [fRs_eq] at h
      have elr : (o.looksAt ops).map (fun t => (t, look .any st.regs t)) = lregs ops st o := rfl
      rw [elr] at h
      split at h
      · rename_i hw
        rw [fNs_eq] at h
        split at h
        · rename_i x h1
          rw [fA1_eq, fNs_eq] at h
          obtain ⟨s', e1, e2⟩ := nmQ_eq st o.dst x
          rw [e2, fN_eq] at h
          split at h
          · rename_i rs2 s3 h2
            simp only [Option.some.injEq, Prod.mk.injEq] at h
            obtain ⟨rfl, rfl⟩ := h
            have hr := hrs _ (List.mem_cons_self ..)
            refine .step (.read (noW_of fun id hid => by have := hr.wr id hid; simp at this) ((wantC_lcl hw).1 rfl) (fun k => ?_) ?_) (.same e1 (runH_ok hC hS l (i + 1) cr s' rs2 s3 h2 (fun r hr => hrs r (List.mem_cons_of_mem _ hr)) hk))
            · refine OpR.less (st' := ⟨lregs ops st o, pickN st.heap (idsV.go ((lregs ops st o).map (·.2))), k⟩) (readF_ok hC.T (by rw [← h1]; exact readF_nx _ _ _ _ _) hd) ⟨fun d => .refl _, fun d => ?_, rfl⟩
              rw [lcl_heap]
              obtain ⟨p1, p2⟩ := pickN_look st.heap (idsV.go ((lregs ops st o).map (·.2))) d
              by_cases m : d ∈ idsV.go ((lregs ops st o).map (·.2))
              · rw [p1 m, hr.vis d (List.mem_append.2 (.inr m))]; exact .refl _
              · rw [p2 m]; exact .dead _
            · exact idsV_nmd x fun id hid => by
                have := hr.vis id (List.mem_append.2 (.inl hid))
                unfold visW at this
                rw [Bool.and_eq_true] at this
                exact this.1
          · cases h
        · rw [fNs_eq, pickK_eq] at h
          split at h
          · rename_i s2 Wi h1
            rw [fNs_eq, fN_eq, fNs_eq, putK_eq] at h
            have h : nmQ ⟨st.regs, putA (look .dead s2.heap) (Wi ++ news st.nx s2.nx) st.heap, s2.nx⟩ o.dst (dstV s2 o.dst) (fun s => (match fN i fun i => runH C self n ops (i + 1) ((news st.nx s2.nx).map (fun id => (i, id)) ++ cr) l s with
              | some (rs, s') => some (⟨i, cr, clo (look .dead st.heap) 400 (idsV.go ((lregs ops st o).map (·.2))) [], Wi, st.nx, s2.nx⟩ :: rs, s')
              | none => none)) = some (rs, st') := h
            generalize clo (look .dead st.heap) 400 (idsV.go ((lregs ops st o).map (·.2))) [] = L at h h1
            obtain ⟨s', e1, e2⟩ := nmQ_eq ⟨st.regs, putA (look .dead s2.heap) (Wi ++ news st.nx s2.nx) st.heap, s2.nx⟩ o.dst (dstV s2 o.dst)
            rw [e2, fN_eq] at h
            split at h
            · rename_i rs2 s3 h2
              simp only [Option.some.injEq, Prod.mk.injEq] at h
              obtain ⟨rfl, rfl⟩ := h
              have hr := hrs _ (List.mem_cons_self ..)
              obtain ⟨hloc, hu, hwl⟩ := opH_ok (o := o) (ops := ops) hC hS hd ((wantC_lcl hw).1 rfl) hr (fun id => pickA_look st.heap L [] id) h1
              refine .step hloc (.same ⟨fun d => ?_, fun d => ?_, ?_⟩ (runH_ok hC hS l (i + 1) _ s' rs2 s3 h2 (fun r hr => hrs r (List.mem_cons_of_mem _ hr)) hk))
              · rw [← e1.regs d]
                cases o.dst <;> rfl
              · rw [← e1.heap d, put_heap', put_heap']
                show look .dead (onL (L ++ news st.nx s2.nx) (look .dead s2.heap) st.heap) d = look .dead (putA (look .dead s2.heap) (Wi ++ news st.nx s2.nx) st.heap) d
                obtain ⟨p1, p2⟩ := putA_look (look .dead s2.heap) (Wi ++ news st.nx s2.nx) st.heap d
                by_cases m1 : d ∈ L ++ news st.nx s2.nx
                · rw [onL_in m1]
                  by_cases m2 : d ∈ Wi ++ news st.nx s2.nx
                  · rw [p1 m2]
                  · rw [p2 m2]
                    rcases List.mem_append.1 m1 with m1 | m1
                    · exact hu d m1 fun h => m2 (List.mem_append.2 (.inl h))
                    · exact absurd (List.mem_append.2 (.inr m1)) m2
                · rw [onL_out m1, p2 fun m2 => m1 ?_]
                  rcases List.mem_append.1 m2 with m2 | m2
                  · exact List.mem_append.2 (.inl (hwl d m2))
                  · exact List.mem_append.2 (.inr m2)
              · rw [← e1.nx, put_nx, put_nx]
            · cases h
          · cases h
      · rename_i hw
        obtain ⟨s', e1, e2⟩ := nmQ_eq st o.dst .und
        rw [e2, fN_eq] at h
        split at h
        · rename_i rs2 s3 h2
          simp only [Option.some.injEq, Prod.mk.injEq] at h
          obtain ⟨rfl, rfl⟩ := h
          have hr := hrs _ (List.mem_cons_self ..)
          exact .step (.skip (noW_of fun id hid => by have := hr.wr id hid; simp at this) ((wantC_lcl hw).2 rfl) hd) (.same e1 (runH_ok hC hS l (i + 1) cr s' rs2 s3 h2 (fun r hr => hrs r (List.mem_cons_of_mem _ hr)) hk))
        · cases h
      · cases h
def wrOf (rs : List Rec) : List (Nat × Nat) := rs.flatMap fun r => r.Wi.map fun id => (r.i, id)
def recB (T : List (List Nat)) (W : List (Nat × Nat)) (nx0 : Nat) (r : Rec) : Bool :=
  r.L.all (fun id => visW T W nx0 r.i r.cr id) && (news r.k r.k2).all (fun id => newW T W r.i id) && W.all (fun p => bif Nat.beq p.1 r.i then hasN r.Wi p.2 else true)
theorem recB_ok {nx0 : Nat} {rs : List Rec} {r : Rec} (hm : r ∈ rs) (h : recB T (wrOf rs) nx0 r = true) : RecOk T (wrOf rs) nx0 r := by
  unfold recB at h
  simp only [Bool.and_eq_true] at h
  obtain ⟨⟨h1, h2⟩, h3⟩ := h
  refine ⟨fun id hid => List.all_eq_true.1 h1 id hid, fun id g1 g2 => List.all_eq_true.1 h2 id (news_mem.2 ⟨g1, g2⟩), fun id hid => ?_, fun id hid => ?_⟩
  · have := List.all_eq_true.1 h3 _ hid
    simp only [Nat.beq_refl, cond_true] at this
    exact hasN_mem this
  · unfold wrOf
    exact List.mem_flatMap.2 ⟨r, hm, List.mem_map.2 ⟨id, hid, rfl⟩⟩
def fPs {α : Type} : List (Nat × Nat) → (List (Nat × Nat) → α) → α
  | [], k => k []
  | (a, b) :: l, k => fN a fun a => fN b fun b => fPs l fun l => k ((a, b) :: l)
theorem fPs_eq {α : Type} (l : List (Nat × Nat)) : ∀ (k : List (Nat × Nat) → α), fPs l k = k l := by
  induction l with
  | nil => intro k; rfl
  | cons p l ih => intro k; obtain ⟨a, b⟩ := p; rw [fPs, fN_eq, fN_eq, ih]
/-- where the operations begin that lie wholly behind all before them -/
def tailM (T : List (List Nat)) : Nat → Nat
  | 0 => 0
  | i + 1 => bif (List.range i).all fun j => hasN (T.getD i []) j then tailM T i else i + 1
def runE (C : Ctx) (self : SelfT) (n : Nat) (l : List Oper) (T : List (List Nat)) (st : ASt) : Option ASt := match runH C self n ⟨l⟩ 0 [] (l.take (tailM T l.length)) st with
  | some (rs, s) => fPs (wrOf rs) fun W => bif rs.all (recB T W st.nx) then runF C self n ⟨l⟩ (l.drop (tailM T l.length)) s else none
  | none => none
theorem runE_ok {C : Ctx} {self : SelfT} {id : Nat} (hC : C.ok P) (hS : SelfOk P self) (hp : planR l (ancs l []) = true) (ht : tailR l (ancs l []) (tailM (ancs l []) l.length) = true) (h : runE C self n l (ancs l []) st = some st') : AW P n (.region id ⟨l⟩ true) (fun e s => e = .normal ∧ s = st') st := by
  unfold runE at h
  split at h
  · rename_i rs s h1
    rw [fPs_eq] at h
    cases hb : rs.all (recB (ancs l []) (wrOf rs) st.nx) with
    | false => rw [hb] at h; cases h
    | true =>
      rw [hb] at h
      simp only [cond_true] at h
      exact AW.drawR (wrOf rs) [] (tailM (ancs l []) l.length) hC.mixed rfl hp ht (fun _ _ => rfl) (fun _ => .dead _) (runH_ok hC hS _ 0 [] st rs s h1 (fun r hr => recB_ok hr (List.all_eq_true.1 hb r hr)) (runF_ok hC hS _ s _ h ⟨rfl, rfl⟩))
  · cases h
end
end Go.Proofs.Ytjhdjjoacedlpaa.Rn
/- As RnO, without the second way for regions that draw. No program in sight. -/
namespace Go.Proofs.Ytjhdjjoacedlpaa.Rn
open Go Go.RowKit Go.Proofs.Ytjhdjjoacedlpaa Go.Proofs.Ytjhdjjoacedlpaa.Dr

section
variable {P : Program} {n : Nat} {st st' : ASt} {o : Oper} {x : AV} {Q : Exit → ASt → Prop} {ops : Array Oper} {l : List Oper}
/-- a region that draws -/
def runD (C : Ctx) (self : SelfT) (n : Nat) (l : List Oper) (T : List (List Nat)) (st : ASt) : Option ASt := bif planR l T && tailR l T (tailM T l.length) then runE C self n l T st else none
theorem runD_ok {C : Ctx} {self : SelfT} {id : Nat} (hC : C.ok P) (hS : SelfOk P self) (h : runD C self n l (ancs l []) st = some st') : AW P n (.region id ⟨l⟩ true) (fun e s => e = .normal ∧ s = st') st := by
  unfold runD at h
  cases hp : (planR l (ancs l []) && tailR l (ancs l []) (tailM (ancs l []) l.length)) with
  | false => rw [hp] at h; cases h
  | true =>
    rw [hp] at h
    rw [Bool.and_eq_true] at hp
    exact runE_ok hC hS hp.1 hp.2 h
def runC (C : Ctx) (self : SelfT) (fl n : Nat) : Code → ASt → Option (Exit × ASt)
  | .skip, st => some (.normal, st)
  | .label _, st => some (.normal, st)
  | .exit id, st => some (.exit id, st)
  | .ret, st => some (.ret, st)
  | .seq a b, st => match runC C self fl n a st with
    | some (.normal, st') => runC C self fl n b st'
    | r => r
  | .cond c a b, st => match st.ev c with
    | .bool true => runC C self fl n a st
    | .bool false => runC C self fl n b st
    | _ => none
  | .block id c, st => match runC C self fl n c st with
    | some (.exit id', st') => bif Nat.beq id' id then some (.normal, st') else some (.exit id', st')
    | r => r
  | .loop c, st => loopN (runC C self fl n c) fl st
  | .region _ ⟨l⟩ false, st => match runF C self n ⟨l⟩ l st with
    | some st' => some (.normal, st')
    | none => none
  | .region _ ⟨l⟩ true, st => match runD C self n l (ancs l []) st with
    | some st' => some (.normal, st')
    | none => none
  | .rangeFunc .., _ => none
  | .scope c, st => match runC C self fl n c st with
    | some (.goto _, _) => none
    | r => r
  | .goto _, _ => none
  | .refuse _, _ => none
theorem runC_ok {C : Ctx} {self : SelfT} {fl : Nat} (hC : C.ok P) (hS : SelfOk P self) : ∀ (c : Code) (st : ASt) (e : Exit) (st' : ASt), runC C self fl n c st = some (e, st') → AW P n c (fun e1 s => e1 = e ∧ s = st') st := by
  intro c
  induction c with
  | skip => intro st e st' h; rw [runC] at h; injection h with h; injection h with h1 h2; exact AW.skip ⟨h1, h2⟩
  | label l => intro st e st' h; rw [runC] at h; injection h with h; injection h with h1 h2; exact AW.label ⟨h1, h2⟩
  | exit id => intro st e st' h; rw [runC] at h; injection h with h; injection h with h1 h2; exact AW.exit ⟨h1, h2⟩
  | ret => intro st e st' h; rw [runC] at h; injection h with h; injection h with h1 h2; exact AW.ret ⟨h1, h2⟩
  | seq a b iha ihb =>
    intro st e st' h
    rw [runC] at h
    cases h1 : runC C self fl n a st with
    | none => rw [h1] at h; cases h
    | some p =>
      obtain ⟨e0, s0⟩ := p
      rw [h1] at h
      refine AW.seq ((iha st e0 s0 h1).mono ?_)
      rintro e1 s ⟨rfl, rfl⟩
      cases e1 with
      | normal => exact ihb _ _ _ h
      | _ =>
        injection h with h
        injection h with h2 h3
        exact ⟨h2, h3⟩
  | cond c a b iha ihb =>
    intro st e st' h
    rw [runC] at h
    split at h
    · rename_i h1
      exact AW.condT h1 (iha _ _ _ h)
    · rename_i h1
      exact AW.condF h1 (ihb _ _ _ h)
    · cases h
  | block id c ih =>
    intro st e st' h
    rw [runC] at h
    cases h1 : runC C self fl n c st with
    | none => rw [h1] at h; cases h
    | some p =>
      obtain ⟨e0, s0⟩ := p
      rw [h1] at h
      refine AW.block ((ih st e0 s0 h1).mono ?_)
      rintro e1 s ⟨rfl, rfl⟩
      cases e1 with
      | exit id' =>
        simp only at h
        cases hb : Nat.beq id' id with
        | true =>
          rw [hb] at h
          have := Nat.eq_of_beq_eq_true hb
          subst this
          simp only [cond_true] at h
          injection h with h
          injection h with h2 h3
          exact inA_eq ⟨h2, h3⟩
        | false =>
          rw [hb] at h
          simp only [cond_false] at h
          injection h with h
          injection h with h2 h3
          exact inA_ne hb ⟨h2, h3⟩
      | _ =>
        injection h with h
        injection h with h2 h3
        exact ⟨h2, h3⟩
  | loop c ih =>
    intro st e st' h
    rw [runC] at h
    exact loopN_ok ih h
  | region id ops d =>
    intro st e st' h
    obtain ⟨l⟩ := ops
    cases d with
    | false =>
      rw [runC] at h
      cases h1 : runF C self n ⟨l⟩ l st with
      | none => rw [h1] at h; cases h
      | some s =>
        rw [h1] at h
        injection h with h
        injection h with h2 h3
        exact AW.region (runF_ok hC hS l st s h1 ⟨h2, h3⟩)
    | true =>
      rw [runC] at h
      cases h1 : runD C self n l (ancs l []) st with
      | none => rw [h1] at h; cases h
      | some s =>
        rw [h1] at h
        injection h with h
        injection h with h2 h3
        subst h3
        subst h2
        exact runD_ok hC hS h1
  | rangeFunc f ps a b => intro st e st' h; rw [runC] at h; cases h
  | scope c ih =>
    intro st e st' h
    rw [runC] at h
    cases h1 : runC C self fl n c st with
    | none => rw [h1] at h; cases h
    | some p =>
      obtain ⟨e0, s0⟩ := p
      rw [h1] at h
      refine AW.scope ((ih st e0 s0 h1).mono ?_)
      rintro e1 s ⟨rfl, rfl⟩
      cases e1 with
      | goto l => cases h
      | _ =>
        injection h with h
        injection h with h2 h3
        exact ⟨rfl, h2, h3⟩
  | goto l => intro st e st' h; rw [runC] at h; cases h
  | refuse w => intro st e st' h; rw [runC] at h; cases h

theorem out_ok {C : Ctx} {self : SelfT} (hC : C.ok P) (hS : SelfOk P self) {fl F : Nat} {fn : Func} {c : Code} {xs : List AV} {hp hp' : List (Nat × AB)} {nx nx' : Nat} {x : AV} (h1 : lk C.fns F = some fn) (h2 : fn.body = some c) (hb : Nat.ble xs.length fn.ntmps = true)
    (h : outC C fn.results.toList (runC C self fl fn.ntmps c ⟨argR 0 xs, hp, nx⟩) = some (x, hp', nx')) : AC P F xs hp nx (fun y h' n' => y = x ∧ h' = hp' ∧ n' = nx') := by
  cases hr : runC C self fl fn.ntmps c ⟨argR 0 xs, hp, nx⟩ with
  | none => rw [hr] at h; cases h
  | some p =>
    obtain ⟨e, st⟩ := p
    rw [hr] at h
    have hw := runC_ok hC hS c _ _ _ hr
    have key : ∀ ys, resC C st fn.results.toList = some ys → oneOf ys = x → st.heap = hp' → st.nx = nx' → e = .ret ∨ e = .normal → AC P F xs hp nx (fun x1 hp1 nx1 => x1 = x ∧ hp1 = hp' ∧ nx1 = nx') := by
      intro ys h3 h4 h5 h6 he
      refine AC.body (allP_at hC.fns h1) h2 rfl rfl hb (hw.mono ?_)
      rintro e1 s ⟨rfl, rfl⟩
      exact ⟨he, ys, resC_ok hC h3, h4, h5, h6⟩
    cases e with
    | ret =>
      simp only [outC] at h
      split at h
      · rename_i ys h3
        injection h with h
        simp only [Prod.mk.injEq] at h
        exact key ys h3 h.1 h.2.1 h.2.2 (.inl rfl)
      · cases h
    | normal =>
      simp only [outC] at h
      split at h
      · rename_i ys h3
        injection h with h
        simp only [Prod.mk.injEq] at h
        exact key ys h3 h.1 h.2.1 h.2.2 (.inr rfl)
      · cases h
    | _ => cases h
def run (C : Ctx) (fl : Nat) : Nat → Nat → List AV → List (Nat × AB) → Nat → Option (AV × List (Nat × AB) × Nat)
  | 0, _, _, _, _ => none
  | f + 1, F, xs, hp, nx => match lk C.fns F with
    | some fn => match fn.body with
      | some c => bif Nat.ble xs.length fn.ntmps then (match fL1 xs fun xs => outC C fn.results.toList (runC C (run C fl f) fl fn.ntmps c ⟨argR 0 xs, hp, nx⟩) with
        | some (x, hp2, nx2) => gcK hp2 nx x fun hp3 => some (x, hp3, nx2)
        | none => none) else none
      | none => none
    | none => none
theorem run_ok {C : Ctx} (hC : C.ok P) (fl : Nat) : ∀ f, SelfOk P (run C fl f)
  | 0 => fun F xs hp nx x hp' nx' h => by cases h
  | f + 1 => fun F xs hp nx x hp' nx' h => by
    rw [run] at h
    split at h
    · rename_i fn h1
      split at h
      · rename_i c h2
        cases hb : Nat.ble xs.length fn.ntmps with
        | false => rw [hb] at h; cases h
        | true =>
          rw [hb] at h
          simp only [cond_true] at h
          split at h
          · rename_i x2 hp2 nx2 h0
            obtain ⟨hp3, g1, g2⟩ := gcK_eq hp2 nx x2
            rw [g2] at h
            simp only [Option.some.injEq, Prod.mk.injEq] at h
            obtain ⟨rfl, rfl, rfl⟩ := h
            refine AC.lesH (hp1 := hp2) ?_ g1
            rw [fL1_eq] at h0
            exact out_ok hC (run_ok hC fl f) h1 h2 hb h0
          · cases h
      · cases h
    · cases h
/-- a closed call -/
def okRun (C : Ctx) (fl f : Nat) (F : Nat) (xs : List AV) : Option AV := match run C fl f F xs [] 0 with
  | some (y, hp, _) => frzRC hp 8 y
  | none => none
theorem AF.run {C : Ctx} (hC : C.ok P) (fl f : Nat) {F : Nat} {xs : List AV} {y : AV} (h : okRun C fl f F xs = some y) : AF P F xs y := by
  unfold okRun at h
  split at h
  · rename_i x hp nx h1
    exact AF.of_AC ((run_ok hC fl f _ _ _ _ _ _ _ h1).mono (by rintro x1 hp1 nx1 ⟨rfl, rfl, rfl⟩; exact frzRC_ok 8 _ _ h))
  · cases h
end
end Go.Proofs.Ytjhdjjoacedlpaa.Rn
/- devicelinkWorks, by a run with short tables. -/
set_option maxRecDepth 1000000
namespace Go.Proofs.Ytjhdjjoacedlpaa
open Go Go.RowKit
def devicelinkWorks_tab : Tab := {
  und := [(3, Go.TypeDesc.int (Go.IntKind.i64)),
    (24, Go.TypeDesc.slice 3),
    (187, Go.TypeDesc.array 4 3),
    (26, Go.TypeDesc.struct #[{ name := "In", type := 3, offset := 0, embedded := false, tag := "", pkgPath := "", byteOffset := 0 }, { name := "Out", type := 3, offset := 1, embedded := false, tag := "", pkgPath := "", byteOffset := 8 }, { name := "Size", type := 3, offset := 2, embedded := false, tag := "", pkgPath := "", byteOffset := 16 }, { name := "Values", type := 24, offset := 3, embedded := false, tag := "", pkgPath := "", byteOffset := 24 }]),
    (185, Go.TypeDesc.array 3 3),
    (9, Go.TypeDesc.string),
    (122, Go.TypeDesc.pointer 26),
    (200, Go.TypeDesc.struct #[{ name := "p", type := 120, offset := 0, embedded := false, tag := "", pkgPath := "printworks/inverse", byteOffset := 0 }, { name := "ask", type := 136, offset := 1, embedded := false, tag := "", pkgPath := "printworks/inverse", byteOffset := 8 }, { name := "best", type := 24, offset := 2, embedded := false, tag := "", pkgPath := "printworks/inverse", byteOffset := 16 }, { name := "far", type := 3, offset := 3, embedded := false, tag := "", pkgPath := "printworks/inverse", byteOffset := 40 }, { name := "low", type := 24, offset := 4, embedded := false, tag := "", pkgPath := "printworks/inverse", byteOffset := 48 }, { name := "high", type := 24, offset := 5, embedded := false, tag := "", pkgPath := "printworks/inverse", byteOffset := 72 }, { name := "from", type := 24, offset := 6, embedded := false, tag := "", pkgPath := "printworks/inverse", byteOffset := 96 }, { name := "to", type := 24, offset := 7, embedded := false, tag := "", pkgPath := "printworks/inverse", byteOffset := 120 }]),
    (143, Go.TypeDesc.struct #[{ name := "X", type := 3, offset := 0, embedded := false, tag := "", pkgPath := "", byteOffset := 0 }, { name := "Y", type := 3, offset := 1, embedded := false, tag := "", pkgPath := "", byteOffset := 8 }]),
    (186, Go.TypeDesc.array 4 185),
    (22, Go.TypeDesc.slice 9),
    (30, Go.TypeDesc.struct #[{ name := "L", type := 3, offset := 0, embedded := false, tag := "", pkgPath := "", byteOffset := 0 }, { name := "A", type := 3, offset := 1, embedded := false, tag := "", pkgPath := "", byteOffset := 8 }, { name := "B", type := 3, offset := 2, embedded := false, tag := "", pkgPath := "", byteOffset := 16 }]),
    (49, Go.TypeDesc.struct #[{ name := "Target", type := 30, offset := 0, embedded := false, tag := "", pkgPath := "", byteOffset := 0 }, { name := "Step", type := 3, offset := 3, embedded := false, tag := "", pkgPath := "", byteOffset := 24 }, { name := "Total", type := 3, offset := 4, embedded := false, tag := "", pkgPath := "", byteOffset := 32 }, { name := "Low", type := 24, offset := 5, embedded := false, tag := "", pkgPath := "", byteOffset := 40 }, { name := "High", type := 24, offset := 6, embedded := false, tag := "", pkgPath := "", byteOffset := 64 }]),
    (73, Go.TypeDesc.struct #[{ name := "Points", type := 71, offset := 0, embedded := false, tag := "", pkgPath := "", byteOffset := 0 }]),
    (32, Go.TypeDesc.int (Go.IntKind.i64)),
    (5, Go.TypeDesc.int (Go.IntKind.u8)),
    (71, Go.TypeDesc.slice 143),
    (120, Go.TypeDesc.pointer 28),
    (136, Go.TypeDesc.pointer 49),
    (28, Go.TypeDesc.struct #[{ name := "Name", type := 9, offset := 0, embedded := false, tag := "", pkgPath := "", byteOffset := 0 }, { name := "Inks", type := 22, offset := 1, embedded := false, tag := "", pkgPath := "", byteOffset := 16 }, { name := "Curves", type := 23, offset := 2, embedded := false, tag := "", pkgPath := "", byteOffset := 40 }, { name := "Table", type := 26, offset := 3, embedded := false, tag := "", pkgPath := "", byteOffset := 64 }]),
    (4, Go.TypeDesc.bool),
    (109, Go.TypeDesc.struct #[{ name := "Size", type := 3, offset := 0, embedded := false, tag := "", pkgPath := "", byteOffset := 0 }, { name := "Step", type := 3, offset := 1, embedded := false, tag := "", pkgPath := "", byteOffset := 8 }, { name := "Total", type := 3, offset := 2, embedded := false, tag := "", pkgPath := "", byteOffset := 16 }, { name := "Map", type := 4, offset := 3, embedded := false, tag := "", pkgPath := "", byteOffset := 24 }, { name := "Anchor", type := 30, offset := 4, embedded := false, tag := "", pkgPath := "", byteOffset := 32 }]),
    (213, Go.TypeDesc.func #[3, 3] #[4] false),
    (23, Go.TypeDesc.slice 73),
    (191, Go.TypeDesc.func #[186, 3] #[4] false),
    (41, Go.TypeDesc.array 3 3),
    (198, Go.TypeDesc.pointer 200),
    (179, Go.TypeDesc.pointer 109),
    (212, Go.TypeDesc.func #[24] #[4] false),
    (182, Go.TypeDesc.func #[24] #[24, 32] false)],
  inf := [(3, (some (.int .i64 0), 1, 8)),
    (24, (some (.slice none 0 0), 1, 24)),
    (187, (some (.agg #[.int .i64 0, .int .i64 0, .int .i64 0, .int .i64 0]), 4, 32)),
    (26, (some (.agg #[.int .i64 0, .int .i64 0, .int .i64 0, .slice none 0 0]), 4, 48)),
    (185, (some (.agg #[.int .i64 0, .int .i64 0, .int .i64 0]), 3, 24)),
    (9, (some (.string ByteArray.empty), 1, 16)),
    (122, (some (.pointer none), 1, 8)),
    (200, (some (.agg #[.pointer none, .pointer none, .slice none 0 0, .int .i64 0, .slice none 0 0, .slice none 0 0, .slice none 0 0, .slice none 0 0]), 8, 144)),
    (143, (some (.agg #[.int .i64 0, .int .i64 0]), 2, 16)),
    (186, (some (.agg #[.int .i64 0, .int .i64 0, .int .i64 0, .int .i64 0, .int .i64 0, .int .i64 0, .int .i64 0, .int .i64 0, .int .i64 0, .int .i64 0, .int .i64 0, .int .i64 0]), 12, 96)),
    (22, (some (.slice none 0 0), 1, 24)),
    (30, (some (.agg #[.int .i64 0, .int .i64 0, .int .i64 0]), 3, 24)),
    (49, (some (.agg #[.int .i64 0, .int .i64 0, .int .i64 0, .int .i64 0, .int .i64 0, .slice none 0 0, .slice none 0 0]), 7, 88)),
    (73, (some (.agg #[.slice none 0 0]), 1, 24)),
    (32, (some (.int .i64 0), 1, 8)),
    (5, (some (.int .u8 0), 1, 1)),
    (71, (some (.slice none 0 0), 1, 24)),
    (120, (some (.pointer none), 1, 8)),
    (136, (some (.pointer none), 1, 8)),
    (28, (some (.agg #[.string ByteArray.empty, .slice none 0 0, .slice none 0 0, .int .i64 0, .int .i64 0, .int .i64 0, .slice none 0 0]), 7, 112)),
    (4, (some (.bool false), 1, 1)),
    (109, (some (.agg #[.int .i64 0, .int .i64 0, .int .i64 0, .bool false, .int .i64 0, .int .i64 0, .int .i64 0]), 7, 56)),
    (213, (some (.nilFunc), 1, 8)),
    (23, (some (.slice none 0 0), 1, 24)),
    (191, (some (.nilFunc), 1, 8)),
    (41, (some (.agg #[.int .i64 0, .int .i64 0, .int .i64 0]), 3, 24)),
    (198, (some (.pointer none), 1, 8)),
    (179, (some (.pointer none), 1, 8)),
    (212, (some (.nilFunc), 1, 8)),
    (182, (some (.nilFunc), 1, 8))],
  fld := [(26, [(0, (1, false)), (1, (1, false)), (2, (1, false)), (3, (1, false))]),
    (200, [(0, (1, false)), (1, (1, false)), (2, (1, false)), (3, (1, false)), (4, (1, false)), (5, (1, false)), (6, (1, false)), (7, (1, false))]),
    (143, [(0, (1, false)), (1, (1, false))]),
    (30, [(0, (1, false)), (1, (1, false)), (2, (1, false))]),
    (49, [(0, (3, true)), (3, (1, false)), (4, (1, false)), (5, (1, false)), (6, (1, false))]),
    (73, [(0, (1, false))]),
    (28, [(0, (1, false)), (1, (1, false)), (2, (1, false)), (3, (4, true))]),
    (109, [(0, (1, false)), (1, (1, false)), (2, (1, false)), (3, (1, false)), (4, (3, true))])],
  eqs := [(143, 2), (30, 3)] }
theorem devicelinkWorks_tab_ok : devicelinkWorks_tab.ok Try.prog := ⟨⟨Try.underlying3, ⟨Try.underlying24, ⟨Try.underlying187, ⟨Try.underlying26, ⟨Try.underlying185, ⟨Try.underlying9, ⟨Try.underlying122, ⟨Try.underlying200, ⟨Try.underlying143, ⟨Try.underlying186, ⟨Try.underlying22, ⟨Try.underlying30, ⟨Try.underlying49, ⟨Try.underlying73, ⟨Try.underlying32, ⟨Try.underlying5, ⟨Try.underlying71, ⟨Try.underlying120, ⟨Try.underlying136, ⟨Try.underlying28, ⟨Try.underlying4, ⟨Try.underlying109, ⟨Try.underlying213, ⟨Try.underlying23, ⟨Try.underlying191, ⟨Try.underlying41, ⟨Try.underlying198, ⟨Try.underlying179, ⟨Try.underlying212, ⟨Try.underlying182, trivial⟩⟩⟩⟩⟩⟩⟩⟩⟩⟩⟩⟩⟩⟩⟩⟩⟩⟩⟩⟩⟩⟩⟩⟩⟩⟩⟩⟩⟩⟩,
  ⟨ty_3, ⟨ty_24, ⟨ty_187, ⟨ty_26, ⟨ty_185, ⟨ty_9, ⟨ty_122, ⟨ty_200, ⟨ty_143, ⟨ty_186, ⟨ty_22, ⟨ty_30, ⟨ty_49, ⟨ty_73, ⟨ty_32, ⟨ty_5, ⟨ty_71, ⟨ty_120, ⟨ty_136, ⟨ty_28, ⟨ty_4, ⟨ty_109, ⟨ty_213, ⟨ty_23, ⟨ty_191, ⟨ty_41, ⟨ty_198, ⟨ty_179, ⟨ty_212, ⟨ty_182, trivial⟩⟩⟩⟩⟩⟩⟩⟩⟩⟩⟩⟩⟩⟩⟩⟩⟩⟩⟩⟩⟩⟩⟩⟩⟩⟩⟩⟩⟩⟩,
  ⟨fl_26, ⟨fl_200, ⟨fl_143, ⟨fl_30, ⟨fl_49, ⟨fl_73, ⟨fl_28, ⟨fl_109, trivial⟩⟩⟩⟩⟩⟩⟩⟩,
  ⟨eq_143, ⟨eq_30, trivial⟩⟩⟩
noncomputable def devicelinkWorks_ctx : Ctx := ⟨devicelinkWorks_tab, [(63, Try.f63), (120, Try.f120), (68, Try.f68), (70, Try.f70), (101, Try.f101), (140, Try.f140), (86, Try.f86), (125, Try.f125), (96, Try.f96), (138, Try.f138), (147, Try.f147), (85, Try.f85), (126, Try.f126), (64, Try.f64), (40, Try.f40), (98, Try.f98), (99, Try.f99), (100, Try.f100), (72, Try.f72), (121, Try.f121), (124, Try.f124), (27, Try.f27), (23, Try.f23), (73, Try.f73), (83, Try.f83), (133, Try.f133), (130, Try.f130), (129, Try.f129), (152, Try.f152), (151, Try.f151), (134, Try.f134), (127, Try.f127), (150, Try.f150), (149, Try.f149), (158, Try.f158), (135, Try.f135), (153, Try.f153), (123, Try.f123), (95, Try.f95), (97, Try.f97), (139, Try.f139), (148, Try.f148), (137, Try.f137), (87, Try.f87), (136, Try.f136), (154, Try.f154), (159, Try.f159), (155, Try.f155), (156, Try.f156), (122, Try.f122), (31, Try.f31), (108, Try.f108)], [(63, 0), (120, 0), (68, 0), (70, 0), (101, 0), (140, 0), (86, 0), (125, 0), (96, 0), (138, 0), (147, 0), (85, 0), (126, 0), (64, 0), (40, 0), (98, 0), (99, 0), (100, 0), (72, 0), (121, 0), (124, 0), (27, 0), (23, 0), (73, 0), (83, 0), (133, 0), (130, 0), (129, 0), (152, 0), (151, 0), (134, 0), (127, 0), (150, 0), (149, 0), (158, 0), (135, 0), (153, 0), (123, 0), (95, 0), (97, 0), (139, 0), (148, 0), (137, 0), (87, 0), (136, 0), (154, 0), (159, 0), (155, 0), (156, 0), (122, 0), (31, 0), (108, 0)]⟩
theorem devicelinkWorks_ctx_ok : devicelinkWorks_ctx.ok Try.prog := ⟨devicelinkWorks_tab_ok, ⟨Try.func63, ⟨Try.func120, ⟨Try.func68, ⟨Try.func70, ⟨Try.func101, ⟨Try.func140, ⟨Try.func86, ⟨Try.func125, ⟨Try.func96, ⟨Try.func138, ⟨Try.func147, ⟨Try.func85, ⟨Try.func126, ⟨Try.func64, ⟨Try.func40, ⟨Try.func98, ⟨Try.func99, ⟨Try.func100, ⟨Try.func72, ⟨Try.func121, ⟨Try.func124, ⟨Try.func27, ⟨Try.func23, ⟨Try.func73, ⟨Try.func83, ⟨Try.func133, ⟨Try.func130, ⟨Try.func129, ⟨Try.func152, ⟨Try.func151, ⟨Try.func134, ⟨Try.func127, ⟨Try.func150, ⟨Try.func149, ⟨Try.func158, ⟨Try.func135, ⟨Try.func153, ⟨Try.func123, ⟨Try.func95, ⟨Try.func97, ⟨Try.func139, ⟨Try.func148, ⟨Try.func137, ⟨Try.func87, ⟨Try.func136, ⟨Try.func154, ⟨Try.func159, ⟨Try.func155, ⟨Try.func156, ⟨Try.func122, ⟨Try.func31, ⟨Try.func108, trivial⟩⟩⟩⟩⟩⟩⟩⟩⟩⟩⟩⟩⟩⟩⟩⟩⟩⟩⟩⟩⟩⟩⟩⟩⟩⟩⟩⟩⟩⟩⟩⟩⟩⟩⟩⟩⟩⟩⟩⟩⟩⟩⟩⟩⟩⟩⟩⟩⟩⟩⟩⟩, ⟨ca_63, ⟨ca_120, ⟨ca_68, ⟨ca_70, ⟨ca_101, ⟨ca_140, ⟨ca_86, ⟨ca_125, ⟨ca_96, ⟨ca_138, ⟨ca_147, ⟨ca_85, ⟨ca_126, ⟨ca_64, ⟨ca_40, ⟨ca_98, ⟨ca_99, ⟨ca_100, ⟨ca_72, ⟨ca_121, ⟨ca_124, ⟨ca_27, ⟨ca_23, ⟨ca_73, ⟨ca_83, ⟨ca_133, ⟨ca_130, ⟨ca_129, ⟨ca_152, ⟨ca_151, ⟨ca_134, ⟨ca_127, ⟨ca_150, ⟨ca_149, ⟨ca_158, ⟨ca_135, ⟨ca_153, ⟨ca_123, ⟨ca_95, ⟨ca_97, ⟨ca_139, ⟨ca_148, ⟨ca_137, ⟨ca_87, ⟨ca_136, ⟨ca_154, ⟨ca_159, ⟨ca_155, ⟨ca_156, ⟨ca_122, ⟨ca_31, ⟨ca_108, trivial⟩⟩⟩⟩⟩⟩⟩⟩⟩⟩⟩⟩⟩⟩⟩⟩⟩⟩⟩⟩⟩⟩⟩⟩⟩⟩⟩⟩⟩⟩⟩⟩⟩⟩⟩⟩⟩⟩⟩⟩⟩⟩⟩⟩⟩⟩⟩⟩⟩⟩⟩⟩, by kernel_rfl⟩
theorem devicelinkWorks_f : AF Try.prog 63 [] (.bool true) := Rn.AF.run devicelinkWorks_ctx_ok 1000 20 (by kernel_rfl)
def law_devicelinkWorks_r (_ : Nat) (_ : Unit) : Option (Bool × Unit) := some (true, ())
def law_devicelinkWorks_ctr : Ctr := ⟨.unit, .pair .bool .unit, law_devicelinkWorks_r, 63⟩
theorem law_devicelinkWorks_ok : CtrOk Try.prog 63 law_devicelinkWorks_ctr := fun _ _ y h => by
  have h : some (true, ()) = some y := h
  injection h with h
  subst h
  exact devicelinkWorks_f
end Go.Proofs.Ytjhdjjoacedlpaa
