/- Facts on the types and functions that the symbolic walks ask for (printed by a program). -/
import Derived.Test.YtedjnjgnadbkaaaZPP4
import Derived.Test.YtedjnjgnadbkaaaProg
/- Facts on the types and functions that the symbolic walks ask for (printed by a program). -/
set_option maxRecDepth 1000000
namespace Go.Proofs.Ytedjnjgnadbkaaa
open Go
def tab : Tab := {
  und := [(0, Go.TypeDesc.tuple #[]),
    (1, Go.TypeDesc.func #[] #[] false),
    (2, Go.TypeDesc.int (Go.IntKind.i64)),
    (3, Go.TypeDesc.int (Go.IntKind.i64)),
    (4, Go.TypeDesc.bool),
    (5, Go.TypeDesc.int (Go.IntKind.u8)),
    (6, Go.TypeDesc.int (Go.IntKind.u8)),
    (7, Go.TypeDesc.struct #[{ name := "x", type := 2, offset := 0, embedded := false, tag := "", pkgPath := "runtime", byteOffset := 0 }, { name := "y", type := 3, offset := 1, embedded := false, tag := "", pkgPath := "runtime", byteOffset := 8 }, { name := "signed", type := 4, offset := 2, embedded := false, tag := "", pkgPath := "runtime", byteOffset := 16 }, { name := "code", type := 6, offset := 3, embedded := false, tag := "", pkgPath := "runtime", byteOffset := 17 }]),
    (8, Go.TypeDesc.struct #[{ name := "x", type := 2, offset := 0, embedded := false, tag := "", pkgPath := "runtime", byteOffset := 0 }, { name := "y", type := 3, offset := 1, embedded := false, tag := "", pkgPath := "runtime", byteOffset := 8 }, { name := "signed", type := 4, offset := 2, embedded := false, tag := "", pkgPath := "runtime", byteOffset := 16 }, { name := "code", type := 6, offset := 3, embedded := false, tag := "", pkgPath := "runtime", byteOffset := 17 }]),
    (9, Go.TypeDesc.string),
    (10, Go.TypeDesc.string),
    (11, Go.TypeDesc.string),
    (12, Go.TypeDesc.int (Go.IntKind.u64)),
    (13, Go.TypeDesc.struct #[{ name := "msg", type := 9, offset := 0, embedded := false, tag := "", pkgPath := "runtime", byteOffset := 0 }, { name := "addr", type := 12, offset := 1, embedded := false, tag := "", pkgPath := "runtime", byteOffset := 16 }]),
    (14, Go.TypeDesc.struct #[{ name := "msg", type := 9, offset := 0, embedded := false, tag := "", pkgPath := "runtime", byteOffset := 0 }, { name := "addr", type := 12, offset := 1, embedded := false, tag := "", pkgPath := "runtime", byteOffset := 16 }]),
    (15, Go.TypeDesc.pointer 196),
    (16, Go.TypeDesc.pointer 199),
    (17, Go.TypeDesc.pointer 208),
    (18, Go.TypeDesc.struct #[{ name := "typ", type := 17, offset := 0, embedded := false, tag := "", pkgPath := "internal/runtime/maps", byteOffset := 0 }]),
    (19, Go.TypeDesc.struct #[{ name := "typ", type := 17, offset := 0, embedded := false, tag := "", pkgPath := "internal/runtime/maps", byteOffset := 0 }]),
    (20, Go.TypeDesc.interface #[]),
    (21, Go.TypeDesc.int (Go.IntKind.i32)),
    (22, Go.TypeDesc.func #[] #[4] false),
    (23, Go.TypeDesc.int (Go.IntKind.i64)),
    (24, Go.TypeDesc.tuple #[5, 23]),
    (25, Go.TypeDesc.func #[5] #[5, 23] false),
    (26, Go.TypeDesc.func #[5, 5] #[5] false),
    (27, Go.TypeDesc.func #[5, 5] #[4] false),
    (28, Go.TypeDesc.slice 5),
    (29, Go.TypeDesc.slice 3),
    (30, Go.TypeDesc.func #[3, 3] #[3] false),
    (31, Go.TypeDesc.tuple #[28, 3, 23]),
    (32, Go.TypeDesc.func #[28, 3, 29] #[28, 3, 23] false),
    (33, Go.TypeDesc.func #[3, 3, 3] #[4] false),
    (34, Go.TypeDesc.func #[4, 23, 23] #[4] false),
    (35, Go.TypeDesc.tuple #[28, 4]),
    (36, Go.TypeDesc.func #[28, 3, 29, 3] #[28, 4] false),
    (37, Go.TypeDesc.func #[28, 28] #[4] false),
    (38, Go.TypeDesc.func #[28, 3, 29] #[4] false),
    (39, Go.TypeDesc.tuple #[28, 23]),
    (40, Go.TypeDesc.func #[28, 3] #[28, 23] false),
    (41, Go.TypeDesc.tuple #[4, 23]),
    (42, Go.TypeDesc.func #[28, 3] #[4, 23] false),
    (43, Go.TypeDesc.func #[28, 3] #[28] false),
    (44, Go.TypeDesc.func #[28, 3] #[4] false),
    (45, Go.TypeDesc.tuple #[9, 23]),
    (46, Go.TypeDesc.func #[29] #[9, 23] false),
    (47, Go.TypeDesc.func #[29] #[4] false),
    (48, Go.TypeDesc.tuple #[29, 23]),
    (49, Go.TypeDesc.func #[3] #[29, 23] false),
    (50, Go.TypeDesc.func #[29, 29] #[4] false),
    (51, Go.TypeDesc.slice 29),
    (52, Go.TypeDesc.func #[] #[51] false),
    (53, Go.TypeDesc.func #[9] #[29, 23] false),
    (54, Go.TypeDesc.struct #[{ name := "W", type := 3, offset := 0, embedded := false, tag := "", pkgPath := "", byteOffset := 0 }, { name := "H", type := 3, offset := 1, embedded := false, tag := "", pkgPath := "", byteOffset := 8 }, { name := "Data", type := 28, offset := 2, embedded := false, tag := "", pkgPath := "", byteOffset := 16 }]),
    (55, Go.TypeDesc.struct #[{ name := "W", type := 3, offset := 0, embedded := false, tag := "", pkgPath := "", byteOffset := 0 }, { name := "H", type := 3, offset := 1, embedded := false, tag := "", pkgPath := "", byteOffset := 8 }, { name := "Data", type := 28, offset := 2, embedded := false, tag := "", pkgPath := "", byteOffset := 16 }]),
    (56, Go.TypeDesc.tuple #[55, 23]),
    (57, Go.TypeDesc.func #[9, 3, 3] #[55, 23] false),
    (58, Go.TypeDesc.func #[55, 23, 23] #[4] false),
    (59, Go.TypeDesc.func #[29] #[29] false),
    (60, Go.TypeDesc.func #[9] #[29] false),
    (61, Go.TypeDesc.func #[29] #[3] false),
    (62, Go.TypeDesc.slice 4),
    (63, Go.TypeDesc.func #[55, 55] #[4] false),
    (64, Go.TypeDesc.func #[3, 3, 62] #[55] false),
    (65, Go.TypeDesc.func #[9, 3, 3, 3] #[4] false),
    (66, Go.TypeDesc.func #[3, 29, 29] #[28, 23] false),
    (67, Go.TypeDesc.func #[3, 29, 29] #[23] false),
    (68, Go.TypeDesc.func #[3, 29, 29] #[28] false),
    (69, Go.TypeDesc.func #[3, 29, 29] #[4] false),
    (70, Go.TypeDesc.struct #[{ name := "Zones", type := 3, offset := 0, embedded := false, tag := "", pkgPath := "", byteOffset := 0 }, { name := "MakeReady", type := 3, offset := 1, embedded := false, tag := "", pkgPath := "", byteOffset := 8 }, { name := "Register", type := 3, offset := 2, embedded := false, tag := "", pkgPath := "", byteOffset := 16 }, { name := "Tolerance", type := 3, offset := 3, embedded := false, tag := "", pkgPath := "", byteOffset := 24 }, { name := "Target", type := 29, offset := 4, embedded := false, tag := "", pkgPath := "", byteOffset := 32 }, { name := "Keys", type := 51, offset := 5, embedded := false, tag := "", pkgPath := "", byteOffset := 56 }, { name := "Load", type := 51, offset := 6, embedded := false, tag := "", pkgPath := "", byteOffset := 80 }]),
    (71, Go.TypeDesc.struct #[{ name := "Zones", type := 3, offset := 0, embedded := false, tag := "", pkgPath := "", byteOffset := 0 }, { name := "MakeReady", type := 3, offset := 1, embedded := false, tag := "", pkgPath := "", byteOffset := 8 }, { name := "Register", type := 3, offset := 2, embedded := false, tag := "", pkgPath := "", byteOffset := 16 }, { name := "Tolerance", type := 3, offset := 3, embedded := false, tag := "", pkgPath := "", byteOffset := 24 }, { name := "Target", type := 29, offset := 4, embedded := false, tag := "", pkgPath := "", byteOffset := 32 }, { name := "Keys", type := 51, offset := 5, embedded := false, tag := "", pkgPath := "", byteOffset := 56 }, { name := "Load", type := 51, offset := 6, embedded := false, tag := "", pkgPath := "", byteOffset := 80 }]),
    (72, Go.TypeDesc.slice 85),
    (73, Go.TypeDesc.struct #[{ name := "Number", type := 3, offset := 0, embedded := false, tag := "", pkgPath := "", byteOffset := 0 }, { name := "State", type := 3, offset := 1, embedded := false, tag := "", pkgPath := "", byteOffset := 8 }, { name := "Shifts", type := 72, offset := 2, embedded := false, tag := "", pkgPath := "", byteOffset := 16 }, { name := "Film", type := 51, offset := 3, embedded := false, tag := "", pkgPath := "", byteOffset := 40 }, { name := "Dry", type := 3, offset := 4, embedded := false, tag := "", pkgPath := "", byteOffset := 64 }]),
    (74, Go.TypeDesc.struct #[{ name := "Number", type := 3, offset := 0, embedded := false, tag := "", pkgPath := "", byteOffset := 0 }, { name := "State", type := 3, offset := 1, embedded := false, tag := "", pkgPath := "", byteOffset := 8 }, { name := "Shifts", type := 72, offset := 2, embedded := false, tag := "", pkgPath := "", byteOffset := 16 }, { name := "Film", type := 51, offset := 3, embedded := false, tag := "", pkgPath := "", byteOffset := 40 }, { name := "Dry", type := 3, offset := 4, embedded := false, tag := "", pkgPath := "", byteOffset := 64 }]),
    (75, Go.TypeDesc.pointer 144),
    (76, Go.TypeDesc.tuple #[75, 23]),
    (77, Go.TypeDesc.func #[71, 79] #[75, 23] false),
    (78, Go.TypeDesc.struct #[{ name := "Ink", type := 3, offset := 0, embedded := false, tag := "", pkgPath := "", byteOffset := 0 }, { name := "Register", type := 3, offset := 1, embedded := false, tag := "", pkgPath := "", byteOffset := 8 }]),
    (79, Go.TypeDesc.struct #[{ name := "Ink", type := 3, offset := 0, embedded := false, tag := "", pkgPath := "", byteOffset := 0 }, { name := "Register", type := 3, offset := 1, embedded := false, tag := "", pkgPath := "", byteOffset := 8 }]),
    (80, Go.TypeDesc.func #[71] #[23] false),
    (81, Go.TypeDesc.slice 88),
    (82, Go.TypeDesc.tuple #[81, 23]),
    (83, Go.TypeDesc.func #[74] #[81, 23] false),
    (84, Go.TypeDesc.struct #[{ name := "X", type := 3, offset := 0, embedded := false, tag := "", pkgPath := "", byteOffset := 0 }, { name := "Y", type := 3, offset := 1, embedded := false, tag := "", pkgPath := "", byteOffset := 8 }]),
    (85, Go.TypeDesc.struct #[{ name := "X", type := 3, offset := 0, embedded := false, tag := "", pkgPath := "", byteOffset := 0 }, { name := "Y", type := 3, offset := 1, embedded := false, tag := "", pkgPath := "", byteOffset := 8 }]),
    (86, Go.TypeDesc.func #[29, 3, 3] #[23] false),
    (87, Go.TypeDesc.struct #[{ name := "Sheet", type := 3, offset := 0, embedded := false, tag := "", pkgPath := "", byteOffset := 0 }, { name := "Kind", type := 3, offset := 1, embedded := false, tag := "", pkgPath := "", byteOffset := 8 }, { name := "Unit", type := 3, offset := 2, embedded := false, tag := "", pkgPath := "", byteOffset := 16 }, { name := "Zone", type := 3, offset := 3, embedded := false, tag := "", pkgPath := "", byteOffset := 24 }, { name := "X", type := 3, offset := 4, embedded := false, tag := "", pkgPath := "", byteOffset := 32 }, { name := "Y", type := 3, offset := 5, embedded := false, tag := "", pkgPath := "", byteOffset := 40 }]),
    (88, Go.TypeDesc.struct #[{ name := "Sheet", type := 3, offset := 0, embedded := false, tag := "", pkgPath := "", byteOffset := 0 }, { name := "Kind", type := 3, offset := 1, embedded := false, tag := "", pkgPath := "", byteOffset := 8 }, { name := "Unit", type := 3, offset := 2, embedded := false, tag := "", pkgPath := "", byteOffset := 16 }, { name := "Zone", type := 3, offset := 3, embedded := false, tag := "", pkgPath := "", byteOffset := 24 }, { name := "X", type := 3, offset := 4, embedded := false, tag := "", pkgPath := "", byteOffset := 32 }, { name := "Y", type := 3, offset := 5, embedded := false, tag := "", pkgPath := "", byteOffset := 40 }]),
    (89, Go.TypeDesc.func #[71, 74] #[4] false),
    (90, Go.TypeDesc.slice 74),
    (91, Go.TypeDesc.tuple #[90, 23]),
    (92, Go.TypeDesc.func #[71, 79, 81, 3] #[90, 23] false),
    (93, Go.TypeDesc.func #[79] #[23] false),
    (94, Go.TypeDesc.func #[81, 3, 3] #[23] false),
    (95, Go.TypeDesc.func #[90, 90] #[4] false),
    (96, Go.TypeDesc.func #[71, 79, 81, 3] #[90] false),
    (97, Go.TypeDesc.func #[71, 79, 81, 3] #[4] false),
    (98, Go.TypeDesc.func #[71, 81, 3] #[90, 23] false),
    (99, Go.TypeDesc.func #[71, 81, 3] #[4] false),
    (100, Go.TypeDesc.func #[88, 3, 3] #[23] false),
    (101, Go.TypeDesc.pointer 161),
    (102, Go.TypeDesc.tuple #[101, 23]),
    (103, Go.TypeDesc.func #[71] #[101, 23] false),
    (104, Go.TypeDesc.func #[88] #[23] false),
    (105, Go.TypeDesc.tuple #[74, 23]),
    (106, Go.TypeDesc.func #[] #[74, 23] false),
    (107, Go.TypeDesc.func #[71, 88, 3, 3] #[4] false),
    (108, Go.TypeDesc.slice 55),
    (109, Go.TypeDesc.tuple #[51, 51, 23]),
    (110, Go.TypeDesc.func #[108, 3, 29] #[51, 51, 23] false),
    (111, Go.TypeDesc.func #[55] #[23] false),
    (112, Go.TypeDesc.func #[55] #[4] false),
    (113, Go.TypeDesc.func #[55, 3, 3] #[4] false),
    (114, Go.TypeDesc.func #[108, 3, 29] #[4] false),
    (115, Go.TypeDesc.func #[5, 3] #[5] false),
    (116, Go.TypeDesc.int (Go.IntKind.u64)),
    (117, Go.TypeDesc.func #[28, 3] #[23] false),
    (118, Go.TypeDesc.slice 5),
    (119, Go.TypeDesc.func #[118, 3] #[118] false),
    (120, Go.TypeDesc.tuple #[118, 4]),
    (121, Go.TypeDesc.func #[28, 3] #[118, 4] false),
    (122, Go.TypeDesc.func #[28, 118, 118] #[] false),
    (123, Go.TypeDesc.func #[118, 118, 3] #[118] false),
    (124, Go.TypeDesc.func #[28, 3, 29] #[28, 4] false),
    (125, Go.TypeDesc.func #[3] #[5] false),
    (126, Go.TypeDesc.slice 130),
    (127, Go.TypeDesc.func #[] #[126] false),
    (128, Go.TypeDesc.func #[126, 29] #[3] false),
    (129, Go.TypeDesc.func #[51, 29] #[3] false),
    (130, Go.TypeDesc.array 6 3),
    (131, Go.TypeDesc.func #[3, 3] #[55] false),
    (132, Go.TypeDesc.func #[133, 3, 3] #[] false),
    (133, Go.TypeDesc.pointer 55),
    (134, Go.TypeDesc.func #[3, 28, 29] #[29, 23] false),
    (135, Go.TypeDesc.pointer 184),
    (136, Go.TypeDesc.tuple #[135, 23]),
    (137, Go.TypeDesc.func #[3] #[135, 23] false),
    (138, Go.TypeDesc.func #[3, 3] #[23] false),
    (139, Go.TypeDesc.func #[] #[28, 23] false),
    (140, Go.TypeDesc.func #[] #[71] false),
    (141, Go.TypeDesc.tuple #[3, 23]),
    (142, Go.TypeDesc.func #[79, 3] #[3, 23] false),
    (143, Go.TypeDesc.struct #[{ name := "setup", type := 71, offset := 0, embedded := false, tag := "", pkgPath := "printworks/control", byteOffset := 0 }, { name := "every", type := 79, offset := 7, embedded := false, tag := "", pkgPath := "printworks/control", byteOffset := 104 }, { name := "keys", type := 51, offset := 9, embedded := false, tag := "", pkgPath := "printworks/control", byteOffset := 120 }, { name := "number", type := 3, offset := 10, embedded := false, tag := "", pkgPath := "printworks/control", byteOffset := 144 }]),
    (144, Go.TypeDesc.struct #[{ name := "setup", type := 71, offset := 0, embedded := false, tag := "", pkgPath := "printworks/control", byteOffset := 0 }, { name := "every", type := 79, offset := 7, embedded := false, tag := "", pkgPath := "printworks/control", byteOffset := 104 }, { name := "keys", type := 51, offset := 9, embedded := false, tag := "", pkgPath := "printworks/control", byteOffset := 120 }, { name := "number", type := 3, offset := 10, embedded := false, tag := "", pkgPath := "printworks/control", byteOffset := 144 }]),
    (145, Go.TypeDesc.func #[51, 3, 3, 3] #[23] false),
    (146, Go.TypeDesc.func #[147] #[23] false),
    (147, Go.TypeDesc.pointer 74),
    (148, Go.TypeDesc.array 8 3),
    (149, Go.TypeDesc.array 16 3),
    (150, Go.TypeDesc.array 8 149),
    (151, Go.TypeDesc.tuple #[3, 3, 3]),
    (152, Go.TypeDesc.func #[90] #[3, 3, 3] false),
    (153, Go.TypeDesc.array 4 4),
    (154, Go.TypeDesc.array 7 153),
    (155, Go.TypeDesc.array 7 3),
    (156, Go.TypeDesc.array 4 3),
    (157, Go.TypeDesc.struct #[{ name := "number", type := 3, offset := 0, embedded := false, tag := "", pkgPath := "printworks/press", byteOffset := 0 }, { name := "since", type := 3, offset := 1, embedded := false, tag := "", pkgPath := "printworks/press", byteOffset := 8 }, { name := "jam", type := 3, offset := 2, embedded := false, tag := "", pkgPath := "printworks/press", byteOffset := 16 }]),
    (158, Go.TypeDesc.struct #[{ name := "number", type := 3, offset := 0, embedded := false, tag := "", pkgPath := "printworks/press", byteOffset := 0 }, { name := "since", type := 3, offset := 1, embedded := false, tag := "", pkgPath := "printworks/press", byteOffset := 8 }, { name := "jam", type := 3, offset := 2, embedded := false, tag := "", pkgPath := "printworks/press", byteOffset := 16 }]),
    (159, Go.TypeDesc.slice 164),
    (160, Go.TypeDesc.struct #[{ name := "counter", type := 158, offset := 0, embedded := true, tag := "", pkgPath := "printworks/press", byteOffset := 0 }, { name := "setup", type := 71, offset := 3, embedded := false, tag := "", pkgPath := "printworks/press", byteOffset := 24 }, { name := "units", type := 159, offset := 10, embedded := false, tag := "", pkgPath := "printworks/press", byteOffset := 128 }]),
    (161, Go.TypeDesc.struct #[{ name := "counter", type := 158, offset := 0, embedded := true, tag := "", pkgPath := "printworks/press", byteOffset := 0 }, { name := "setup", type := 71, offset := 3, embedded := false, tag := "", pkgPath := "printworks/press", byteOffset := 24 }, { name := "units", type := 159, offset := 10, embedded := false, tag := "", pkgPath := "printworks/press", byteOffset := 128 }]),
    (162, Go.TypeDesc.func #[51] #[51] false),
    (163, Go.TypeDesc.struct #[{ name := "at", type := 85, offset := 0, embedded := false, tag := "", pkgPath := "printworks/press", byteOffset := 0 }, { name := "drift", type := 85, offset := 2, embedded := false, tag := "", pkgPath := "printworks/press", byteOffset := 16 }, { name := "gain", type := 3, offset := 4, embedded := false, tag := "", pkgPath := "printworks/press", byteOffset := 32 }, { name := "keys", type := 29, offset := 5, embedded := false, tag := "", pkgPath := "printworks/press", byteOffset := 40 }, { name := "film", type := 29, offset := 6, embedded := false, tag := "", pkgPath := "printworks/press", byteOffset := 64 }]),
    (164, Go.TypeDesc.struct #[{ name := "at", type := 85, offset := 0, embedded := false, tag := "", pkgPath := "printworks/press", byteOffset := 0 }, { name := "drift", type := 85, offset := 2, embedded := false, tag := "", pkgPath := "printworks/press", byteOffset := 16 }, { name := "gain", type := 3, offset := 4, embedded := false, tag := "", pkgPath := "printworks/press", byteOffset := 32 }, { name := "keys", type := 29, offset := 5, embedded := false, tag := "", pkgPath := "printworks/press", byteOffset := 40 }, { name := "film", type := 29, offset := 6, embedded := false, tag := "", pkgPath := "printworks/press", byteOffset := 64 }]),
    (165, Go.TypeDesc.pointer 164),
    (166, Go.TypeDesc.func #[85] #[] false),
    (167, Go.TypeDesc.func #[3, 3] #[] false),
    (168, Go.TypeDesc.func #[133, 3, 3] #[4] false),
    (169, Go.TypeDesc.func #[5] #[5] false),
    (170, Go.TypeDesc.slice 28),
    (171, Go.TypeDesc.func #[170, 28, 3] #[28, 4] false),
    (172, Go.TypeDesc.func #[3] #[3] false),
    (173, Go.TypeDesc.pointer 188),
    (174, Go.TypeDesc.tuple #[173, 23]),
    (175, Go.TypeDesc.func #[28, 3] #[173, 23] false),
    (176, Go.TypeDesc.func #[3] #[3, 23] false),
    (177, Go.TypeDesc.slice 192),
    (178, Go.TypeDesc.int (Go.IntKind.u32)),
    (179, Go.TypeDesc.struct #[{ name := "contexts", type := 177, offset := 0, embedded := false, tag := "", pkgPath := "printworks/rangecoder", byteOffset := 0 }, { name := "wide", type := 178, offset := 1, embedded := false, tag := "", pkgPath := "printworks/rangecoder", byteOffset := 24 }, { name := "bits", type := 3, offset := 2, embedded := false, tag := "", pkgPath := "printworks/rangecoder", byteOffset := 32 }]),
    (180, Go.TypeDesc.struct #[{ name := "contexts", type := 177, offset := 0, embedded := false, tag := "", pkgPath := "printworks/rangecoder", byteOffset := 0 }, { name := "wide", type := 178, offset := 1, embedded := false, tag := "", pkgPath := "printworks/rangecoder", byteOffset := 24 }, { name := "bits", type := 3, offset := 2, embedded := false, tag := "", pkgPath := "printworks/rangecoder", byteOffset := 32 }]),
    (181, Go.TypeDesc.tuple #[180, 23]),
    (182, Go.TypeDesc.func #[3] #[180, 23] false),
    (183, Go.TypeDesc.struct #[{ name := "model", type := 180, offset := 0, embedded := true, tag := "", pkgPath := "printworks/rangecoder", byteOffset := 0 }, { name := "low", type := 178, offset := 3, embedded := false, tag := "", pkgPath := "printworks/rangecoder", byteOffset := 40 }, { name := "out", type := 28, offset := 4, embedded := false, tag := "", pkgPath := "printworks/rangecoder", byteOffset := 48 }, { name := "closed", type := 4, offset := 5, embedded := false, tag := "", pkgPath := "printworks/rangecoder", byteOffset := 72 }]),
    (184, Go.TypeDesc.struct #[{ name := "model", type := 180, offset := 0, embedded := true, tag := "", pkgPath := "printworks/rangecoder", byteOffset := 0 }, { name := "low", type := 178, offset := 3, embedded := false, tag := "", pkgPath := "printworks/rangecoder", byteOffset := 40 }, { name := "out", type := 28, offset := 4, embedded := false, tag := "", pkgPath := "printworks/rangecoder", byteOffset := 48 }, { name := "closed", type := 4, offset := 5, embedded := false, tag := "", pkgPath := "printworks/rangecoder", byteOffset := 72 }]),
    (185, Go.TypeDesc.func #[3] #[23] false),
    (186, Go.TypeDesc.func #[3] #[178] false),
    (187, Go.TypeDesc.struct #[{ name := "model", type := 180, offset := 0, embedded := true, tag := "", pkgPath := "printworks/rangecoder", byteOffset := 0 }, { name := "code", type := 178, offset := 3, embedded := false, tag := "", pkgPath := "printworks/rangecoder", byteOffset := 40 }, { name := "rest", type := 28, offset := 4, embedded := false, tag := "", pkgPath := "printworks/rangecoder", byteOffset := 48 }]),
    (188, Go.TypeDesc.struct #[{ name := "model", type := 180, offset := 0, embedded := true, tag := "", pkgPath := "printworks/rangecoder", byteOffset := 0 }, { name := "code", type := 178, offset := 3, embedded := false, tag := "", pkgPath := "printworks/rangecoder", byteOffset := 40 }, { name := "rest", type := 28, offset := 4, embedded := false, tag := "", pkgPath := "printworks/rangecoder", byteOffset := 48 }]),
    (189, Go.TypeDesc.func #[] #[178] false),
    (190, Go.TypeDesc.pointer 180),
    (191, Go.TypeDesc.struct #[{ name := "zeros", type := 178, offset := 0, embedded := false, tag := "", pkgPath := "printworks/rangecoder", byteOffset := 0 }, { name := "all", type := 178, offset := 1, embedded := false, tag := "", pkgPath := "printworks/rangecoder", byteOffset := 4 }]),
    (192, Go.TypeDesc.struct #[{ name := "zeros", type := 178, offset := 0, embedded := false, tag := "", pkgPath := "printworks/rangecoder", byteOffset := 0 }, { name := "all", type := 178, offset := 1, embedded := false, tag := "", pkgPath := "printworks/rangecoder", byteOffset := 4 }]),
    (193, Go.TypeDesc.pointer 192),
    (194, Go.TypeDesc.func #[] #[9] false),
    (195, Go.TypeDesc.struct #[{ name := "_interface", type := 17, offset := 0, embedded := false, tag := "", pkgPath := "runtime", byteOffset := 0 }, { name := "concrete", type := 17, offset := 1, embedded := false, tag := "", pkgPath := "runtime", byteOffset := 8 }, { name := "asserted", type := 17, offset := 2, embedded := false, tag := "", pkgPath := "runtime", byteOffset := 16 }, { name := "missingMethod", type := 9, offset := 3, embedded := false, tag := "", pkgPath := "runtime", byteOffset := 24 }]),
    (196, Go.TypeDesc.struct #[{ name := "_interface", type := 17, offset := 0, embedded := false, tag := "", pkgPath := "runtime", byteOffset := 0 }, { name := "concrete", type := 17, offset := 1, embedded := false, tag := "", pkgPath := "runtime", byteOffset := 8 }, { name := "asserted", type := 17, offset := 2, embedded := false, tag := "", pkgPath := "runtime", byteOffset := 16 }, { name := "missingMethod", type := 9, offset := 3, embedded := false, tag := "", pkgPath := "runtime", byteOffset := 24 }]),
    (197, Go.TypeDesc.array 0 16),
    (198, Go.TypeDesc.struct #[{ name := "_", type := 197, offset := 0, embedded := false, tag := "", pkgPath := "runtime", byteOffset := 0 }]),
    (199, Go.TypeDesc.struct #[{ name := "_", type := 197, offset := 0, embedded := false, tag := "", pkgPath := "runtime", byteOffset := 0 }]),
    (200, Go.TypeDesc.func #[] #[3] false),
    (201, Go.TypeDesc.int (Go.IntKind.u8)),
    (202, Go.TypeDesc.int (Go.IntKind.u8)),
    (203, Go.TypeDesc.func #[209, 209] #[4] false),
    (204, Go.TypeDesc.pointer 5),
    (205, Go.TypeDesc.int (Go.IntKind.i32)),
    (206, Go.TypeDesc.int (Go.IntKind.i32)),
    (207, Go.TypeDesc.struct #[{ name := "Size_", type := 12, offset := 0, embedded := false, tag := "", pkgPath := "", byteOffset := 0 }, { name := "PtrBytes", type := 12, offset := 1, embedded := false, tag := "", pkgPath := "", byteOffset := 8 }, { name := "Hash", type := 178, offset := 2, embedded := false, tag := "", pkgPath := "", byteOffset := 16 }, { name := "TFlag", type := 201, offset := 3, embedded := false, tag := "", pkgPath := "", byteOffset := 20 }, { name := "Align_", type := 5, offset := 4, embedded := false, tag := "", pkgPath := "", byteOffset := 21 }, { name := "FieldAlign_", type := 5, offset := 5, embedded := false, tag := "", pkgPath := "", byteOffset := 22 }, { name := "Kind_", type := 202, offset := 6, embedded := false, tag := "", pkgPath := "", byteOffset := 23 }, { name := "Equal", type := 203, offset := 7, embedded := false, tag := "", pkgPath := "", byteOffset := 24 }, { name := "GCData", type := 204, offset := 8, embedded := false, tag := "", pkgPath := "", byteOffset := 32 }, { name := "Str", type := 205, offset := 9, embedded := false, tag := "", pkgPath := "", byteOffset := 40 }, { name := "PtrToThis", type := 206, offset := 10, embedded := false, tag := "", pkgPath := "", byteOffset := 44 }]),
    (208, Go.TypeDesc.struct #[{ name := "Size_", type := 12, offset := 0, embedded := false, tag := "", pkgPath := "", byteOffset := 0 }, { name := "PtrBytes", type := 12, offset := 1, embedded := false, tag := "", pkgPath := "", byteOffset := 8 }, { name := "Hash", type := 178, offset := 2, embedded := false, tag := "", pkgPath := "", byteOffset := 16 }, { name := "TFlag", type := 201, offset := 3, embedded := false, tag := "", pkgPath := "", byteOffset := 20 }, { name := "Align_", type := 5, offset := 4, embedded := false, tag := "", pkgPath := "", byteOffset := 21 }, { name := "FieldAlign_", type := 5, offset := 5, embedded := false, tag := "", pkgPath := "", byteOffset := 22 }, { name := "Kind_", type := 202, offset := 6, embedded := false, tag := "", pkgPath := "", byteOffset := 23 }, { name := "Equal", type := 203, offset := 7, embedded := false, tag := "", pkgPath := "", byteOffset := 24 }, { name := "GCData", type := 204, offset := 8, embedded := false, tag := "", pkgPath := "", byteOffset := 32 }, { name := "Str", type := 205, offset := 9, embedded := false, tag := "", pkgPath := "", byteOffset := 40 }, { name := "PtrToThis", type := 206, offset := 10, embedded := false, tag := "", pkgPath := "", byteOffset := 44 }]),
    (209, Go.TypeDesc.unsafePointer)],
  inf := [(1, (some (.nilFunc), 1, 8)),
    (2, (some (.int .i64 0), 1, 8)),
    (3, (some (.int .i64 0), 1, 8)),
    (4, (some (.bool false), 1, 1)),
    (5, (some (.int .u8 0), 1, 1)),
    (6, (some (.int .u8 0), 1, 1)),
    (7, (some (.agg #[.int .i64 0, .int .i64 0, .bool false, .int .u8 0]), 4, 24)),
    (8, (some (.agg #[.int .i64 0, .int .i64 0, .bool false, .int .u8 0]), 4, 24)),
    (9, (some (.string ByteArray.empty), 1, 16)),
    (10, (some (.string ByteArray.empty), 1, 16)),
    (11, (some (.string ByteArray.empty), 1, 16)),
    (12, (some (.int .u64 0), 1, 8)),
    (13, (some (.agg #[.string ByteArray.empty, .int .u64 0]), 2, 24)),
    (14, (some (.agg #[.string ByteArray.empty, .int .u64 0]), 2, 24)),
    (15, (some (.pointer none), 1, 8)),
    (16, (some (.pointer none), 1, 8)),
    (17, (some (.pointer none), 1, 8)),
    (18, (some (.agg #[.pointer none]), 1, 8)),
    (19, (some (.agg #[.pointer none]), 1, 8)),
    (20, (some (.nilIface), 1, 16)),
    (21, (some (.int .i32 0), 1, 4)),
    (22, (some (.nilFunc), 1, 8)),
    (23, (some (.int .i64 0), 1, 8)),
    (25, (some (.nilFunc), 1, 8)),
    (26, (some (.nilFunc), 1, 8)),
    (27, (some (.nilFunc), 1, 8)),
    (28, (some (.slice none 0 0), 1, 24)),
    (29, (some (.slice none 0 0), 1, 24)),
    (30, (some (.nilFunc), 1, 8)),
    (32, (some (.nilFunc), 1, 8)),
    (33, (some (.nilFunc), 1, 8)),
    (34, (some (.nilFunc), 1, 8)),
    (36, (some (.nilFunc), 1, 8)),
    (37, (some (.nilFunc), 1, 8)),
    (38, (some (.nilFunc), 1, 8)),
    (40, (some (.nilFunc), 1, 8)),
    (42, (some (.nilFunc), 1, 8)),
    (43, (some (.nilFunc), 1, 8)),
    (44, (some (.nilFunc), 1, 8)),
    (46, (some (.nilFunc), 1, 8)),
    (47, (some (.nilFunc), 1, 8)),
    (49, (some (.nilFunc), 1, 8)),
    (50, (some (.nilFunc), 1, 8)),
    (51, (some (.slice none 0 0), 1, 24)),
    (52, (some (.nilFunc), 1, 8)),
    (53, (some (.nilFunc), 1, 8)),
    (54, (some (.agg #[.int .i64 0, .int .i64 0, .slice none 0 0]), 3, 40)),
    (55, (some (.agg #[.int .i64 0, .int .i64 0, .slice none 0 0]), 3, 40)),
    (57, (some (.nilFunc), 1, 8)),
    (58, (some (.nilFunc), 1, 8)),
    (59, (some (.nilFunc), 1, 8)),
    (60, (some (.nilFunc), 1, 8)),
    (61, (some (.nilFunc), 1, 8)),
    (62, (some (.slice none 0 0), 1, 24)),
    (63, (some (.nilFunc), 1, 8)),
    (64, (some (.nilFunc), 1, 8)),
    (65, (some (.nilFunc), 1, 8)),
    (66, (some (.nilFunc), 1, 8)),
    (67, (some (.nilFunc), 1, 8)),
    (68, (some (.nilFunc), 1, 8)),
    (69, (some (.nilFunc), 1, 8)),
    (70, (some (.agg #[.int .i64 0, .int .i64 0, .int .i64 0, .int .i64 0, .slice none 0 0, .slice none 0 0, .slice none 0 0]), 7, 104)),
    (71, (some (.agg #[.int .i64 0, .int .i64 0, .int .i64 0, .int .i64 0, .slice none 0 0, .slice none 0 0, .slice none 0 0]), 7, 104)),
    (72, (some (.slice none 0 0), 1, 24)),
    (73, (some (.agg #[.int .i64 0, .int .i64 0, .slice none 0 0, .slice none 0 0, .int .i64 0]), 5, 72)),
    (74, (some (.agg #[.int .i64 0, .int .i64 0, .slice none 0 0, .slice none 0 0, .int .i64 0]), 5, 72)),
    (75, (some (.pointer none), 1, 8)),
    (77, (some (.nilFunc), 1, 8)),
    (78, (some (.agg #[.int .i64 0, .int .i64 0]), 2, 16)),
    (79, (some (.agg #[.int .i64 0, .int .i64 0]), 2, 16)),
    (80, (some (.nilFunc), 1, 8)),
    (81, (some (.slice none 0 0), 1, 24)),
    (83, (some (.nilFunc), 1, 8)),
    (84, (some (.agg #[.int .i64 0, .int .i64 0]), 2, 16)),
    (85, (some (.agg #[.int .i64 0, .int .i64 0]), 2, 16)),
    (86, (some (.nilFunc), 1, 8)),
    (87, (some (.agg #[.int .i64 0, .int .i64 0, .int .i64 0, .int .i64 0, .int .i64 0, .int .i64 0]), 6, 48)),
    (88, (some (.agg #[.int .i64 0, .int .i64 0, .int .i64 0, .int .i64 0, .int .i64 0, .int .i64 0]), 6, 48)),
    (89, (some (.nilFunc), 1, 8)),
    (90, (some (.slice none 0 0), 1, 24)),
    (92, (some (.nilFunc), 1, 8)),
    (93, (some (.nilFunc), 1, 8)),
    (94, (some (.nilFunc), 1, 8)),
    (95, (some (.nilFunc), 1, 8)),
    (96, (some (.nilFunc), 1, 8)),
    (97, (some (.nilFunc), 1, 8)),
    (98, (some (.nilFunc), 1, 8)),
    (99, (some (.nilFunc), 1, 8)),
    (100, (some (.nilFunc), 1, 8)),
    (101, (some (.pointer none), 1, 8)),
    (103, (some (.nilFunc), 1, 8)),
    (104, (some (.nilFunc), 1, 8)),
    (106, (some (.nilFunc), 1, 8)),
    (107, (some (.nilFunc), 1, 8)),
    (108, (some (.slice none 0 0), 1, 24)),
    (110, (some (.nilFunc), 1, 8)),
    (111, (some (.nilFunc), 1, 8)),
    (112, (some (.nilFunc), 1, 8)),
    (113, (some (.nilFunc), 1, 8)),
    (114, (some (.nilFunc), 1, 8)),
    (115, (some (.nilFunc), 1, 8)),
    (116, (some (.int .u64 0), 1, 8)),
    (117, (some (.nilFunc), 1, 8)),
    (118, (some (.slice none 0 0), 1, 24)),
    (119, (some (.nilFunc), 1, 8)),
    (121, (some (.nilFunc), 1, 8)),
    (122, (some (.nilFunc), 1, 8)),
    (123, (some (.nilFunc), 1, 8)),
    (124, (some (.nilFunc), 1, 8)),
    (125, (some (.nilFunc), 1, 8)),
    (126, (some (.slice none 0 0), 1, 24)),
    (127, (some (.nilFunc), 1, 8)),
    (128, (some (.nilFunc), 1, 8)),
    (129, (some (.nilFunc), 1, 8)),
    (130, (some (.agg #[.int .i64 0, .int .i64 0, .int .i64 0, .int .i64 0, .int .i64 0, .int .i64 0]), 6, 48)),
    (131, (some (.nilFunc), 1, 8)),
    (132, (some (.nilFunc), 1, 8)),
    (133, (some (.pointer none), 1, 8)),
    (134, (some (.nilFunc), 1, 8)),
    (135, (some (.pointer none), 1, 8)),
    (137, (some (.nilFunc), 1, 8)),
    (138, (some (.nilFunc), 1, 8)),
    (139, (some (.nilFunc), 1, 8)),
    (140, (some (.nilFunc), 1, 8)),
    (142, (some (.nilFunc), 1, 8)),
    (143, (some (.agg #[.int .i64 0, .int .i64 0, .int .i64 0, .int .i64 0, .slice none 0 0, .slice none 0 0, .slice none 0 0, .int .i64 0, .int .i64 0, .slice none 0 0, .int .i64 0]), 11, 152)),
    (144, (some (.agg #[.int .i64 0, .int .i64 0, .int .i64 0, .int .i64 0, .slice none 0 0, .slice none 0 0, .slice none 0 0, .int .i64 0, .int .i64 0, .slice none 0 0, .int .i64 0]), 11, 152)),
    (145, (some (.nilFunc), 1, 8)),
    (146, (some (.nilFunc), 1, 8)),
    (147, (some (.pointer none), 1, 8)),
    (148, (some (.agg #[.int .i64 0, .int .i64 0, .int .i64 0, .int .i64 0, .int .i64 0, .int .i64 0, .int .i64 0, .int .i64 0]), 8, 64)),
    (149, (some (.agg #[.int .i64 0, .int .i64 0, .int .i64 0, .int .i64 0, .int .i64 0, .int .i64 0, .int .i64 0, .int .i64 0, .int .i64 0, .int .i64 0, .int .i64 0, .int .i64 0, .int .i64 0, .int .i64 0, .int .i64 0, .int .i64 0]), 16, 128)),
    (150, (some (.agg #[.int .i64 0, .int .i64 0, .int .i64 0, .int .i64 0, .int .i64 0, .int .i64 0, .int .i64 0, .int .i64 0, .int .i64 0, .int .i64 0, .int .i64 0, .int .i64 0, .int .i64 0, .int .i64 0, .int .i64 0, .int .i64 0, .int .i64 0, .int .i64 0, .int .i64 0, .int .i64 0, .int .i64 0, .int .i64 0, .int .i64 0, .int .i64 0, .int .i64 0, .int .i64 0, .int .i64 0, .int .i64 0, .int .i64 0, .int .i64 0, .int .i64 0, .int .i64 0, .int .i64 0, .int .i64 0, .int .i64 0, .int .i64 0, .int .i64 0, .int .i64 0, .int .i64 0, .int .i64 0, .int .i64 0, .int .i64 0, .int .i64 0, .int .i64 0, .int .i64 0, .int .i64 0, .int .i64 0, .int .i64 0, .int .i64 0, .int .i64 0, .int .i64 0, .int .i64 0, .int .i64 0, .int .i64 0, .int .i64 0, .int .i64 0, .int .i64 0, .int .i64 0, .int .i64 0, .int .i64 0, .int .i64 0, .int .i64 0, .int .i64 0, .int .i64 0, .int .i64 0, .int .i64 0, .int .i64 0, .int .i64 0, .int .i64 0, .int .i64 0, .int .i64 0, .int .i64 0, .int .i64 0, .int .i64 0, .int .i64 0, .int .i64 0, .int .i64 0, .int .i64 0, .int .i64 0, .int .i64 0, .int .i64 0, .int .i64 0, .int .i64 0, .int .i64 0, .int .i64 0, .int .i64 0, .int .i64 0, .int .i64 0, .int .i64 0, .int .i64 0, .int .i64 0, .int .i64 0, .int .i64 0, .int .i64 0, .int .i64 0, .int .i64 0, .int .i64 0, .int .i64 0, .int .i64 0, .int .i64 0, .int .i64 0, .int .i64 0, .int .i64 0, .int .i64 0, .int .i64 0, .int .i64 0, .int .i64 0, .int .i64 0, .int .i64 0, .int .i64 0, .int .i64 0, .int .i64 0, .int .i64 0, .int .i64 0, .int .i64 0, .int .i64 0, .int .i64 0, .int .i64 0, .int .i64 0, .int .i64 0, .int .i64 0, .int .i64 0, .int .i64 0, .int .i64 0, .int .i64 0, .int .i64 0, .int .i64 0, .int .i64 0]), 128, 1024)),
    (152, (some (.nilFunc), 1, 8)),
    (153, (some (.agg #[.bool false, .bool false, .bool false, .bool false]), 4, 4)),
    (154, (some (.agg #[.bool false, .bool false, .bool false, .bool false, .bool false, .bool false, .bool false, .bool false, .bool false, .bool false, .bool false, .bool false, .bool false, .bool false, .bool false, .bool false, .bool false, .bool false, .bool false, .bool false, .bool false, .bool false, .bool false, .bool false, .bool false, .bool false, .bool false, .bool false]), 28, 28)),
    (155, (some (.agg #[.int .i64 0, .int .i64 0, .int .i64 0, .int .i64 0, .int .i64 0, .int .i64 0, .int .i64 0]), 7, 56)),
    (156, (some (.agg #[.int .i64 0, .int .i64 0, .int .i64 0, .int .i64 0]), 4, 32)),
    (157, (some (.agg #[.int .i64 0, .int .i64 0, .int .i64 0]), 3, 24)),
    (158, (some (.agg #[.int .i64 0, .int .i64 0, .int .i64 0]), 3, 24)),
    (159, (some (.slice none 0 0), 1, 24)),
    (160, (some (.agg #[.int .i64 0, .int .i64 0, .int .i64 0, .int .i64 0, .int .i64 0, .int .i64 0, .int .i64 0, .slice none 0 0, .slice none 0 0, .slice none 0 0, .slice none 0 0]), 11, 152)),
    (161, (some (.agg #[.int .i64 0, .int .i64 0, .int .i64 0, .int .i64 0, .int .i64 0, .int .i64 0, .int .i64 0, .slice none 0 0, .slice none 0 0, .slice none 0 0, .slice none 0 0]), 11, 152)),
    (162, (some (.nilFunc), 1, 8)),
    (163, (some (.agg #[.int .i64 0, .int .i64 0, .int .i64 0, .int .i64 0, .int .i64 0, .slice none 0 0, .slice none 0 0]), 7, 88)),
    (164, (some (.agg #[.int .i64 0, .int .i64 0, .int .i64 0, .int .i64 0, .int .i64 0, .slice none 0 0, .slice none 0 0]), 7, 88)),
    (165, (some (.pointer none), 1, 8)),
    (166, (some (.nilFunc), 1, 8)),
    (167, (some (.nilFunc), 1, 8)),
    (168, (some (.nilFunc), 1, 8)),
    (169, (some (.nilFunc), 1, 8)),
    (170, (some (.slice none 0 0), 1, 24)),
    (171, (some (.nilFunc), 1, 8)),
    (172, (some (.nilFunc), 1, 8)),
    (173, (some (.pointer none), 1, 8)),
    (175, (some (.nilFunc), 1, 8)),
    (176, (some (.nilFunc), 1, 8)),
    (177, (some (.slice none 0 0), 1, 24)),
    (178, (some (.int .u32 0), 1, 4)),
    (179, (some (.agg #[.slice none 0 0, .int .u32 0, .int .i64 0]), 3, 40)),
    (180, (some (.agg #[.slice none 0 0, .int .u32 0, .int .i64 0]), 3, 40)),
    (182, (some (.nilFunc), 1, 8)),
    (183, (some (.agg #[.slice none 0 0, .int .u32 0, .int .i64 0, .int .u32 0, .slice none 0 0, .bool false]), 6, 80)),
    (184, (some (.agg #[.slice none 0 0, .int .u32 0, .int .i64 0, .int .u32 0, .slice none 0 0, .bool false]), 6, 80)),
    (185, (some (.nilFunc), 1, 8)),
    (186, (some (.nilFunc), 1, 8)),
    (187, (some (.agg #[.slice none 0 0, .int .u32 0, .int .i64 0, .int .u32 0, .slice none 0 0]), 5, 72)),
    (188, (some (.agg #[.slice none 0 0, .int .u32 0, .int .i64 0, .int .u32 0, .slice none 0 0]), 5, 72)),
    (189, (some (.nilFunc), 1, 8)),
    (190, (some (.pointer none), 1, 8)),
    (191, (some (.agg #[.int .u32 0, .int .u32 0]), 2, 8)),
    (192, (some (.agg #[.int .u32 0, .int .u32 0]), 2, 8)),
    (193, (some (.pointer none), 1, 8)),
    (194, (some (.nilFunc), 1, 8)),
    (195, (some (.agg #[.pointer none, .pointer none, .pointer none, .string ByteArray.empty]), 4, 40)),
    (196, (some (.agg #[.pointer none, .pointer none, .pointer none, .string ByteArray.empty]), 4, 40)),
    (197, (some (.agg #[]), 0, 0)),
    (198, (some (.agg #[]), 0, 0)),
    (199, (some (.agg #[]), 0, 0)),
    (200, (some (.nilFunc), 1, 8)),
    (201, (some (.int .u8 0), 1, 1)),
    (202, (some (.int .u8 0), 1, 1)),
    (203, (some (.nilFunc), 1, 8)),
    (204, (some (.pointer none), 1, 8)),
    (205, (some (.int .i32 0), 1, 4)),
    (206, (some (.int .i32 0), 1, 4)),
    (207, (some (.agg #[.int .u64 0, .int .u64 0, .int .u32 0, .int .u8 0, .int .u8 0, .int .u8 0, .int .u8 0, .nilFunc, .pointer none, .int .i32 0, .int .i32 0]), 11, 48)),
    (208, (some (.agg #[.int .u64 0, .int .u64 0, .int .u32 0, .int .u8 0, .int .u8 0, .int .u8 0, .int .u8 0, .nilFunc, .pointer none, .int .i32 0, .int .i32 0]), 11, 48)),
    (209, (some (.pointer none), 1, 8))],
  fld := [(7, [(0, (1, false)), (1, (1, false)), (2, (1, false)), (3, (1, false))]),
    (8, [(0, (1, false)), (1, (1, false)), (2, (1, false)), (3, (1, false))]),
    (13, [(0, (1, false)), (1, (1, false))]),
    (14, [(0, (1, false)), (1, (1, false))]),
    (18, [(0, (1, false))]),
    (19, [(0, (1, false))]),
    (54, [(0, (1, false)), (1, (1, false)), (2, (1, false))]),
    (55, [(0, (1, false)), (1, (1, false)), (2, (1, false))]),
    (70, [(0, (1, false)), (1, (1, false)), (2, (1, false)), (3, (1, false)), (4, (1, false)), (5, (1, false)), (6, (1, false))]),
    (71, [(0, (1, false)), (1, (1, false)), (2, (1, false)), (3, (1, false)), (4, (1, false)), (5, (1, false)), (6, (1, false))]),
    (73, [(0, (1, false)), (1, (1, false)), (2, (1, false)), (3, (1, false)), (4, (1, false))]),
    (74, [(0, (1, false)), (1, (1, false)), (2, (1, false)), (3, (1, false)), (4, (1, false))]),
    (78, [(0, (1, false)), (1, (1, false))]),
    (79, [(0, (1, false)), (1, (1, false))]),
    (84, [(0, (1, false)), (1, (1, false))]),
    (85, [(0, (1, false)), (1, (1, false))]),
    (87, [(0, (1, false)), (1, (1, false)), (2, (1, false)), (3, (1, false)), (4, (1, false)), (5, (1, false))]),
    (88, [(0, (1, false)), (1, (1, false)), (2, (1, false)), (3, (1, false)), (4, (1, false)), (5, (1, false))]),
    (143, [(0, (7, true)), (7, (2, true)), (9, (1, false)), (10, (1, false))]),
    (144, [(0, (7, true)), (7, (2, true)), (9, (1, false)), (10, (1, false))]),
    (157, [(0, (1, false)), (1, (1, false)), (2, (1, false))]),
    (158, [(0, (1, false)), (1, (1, false)), (2, (1, false))]),
    (160, [(0, (3, true)), (3, (7, true)), (10, (1, false))]),
    (161, [(0, (3, true)), (3, (7, true)), (10, (1, false))]),
    (163, [(0, (2, true)), (2, (2, true)), (4, (1, false)), (5, (1, false)), (6, (1, false))]),
    (164, [(0, (2, true)), (2, (2, true)), (4, (1, false)), (5, (1, false)), (6, (1, false))]),
    (179, [(0, (1, false)), (1, (1, false)), (2, (1, false))]),
    (180, [(0, (1, false)), (1, (1, false)), (2, (1, false))]),
    (183, [(0, (3, true)), (3, (1, false)), (4, (1, false)), (5, (1, false))]),
    (184, [(0, (3, true)), (3, (1, false)), (4, (1, false)), (5, (1, false))]),
    (187, [(0, (3, true)), (3, (1, false)), (4, (1, false))]),
    (188, [(0, (3, true)), (3, (1, false)), (4, (1, false))]),
    (191, [(0, (1, false)), (1, (1, false))]),
    (192, [(0, (1, false)), (1, (1, false))]),
    (195, [(0, (1, false)), (1, (1, false)), (2, (1, false)), (3, (1, false))]),
    (196, [(0, (1, false)), (1, (1, false)), (2, (1, false)), (3, (1, false))]),
    (198, [(0, (0, true))]),
    (199, [(0, (0, true))]),
    (207, [(0, (1, false)), (1, (1, false)), (2, (1, false)), (3, (1, false)), (4, (1, false)), (5, (1, false)), (6, (1, false)), (7, (1, false)), (8, (1, false)), (9, (1, false)), (10, (1, false))]),
    (208, [(0, (1, false)), (1, (1, false)), (2, (1, false)), (3, (1, false)), (4, (1, false)), (5, (1, false)), (6, (1, false)), (7, (1, false)), (8, (1, false)), (9, (1, false)), (10, (1, false))])],
  eqs := [(78, 2), (79, 2), (84, 2), (85, 2), (87, 6), (88, 6), (157, 3), (158, 3), (191, 2), (192, 2)] }
theorem ty_1 : tyI Try.prog 1 = some (some (.nilFunc), 1, 8) := by kernel_rfl
theorem ty_2 : tyI Try.prog 2 = some (some (.int .i64 0), 1, 8) := by kernel_rfl
theorem ty_3 : tyI Try.prog 3 = some (some (.int .i64 0), 1, 8) := by kernel_rfl
theorem ty_4 : tyI Try.prog 4 = some (some (.bool false), 1, 1) := by kernel_rfl
theorem ty_5 : tyI Try.prog 5 = some (some (.int .u8 0), 1, 1) := by kernel_rfl
theorem ty_6 : tyI Try.prog 6 = some (some (.int .u8 0), 1, 1) := by kernel_rfl
theorem ty_7 : tyI Try.prog 7 = some (some (.agg #[.int .i64 0, .int .i64 0, .bool false, .int .u8 0]), 4, 24) := by kernel_rfl
theorem ty_8 : tyI Try.prog 8 = some (some (.agg #[.int .i64 0, .int .i64 0, .bool false, .int .u8 0]), 4, 24) := by kernel_rfl
theorem ty_9 : tyI Try.prog 9 = some (some (.string ByteArray.empty), 1, 16) := by kernel_rfl
theorem ty_10 : tyI Try.prog 10 = some (some (.string ByteArray.empty), 1, 16) := by kernel_rfl
theorem ty_11 : tyI Try.prog 11 = some (some (.string ByteArray.empty), 1, 16) := by kernel_rfl
theorem ty_12 : tyI Try.prog 12 = some (some (.int .u64 0), 1, 8) := by kernel_rfl
theorem ty_13 : tyI Try.prog 13 = some (some (.agg #[.string ByteArray.empty, .int .u64 0]), 2, 24) := by kernel_rfl
theorem ty_14 : tyI Try.prog 14 = some (some (.agg #[.string ByteArray.empty, .int .u64 0]), 2, 24) := by kernel_rfl
theorem ty_15 : tyI Try.prog 15 = some (some (.pointer none), 1, 8) := by kernel_rfl
theorem ty_16 : tyI Try.prog 16 = some (some (.pointer none), 1, 8) := by kernel_rfl
theorem ty_17 : tyI Try.prog 17 = some (some (.pointer none), 1, 8) := by kernel_rfl
theorem ty_18 : tyI Try.prog 18 = some (some (.agg #[.pointer none]), 1, 8) := by kernel_rfl
theorem ty_19 : tyI Try.prog 19 = some (some (.agg #[.pointer none]), 1, 8) := by kernel_rfl
theorem ty_20 : tyI Try.prog 20 = some (some (.nilIface), 1, 16) := by kernel_rfl
theorem ty_21 : tyI Try.prog 21 = some (some (.int .i32 0), 1, 4) := by kernel_rfl
theorem ty_22 : tyI Try.prog 22 = some (some (.nilFunc), 1, 8) := by kernel_rfl
theorem ty_23 : tyI Try.prog 23 = some (some (.int .i64 0), 1, 8) := by kernel_rfl
theorem ty_25 : tyI Try.prog 25 = some (some (.nilFunc), 1, 8) := by kernel_rfl
theorem ty_26 : tyI Try.prog 26 = some (some (.nilFunc), 1, 8) := by kernel_rfl
theorem ty_27 : tyI Try.prog 27 = some (some (.nilFunc), 1, 8) := by kernel_rfl
theorem ty_28 : tyI Try.prog 28 = some (some (.slice none 0 0), 1, 24) := by kernel_rfl
theorem ty_29 : tyI Try.prog 29 = some (some (.slice none 0 0), 1, 24) := by kernel_rfl
theorem ty_30 : tyI Try.prog 30 = some (some (.nilFunc), 1, 8) := by kernel_rfl
theorem ty_32 : tyI Try.prog 32 = some (some (.nilFunc), 1, 8) := by kernel_rfl
theorem ty_33 : tyI Try.prog 33 = some (some (.nilFunc), 1, 8) := by kernel_rfl
theorem ty_34 : tyI Try.prog 34 = some (some (.nilFunc), 1, 8) := by kernel_rfl
theorem ty_36 : tyI Try.prog 36 = some (some (.nilFunc), 1, 8) := by kernel_rfl
theorem ty_37 : tyI Try.prog 37 = some (some (.nilFunc), 1, 8) := by kernel_rfl
theorem ty_38 : tyI Try.prog 38 = some (some (.nilFunc), 1, 8) := by kernel_rfl
theorem ty_40 : tyI Try.prog 40 = some (some (.nilFunc), 1, 8) := by kernel_rfl
theorem ty_42 : tyI Try.prog 42 = some (some (.nilFunc), 1, 8) := by kernel_rfl
theorem ty_43 : tyI Try.prog 43 = some (some (.nilFunc), 1, 8) := by kernel_rfl
theorem ty_44 : tyI Try.prog 44 = some (some (.nilFunc), 1, 8) := by kernel_rfl
theorem ty_46 : tyI Try.prog 46 = some (some (.nilFunc), 1, 8) := by kernel_rfl
theorem ty_47 : tyI Try.prog 47 = some (some (.nilFunc), 1, 8) := by kernel_rfl
theorem ty_49 : tyI Try.prog 49 = some (some (.nilFunc), 1, 8) := by kernel_rfl
theorem ty_50 : tyI Try.prog 50 = some (some (.nilFunc), 1, 8) := by kernel_rfl
theorem ty_51 : tyI Try.prog 51 = some (some (.slice none 0 0), 1, 24) := by kernel_rfl
theorem ty_52 : tyI Try.prog 52 = some (some (.nilFunc), 1, 8) := by kernel_rfl
theorem ty_53 : tyI Try.prog 53 = some (some (.nilFunc), 1, 8) := by kernel_rfl
theorem ty_54 : tyI Try.prog 54 = some (some (.agg #[.int .i64 0, .int .i64 0, .slice none 0 0]), 3, 40) := by kernel_rfl
theorem ty_55 : tyI Try.prog 55 = some (some (.agg #[.int .i64 0, .int .i64 0, .slice none 0 0]), 3, 40) := by kernel_rfl
theorem ty_57 : tyI Try.prog 57 = some (some (.nilFunc), 1, 8) := by kernel_rfl
theorem ty_58 : tyI Try.prog 58 = some (some (.nilFunc), 1, 8) := by kernel_rfl
theorem ty_59 : tyI Try.prog 59 = some (some (.nilFunc), 1, 8) := by kernel_rfl
theorem ty_60 : tyI Try.prog 60 = some (some (.nilFunc), 1, 8) := by kernel_rfl
theorem ty_61 : tyI Try.prog 61 = some (some (.nilFunc), 1, 8) := by kernel_rfl
theorem ty_62 : tyI Try.prog 62 = some (some (.slice none 0 0), 1, 24) := by kernel_rfl
theorem ty_63 : tyI Try.prog 63 = some (some (.nilFunc), 1, 8) := by kernel_rfl
theorem ty_64 : tyI Try.prog 64 = some (some (.nilFunc), 1, 8) := by kernel_rfl
theorem ty_65 : tyI Try.prog 65 = some (some (.nilFunc), 1, 8) := by kernel_rfl
theorem ty_66 : tyI Try.prog 66 = some (some (.nilFunc), 1, 8) := by kernel_rfl
theorem ty_67 : tyI Try.prog 67 = some (some (.nilFunc), 1, 8) := by kernel_rfl
theorem ty_68 : tyI Try.prog 68 = some (some (.nilFunc), 1, 8) := by kernel_rfl
theorem ty_69 : tyI Try.prog 69 = some (some (.nilFunc), 1, 8) := by kernel_rfl
theorem ty_70 : tyI Try.prog 70 = some (some (.agg #[.int .i64 0, .int .i64 0, .int .i64 0, .int .i64 0, .slice none 0 0, .slice none 0 0, .slice none 0 0]), 7, 104) := by kernel_rfl
theorem ty_71 : tyI Try.prog 71 = some (some (.agg #[.int .i64 0, .int .i64 0, .int .i64 0, .int .i64 0, .slice none 0 0, .slice none 0 0, .slice none 0 0]), 7, 104) := by kernel_rfl
theorem ty_72 : tyI Try.prog 72 = some (some (.slice none 0 0), 1, 24) := by kernel_rfl
theorem ty_73 : tyI Try.prog 73 = some (some (.agg #[.int .i64 0, .int .i64 0, .slice none 0 0, .slice none 0 0, .int .i64 0]), 5, 72) := by kernel_rfl
theorem ty_74 : tyI Try.prog 74 = some (some (.agg #[.int .i64 0, .int .i64 0, .slice none 0 0, .slice none 0 0, .int .i64 0]), 5, 72) := by kernel_rfl
theorem ty_75 : tyI Try.prog 75 = some (some (.pointer none), 1, 8) := by kernel_rfl
theorem ty_77 : tyI Try.prog 77 = some (some (.nilFunc), 1, 8) := by kernel_rfl
theorem ty_78 : tyI Try.prog 78 = some (some (.agg #[.int .i64 0, .int .i64 0]), 2, 16) := by kernel_rfl
theorem ty_79 : tyI Try.prog 79 = some (some (.agg #[.int .i64 0, .int .i64 0]), 2, 16) := by kernel_rfl
theorem ty_80 : tyI Try.prog 80 = some (some (.nilFunc), 1, 8) := by kernel_rfl
theorem ty_81 : tyI Try.prog 81 = some (some (.slice none 0 0), 1, 24) := by kernel_rfl
theorem ty_83 : tyI Try.prog 83 = some (some (.nilFunc), 1, 8) := by kernel_rfl
theorem ty_84 : tyI Try.prog 84 = some (some (.agg #[.int .i64 0, .int .i64 0]), 2, 16) := by kernel_rfl
theorem ty_85 : tyI Try.prog 85 = some (some (.agg #[.int .i64 0, .int .i64 0]), 2, 16) := by kernel_rfl
theorem ty_86 : tyI Try.prog 86 = some (some (.nilFunc), 1, 8) := by kernel_rfl
theorem ty_87 : tyI Try.prog 87 = some (some (.agg #[.int .i64 0, .int .i64 0, .int .i64 0, .int .i64 0, .int .i64 0, .int .i64 0]), 6, 48) := by kernel_rfl
theorem ty_88 : tyI Try.prog 88 = some (some (.agg #[.int .i64 0, .int .i64 0, .int .i64 0, .int .i64 0, .int .i64 0, .int .i64 0]), 6, 48) := by kernel_rfl
theorem ty_89 : tyI Try.prog 89 = some (some (.nilFunc), 1, 8) := by kernel_rfl
theorem ty_90 : tyI Try.prog 90 = some (some (.slice none 0 0), 1, 24) := by kernel_rfl
theorem ty_92 : tyI Try.prog 92 = some (some (.nilFunc), 1, 8) := by kernel_rfl
theorem ty_93 : tyI Try.prog 93 = some (some (.nilFunc), 1, 8) := by kernel_rfl
theorem ty_94 : tyI Try.prog 94 = some (some (.nilFunc), 1, 8) := by kernel_rfl
theorem ty_95 : tyI Try.prog 95 = some (some (.nilFunc), 1, 8) := by kernel_rfl
theorem ty_96 : tyI Try.prog 96 = some (some (.nilFunc), 1, 8) := by kernel_rfl
theorem ty_97 : tyI Try.prog 97 = some (some (.nilFunc), 1, 8) := by kernel_rfl
theorem ty_98 : tyI Try.prog 98 = some (some (.nilFunc), 1, 8) := by kernel_rfl
theorem ty_99 : tyI Try.prog 99 = some (some (.nilFunc), 1, 8) := by kernel_rfl
theorem ty_100 : tyI Try.prog 100 = some (some (.nilFunc), 1, 8) := by kernel_rfl
theorem ty_101 : tyI Try.prog 101 = some (some (.pointer none), 1, 8) := by kernel_rfl
theorem ty_103 : tyI Try.prog 103 = some (some (.nilFunc), 1, 8) := by kernel_rfl
theorem ty_104 : tyI Try.prog 104 = some (some (.nilFunc), 1, 8) := by kernel_rfl
theorem ty_106 : tyI Try.prog 106 = some (some (.nilFunc), 1, 8) := by kernel_rfl
theorem ty_107 : tyI Try.prog 107 = some (some (.nilFunc), 1, 8) := by kernel_rfl
theorem ty_108 : tyI Try.prog 108 = some (some (.slice none 0 0), 1, 24) := by kernel_rfl
theorem ty_110 : tyI Try.prog 110 = some (some (.nilFunc), 1, 8) := by kernel_rfl
theorem ty_111 : tyI Try.prog 111 = some (some (.nilFunc), 1, 8) := by kernel_rfl
theorem ty_112 : tyI Try.prog 112 = some (some (.nilFunc), 1, 8) := by kernel_rfl
theorem ty_113 : tyI Try.prog 113 = some (some (.nilFunc), 1, 8) := by kernel_rfl
theorem ty_114 : tyI Try.prog 114 = some (some (.nilFunc), 1, 8) := by kernel_rfl
theorem ty_115 : tyI Try.prog 115 = some (some (.nilFunc), 1, 8) := by kernel_rfl
theorem ty_116 : tyI Try.prog 116 = some (some (.int .u64 0), 1, 8) := by kernel_rfl
theorem ty_117 : tyI Try.prog 117 = some (some (.nilFunc), 1, 8) := by kernel_rfl
theorem ty_118 : tyI Try.prog 118 = some (some (.slice none 0 0), 1, 24) := by kernel_rfl
theorem ty_119 : tyI Try.prog 119 = some (some (.nilFunc), 1, 8) := by kernel_rfl
theorem ty_121 : tyI Try.prog 121 = some (some (.nilFunc), 1, 8) := by kernel_rfl
theorem ty_122 : tyI Try.prog 122 = some (some (.nilFunc), 1, 8) := by kernel_rfl
theorem ty_123 : tyI Try.prog 123 = some (some (.nilFunc), 1, 8) := by kernel_rfl
theorem ty_124 : tyI Try.prog 124 = some (some (.nilFunc), 1, 8) := by kernel_rfl
theorem ty_125 : tyI Try.prog 125 = some (some (.nilFunc), 1, 8) := by kernel_rfl
theorem ty_126 : tyI Try.prog 126 = some (some (.slice none 0 0), 1, 24) := by kernel_rfl
theorem ty_127 : tyI Try.prog 127 = some (some (.nilFunc), 1, 8) := by kernel_rfl
theorem ty_128 : tyI Try.prog 128 = some (some (.nilFunc), 1, 8) := by kernel_rfl
theorem ty_129 : tyI Try.prog 129 = some (some (.nilFunc), 1, 8) := by kernel_rfl
theorem ty_130 : tyI Try.prog 130 = some (some (.agg #[.int .i64 0, .int .i64 0, .int .i64 0, .int .i64 0, .int .i64 0, .int .i64 0]), 6, 48) := by kernel_rfl
theorem ty_131 : tyI Try.prog 131 = some (some (.nilFunc), 1, 8) := by kernel_rfl
theorem ty_132 : tyI Try.prog 132 = some (some (.nilFunc), 1, 8) := by kernel_rfl
theorem ty_133 : tyI Try.prog 133 = some (some (.pointer none), 1, 8) := by kernel_rfl
theorem ty_134 : tyI Try.prog 134 = some (some (.nilFunc), 1, 8) := by kernel_rfl
theorem ty_135 : tyI Try.prog 135 = some (some (.pointer none), 1, 8) := by kernel_rfl
theorem ty_137 : tyI Try.prog 137 = some (some (.nilFunc), 1, 8) := by kernel_rfl
theorem ty_138 : tyI Try.prog 138 = some (some (.nilFunc), 1, 8) := by kernel_rfl
theorem ty_139 : tyI Try.prog 139 = some (some (.nilFunc), 1, 8) := by kernel_rfl
theorem ty_140 : tyI Try.prog 140 = some (some (.nilFunc), 1, 8) := by kernel_rfl
theorem ty_142 : tyI Try.prog 142 = some (some (.nilFunc), 1, 8) := by kernel_rfl
theorem ty_143 : tyI Try.prog 143 = some (some (.agg #[.int .i64 0, .int .i64 0, .int .i64 0, .int .i64 0, .slice none 0 0, .slice none 0 0, .slice none 0 0, .int .i64 0, .int .i64 0, .slice none 0 0, .int .i64 0]), 11, 152) := by kernel_rfl
theorem ty_144 : tyI Try.prog 144 = some (some (.agg #[.int .i64 0, .int .i64 0, .int .i64 0, .int .i64 0, .slice none 0 0, .slice none 0 0, .slice none 0 0, .int .i64 0, .int .i64 0, .slice none 0 0, .int .i64 0]), 11, 152) := by kernel_rfl
theorem ty_145 : tyI Try.prog 145 = some (some (.nilFunc), 1, 8) := by kernel_rfl
theorem ty_146 : tyI Try.prog 146 = some (some (.nilFunc), 1, 8) := by kernel_rfl
theorem ty_147 : tyI Try.prog 147 = some (some (.pointer none), 1, 8) := by kernel_rfl
theorem ty_148 : tyI Try.prog 148 = some (some (.agg #[.int .i64 0, .int .i64 0, .int .i64 0, .int .i64 0, .int .i64 0, .int .i64 0, .int .i64 0, .int .i64 0]), 8, 64) := by kernel_rfl
theorem ty_149 : tyI Try.prog 149 = some (some (.agg #[.int .i64 0, .int .i64 0, .int .i64 0, .int .i64 0, .int .i64 0, .int .i64 0, .int .i64 0, .int .i64 0, .int .i64 0, .int .i64 0, .int .i64 0, .int .i64 0, .int .i64 0, .int .i64 0, .int .i64 0, .int .i64 0]), 16, 128) := by kernel_rfl
theorem ty_150 : tyI Try.prog 150 = some (some (.agg #[.int .i64 0, .int .i64 0, .int .i64 0, .int .i64 0, .int .i64 0, .int .i64 0, .int .i64 0, .int .i64 0, .int .i64 0, .int .i64 0, .int .i64 0, .int .i64 0, .int .i64 0, .int .i64 0, .int .i64 0, .int .i64 0, .int .i64 0, .int .i64 0, .int .i64 0, .int .i64 0, .int .i64 0, .int .i64 0, .int .i64 0, .int .i64 0, .int .i64 0, .int .i64 0, .int .i64 0, .int .i64 0, .int .i64 0, .int .i64 0, .int .i64 0, .int .i64 0, .int .i64 0, .int .i64 0, .int .i64 0, .int .i64 0, .int .i64 0, .int .i64 0, .int .i64 0, .int .i64 0, .int .i64 0, .int .i64 0, .int .i64 0, .int .i64 0, .int .i64 0, .int .i64 0, .int .i64 0, .int .i64 0, .int .i64 0, .int .i64 0, .int .i64 0, .int .i64 0, .int .i64 0, .int .i64 0, .int .i64 0, .int .i64 0, .int .i64 0, .int .i64 0, .int .i64 0, .int .i64 0, .int .i64 0, .int .i64 0, .int .i64 0, .int .i64 0, .int .i64 0, .int .i64 0, .int .i64 0, .int .i64 0, .int .i64 0, .int .i64 0, .int .i64 0, .int .i64 0, .int .i64 0, .int .i64 0, .int .i64 0, .int .i64 0, .int .i64 0, .int .i64 0, .int .i64 0, .int .i64 0, .int .i64 0, .int .i64 0, .int .i64 0, .int .i64 0, .int .i64 0, .int .i64 0, .int .i64 0, .int .i64 0, .int .i64 0, .int .i64 0, .int .i64 0, .int .i64 0, .int .i64 0, .int .i64 0, .int .i64 0, .int .i64 0, .int .i64 0, .int .i64 0, .int .i64 0, .int .i64 0, .int .i64 0, .int .i64 0, .int .i64 0, .int .i64 0, .int .i64 0, .int .i64 0, .int .i64 0, .int .i64 0, .int .i64 0, .int .i64 0, .int .i64 0, .int .i64 0, .int .i64 0, .int .i64 0, .int .i64 0, .int .i64 0, .int .i64 0, .int .i64 0, .int .i64 0, .int .i64 0, .int .i64 0, .int .i64 0, .int .i64 0, .int .i64 0, .int .i64 0, .int .i64 0, .int .i64 0, .int .i64 0]), 128, 1024) := by kernel_rfl
theorem ty_152 : tyI Try.prog 152 = some (some (.nilFunc), 1, 8) := by kernel_rfl
theorem ty_153 : tyI Try.prog 153 = some (some (.agg #[.bool false, .bool false, .bool false, .bool false]), 4, 4) := by kernel_rfl
theorem ty_154 : tyI Try.prog 154 = some (some (.agg #[.bool false, .bool false, .bool false, .bool false, .bool false, .bool false, .bool false, .bool false, .bool false, .bool false, .bool false, .bool false, .bool false, .bool false, .bool false, .bool false, .bool false, .bool false, .bool false, .bool false, .bool false, .bool false, .bool false, .bool false, .bool false, .bool false, .bool false, .bool false]), 28, 28) := by kernel_rfl
theorem ty_155 : tyI Try.prog 155 = some (some (.agg #[.int .i64 0, .int .i64 0, .int .i64 0, .int .i64 0, .int .i64 0, .int .i64 0, .int .i64 0]), 7, 56) := by kernel_rfl
theorem ty_156 : tyI Try.prog 156 = some (some (.agg #[.int .i64 0, .int .i64 0, .int .i64 0, .int .i64 0]), 4, 32) := by kernel_rfl
theorem ty_157 : tyI Try.prog 157 = some (some (.agg #[.int .i64 0, .int .i64 0, .int .i64 0]), 3, 24) := by kernel_rfl
theorem ty_158 : tyI Try.prog 158 = some (some (.agg #[.int .i64 0, .int .i64 0, .int .i64 0]), 3, 24) := by kernel_rfl
theorem ty_159 : tyI Try.prog 159 = some (some (.slice none 0 0), 1, 24) := by kernel_rfl
theorem ty_160 : tyI Try.prog 160 = some (some (.agg #[.int .i64 0, .int .i64 0, .int .i64 0, .int .i64 0, .int .i64 0, .int .i64 0, .int .i64 0, .slice none 0 0, .slice none 0 0, .slice none 0 0, .slice none 0 0]), 11, 152) := by kernel_rfl
theorem ty_161 : tyI Try.prog 161 = some (some (.agg #[.int .i64 0, .int .i64 0, .int .i64 0, .int .i64 0, .int .i64 0, .int .i64 0, .int .i64 0, .slice none 0 0, .slice none 0 0, .slice none 0 0, .slice none 0 0]), 11, 152) := by kernel_rfl
theorem ty_162 : tyI Try.prog 162 = some (some (.nilFunc), 1, 8) := by kernel_rfl
theorem ty_163 : tyI Try.prog 163 = some (some (.agg #[.int .i64 0, .int .i64 0, .int .i64 0, .int .i64 0, .int .i64 0, .slice none 0 0, .slice none 0 0]), 7, 88) := by kernel_rfl
theorem ty_164 : tyI Try.prog 164 = some (some (.agg #[.int .i64 0, .int .i64 0, .int .i64 0, .int .i64 0, .int .i64 0, .slice none 0 0, .slice none 0 0]), 7, 88) := by kernel_rfl
theorem ty_165 : tyI Try.prog 165 = some (some (.pointer none), 1, 8) := by kernel_rfl
theorem ty_166 : tyI Try.prog 166 = some (some (.nilFunc), 1, 8) := by kernel_rfl
theorem ty_167 : tyI Try.prog 167 = some (some (.nilFunc), 1, 8) := by kernel_rfl
theorem ty_168 : tyI Try.prog 168 = some (some (.nilFunc), 1, 8) := by kernel_rfl
theorem ty_169 : tyI Try.prog 169 = some (some (.nilFunc), 1, 8) := by kernel_rfl
theorem ty_170 : tyI Try.prog 170 = some (some (.slice none 0 0), 1, 24) := by kernel_rfl
theorem ty_171 : tyI Try.prog 171 = some (some (.nilFunc), 1, 8) := by kernel_rfl
theorem ty_172 : tyI Try.prog 172 = some (some (.nilFunc), 1, 8) := by kernel_rfl
theorem ty_173 : tyI Try.prog 173 = some (some (.pointer none), 1, 8) := by kernel_rfl
theorem ty_175 : tyI Try.prog 175 = some (some (.nilFunc), 1, 8) := by kernel_rfl
theorem ty_176 : tyI Try.prog 176 = some (some (.nilFunc), 1, 8) := by kernel_rfl
theorem ty_177 : tyI Try.prog 177 = some (some (.slice none 0 0), 1, 24) := by kernel_rfl
theorem ty_178 : tyI Try.prog 178 = some (some (.int .u32 0), 1, 4) := by kernel_rfl
theorem ty_179 : tyI Try.prog 179 = some (some (.agg #[.slice none 0 0, .int .u32 0, .int .i64 0]), 3, 40) := by kernel_rfl
theorem ty_180 : tyI Try.prog 180 = some (some (.agg #[.slice none 0 0, .int .u32 0, .int .i64 0]), 3, 40) := by kernel_rfl
theorem ty_182 : tyI Try.prog 182 = some (some (.nilFunc), 1, 8) := by kernel_rfl
theorem ty_183 : tyI Try.prog 183 = some (some (.agg #[.slice none 0 0, .int .u32 0, .int .i64 0, .int .u32 0, .slice none 0 0, .bool false]), 6, 80) := by kernel_rfl
theorem ty_184 : tyI Try.prog 184 = some (some (.agg #[.slice none 0 0, .int .u32 0, .int .i64 0, .int .u32 0, .slice none 0 0, .bool false]), 6, 80) := by kernel_rfl
theorem ty_185 : tyI Try.prog 185 = some (some (.nilFunc), 1, 8) := by kernel_rfl
theorem ty_186 : tyI Try.prog 186 = some (some (.nilFunc), 1, 8) := by kernel_rfl
theorem ty_187 : tyI Try.prog 187 = some (some (.agg #[.slice none 0 0, .int .u32 0, .int .i64 0, .int .u32 0, .slice none 0 0]), 5, 72) := by kernel_rfl
theorem ty_188 : tyI Try.prog 188 = some (some (.agg #[.slice none 0 0, .int .u32 0, .int .i64 0, .int .u32 0, .slice none 0 0]), 5, 72) := by kernel_rfl
theorem ty_189 : tyI Try.prog 189 = some (some (.nilFunc), 1, 8) := by kernel_rfl
theorem ty_190 : tyI Try.prog 190 = some (some (.pointer none), 1, 8) := by kernel_rfl
theorem ty_191 : tyI Try.prog 191 = some (some (.agg #[.int .u32 0, .int .u32 0]), 2, 8) := by kernel_rfl
theorem ty_192 : tyI Try.prog 192 = some (some (.agg #[.int .u32 0, .int .u32 0]), 2, 8) := by kernel_rfl
theorem ty_193 : tyI Try.prog 193 = some (some (.pointer none), 1, 8) := by kernel_rfl
theorem ty_194 : tyI Try.prog 194 = some (some (.nilFunc), 1, 8) := by kernel_rfl
theorem ty_195 : tyI Try.prog 195 = some (some (.agg #[.pointer none, .pointer none, .pointer none, .string ByteArray.empty]), 4, 40) := by kernel_rfl
theorem ty_196 : tyI Try.prog 196 = some (some (.agg #[.pointer none, .pointer none, .pointer none, .string ByteArray.empty]), 4, 40) := by kernel_rfl
theorem ty_197 : tyI Try.prog 197 = some (some (.agg #[]), 0, 0) := by kernel_rfl
theorem ty_198 : tyI Try.prog 198 = some (some (.agg #[]), 0, 0) := by kernel_rfl
theorem ty_199 : tyI Try.prog 199 = some (some (.agg #[]), 0, 0) := by kernel_rfl
theorem ty_200 : tyI Try.prog 200 = some (some (.nilFunc), 1, 8) := by kernel_rfl
theorem ty_201 : tyI Try.prog 201 = some (some (.int .u8 0), 1, 1) := by kernel_rfl
theorem ty_202 : tyI Try.prog 202 = some (some (.int .u8 0), 1, 1) := by kernel_rfl
theorem ty_203 : tyI Try.prog 203 = some (some (.nilFunc), 1, 8) := by kernel_rfl
theorem ty_204 : tyI Try.prog 204 = some (some (.pointer none), 1, 8) := by kernel_rfl
theorem ty_205 : tyI Try.prog 205 = some (some (.int .i32 0), 1, 4) := by kernel_rfl
theorem ty_206 : tyI Try.prog 206 = some (some (.int .i32 0), 1, 4) := by kernel_rfl
theorem ty_207 : tyI Try.prog 207 = some (some (.agg #[.int .u64 0, .int .u64 0, .int .u32 0, .int .u8 0, .int .u8 0, .int .u8 0, .int .u8 0, .nilFunc, .pointer none, .int .i32 0, .int .i32 0]), 11, 48) := by kernel_rfl
theorem ty_208 : tyI Try.prog 208 = some (some (.agg #[.int .u64 0, .int .u64 0, .int .u32 0, .int .u8 0, .int .u8 0, .int .u8 0, .int .u8 0, .nilFunc, .pointer none, .int .i32 0, .int .i32 0]), 11, 48) := by kernel_rfl
theorem ty_209 : tyI Try.prog 209 = some (some (.pointer none), 1, 8) := by kernel_rfl
theorem fl_7 : fieldsP Try.prog 7 = some [(0, (1, false)), (1, (1, false)), (2, (1, false)), (3, (1, false))] := by kernel_rfl
theorem fl_8 : fieldsP Try.prog 8 = some [(0, (1, false)), (1, (1, false)), (2, (1, false)), (3, (1, false))] := by kernel_rfl
theorem fl_13 : fieldsP Try.prog 13 = some [(0, (1, false)), (1, (1, false))] := by kernel_rfl
theorem fl_14 : fieldsP Try.prog 14 = some [(0, (1, false)), (1, (1, false))] := by kernel_rfl
theorem fl_18 : fieldsP Try.prog 18 = some [(0, (1, false))] := by kernel_rfl
theorem fl_19 : fieldsP Try.prog 19 = some [(0, (1, false))] := by kernel_rfl
theorem fl_54 : fieldsP Try.prog 54 = some [(0, (1, false)), (1, (1, false)), (2, (1, false))] := by kernel_rfl
theorem fl_55 : fieldsP Try.prog 55 = some [(0, (1, false)), (1, (1, false)), (2, (1, false))] := by kernel_rfl
theorem fl_70 : fieldsP Try.prog 70 = some [(0, (1, false)), (1, (1, false)), (2, (1, false)), (3, (1, false)), (4, (1, false)), (5, (1, false)), (6, (1, false))] := by kernel_rfl
theorem fl_71 : fieldsP Try.prog 71 = some [(0, (1, false)), (1, (1, false)), (2, (1, false)), (3, (1, false)), (4, (1, false)), (5, (1, false)), (6, (1, false))] := by kernel_rfl
theorem fl_73 : fieldsP Try.prog 73 = some [(0, (1, false)), (1, (1, false)), (2, (1, false)), (3, (1, false)), (4, (1, false))] := by kernel_rfl
theorem fl_74 : fieldsP Try.prog 74 = some [(0, (1, false)), (1, (1, false)), (2, (1, false)), (3, (1, false)), (4, (1, false))] := by kernel_rfl
theorem fl_78 : fieldsP Try.prog 78 = some [(0, (1, false)), (1, (1, false))] := by kernel_rfl
theorem fl_79 : fieldsP Try.prog 79 = some [(0, (1, false)), (1, (1, false))] := by kernel_rfl
theorem fl_84 : fieldsP Try.prog 84 = some [(0, (1, false)), (1, (1, false))] := by kernel_rfl
theorem fl_85 : fieldsP Try.prog 85 = some [(0, (1, false)), (1, (1, false))] := by kernel_rfl
theorem fl_87 : fieldsP Try.prog 87 = some [(0, (1, false)), (1, (1, false)), (2, (1, false)), (3, (1, false)), (4, (1, false)), (5, (1, false))] := by kernel_rfl
theorem fl_88 : fieldsP Try.prog 88 = some [(0, (1, false)), (1, (1, false)), (2, (1, false)), (3, (1, false)), (4, (1, false)), (5, (1, false))] := by kernel_rfl
theorem fl_143 : fieldsP Try.prog 143 = some [(0, (7, true)), (7, (2, true)), (9, (1, false)), (10, (1, false))] := by kernel_rfl
theorem fl_144 : fieldsP Try.prog 144 = some [(0, (7, true)), (7, (2, true)), (9, (1, false)), (10, (1, false))] := by kernel_rfl
theorem fl_157 : fieldsP Try.prog 157 = some [(0, (1, false)), (1, (1, false)), (2, (1, false))] := by kernel_rfl
theorem fl_158 : fieldsP Try.prog 158 = some [(0, (1, false)), (1, (1, false)), (2, (1, false))] := by kernel_rfl
theorem fl_160 : fieldsP Try.prog 160 = some [(0, (3, true)), (3, (7, true)), (10, (1, false))] := by kernel_rfl
theorem fl_161 : fieldsP Try.prog 161 = some [(0, (3, true)), (3, (7, true)), (10, (1, false))] := by kernel_rfl
theorem fl_163 : fieldsP Try.prog 163 = some [(0, (2, true)), (2, (2, true)), (4, (1, false)), (5, (1, false)), (6, (1, false))] := by kernel_rfl
theorem fl_164 : fieldsP Try.prog 164 = some [(0, (2, true)), (2, (2, true)), (4, (1, false)), (5, (1, false)), (6, (1, false))] := by kernel_rfl
theorem fl_179 : fieldsP Try.prog 179 = some [(0, (1, false)), (1, (1, false)), (2, (1, false))] := by kernel_rfl
theorem fl_180 : fieldsP Try.prog 180 = some [(0, (1, false)), (1, (1, false)), (2, (1, false))] := by kernel_rfl
theorem fl_183 : fieldsP Try.prog 183 = some [(0, (3, true)), (3, (1, false)), (4, (1, false)), (5, (1, false))] := by kernel_rfl
theorem fl_184 : fieldsP Try.prog 184 = some [(0, (3, true)), (3, (1, false)), (4, (1, false)), (5, (1, false))] := by kernel_rfl
theorem fl_187 : fieldsP Try.prog 187 = some [(0, (3, true)), (3, (1, false)), (4, (1, false))] := by kernel_rfl
theorem fl_188 : fieldsP Try.prog 188 = some [(0, (3, true)), (3, (1, false)), (4, (1, false))] := by kernel_rfl
theorem fl_191 : fieldsP Try.prog 191 = some [(0, (1, false)), (1, (1, false))] := by kernel_rfl
theorem fl_192 : fieldsP Try.prog 192 = some [(0, (1, false)), (1, (1, false))] := by kernel_rfl
theorem fl_195 : fieldsP Try.prog 195 = some [(0, (1, false)), (1, (1, false)), (2, (1, false)), (3, (1, false))] := by kernel_rfl
theorem fl_196 : fieldsP Try.prog 196 = some [(0, (1, false)), (1, (1, false)), (2, (1, false)), (3, (1, false))] := by kernel_rfl
theorem fl_198 : fieldsP Try.prog 198 = some [(0, (0, true))] := by kernel_rfl
theorem fl_199 : fieldsP Try.prog 199 = some [(0, (0, true))] := by kernel_rfl
theorem fl_207 : fieldsP Try.prog 207 = some [(0, (1, false)), (1, (1, false)), (2, (1, false)), (3, (1, false)), (4, (1, false)), (5, (1, false)), (6, (1, false)), (7, (1, false)), (8, (1, false)), (9, (1, false)), (10, (1, false))] := by kernel_rfl
theorem fl_208 : fieldsP Try.prog 208 = some [(0, (1, false)), (1, (1, false)), (2, (1, false)), (3, (1, false)), (4, (1, false)), (5, (1, false)), (6, (1, false)), (7, (1, false)), (8, (1, false)), (9, (1, false)), (10, (1, false))] := by kernel_rfl
theorem eq_78 : eqInts Try.prog 78 = true ∧ (match Try.prog.underlying 78 with | some (.struct fs) => fs.size | _ => 0) = 2 := ⟨by kernel_rfl, by rw [Try.underlying78]; rfl⟩
theorem eq_79 : eqInts Try.prog 79 = true ∧ (match Try.prog.underlying 79 with | some (.struct fs) => fs.size | _ => 0) = 2 := ⟨by kernel_rfl, by rw [Try.underlying79]; rfl⟩
theorem eq_84 : eqInts Try.prog 84 = true ∧ (match Try.prog.underlying 84 with | some (.struct fs) => fs.size | _ => 0) = 2 := ⟨by kernel_rfl, by rw [Try.underlying84]; rfl⟩
theorem eq_85 : eqInts Try.prog 85 = true ∧ (match Try.prog.underlying 85 with | some (.struct fs) => fs.size | _ => 0) = 2 := ⟨by kernel_rfl, by rw [Try.underlying85]; rfl⟩
theorem eq_87 : eqInts Try.prog 87 = true ∧ (match Try.prog.underlying 87 with | some (.struct fs) => fs.size | _ => 0) = 6 := ⟨by kernel_rfl, by rw [Try.underlying87]; rfl⟩
theorem eq_88 : eqInts Try.prog 88 = true ∧ (match Try.prog.underlying 88 with | some (.struct fs) => fs.size | _ => 0) = 6 := ⟨by kernel_rfl, by rw [Try.underlying88]; rfl⟩
theorem eq_157 : eqInts Try.prog 157 = true ∧ (match Try.prog.underlying 157 with | some (.struct fs) => fs.size | _ => 0) = 3 := ⟨by kernel_rfl, by rw [Try.underlying157]; rfl⟩
theorem eq_158 : eqInts Try.prog 158 = true ∧ (match Try.prog.underlying 158 with | some (.struct fs) => fs.size | _ => 0) = 3 := ⟨by kernel_rfl, by rw [Try.underlying158]; rfl⟩
theorem eq_191 : eqInts Try.prog 191 = true ∧ (match Try.prog.underlying 191 with | some (.struct fs) => fs.size | _ => 0) = 2 := ⟨by kernel_rfl, by rw [Try.underlying191]; rfl⟩
theorem eq_192 : eqInts Try.prog 192 = true ∧ (match Try.prog.underlying 192 with | some (.struct fs) => fs.size | _ => 0) = 2 := ⟨by kernel_rfl, by rw [Try.underlying192]; rfl⟩
theorem tab_und : allP (fun k D => Try.prog.underlying k = some D) tab.und := ⟨Try.underlying0, ⟨Try.underlying1, ⟨Try.underlying2, ⟨Try.underlying3, ⟨Try.underlying4, ⟨Try.underlying5, ⟨Try.underlying6, ⟨Try.underlying7, ⟨Try.underlying8, ⟨Try.underlying9, ⟨Try.underlying10, ⟨Try.underlying11, ⟨Try.underlying12, ⟨Try.underlying13, ⟨Try.underlying14, ⟨Try.underlying15, ⟨Try.underlying16, ⟨Try.underlying17, ⟨Try.underlying18, ⟨Try.underlying19, ⟨Try.underlying20, ⟨Try.underlying21, ⟨Try.underlying22, ⟨Try.underlying23, ⟨Try.underlying24, ⟨Try.underlying25, ⟨Try.underlying26, ⟨Try.underlying27, ⟨Try.underlying28, ⟨Try.underlying29, ⟨Try.underlying30, ⟨Try.underlying31, ⟨Try.underlying32, ⟨Try.underlying33, ⟨Try.underlying34, ⟨Try.underlying35, ⟨Try.underlying36, ⟨Try.underlying37, ⟨Try.underlying38, ⟨Try.underlying39, ⟨Try.underlying40, ⟨Try.underlying41, ⟨Try.underlying42, ⟨Try.underlying43, ⟨Try.underlying44, ⟨Try.underlying45, ⟨Try.underlying46, ⟨Try.underlying47, ⟨Try.underlying48, ⟨Try.underlying49, ⟨Try.underlying50, ⟨Try.underlying51, ⟨Try.underlying52, ⟨Try.underlying53, ⟨Try.underlying54, ⟨Try.underlying55, ⟨Try.underlying56, ⟨Try.underlying57, ⟨Try.underlying58, ⟨Try.underlying59, ⟨Try.underlying60, ⟨Try.underlying61, ⟨Try.underlying62, ⟨Try.underlying63, ⟨Try.underlying64, ⟨Try.underlying65, ⟨Try.underlying66, ⟨Try.underlying67, ⟨Try.underlying68, ⟨Try.underlying69, ⟨Try.underlying70, ⟨Try.underlying71, ⟨Try.underlying72, ⟨Try.underlying73, ⟨Try.underlying74, ⟨Try.underlying75, ⟨Try.underlying76, ⟨Try.underlying77, ⟨Try.underlying78, ⟨Try.underlying79, ⟨Try.underlying80, ⟨Try.underlying81, ⟨Try.underlying82, ⟨Try.underlying83, ⟨Try.underlying84, ⟨Try.underlying85, ⟨Try.underlying86, ⟨Try.underlying87, ⟨Try.underlying88, ⟨Try.underlying89, ⟨Try.underlying90, ⟨Try.underlying91, ⟨Try.underlying92, ⟨Try.underlying93, ⟨Try.underlying94, ⟨Try.underlying95, ⟨Try.underlying96, ⟨Try.underlying97, ⟨Try.underlying98, ⟨Try.underlying99, ⟨Try.underlying100, ⟨Try.underlying101, ⟨Try.underlying102, ⟨Try.underlying103, ⟨Try.underlying104, ⟨Try.underlying105, ⟨Try.underlying106, ⟨Try.underlying107, ⟨Try.underlying108, ⟨Try.underlying109, ⟨Try.underlying110, ⟨Try.underlying111, ⟨Try.underlying112, ⟨Try.underlying113, ⟨Try.underlying114, ⟨Try.underlying115, ⟨Try.underlying116, ⟨Try.underlying117, ⟨Try.underlying118, ⟨Try.underlying119, ⟨Try.underlying120, ⟨Try.underlying121, ⟨Try.underlying122, ⟨Try.underlying123, ⟨Try.underlying124, ⟨Try.underlying125, ⟨Try.underlying126, ⟨Try.underlying127, ⟨Try.underlying128, ⟨Try.underlying129, ⟨Try.underlying130, ⟨Try.underlying131, ⟨Try.underlying132, ⟨Try.underlying133, ⟨Try.underlying134, ⟨Try.underlying135, ⟨Try.underlying136, ⟨Try.underlying137, ⟨Try.underlying138, ⟨Try.underlying139, ⟨Try.underlying140, ⟨Try.underlying141, ⟨Try.underlying142, ⟨Try.underlying143, ⟨Try.underlying144, ⟨Try.underlying145, ⟨Try.underlying146, ⟨Try.underlying147, ⟨Try.underlying148, ⟨Try.underlying149, ⟨Try.underlying150, ⟨Try.underlying151, ⟨Try.underlying152, ⟨Try.underlying153, ⟨Try.underlying154, ⟨Try.underlying155, ⟨Try.underlying156, ⟨Try.underlying157, ⟨Try.underlying158, ⟨Try.underlying159, ⟨Try.underlying160, ⟨Try.underlying161, ⟨Try.underlying162, ⟨Try.underlying163, ⟨Try.underlying164, ⟨Try.underlying165, ⟨Try.underlying166, ⟨Try.underlying167, ⟨Try.underlying168, ⟨Try.underlying169, ⟨Try.underlying170, ⟨Try.underlying171, ⟨Try.underlying172, ⟨Try.underlying173, ⟨Try.underlying174, ⟨Try.underlying175, ⟨Try.underlying176, ⟨Try.underlying177, ⟨Try.underlying178, ⟨Try.underlying179, ⟨Try.underlying180, ⟨Try.underlying181, ⟨Try.underlying182, ⟨Try.underlying183, ⟨Try.underlying184, ⟨Try.underlying185, ⟨Try.underlying186, ⟨Try.underlying187, ⟨Try.underlying188, ⟨Try.underlying189, ⟨Try.underlying190, ⟨Try.underlying191, ⟨Try.underlying192, ⟨Try.underlying193, ⟨Try.underlying194, ⟨Try.underlying195, ⟨Try.underlying196, ⟨Try.underlying197, ⟨Try.underlying198, ⟨Try.underlying199, ⟨Try.underlying200, ⟨Try.underlying201, ⟨Try.underlying202, ⟨Try.underlying203, ⟨Try.underlying204, ⟨Try.underlying205, ⟨Try.underlying206, ⟨Try.underlying207, ⟨Try.underlying208, ⟨Try.underlying209, trivial⟩⟩⟩⟩⟩⟩⟩⟩⟩⟩⟩⟩⟩⟩⟩⟩⟩⟩⟩⟩⟩⟩⟩⟩⟩⟩⟩⟩⟩⟩⟩⟩⟩⟩⟩⟩⟩⟩⟩⟩⟩⟩⟩⟩⟩⟩⟩⟩⟩⟩⟩⟩⟩⟩⟩⟩⟩⟩⟩⟩⟩⟩⟩⟩⟩⟩⟩⟩⟩⟩⟩⟩⟩⟩⟩⟩⟩⟩⟩⟩⟩⟩⟩⟩⟩⟩⟩⟩⟩⟩⟩⟩⟩⟩⟩⟩⟩⟩⟩⟩⟩⟩⟩⟩⟩⟩⟩⟩⟩⟩⟩⟩⟩⟩⟩⟩⟩⟩⟩⟩⟩⟩⟩⟩⟩⟩⟩⟩⟩⟩⟩⟩⟩⟩⟩⟩⟩⟩⟩⟩⟩⟩⟩⟩⟩⟩⟩⟩⟩⟩⟩⟩⟩⟩⟩⟩⟩⟩⟩⟩⟩⟩⟩⟩⟩⟩⟩⟩⟩⟩⟩⟩⟩⟩⟩⟩⟩⟩⟩⟩⟩⟩⟩⟩⟩⟩⟩⟩⟩⟩⟩⟩⟩⟩⟩⟩⟩⟩⟩⟩⟩⟩⟩⟩⟩⟩⟩⟩⟩⟩
theorem tab_inf : allP (fun k x => tyI Try.prog k = some x) tab.inf := ⟨ty_1, ⟨ty_2, ⟨ty_3, ⟨ty_4, ⟨ty_5, ⟨ty_6, ⟨ty_7, ⟨ty_8, ⟨ty_9, ⟨ty_10, ⟨ty_11, ⟨ty_12, ⟨ty_13, ⟨ty_14, ⟨ty_15, ⟨ty_16, ⟨ty_17, ⟨ty_18, ⟨ty_19, ⟨ty_20, ⟨ty_21, ⟨ty_22, ⟨ty_23, ⟨ty_25, ⟨ty_26, ⟨ty_27, ⟨ty_28, ⟨ty_29, ⟨ty_30, ⟨ty_32, ⟨ty_33, ⟨ty_34, ⟨ty_36, ⟨ty_37, ⟨ty_38, ⟨ty_40, ⟨ty_42, ⟨ty_43, ⟨ty_44, ⟨ty_46, ⟨ty_47, ⟨ty_49, ⟨ty_50, ⟨ty_51, ⟨ty_52, ⟨ty_53, ⟨ty_54, ⟨ty_55, ⟨ty_57, ⟨ty_58, ⟨ty_59, ⟨ty_60, ⟨ty_61, ⟨ty_62, ⟨ty_63, ⟨ty_64, ⟨ty_65, ⟨ty_66, ⟨ty_67, ⟨ty_68, ⟨ty_69, ⟨ty_70, ⟨ty_71, ⟨ty_72, ⟨ty_73, ⟨ty_74, ⟨ty_75, ⟨ty_77, ⟨ty_78, ⟨ty_79, ⟨ty_80, ⟨ty_81, ⟨ty_83, ⟨ty_84, ⟨ty_85, ⟨ty_86, ⟨ty_87, ⟨ty_88, ⟨ty_89, ⟨ty_90, ⟨ty_92, ⟨ty_93, ⟨ty_94, ⟨ty_95, ⟨ty_96, ⟨ty_97, ⟨ty_98, ⟨ty_99, ⟨ty_100, ⟨ty_101, ⟨ty_103, ⟨ty_104, ⟨ty_106, ⟨ty_107, ⟨ty_108, ⟨ty_110, ⟨ty_111, ⟨ty_112, ⟨ty_113, ⟨ty_114, ⟨ty_115, ⟨ty_116, ⟨ty_117, ⟨ty_118, ⟨ty_119, ⟨ty_121, ⟨ty_122, ⟨ty_123, ⟨ty_124, ⟨ty_125, ⟨ty_126, ⟨ty_127, ⟨ty_128, ⟨ty_129, ⟨ty_130, ⟨ty_131, ⟨ty_132, ⟨ty_133, ⟨ty_134, ⟨ty_135, ⟨ty_137, ⟨ty_138, ⟨ty_139, ⟨ty_140, ⟨ty_142, ⟨ty_143, ⟨ty_144, ⟨ty_145, ⟨ty_146, ⟨ty_147, ⟨ty_148, ⟨ty_149, ⟨ty_150, ⟨ty_152, ⟨ty_153, ⟨ty_154, ⟨ty_155, ⟨ty_156, ⟨ty_157, ⟨ty_158, ⟨ty_159, ⟨ty_160, ⟨ty_161, ⟨ty_162, ⟨ty_163, ⟨ty_164, ⟨ty_165, ⟨ty_166, ⟨ty_167, ⟨ty_168, ⟨ty_169, ⟨ty_170, ⟨ty_171, ⟨ty_172, ⟨ty_173, ⟨ty_175, ⟨ty_176, ⟨ty_177, ⟨ty_178, ⟨ty_179, ⟨ty_180, ⟨ty_182, ⟨ty_183, ⟨ty_184, ⟨ty_185, ⟨ty_186, ⟨ty_187, ⟨ty_188, ⟨ty_189, ⟨ty_190, ⟨ty_191, ⟨ty_192, ⟨ty_193, ⟨ty_194, ⟨ty_195, ⟨ty_196, ⟨ty_197, ⟨ty_198, ⟨ty_199, ⟨ty_200, ⟨ty_201, ⟨ty_202, ⟨ty_203, ⟨ty_204, ⟨ty_205, ⟨ty_206, ⟨ty_207, ⟨ty_208, ⟨ty_209, trivial⟩⟩⟩⟩⟩⟩⟩⟩⟩⟩⟩⟩⟩⟩⟩⟩⟩⟩⟩⟩⟩⟩⟩⟩⟩⟩⟩⟩⟩⟩⟩⟩⟩⟩⟩⟩⟩⟩⟩⟩⟩⟩⟩⟩⟩⟩⟩⟩⟩⟩⟩⟩⟩⟩⟩⟩⟩⟩⟩⟩⟩⟩⟩⟩⟩⟩⟩⟩⟩⟩⟩⟩⟩⟩⟩⟩⟩⟩⟩⟩⟩⟩⟩⟩⟩⟩⟩⟩⟩⟩⟩⟩⟩⟩⟩⟩⟩⟩⟩⟩⟩⟩⟩⟩⟩⟩⟩⟩⟩⟩⟩⟩⟩⟩⟩⟩⟩⟩⟩⟩⟩⟩⟩⟩⟩⟩⟩⟩⟩⟩⟩⟩⟩⟩⟩⟩⟩⟩⟩⟩⟩⟩⟩⟩⟩⟩⟩⟩⟩⟩⟩⟩⟩⟩⟩⟩⟩⟩⟩⟩⟩⟩⟩⟩⟩⟩⟩⟩⟩⟩⟩⟩⟩⟩⟩⟩⟩⟩⟩⟩⟩⟩⟩⟩⟩⟩⟩⟩⟩
theorem tab_fld : allP (fun k x => fieldsP Try.prog k = some x) tab.fld := ⟨fl_7, ⟨fl_8, ⟨fl_13, ⟨fl_14, ⟨fl_18, ⟨fl_19, ⟨fl_54, ⟨fl_55, ⟨fl_70, ⟨fl_71, ⟨fl_73, ⟨fl_74, ⟨fl_78, ⟨fl_79, ⟨fl_84, ⟨fl_85, ⟨fl_87, ⟨fl_88, ⟨fl_143, ⟨fl_144, ⟨fl_157, ⟨fl_158, ⟨fl_160, ⟨fl_161, ⟨fl_163, ⟨fl_164, ⟨fl_179, ⟨fl_180, ⟨fl_183, ⟨fl_184, ⟨fl_187, ⟨fl_188, ⟨fl_191, ⟨fl_192, ⟨fl_195, ⟨fl_196, ⟨fl_198, ⟨fl_199, ⟨fl_207, ⟨fl_208, trivial⟩⟩⟩⟩⟩⟩⟩⟩⟩⟩⟩⟩⟩⟩⟩⟩⟩⟩⟩⟩⟩⟩⟩⟩⟩⟩⟩⟩⟩⟩⟩⟩⟩⟩⟩⟩⟩⟩⟩⟩
set_option maxRecDepth 100000 in
theorem tab_eqs : allP (fun k L => eqInts Try.prog k = true ∧ (match Try.prog.underlying k with | some (.struct fs) => fs.size | _ => 0) = L) tab.eqs := ⟨eq_78, ⟨eq_79, ⟨eq_84, ⟨eq_85, ⟨eq_87, ⟨eq_88, ⟨eq_157, ⟨eq_158, ⟨eq_191, ⟨eq_192, trivial⟩⟩⟩⟩⟩⟩⟩⟩⟩⟩
set_option maxRecDepth 100000 in
theorem tab_ok : tab.ok Try.prog := ⟨tab_und, tab_inf, tab_fld, tab_eqs⟩
def cas : List (Nat × Nat) := [(2, 0), (3, 0), (4, 0), (5, 0), (6, 0), (7, 0), (8, 0), (9, 0), (10, 0), (11, 0), (12, 0), (13, 0), (14, 0), (15, 0), (16, 0), (17, 0), (18, 0), (19, 0), (20, 0), (21, 0), (22, 0), (23, 0), (24, 0), (25, 0), (26, 0), (27, 0), (28, 0), (29, 0), (30, 0), (31, 0), (32, 0), (33, 0), (34, 0), (35, 0), (36, 0), (37, 0), (38, 0), (39, 0), (40, 0), (41, 0), (42, 0), (43, 0), (44, 0), (45, 0), (46, 0), (47, 0), (48, 0), (49, 0), (50, 0), (51, 0), (52, 0), (53, 0), (54, 0), (55, 0), (56, 0), (57, 0), (58, 0), (59, 0), (60, 0), (61, 0), (62, 0), (63, 0), (64, 0), (65, 0), (66, 0), (67, 0), (68, 0), (69, 0), (70, 0), (71, 0), (72, 0), (73, 0), (74, 0), (75, 0), (76, 0), (77, 0), (78, 0), (79, 0), (80, 0), (81, 0), (82, 0), (83, 0), (84, 0), (85, 0), (86, 0), (87, 0), (88, 0), (89, 0), (90, 0), (91, 0), (92, 0), (93, 0), (94, 0), (95, 0), (96, 0), (97, 0), (98, 0), (99, 0), (100, 0), (101, 0), (102, 0), (103, 0), (104, 0), (105, 0), (106, 0), (107, 0), (108, 0), (109, 0), (110, 0), (111, 0), (112, 0), (113, 0), (114, 0), (115, 0), (116, 0), (117, 0), (118, 0), (119, 0)]
theorem ca_2 : callable Try.prog 2 = true := by kernel_rfl
theorem ca_3 : callable Try.prog 3 = true := by kernel_rfl
theorem ca_4 : callable Try.prog 4 = true := by kernel_rfl
theorem ca_5 : callable Try.prog 5 = true := by kernel_rfl
theorem ca_6 : callable Try.prog 6 = true := by kernel_rfl
theorem ca_7 : callable Try.prog 7 = true := by kernel_rfl
theorem ca_8 : callable Try.prog 8 = true := by kernel_rfl
theorem ca_9 : callable Try.prog 9 = true := by kernel_rfl
theorem ca_10 : callable Try.prog 10 = true := by kernel_rfl
theorem ca_11 : callable Try.prog 11 = true := by kernel_rfl
theorem ca_12 : callable Try.prog 12 = true := by kernel_rfl
theorem ca_13 : callable Try.prog 13 = true := by kernel_rfl
theorem ca_14 : callable Try.prog 14 = true := by kernel_rfl
theorem ca_15 : callable Try.prog 15 = true := by kernel_rfl
theorem ca_16 : callable Try.prog 16 = true := by kernel_rfl
theorem ca_17 : callable Try.prog 17 = true := by kernel_rfl
theorem ca_18 : callable Try.prog 18 = true := by kernel_rfl
theorem ca_19 : callable Try.prog 19 = true := by kernel_rfl
theorem ca_20 : callable Try.prog 20 = true := by kernel_rfl
theorem ca_21 : callable Try.prog 21 = true := by kernel_rfl
theorem ca_22 : callable Try.prog 22 = true := by kernel_rfl
theorem ca_23 : callable Try.prog 23 = true := by kernel_rfl
theorem ca_24 : callable Try.prog 24 = true := by kernel_rfl
theorem ca_25 : callable Try.prog 25 = true := by kernel_rfl
theorem ca_26 : callable Try.prog 26 = true := by kernel_rfl
theorem ca_27 : callable Try.prog 27 = true := by kernel_rfl
theorem ca_28 : callable Try.prog 28 = true := by kernel_rfl
theorem ca_29 : callable Try.prog 29 = true := by kernel_rfl
theorem ca_30 : callable Try.prog 30 = true := by kernel_rfl
theorem ca_31 : callable Try.prog 31 = true := by kernel_rfl
theorem ca_32 : callable Try.prog 32 = true := by kernel_rfl
theorem ca_33 : callable Try.prog 33 = true := by kernel_rfl
theorem ca_34 : callable Try.prog 34 = true := by kernel_rfl
theorem ca_35 : callable Try.prog 35 = true := by kernel_rfl
theorem ca_36 : callable Try.prog 36 = true := by kernel_rfl
theorem ca_37 : callable Try.prog 37 = true := by kernel_rfl
theorem ca_38 : callable Try.prog 38 = true := by kernel_rfl
theorem ca_39 : callable Try.prog 39 = true := by kernel_rfl
theorem ca_40 : callable Try.prog 40 = true := by kernel_rfl
theorem ca_41 : callable Try.prog 41 = true := by kernel_rfl
theorem ca_42 : callable Try.prog 42 = true := by kernel_rfl
theorem ca_43 : callable Try.prog 43 = true := by kernel_rfl
theorem ca_44 : callable Try.prog 44 = true := by kernel_rfl
theorem ca_45 : callable Try.prog 45 = true := by kernel_rfl
theorem ca_46 : callable Try.prog 46 = true := by kernel_rfl
theorem ca_47 : callable Try.prog 47 = true := by kernel_rfl
theorem ca_48 : callable Try.prog 48 = true := by kernel_rfl
theorem ca_49 : callable Try.prog 49 = true := by kernel_rfl
theorem ca_50 : callable Try.prog 50 = true := by kernel_rfl
theorem ca_51 : callable Try.prog 51 = true := by kernel_rfl
theorem ca_52 : callable Try.prog 52 = true := by kernel_rfl
theorem ca_53 : callable Try.prog 53 = true := by kernel_rfl
theorem ca_54 : callable Try.prog 54 = true := by kernel_rfl
theorem ca_55 : callable Try.prog 55 = true := by kernel_rfl
theorem ca_56 : callable Try.prog 56 = true := by kernel_rfl
theorem ca_57 : callable Try.prog 57 = true := by kernel_rfl
theorem ca_58 : callable Try.prog 58 = true := by kernel_rfl
theorem ca_59 : callable Try.prog 59 = true := by kernel_rfl
theorem ca_60 : callable Try.prog 60 = true := by kernel_rfl
theorem ca_61 : callable Try.prog 61 = true := by kernel_rfl
theorem ca_62 : callable Try.prog 62 = true := by kernel_rfl
theorem ca_63 : callable Try.prog 63 = true := by kernel_rfl
theorem ca_64 : callable Try.prog 64 = true := by kernel_rfl
theorem ca_65 : callable Try.prog 65 = true := by kernel_rfl
theorem ca_66 : callable Try.prog 66 = true := by kernel_rfl
theorem ca_67 : callable Try.prog 67 = true := by kernel_rfl
theorem ca_68 : callable Try.prog 68 = true := by kernel_rfl
theorem ca_69 : callable Try.prog 69 = true := by kernel_rfl
theorem ca_70 : callable Try.prog 70 = true := by kernel_rfl
theorem ca_71 : callable Try.prog 71 = true := by kernel_rfl
theorem ca_72 : callable Try.prog 72 = true := by kernel_rfl
theorem ca_73 : callable Try.prog 73 = true := by kernel_rfl
theorem ca_74 : callable Try.prog 74 = true := by kernel_rfl
theorem ca_75 : callable Try.prog 75 = true := by kernel_rfl
theorem ca_76 : callable Try.prog 76 = true := by kernel_rfl
theorem ca_77 : callable Try.prog 77 = true := by kernel_rfl
theorem ca_78 : callable Try.prog 78 = true := by kernel_rfl
theorem ca_79 : callable Try.prog 79 = true := by kernel_rfl
theorem ca_80 : callable Try.prog 80 = true := by kernel_rfl
theorem ca_81 : callable Try.prog 81 = true := by kernel_rfl
theorem ca_82 : callable Try.prog 82 = true := by kernel_rfl
theorem ca_83 : callable Try.prog 83 = true := by kernel_rfl
theorem ca_84 : callable Try.prog 84 = true := by kernel_rfl
theorem ca_85 : callable Try.prog 85 = true := by kernel_rfl
theorem ca_86 : callable Try.prog 86 = true := by kernel_rfl
theorem ca_87 : callable Try.prog 87 = true := by kernel_rfl
theorem ca_88 : callable Try.prog 88 = true := by kernel_rfl
theorem ca_89 : callable Try.prog 89 = true := by kernel_rfl
theorem ca_90 : callable Try.prog 90 = true := by kernel_rfl
theorem ca_91 : callable Try.prog 91 = true := by kernel_rfl
theorem ca_92 : callable Try.prog 92 = true := by kernel_rfl
theorem ca_93 : callable Try.prog 93 = true := by kernel_rfl
theorem ca_94 : callable Try.prog 94 = true := by kernel_rfl
theorem ca_95 : callable Try.prog 95 = true := by kernel_rfl
theorem ca_96 : callable Try.prog 96 = true := by kernel_rfl
theorem ca_97 : callable Try.prog 97 = true := by kernel_rfl
theorem ca_98 : callable Try.prog 98 = true := by kernel_rfl
theorem ca_99 : callable Try.prog 99 = true := by kernel_rfl
theorem ca_100 : callable Try.prog 100 = true := by kernel_rfl
theorem ca_101 : callable Try.prog 101 = true := by kernel_rfl
theorem ca_102 : callable Try.prog 102 = true := by kernel_rfl
theorem ca_103 : callable Try.prog 103 = true := by kernel_rfl
theorem ca_104 : callable Try.prog 104 = true := by kernel_rfl
theorem ca_105 : callable Try.prog 105 = true := by kernel_rfl
theorem ca_106 : callable Try.prog 106 = true := by kernel_rfl
theorem ca_107 : callable Try.prog 107 = true := by kernel_rfl
theorem ca_108 : callable Try.prog 108 = true := by kernel_rfl
theorem ca_109 : callable Try.prog 109 = true := by kernel_rfl
theorem ca_110 : callable Try.prog 110 = true := by kernel_rfl
theorem ca_111 : callable Try.prog 111 = true := by kernel_rfl
theorem ca_112 : callable Try.prog 112 = true := by kernel_rfl
theorem ca_113 : callable Try.prog 113 = true := by kernel_rfl
theorem ca_114 : callable Try.prog 114 = true := by kernel_rfl
theorem ca_115 : callable Try.prog 115 = true := by kernel_rfl
theorem ca_116 : callable Try.prog 116 = true := by kernel_rfl
theorem ca_117 : callable Try.prog 117 = true := by kernel_rfl
theorem ca_118 : callable Try.prog 118 = true := by kernel_rfl
theorem ca_119 : callable Try.prog 119 = true := by kernel_rfl
theorem cas_ok : allP (fun k _ => callable Try.prog k = true) cas := ⟨ca_2, ⟨ca_3, ⟨ca_4, ⟨ca_5, ⟨ca_6, ⟨ca_7, ⟨ca_8, ⟨ca_9, ⟨ca_10, ⟨ca_11, ⟨ca_12, ⟨ca_13, ⟨ca_14, ⟨ca_15, ⟨ca_16, ⟨ca_17, ⟨ca_18, ⟨ca_19, ⟨ca_20, ⟨ca_21, ⟨ca_22, ⟨ca_23, ⟨ca_24, ⟨ca_25, ⟨ca_26, ⟨ca_27, ⟨ca_28, ⟨ca_29, ⟨ca_30, ⟨ca_31, ⟨ca_32, ⟨ca_33, ⟨ca_34, ⟨ca_35, ⟨ca_36, ⟨ca_37, ⟨ca_38, ⟨ca_39, ⟨ca_40, ⟨ca_41, ⟨ca_42, ⟨ca_43, ⟨ca_44, ⟨ca_45, ⟨ca_46, ⟨ca_47, ⟨ca_48, ⟨ca_49, ⟨ca_50, ⟨ca_51, ⟨ca_52, ⟨ca_53, ⟨ca_54, ⟨ca_55, ⟨ca_56, ⟨ca_57, ⟨ca_58, ⟨ca_59, ⟨ca_60, ⟨ca_61, ⟨ca_62, ⟨ca_63, ⟨ca_64, ⟨ca_65, ⟨ca_66, ⟨ca_67, ⟨ca_68, ⟨ca_69, ⟨ca_70, ⟨ca_71, ⟨ca_72, ⟨ca_73, ⟨ca_74, ⟨ca_75, ⟨ca_76, ⟨ca_77, ⟨ca_78, ⟨ca_79, ⟨ca_80, ⟨ca_81, ⟨ca_82, ⟨ca_83, ⟨ca_84, ⟨ca_85, ⟨ca_86, ⟨ca_87, ⟨ca_88, ⟨ca_89, ⟨ca_90, ⟨ca_91, ⟨ca_92, ⟨ca_93, ⟨ca_94, ⟨ca_95, ⟨ca_96, ⟨ca_97, ⟨ca_98, ⟨ca_99, ⟨ca_100, ⟨ca_101, ⟨ca_102, ⟨ca_103, ⟨ca_104, ⟨ca_105, ⟨ca_106, ⟨ca_107, ⟨ca_108, ⟨ca_109, ⟨ca_110, ⟨ca_111, ⟨ca_112, ⟨ca_113, ⟨ca_114, ⟨ca_115, ⟨ca_116, ⟨ca_117, ⟨ca_118, ⟨ca_119, trivial⟩⟩⟩⟩⟩⟩⟩⟩⟩⟩⟩⟩⟩⟩⟩⟩⟩⟩⟩⟩⟩⟩⟩⟩⟩⟩⟩⟩⟩⟩⟩⟩⟩⟩⟩⟩⟩⟩⟩⟩⟩⟩⟩⟩⟩⟩⟩⟩⟩⟩⟩⟩⟩⟩⟩⟩⟩⟩⟩⟩⟩⟩⟩⟩⟩⟩⟩⟩⟩⟩⟩⟩⟩⟩⟩⟩⟩⟩⟩⟩⟩⟩⟩⟩⟩⟩⟩⟩⟩⟩⟩⟩⟩⟩⟩⟩⟩⟩⟩⟩⟩⟩⟩⟩⟩⟩⟩⟩⟩⟩⟩⟩⟩⟩⟩⟩⟩⟩
end Go.Proofs.Ytedjnjgnadbkaaa
/- What a run of the abstract machine asks of the program (printed by a program). -/
set_option maxRecDepth 1000000
namespace Go.Proofs.Ytedjnjgnadbkaaa
open Go
noncomputable def ctx : Ctx := ⟨tab, [(2, Try.f2), (3, Try.f3), (4, Try.f4), (5, Try.f5), (6, Try.f6), (7, Try.f7), (8, Try.f8), (9, Try.f9), (10, Try.f10), (11, Try.f11), (12, Try.f12), (13, Try.f13), (14, Try.f14), (15, Try.f15), (16, Try.f16), (17, Try.f17), (18, Try.f18), (19, Try.f19), (20, Try.f20), (21, Try.f21), (22, Try.f22), (23, Try.f23), (24, Try.f24), (25, Try.f25), (26, Try.f26), (27, Try.f27), (28, Try.f28), (29, Try.f29), (30, Try.f30), (31, Try.f31), (32, Try.f32), (33, Try.f33), (34, Try.f34), (35, Try.f35), (36, Try.f36), (37, Try.f37), (38, Try.f38), (39, Try.f39), (40, Try.f40), (41, Try.f41), (42, Try.f42), (43, Try.f43), (44, Try.f44), (45, Try.f45), (46, Try.f46), (47, Try.f47), (48, Try.f48), (49, Try.f49), (50, Try.f50), (51, Try.f51), (52, Try.f52), (53, Try.f53), (54, Try.f54), (55, Try.f55), (56, Try.f56), (57, Try.f57), (58, Try.f58), (59, Try.f59), (60, Try.f60), (61, Try.f61), (62, Try.f62), (63, Try.f63), (64, Try.f64), (65, Try.f65), (66, Try.f66), (67, Try.f67), (68, Try.f68), (69, Try.f69), (70, Try.f70), (71, Try.f71), (72, Try.f72), (73, Try.f73), (74, Try.f74), (75, Try.f75), (76, Try.f76), (77, Try.f77), (78, Try.f78), (79, Try.f79), (80, Try.f80), (81, Try.f81), (82, Try.f82), (83, Try.f83), (84, Try.f84), (85, Try.f85), (86, Try.f86), (87, Try.f87), (88, Try.f88), (89, Try.f89), (90, Try.f90), (91, Try.f91), (92, Try.f92), (93, Try.f93), (94, Try.f94), (95, Try.f95), (96, Try.f96), (97, Try.f97), (98, Try.f98), (99, Try.f99), (100, Try.f100), (101, Try.f101), (102, Try.f102), (103, Try.f103), (104, Try.f104), (105, Try.f105), (106, Try.f106), (107, Try.f107), (108, Try.f108), (109, Try.f109), (110, Try.f110), (111, Try.f111), (112, Try.f112), (113, Try.f113), (114, Try.f114), (115, Try.f115), (116, Try.f116), (117, Try.f117), (118, Try.f118), (119, Try.f119)], cas⟩
set_option maxRecDepth 100000 in
theorem fns_ok : allP (fun k f => Try.prog.funcs[k]? = some f) ctx.fns := ⟨Try.func2, ⟨Try.func3, ⟨Try.func4, ⟨Try.func5, ⟨Try.func6, ⟨Try.func7, ⟨Try.func8, ⟨Try.func9, ⟨Try.func10, ⟨Try.func11, ⟨Try.func12, ⟨Try.func13, ⟨Try.func14, ⟨Try.func15, ⟨Try.func16, ⟨Try.func17, ⟨Try.func18, ⟨Try.func19, ⟨Try.func20, ⟨Try.func21, ⟨Try.func22, ⟨Try.func23, ⟨Try.func24, ⟨Try.func25, ⟨Try.func26, ⟨Try.func27, ⟨Try.func28, ⟨Try.func29, ⟨Try.func30, ⟨Try.func31, ⟨Try.func32, ⟨Try.func33, ⟨Try.func34, ⟨Try.func35, ⟨Try.func36, ⟨Try.func37, ⟨Try.func38, ⟨Try.func39, ⟨Try.func40, ⟨Try.func41, ⟨Try.func42, ⟨Try.func43, ⟨Try.func44, ⟨Try.func45, ⟨Try.func46, ⟨Try.func47, ⟨Try.func48, ⟨Try.func49, ⟨Try.func50, ⟨Try.func51, ⟨Try.func52, ⟨Try.func53, ⟨Try.func54, ⟨Try.func55, ⟨Try.func56, ⟨Try.func57, ⟨Try.func58, ⟨Try.func59, ⟨Try.func60, ⟨Try.func61, ⟨Try.func62, ⟨Try.func63, ⟨Try.func64, ⟨Try.func65, ⟨Try.func66, ⟨Try.func67, ⟨Try.func68, ⟨Try.func69, ⟨Try.func70, ⟨Try.func71, ⟨Try.func72, ⟨Try.func73, ⟨Try.func74, ⟨Try.func75, ⟨Try.func76, ⟨Try.func77, ⟨Try.func78, ⟨Try.func79, ⟨Try.func80, ⟨Try.func81, ⟨Try.func82, ⟨Try.func83, ⟨Try.func84, ⟨Try.func85, ⟨Try.func86, ⟨Try.func87, ⟨Try.func88, ⟨Try.func89, ⟨Try.func90, ⟨Try.func91, ⟨Try.func92, ⟨Try.func93, ⟨Try.func94, ⟨Try.func95, ⟨Try.func96, ⟨Try.func97, ⟨Try.func98, ⟨Try.func99, ⟨Try.func100, ⟨Try.func101, ⟨Try.func102, ⟨Try.func103, ⟨Try.func104, ⟨Try.func105, ⟨Try.func106, ⟨Try.func107, ⟨Try.func108, ⟨Try.func109, ⟨Try.func110, ⟨Try.func111, ⟨Try.func112, ⟨Try.func113, ⟨Try.func114, ⟨Try.func115, ⟨Try.func116, ⟨Try.func117, ⟨Try.func118, ⟨Try.func119, trivial⟩⟩⟩⟩⟩⟩⟩⟩⟩⟩⟩⟩⟩⟩⟩⟩⟩⟩⟩⟩⟩⟩⟩⟩⟩⟩⟩⟩⟩⟩⟩⟩⟩⟩⟩⟩⟩⟩⟩⟩⟩⟩⟩⟩⟩⟩⟩⟩⟩⟩⟩⟩⟩⟩⟩⟩⟩⟩⟩⟩⟩⟩⟩⟩⟩⟩⟩⟩⟩⟩⟩⟩⟩⟩⟩⟩⟩⟩⟩⟩⟩⟩⟩⟩⟩⟩⟩⟩⟩⟩⟩⟩⟩⟩⟩⟩⟩⟩⟩⟩⟩⟩⟩⟩⟩⟩⟩⟩⟩⟩⟩⟩⟩⟩⟩⟩⟩⟩
theorem ctx_ok : ctx.ok Try.prog := ⟨tab_ok, fns_ok, cas_ok, by kernel_rfl⟩
end Go.Proofs.Ytedjnjgnadbkaaa
/- Decompiling: the program's functions as the machine over terms takes them. -/
namespace Go.Proofs.Ytedjnjgnadbkaaa
open Go Go.RowKit
noncomputable def dc (l : List (Nat × Ctr)) : DC := ⟨tab, ctx.fns, ctx.cas, l⟩
theorem dc_ok {l : List (Nat × Ctr)} (h : allP (CtrOk Try.prog) l) : (dc l).ok Try.prog := ⟨ctx_ok.T, ctx_ok.fns, ctx_ok.cas, ctx_ok.mixed, h⟩
theorem ctr_ok {l : List (Nat × Ctr)} (hl : allP (CtrOk Try.prog) l) {f : Nat} {an : An} {Fn : Nat} {σ ρ : Ty} {g : Nat → σ.den → Option ρ.den} (h : ∀ fu x, (topG (ρ := ρ) (dc l) (drR (dc l)) f an Fn σ (.var x)).den fu = g fu x) : CtrOk Try.prog Fn ⟨σ, ρ, g, Fn⟩ :=
  fun fu x _ hy => topG_ok (dc_ok hl) (fun _ _ hS => drR_ok (dc_ok hl) hS) ((h fu x).trans hy)
end Go.Proofs.Ytedjnjgnadbkaaa
/- An operation or a call that touches few blocks: all others stay. No program in sight. -/
namespace Go.Proofs.Ytedjnjgnadbkaaa.Rn
open Go Go.RowKit Go.Proofs.Ytedjnjgnadbkaaa

/-- values that name no memory but blocks of p -/
def pf (p : Nat → Bool) : AV → Bool
  | .box id _ | .elt id _ _ _ | .osl id _ | .vsl id _ _ _ => p id
  | .agg cs | .tup cs | .fn _ cs => go p cs
  | .ro .. => false
  | .peek .. => false
  | _ => true
where go (p : Nat → Bool) : List AV → Bool
  | [] => true
  | a :: l => pf p a && go p l
theorem pf_at {p : Nat → Bool} : ∀ {cs : List AV} {i : Nat} {a : AV}, pf.go p cs = true → cs[i]? = some a → pf p a = true
  | [], i, a, _, h => by simp at h
  | b :: l, i, a, h0, h => by
    rw [pf.go, Bool.and_eq_true] at h0
    cases i with
    | zero => simp at h; subst h; exact h0.1
    | succ i => exact pf_at h0.2 (by simpa using h)
def pfB (p : Nat → Bool) : AB → Bool
  | .dead => true
  | .box cs _ => pf.go p cs
  | .row _ rows _ => rows.all (pf.go p)
/-- what p's blocks stand for is the same in both -/
def SameP (p : Nat → Bool) (G G' : Gh) : Prop := ∀ id, p id = true → id < G.nx → id < G'.nx ∧ G'.ρ id = G.ρ id ∧ G'.ln id = G.ln id ∧ G'.sz id = G.sz id
theorem lift {p : Nat → Bool} {w : World} {G G' : Gh} (h : SameP p G G') {a : AV} {v : Value} (r : RelV w G a v) (hp : pf p a = true) : RelV w G' a v := by
  induction r with
  | dat r =>
    cases r with
    | ro => simp [pf] at hp
    | any => exact .dat (.any _)
    | und => exact .dat .und
    | int => exact .dat (.int _ _)
    | bool => exact .dat (.bool _)
    | str => exact .dat (.str _)
    | nilp => exact .dat .nilp
    | nils => exact .dat .nils
    | nilf => exact .dat .nilf
  | box id off g hid hs hr =>
    obtain ⟨a1, a2, a3, a4⟩ := h id (by simpa only [pf] using hp) hid
    exact .box id off g a1 (a4 ▸ hs) (by rw [a2]; exact hr)
  | elt id n i j v hid hin hs hn hv hr =>
    obtain ⟨a1, a2, a3, a4⟩ := h id (by simpa only [pf] using hp) hid
    refine .elt id n i j v a1 hin (by omega) (by omega) hv (fun e => ?_)
    obtain ⟨g, c, e1, e2⟩ := hr (by omega)
    exact ⟨g, c, by rw [a2]; exact e1, by rw [a4]; exact e2⟩
  | osl id n v hid hs hn hv hr =>
    obtain ⟨a1, a2, a3, a4⟩ := h id (by simpa only [pf] using hp) hid
    exact .osl id n v a1 (by omega) (by omega) hv (fun e => by rw [a2]; exact hr (by omega))
  | vsl id n lo len v hid hs hn hle hv hr =>
    obtain ⟨a1, a2, a3, a4⟩ := h id (by simpa only [pf] using hp) hid
    refine .vsl id n lo len v a1 (by omega) (by omega) hle hv (fun e => ?_)
    obtain ⟨A, c, e1, e2, e3, e4⟩ := hr (by omega)
    refine ⟨A, c, e1, e2, e3, fun hl => ?_⟩
    obtain ⟨g, c', e5, e6⟩ := e4 hl
    exact ⟨g, c', by rw [a2]; exact e5, by rw [a4]; exact e6⟩
  | peek row j b o f hr hb h1 h2 => simp [pf] at hp
  | agg cs vs hl _ ih => exact .agg cs vs hl fun i a v g1 g2 => ih i a v g1 g2 (pf_at (by simpa only [pf] using hp) g1)
  | tup cs vs hl _ ih => exact .tup cs vs hl fun i a v g1 g2 => ih i a v g1 g2 (pf_at (by simpa only [pf] using hp) g1)
  | fn f cs fs vs hf hl _ ih => exact .fn f cs fs vs hf hl fun i a v g1 g2 => ih i a v g1 g2 (pf_at (by simpa only [pf] using hp) g1)
theorem liftB {p : Nat → Bool} {w0 w : World} {G G' : Gh} {id : Nat} {b : AB} (h : SameP p G G') (r : ABok w0 w G id b) (hp : pfB p b = true) (hid : b = .dead ∨ p id = true) : ABok w0 w G' id b := by
  cases b with
  | dead => trivial
  | box cs e =>
    obtain ⟨h1, h2, g, vs, h3, h4, h5, h6⟩ := r
    obtain ⟨p1, p2, p3, p4⟩ := h id (hid.resolve_left (by simp)) h1
    refine ⟨p1, by rw [p4]; exact h2, g, vs, by rw [p2]; exact h3, h4, h5, fun i a hi => ?_⟩
    obtain ⟨v, g1, g2, g3⟩ := h6 i a hi
    exact ⟨v, g1, g2, lift h g3 (pf_at hp hi)⟩
  | row sz rows e =>
    obtain ⟨h1, h2, h3, h4, flat, h5, h6, h7⟩ := r
    obtain ⟨p1, p2, p3, p4⟩ := h id (hid.resolve_left (by simp)) h1
    refine ⟨p1, h2, by rw [p4]; exact h3, by rw [p3]; exact h4, flat, by rw [p2]; exact h5, h6, fun i row hi => ?_⟩
    obtain ⟨g1, g2⟩ := h7 i row hi
    refine ⟨g1, fun j a hj => ?_⟩
    obtain ⟨v, g3, g4⟩ := g2 j a hj
    exact ⟨v, g3, lift h g4 (pf_at (List.all_eq_true.1 hp row (List.mem_of_getElem? hi)) hj)⟩
/-- the memory with the blocks of p alone -/
def cut (G : Gh) (p : Nat → Bool) (k : Nat) : Gh := ⟨fun id => if p id = true ∧ id < G.nx then G.ρ id else undef, fun b => ∃ id, p id = true ∧ id < G.nx ∧ ownBlk (G.ρ id) = some b, G.ln, G.sz, k, G.bs⟩
/-- p's blocks as they are in the one, all others as in the other -/
def join (G G1 : Gh) (p : Nat → Bool) : Gh := ⟨fun id => if p id = true ∧ id < G.nx then G1.ρ id else G.ρ id, fun b => G.own b ∨ G1.own b, fun id => if p id = true ∧ id < G.nx then G1.ln id else G.ln id, fun id => if p id = true ∧ id < G.nx then G1.sz id else G.sz id, G.nx, G.bs⟩
section
variable {p : Nat → Bool} {w0 w w' : World} {G G1 : Gh} {k : Nat} {hp hp2 : List (Nat × AB)}
theorem cut_mv {hp : List (Nat × AB)} (h : HR w0 w G hp) (hk : ∀ id, p id = true → id < k) : Mv p w G w (cut G p k) := by
  refine ⟨fun _ _ _ => rfl, fun b ⟨id, h1, h2, h3⟩ => .inl (h.ownhas id b h2 h3), rfl, fun id h1 h2 => ⟨hk id h1, ?_, rfl, rfl⟩⟩
  show (if p id = true ∧ id < G.nx then G.ρ id else undef) = _
  rw [if_pos ⟨h1, h2⟩]
/-- the few blocks, said of the cut memory -/
theorem cut_hr (h : HR w0 w G hp) (hk : ∀ id, p id = true → id < k) (h2 : ∀ id, look .dead hp2 id = .dead ∨ (p id = true ∧ look .dead hp2 id = look .dead hp id ∧ (look .dead hp2 id).nmd p = true)) : HR w0 w (cut G p k) hp2 := by
  have hm := cut_mv h hk
  refine ⟨h.bs, h.below, fun b ⟨id, h1, h2, h3⟩ => h.ownlt b (h.ownhas id b h2 h3), fun id => ?_, fun id id' g h1 h2 hne e1 e2 => ?_, fun id g h1 h2 => ?_⟩
  · rcases h2 id with e | ⟨e1, e2, e3⟩
    · rw [e]; trivial
    · exact ABok.mv (e2 ▸ h.blk id) hm e3 (.inr e1) (fun g _ => rfl)
  · have e1 : ownBlk (if p id = true ∧ id < G.nx then G.ρ id else undef) = some g := e1
    have e2 : ownBlk (if p id' = true ∧ id' < G.nx then G.ρ id' else undef) = some g := e2
    by_cases c1 : p id = true ∧ id < G.nx
    · by_cases c2 : p id' = true ∧ id' < G.nx
      · rw [if_pos c1] at e1
        rw [if_pos c2] at e2
        exact h.dist id id' g c1.2 c2.2 hne e1 e2
      · rw [if_neg c2] at e2; cases e2
    · rw [if_neg c1] at e1; cases e1
  · have h2 : ownBlk (if p id = true ∧ id < G.nx then G.ρ id else undef) = some g := h2
    by_cases c1 : p id = true ∧ id < G.nx
    · rw [if_pos c1] at h2; exact ⟨id, c1.1, c1.2, h2⟩
    · rw [if_neg c1] at h2; cases h2
/-- G, but with the blocks of N as G' has them -/
def patch (G G' : Gh) (N : Nat → Bool) : Gh := ⟨fun id => if N id = true then G'.ρ id else G.ρ id, G.own, fun id => if N id = true then G'.ln id else G.ln id, fun id => if N id = true then G'.sz id else G.sz id, G.nx, G.bs⟩
theorem patch_mv {lv N : Nat → Bool} {w : World} {G G' : Gh} (h : ∀ id, lv id = true → N id = false) : Mv lv w G w (patch G G' N) := by
  refine ⟨fun _ _ _ => rfl, fun _ hb => .inl hb, rfl, fun id hl hid => ?_⟩
  have hn : ¬ (N id = true) := by rw [h id hl]; decide
  exact ⟨hid, if_neg hn, if_neg hn, if_neg hn⟩
/-- the numbers from k up to k2 -/
def newN (k k2 : Nat) (id : Nat) : Bool := Nat.ble k id && Nat.blt id k2
theorem newN_iff {k k2 id : Nat} : newN k k2 id = true ↔ k ≤ id ∧ id < k2 := by
  unfold newN
  rw [Bool.and_eq_true]
  simp
def orN (p : Nat → Bool) (k k2 : Nat) (id : Nat) : Bool := p id || newN k k2 id
theorem orN_iff {p : Nat → Bool} {k k2 id : Nat} : orN p k k2 id = true ↔ p id = true ∨ (k ≤ id ∧ id < k2) := by
  unfold orN
  rw [Bool.or_eq_true, newN_iff]
/-- the outcome, said of the whole memory -/
structure Out (p : Nat → Bool) (k k2 : Nat) (w0 w : World) (G : Gh) (hp2 : List (Nat × AB)) (w' : World) (G' : Gh) : Prop where
  hr : HR w0 w' G' hp2
  ext : Ext w (patch G G' (newN k k2)) w' G'
  nx : G'.nx = G.nx
  same : ∀ j, orN p k k2 j = false → G'.ρ j = G.ρ j ∧ G'.ln j = G.ln j ∧ (j < G.nx → ∀ g, ownBlk (G.ρ j) = some g → w'.heap[g]? = w.heap[g]?)
theorem join_out {k2 : Nat} (h : HR w0 w G hp) (hk : ∀ id, p id = true → id < k) (hkn : k2 ≤ G.nx) (h1 : HR w0 w' G1 hp2) (hx : Ext w (cut G p k) w' G1) (hn : G1.nx = k2)
    (h2 : ∀ id, look .dead hp2 id = .dead ∨ (orN p k k2 id = true ∧ pfB (orN p k k2) (look .dead hp2 id) = true)) : Out p k k2 w0 w G hp2 w' (join G G1 (orN p k k2)) ∧ SameP (orN p k k2) G1 (join G G1 (orN p k k2)) := by
  have hkk : k ≤ k2 := by rw [← hn]; exact hx.nx
  have hlt2 : ∀ id, orN p k k2 id = true → id < k2 := fun id c => by
    rcases orN_iff.1 c with c | c
    · have := hk id c; omega
    · exact c.2
  have hs : SameP (orN p k k2) G1 (join G G1 (orN p k k2)) := by
    intro id c1 c2
    have hlt : id < G.nx := by have := hlt2 id c1; omega
    refine ⟨hlt, ?_, ?_, ?_⟩
    · show (if orN p k k2 id = true ∧ id < G.nx then G1.ρ id else G.ρ id) = _; rw [if_pos ⟨c1, hlt⟩]
    · show (if orN p k k2 id = true ∧ id < G.nx then G1.ln id else G.ln id) = _; rw [if_pos ⟨c1, hlt⟩]
    · show (if orN p k k2 id = true ∧ id < G.nx then G1.sz id else G.sz id) = _; rw [if_pos ⟨c1, hlt⟩]
  have own1 : ∀ b, G1.own b → G.own b ∨ w.heap.size ≤ b := by
    intro b hb
    rcases hx.own2 b hb with ⟨id, c1, c2, c3⟩ | h'
    · exact .inl (h.ownhas id b c2 c3)
    · exact .inr h'
  have ext : Ext w (patch G (join G G1 (orN p k k2)) (newN k k2)) w' (join G G1 (orN p k k2)) := by
    refine ⟨hx.size, fun b hb hl => hx.keep b (fun ⟨id, c1, c2, c3⟩ => hb (h.ownhas id b c2 c3)) hl, fun b hb => hb.elim .inl (own1 b), Nat.le_refl _, rfl, fun id hid => ?_⟩
    have hid : id < G.nx := hid
    by_cases cn : newN k k2 id = true
    · have e1 : (patch G (join G G1 (orN p k k2)) (newN k k2)).ρ id = (join G G1 (orN p k k2)).ρ id := if_pos cn
      have e2 : (patch G (join G G1 (orN p k k2)) (newN k k2)).ln id = (join G G1 (orN p k k2)).ln id := if_pos cn
      have e3 : (patch G (join G G1 (orN p k k2)) (newN k k2)).sz id = (join G G1 (orN p k k2)).sz id := if_pos cn
      rw [e1, e2, e3]
      exact ⟨Nat.le_refl _, rfl, fun _ => rfl, fun _ => rfl⟩
    · have e1 : (patch G (join G G1 (orN p k k2)) (newN k k2)).ρ id = G.ρ id := if_neg cn
      have e2 : (patch G (join G G1 (orN p k k2)) (newN k k2)).ln id = G.ln id := if_neg cn
      have e3 : (patch G (join G G1 (orN p k k2)) (newN k k2)).sz id = G.sz id := if_neg cn
      rw [e1, e2, e3]
      show G.ln id ≤ (if orN p k k2 id = true ∧ id < G.nx then G1.ln id else G.ln id) ∧ G.sz id = (if orN p k k2 id = true ∧ id < G.nx then G1.sz id else G.sz id) ∧ ((if orN p k k2 id = true ∧ id < G.nx then G1.ln id else G.ln id) = G.ln id → (if orN p k k2 id = true ∧ id < G.nx then G1.ρ id else G.ρ id) = G.ρ id) ∧ (G.sz id = 0 → (if orN p k k2 id = true ∧ id < G.nx then G1.ln id else G.ln id) = G.ln id)
      by_cases c : orN p k k2 id = true ∧ id < G.nx
      · have cp : p id = true := (orN_iff.1 c.1).resolve_right fun h => cn (newN_iff.2 h)
        have hidk : id < (cut G p k).nx := hk id cp
        obtain ⟨a1, a2, a3, a4⟩ := hx.gh id hidk
        have e0 : (cut G p k).ρ id = G.ρ id := by show (if p id = true ∧ id < G.nx then G.ρ id else undef) = _; rw [if_pos ⟨cp, hid⟩]
        have a1 : G.ln id ≤ G1.ln id := a1
        have a2 : G.sz id = G1.sz id := a2
        have a3 : G1.ln id = G.ln id → G1.ρ id = G.ρ id := fun e => (a3 e).trans e0
        have a4 : G.sz id = 0 → G1.ln id = G.ln id := a4
        rw [if_pos c, if_pos c, if_pos c]
        exact ⟨a1, a2, a3, a4⟩
      · rw [if_neg c, if_neg c, if_neg c]
        exact ⟨Nat.le_refl _, rfl, fun _ => rfl, fun _ => rfl⟩
  have jρ : ∀ id, orN p k k2 id = true → id < G.nx → (join G G1 (orN p k k2)).ρ id = G1.ρ id := fun id c1 c2 => if_pos ⟨c1, c2⟩
  have jρ' : ∀ id, ¬ (orN p k k2 id = true ∧ id < G.nx) → (join G G1 (orN p k k2)).ρ id = G.ρ id := fun id c => if_neg c
  have mix : ∀ id id' g, orN p k k2 id = true → id < G.nx → ¬ (orN p k k2 id' = true ∧ id' < G.nx) → id' < G.nx → ownBlk (G1.ρ id) = some g → ownBlk (G.ρ id') = some g → False := by
    intro id id' g c1 c2 c3 c4 e1 e2
    have hg1 : G1.own g := h1.ownhas id g (by rw [hn]; exact hlt2 id c1) e1
    have hg := h.ownhas id' g c4 e2
    rcases hx.own2 g hg1 with ⟨q, d1, d2, d3⟩ | h'
    · exact h.dist q id' g d2 c4 (fun e => c3 (by rw [← e]; exact ⟨orN_iff.2 (.inl d1), d2⟩)) d3 e2
    · have := (h.ownlt g hg).2; omega
  refine ⟨⟨⟨h.bs, h1.below, fun b hb => ?_, fun id => ?_, fun id id' g c1 c2 hne e1 e2 => ?_, fun id g c1 c2 => ?_⟩, ext, rfl, fun j hj => ?_⟩, hs⟩
  · rcases hb with hb | hb
    · have := h.ownlt b hb; have := hx.size; omega
    · exact h1.ownlt b hb
  · rcases h2 id with e | ⟨e1, e2⟩
    · rw [e]; trivial
    · exact liftB hs (h1.blk id) e2 (.inr e1)
  · have c1 : id < G.nx := c1
    have c2 : id' < G.nx := c2
    by_cases d1 : orN p k k2 id = true ∧ id < G.nx
    · rw [jρ id d1.1 d1.2] at e1
      by_cases d2 : orN p k k2 id' = true ∧ id' < G.nx
      · rw [jρ id' d2.1 d2.2] at e2
        exact h1.dist id id' g (by rw [hn]; exact hlt2 id d1.1) (by rw [hn]; exact hlt2 id' d2.1) hne e1 e2
      · rw [jρ' id' d2] at e2
        exact mix id id' g d1.1 d1.2 d2 c2 e1 e2
    · rw [jρ' id d1] at e1
      by_cases d2 : orN p k k2 id' = true ∧ id' < G.nx
      · rw [jρ id' d2.1 d2.2] at e2
        exact mix id' id g d2.1 d2.2 d1 c1 e2 e1
      · rw [jρ' id' d2] at e2
        exact h.dist id id' g c1 c2 hne e1 e2
  · have c1 : id < G.nx := c1
    by_cases d1 : orN p k k2 id = true ∧ id < G.nx
    · rw [jρ id d1.1 d1.2] at c2
      exact .inr (h1.ownhas id g (by rw [hn]; exact hlt2 id d1.1) c2)
    · rw [jρ' id d1] at c2
      exact .inl (h.ownhas id g c1 c2)
  · have c : ¬ (orN p k k2 j = true ∧ j < G.nx) := fun c => by rw [c.1] at hj; cases hj
    refine ⟨jρ' j c, if_neg c, fun hlt g e => ?_⟩
    have hg := h.ownhas j g hlt e
    refine hx.keep g (fun ⟨q, d1, d2, d3⟩ => ?_) (h.ownlt g hg).2
    exact h.dist q j g d2 hlt (fun e => c (by rw [← e]; exact ⟨orN_iff.2 (.inl d1), d2⟩)) d3 e
end
end Go.Proofs.Ytedjnjgnadbkaaa.Rn
/- An operation or a call that touches few blocks, inside a greater memory. No program in sight. -/
namespace Go.Proofs.Ytedjnjgnadbkaaa.Rn
open Go Go.RowKit Go.Proofs.Ytedjnjgnadbkaaa

/-- an operation or a call, from state to state -/
structure OpY (P : Program) (n : Nat) (o : Oper) (st st' : ASt) : Prop where
  out : ∀ K a w (Φ : Act → World → Prop) (Q : Exit → Act → World → Prop), Rel K n st a w → (∀ v w', Rel K n st' (a.put o.dst v) w' → Φ (a.put o.dst v) w') → o.wp P a w Φ Q
section
variable {P : Program} {n : Nat} {o : Oper} {st st' : ASt}
theorem OpY.ofV (h : OpV P n o st st') : OpY P n o st st' := ⟨fun K a w Φ Q r k => by
  obtain ⟨v, w', h1, h2⟩ := h K a w r
  exact oper_of_run h1 (k v w' h2)⟩
theorem OpY.call {cal : Operand} {args : Array Operand} {ats : Array TypeId} {F : FuncId} {caps xs : List AV} {x : AV} {hp : List (Nat × AB)} {nx : Nat}
    (ho : o.op = .call { callee := .value cal, args := args, argTypes := ats }) (hc : st.ev cal = .fn F caps) (hxs : args.toList.map st.ev ++ caps = xs) (hF : callable P F = true) (hd : dok o.dst n = true)
    (h : AC P F xs st.heap st.nx (fun x1 hp1 nx1 => x1 = x ∧ hp1 = hp ∧ nx1 = nx)) : OpY P n o st (callSt st o.dst x hp nx) := ⟨fun K a w Φ Q ⟨G, r⟩ k => by
  subst hxs
  have e1 := r.ev cal
  rw [hc] at e1
  obtain ⟨us, e2, hl, hr⟩ := e1.fn'
  have hargs : ArgsV w G (args.toList.map st.ev ++ caps) (args.map a.eval ++ us) := by
    refine ⟨by simp [hl], fun i x v hx hv => ?_⟩
    by_cases hi : i < args.size
    · rw [List.getElem?_append_left (by simpa using hi)] at hx
      rw [Array.getElem?_append_left (by simpa using hi)] at hv
      refine list_ev r args.toList i x v hx ?_
      rw [List.getElem?_map, Array.getElem?_toList]
      rw [Array.getElem?_map] at hv
      exact hv
    · rw [List.getElem?_append_right (by simp; omega)] at hx
      rw [Array.getElem?_append_right (by simp; omega)] at hv
      exact hr _ x v hx (by simpa using hv)
  have hcall := h K.w0 w G _ r.hr r.nx hargs
  have hrun : (execOp a.eval o).run P w = .ok (.enter F (args.map a.eval ++ us)) w := by
    simp [execOp, ho, resolve, e2, Deferred.ofValue, invoke, run_callFunc' hF]
  unfold Oper.wp
  rw [hrun]
  refine hcall.mono fun e w' ⟨v, x', hp', nx', G', he, ⟨e3, e4, e5⟩, hnx, hHR, hRV, hExt⟩ => ?_
  subst he
  subst e3; subst e4; subst e5
  exact k v w' ⟨G', (r.turn nx' hnx hHR hExt).put (dok_lt hd) hRV⟩⟩
theorem memC_Y {C : Ctx} {self : SelfT} (hC : C.ok P) (hS : SelfOk P self) (hd : dok o.dst n = true) (h : memC C self st o = some st') : OpY P n o st st' := by
  unfold memC at h
  split at h
  · rename_i s p h1
    cases hb : obM C.T st o.op with
    | false => rw [hb] at h; cases h
    | true =>
      rw [hb] at h
      simp only [cond_true] at h
      injection h with h
      subst h
      exact .ofV (stepM_ok hC.T h1 (obM_ok h1 hb) hd)
  · split at h
    · rename_i s h1
      injection h with h
      subst h
      exact .ofV (stepXN_ok hC.T h1 hd)
    · obtain ⟨d, op, ty, ps, af, g⟩ := o
      simp only at h
      unfold callC at h
      split at h
      · rename_i cal args ats _ _
        split at h
        · rename_i F caps h1
          split at h
          · rename_i q h2
            split at h
            · rename_i x hp nx h3
              injection h with h
              subst h
              exact .call rfl h1 (evL_eq (st := st) args.toList caps).symm (allP_at hC.cas h2) hd (hS _ _ _ _ _ _ _ h3)
            · cases h
          · cases h
        · cases h
      · cases h
end
/-- what the operation leaves in its register -/
def dstV (st : ASt) (d : Option Nat) : AV := match d with
  | some t => look .any st.regs t
  | none => .any
theorem OpY.run {P : Program} {n : Nat} {o : Oper} {p : Nat → Bool} {k k2 : Nat} {rg : List (Nat × AV)} {hp Hp : List (Nat × AB)} {st' : ASt} {w0 w : World} {G : Gh} {a : Act}
    (h : OpY P n o ⟨rg, hp, k⟩ st') (hd : dok o.dst n = true) (hk : ∀ id, p id = true → id < k) (hn : st'.nx = k2)
    (hs : ∀ id, look .dead hp id = .dead ∨ (p id = true ∧ look .dead hp id = look .dead Hp id ∧ (look .dead hp id).nmd p = true))
    (ht : ∀ id, look .dead st'.heap id = .dead ∨ (orN p k k2 id = true ∧ pfB (orN p k k2) (look .dead st'.heap id) = true))
    (hr : ∀ t, (look .any rg t).nmd p = true) (hx : pf (orN p k k2) (dstV st' o.dst) = true)
    (hHR : HR w0 w G Hp) (hkn : k2 ≤ G.nx) (hsz : a.tmps.size = n) (hdf : a.defers = []) (hrg : ∀ t, RelV w G (look .any rg t) (a.tmps.getD t undef))
    {Φ : Act → World → Prop} {Q : Exit → Act → World → Prop} (hΦ : ∀ v w' G', Out p k k2 w0 w G st'.heap w' G' → RelV w' G' (dstV st' o.dst) v → Φ (a.put o.dst v) w') : o.wp P a w Φ Q := by
  have hm := cut_mv hHR hk
  have hHR1 := cut_hr (k := k) hHR hk hs
  have hR : RelG ⟨w0, w, cut G p k⟩ n ⟨rg, hp, k⟩ a w (cut G p k) := ⟨rfl, hHR1, Ext.refl _ _, hsz, hdf, fun t => (hrg t).mv hm (hr t)⟩
  refine h.out ⟨w0, w, cut G p k⟩ a w Φ Q ⟨_, hR⟩ fun v w' ⟨G1, r1⟩ => ?_
  obtain ⟨ho, hsm⟩ := join_out (hp := Hp) hHR hk hkn r1.hr r1.ext (r1.nx.trans hn) ht
  refine hΦ v w' _ ho ?_
  cases hdd : o.dst with
  | none => exact .dat (.any v)
  | some t =>
    rw [hdd] at hx r1 hd
    have hlt : t < n := dok_lt hd t rfl
    have e := r1.regs t
    have e2 : (a.put (some t) v).tmps.getD t undef = v := by
      show (a.tmps.setIfInBounds t v).getD t undef = v
      rw [getD_set (by rw [hsz]; exact hlt), if_pos rfl]
    rw [e2] at e
    exact lift hsm e hx
end Go.Proofs.Ytedjnjgnadbkaaa.Rn
/- Regions that draw their order: operations and calls that write, in any order that the edges allow; blocks that are written beside an operation are seen by the cells that stay. No program in sight. -/
namespace Go.Proofs.Ytedjnjgnadbkaaa.Rn
open Go Go.RowKit Go.Proofs.Ytedjnjgnadbkaaa Go.Proofs.Ytedjnjgnadbkaaa.Dr

theorem pf_nmd {p : Nat → Bool} : ∀ (a : AV), pf p a = true → a.nmd p = true
  | .box .., h => by simpa only [pf, AV.nmd] using h
  | .elt .., h => by simpa only [pf, AV.nmd] using h
  | .osl .., h => by simpa only [pf, AV.nmd] using h
  | .vsl .., h => by simpa only [pf, AV.nmd] using h
  | .agg cs, h => by simp only [pf, AV.nmd] at h ⊢; exact pf_nmdL cs h
  | .tup cs, h => by simp only [pf, AV.nmd] at h ⊢; exact pf_nmdL cs h
  | .fn _ cs, h => by simp only [pf, AV.nmd] at h ⊢; exact pf_nmdL cs h
  | .any, _ => rfl
  | .und, _ => rfl
  | .int .., _ => rfl
  | .bool .., _ => rfl
  | .str .., _ => rfl
  | .nilp, _ => rfl
  | .nils, _ => rfl
  | .nilf, _ => rfl
  | .peek .., _ => rfl
  | .ro .., _ => rfl
where pf_nmdL {p : Nat → Bool} : ∀ (cs : List AV), pf.go p cs = true → AV.nmd.go p cs = true
  | [], _ => rfl
  | a :: l, h => by
    rw [pf.go, Bool.and_eq_true] at h
    rw [AV.nmd.go, pf_nmd a h.1, pf_nmdL l h.2]; rfl
theorem pfB_nmd {p : Nat → Bool} {b : AB} (h : pfB p b = true) : b.nmd p = true := by
  cases b with
  | dead => rfl
  | box cs e => exact pf_nmd.pf_nmdL cs h
  | row sz rows e => exact List.all_eq_true.2 fun row hr => pf_nmd.pf_nmdL row (List.all_eq_true.1 h row hr)
/-- the blocks of a list, as f has them, ahead of others -/
def onL (L : List Nat) (f : Nat → AB) (hp : List (Nat × AB)) : List (Nat × AB) := L.map (fun j => (j, f j)) ++ hp
theorem onL_in {L : List Nat} {f : Nat → AB} {hp : List (Nat × AB)} {j : Nat} (hj : j ∈ L) : look .dead (onL L f hp) j = f j := by
  unfold onL
  rw [look_append]
  induction L with
  | nil => cases hj
  | cons c L ih =>
    rw [List.map_cons, look_cons]
    by_cases e : c = j
    · subst e; rw [if_pos rfl]
    · rw [if_neg e]
      exact ih ((List.mem_cons.1 hj).resolve_left fun e' => e e'.symm)
theorem onL_out {L : List Nat} {f : Nat → AB} {hp : List (Nat × AB)} {j : Nat} (hj : j ∉ L) : look .dead (onL L f hp) j = look .dead hp j := by
  unfold onL
  rw [look_append]
  induction L with
  | nil => rfl
  | cons c L ih =>
    rw [List.map_cons, look_cons, if_neg (fun e => hj (by simp [e]))]
    exact ih fun h => hj (List.mem_cons_of_mem _ h)
/-- what an operation may look at: the blocks whose state is settled, of the others the cells that stay -/
def lcl (ops : Array Oper) (T : List (List Nat)) (W : List (Nat × Nat)) (M : List (Nat × AB)) (nx0 i : Nat) (cr : List (Nat × Nat)) (st : ASt) (o : Oper) (k : Nat) : ASt :=
  ⟨lregs ops st o, M.filter (fun p => !visW T W nx0 i cr p.1) ++ st.heap.filter (fun p => visW T W nx0 i cr p.1), k⟩
theorem lcl_heap {ops : Array Oper} {T : List (List Nat)} {W : List (Nat × Nat)} {M : List (Nat × AB)} {nx0 i : Nat} {cr : List (Nat × Nat)} {st : ASt} {o : Oper} {k : Nat} (id : Nat) :
    look .dead (lcl ops T W M nx0 i cr st o k).heap id = bif visW T W nx0 i cr id then look .dead st.heap id else look .dead M id := by
  show look .dead (M.filter (fun p => !visW T W nx0 i cr p.1) ++ st.heap.filter (fun p => visW T W nx0 i cr p.1)) id = _
  rw [look_append, look_filt (f := fun id => visW T W nx0 i cr id), look_filt (f := fun id => !visW T W nx0 i cr id)]
  cases hv : visW T W nx0 i cr id with
  | true => rfl
  | false =>
    simp only [Bool.not_false, cond_true, cond_false]
/-- the new numbers -/
def news (k k2 : Nat) : List Nat := List.range' k (k2 - k)
theorem news_mem {k k2 id : Nat} : id ∈ news k k2 ↔ k ≤ id ∧ id < k2 := by
  unfold news
  rw [List.mem_range'_1]
  omega
/-- the blocks that are there when the done operations are done -/
def lvD (S : Nat → ASt) (m nx0 : Nat) (d : Nat → Bool) (id : Nat) : Bool := Nat.blt id nx0 || (List.range m).any fun j => d j && (Nat.ble (S j).nx id && Nat.blt id (S (j + 1)).nx)
theorem lvD_iff {S : Nat → ASt} {m nx0 : Nat} {d : Nat → Bool} {id : Nat} : lvD S m nx0 d id = true ↔ id < nx0 ∨ ∃ j, j < m ∧ d j = true ∧ (S j).nx ≤ id ∧ id < (S (j + 1)).nx := by
  unfold lvD
  rw [Bool.or_eq_true, List.any_eq_true]
  constructor
  · rintro (h | ⟨j, h1, h2⟩)
    · exact .inl (by simpa using h)
    · simp only [Bool.and_eq_true] at h2
      exact .inr ⟨j, List.mem_range.1 h1, h2.1, by simpa using h2.2.1, by simpa using h2.2.2⟩
  · rintro (h | ⟨j, h1, h2, h3, h4⟩)
    · exact .inl (by simpa using h)
    · refine .inr ⟨j, List.mem_range.2 h1, ?_⟩
      simp [h2, h3, h4]
/-- what has been done of a region -/
def InvG (K : Kn) (n : Nat) (l : List Oper) (W : List (Nat × Nat)) (S : Nat → ASt) (m nx0 : Nat) (d : Nat → Bool) (a : Act) (w : World) : Prop := ∃ R hp G, RelP K n R hp (S m).nx (lvD S m nx0 d) a w G ∧
  (∀ j o t, j < m → l[j]? = some o → d j = true → o.dst = some t → Les (look .any (S (j + 1)).regs t) (R t)) ∧
  (∀ t, (∀ j o, j < m → l[j]? = some o → d j = true → o.dst ≠ some t) → Les (look .any (S 0).regs t) (R t)) ∧
  (∀ id, lvD S m nx0 d id = true → ∃ p, p ≤ m ∧ id < (S p).nx ∧ LesB (look .dead (S p).heap id) (look .dead hp id) ∧ (∀ j, (j, id) ∈ W → j < p → d j = true) ∧ (∀ j, (j, id) ∈ W → p ≤ j → d j = false) ∧ (p = 0 ∨ ∃ q, p = q + 1 ∧ d q = true ∧ ((q, id) ∈ W ∨ (S q).nx ≤ id)))
inductive Loc (P : Program) (n : Nat) (ops : Array Oper) (T : List (List Nat)) (W : List (Nat × Nat)) (M : List (Nat × AB)) (nx0 i : Nat) (cr : List (Nat × Nat)) (o : Oper) (st : ASt) : ASt → List (Nat × Nat) → Prop
  | read {x : AV} (hW : noW W i = true) (hw : o.guard = none ∨ gst ops o (lcl ops T W M nx0 i cr st o 0) = some true) (h : ∀ k, OpR P n o (lcl ops T W M nx0 i cr st o k) x) (hn : x.nmd (vis T nx0 i cr) = true) : Loc P n ops T W M nx0 i cr o st (st.put o.dst x) cr
  | call {x : AV} (hW : noW W i = true) (hw : o.guard = none ∨ gst ops o (lcl ops T W M nx0 i cr st o 0) = some true) (h : ∀ k, OpF P n o (lcl ops T W M nx0 i cr st o k) x) (hn : x.nmd (vis T nx0 i cr) = true) : Loc P n ops T W M nx0 i cr o st (st.put o.dst x) cr
  | new {b : AB} (hW : noW W i = true) (hN : newW T W i st.nx = true) (hw : o.guard = none ∨ gst ops o (lcl ops T W M nx0 i cr st o 0) = some true) (h : ∀ k, OpN P n o (lcl ops T W M nx0 i cr st o k) b) (hn : b.nmd (vis T nx0 i cr) = true) : Loc P n ops T W M nx0 i cr o st ((st.hnew b).put o.dst (refB b st.nx)) ((i, st.nx) :: cr)
  | skip (hW : noW W i = true) (hw : gst ops o (lcl ops T W M nx0 i cr st o 0) = some false) (hd : dok o.dst n = true) : Loc P n ops T W M nx0 i cr o st (st.put o.dst .und) cr
  | write {id : Nat} {b : AB} {x : AV} (L : List Nat) (hL : ∀ j ∈ L, visW T W nx0 i cr j = true ∧ (look .dead st.heap j).nmd (vis T nx0 i cr) = true) (hw : o.guard = none ∨ gst ops o (lcl ops T W M nx0 i cr st o 0) = some true) (hv : visW T W nx0 i cr id = true) (hm : (i, id) ∈ W) (hu : onlyW W i id = true)
      (h : ∀ hp k, (∀ j ∈ L, look .dead hp j = look .dead st.heap j) → OpWr P n o ⟨lregs ops st o, hp, k⟩ id b x) (hb : b.nmd (vis T nx0 i cr) = true) (hn : x.nmd (vis T nx0 i cr) = true) (hM : LesB (look .dead M id) b) : Loc P n ops T W M nx0 i cr o st ((st.hset id b).put o.dst x) cr
  | op {st2 : ASt} (L : List Nat) (hp : List (Nat × AB)) (hw : o.guard = none ∨ gst ops o (lcl ops T W M nx0 i cr st o 0) = some true) (h : OpY P n o ⟨lregs ops st o, hp, st.nx⟩ st2) (hd : dok o.dst n = true) (hn : st.nx ≤ st2.nx) (hN : ∀ id, st.nx ≤ id → id < st2.nx → newW T W i id = true)
      (hv : ∀ id ∈ L, id < st.nx ∧ visW T W nx0 i cr id = true) (hs : ∀ id, look .dead hp id = .dead ∨ (id ∈ L ∧ look .dead hp id = look .dead st.heap id ∧ (look .dead hp id).nmd (hasN L) = true))
      (ht : ∀ id, look .dead st2.heap id = .dead ∨ (orN (hasN L) st.nx st2.nx id = true ∧ pfB (orN (hasN L) st.nx st2.nx) (look .dead st2.heap id) = true)) (hr : ∀ t, (look .any (lregs ops st o) t).nmd (hasN L) = true) (hx : pf (orN (hasN L) st.nx st2.nx) (dstV st2 o.dst) = true)
      (hW : ∀ id, (i, id) ∈ W → id ∈ L) (hu : ∀ id ∈ L, (i, id) ∈ W ∨ look .dead st2.heap id = look .dead st.heap id) (hM : ∀ id, (i, id) ∈ W → LesB (look .dead M id) (look .dead st2.heap id)) :
      Loc P n ops T W M nx0 i cr o st ((⟨st.regs, onL (L ++ news st.nx st2.nx) (look .dead st2.heap) st.heap, st2.nx⟩ : ASt).put o.dst (dstV st2 o.dst)) ((news st.nx st2.nx).map (fun id => (i, id)) ++ cr)
inductive AG (P : Program) (n : Nat) (ops : Array Oper) (T : List (List Nat)) (W : List (Nat × Nat)) (M : List (Nat × AB)) (nx0 : Nat) (Kt : ASt → Prop) : Nat → List (Nat × Nat) → List Oper → ASt → Prop
  | nil {i : Nat} {cr : List (Nat × Nat)} {st : ASt} (h : Kt st) : AG P n ops T W M nx0 Kt i cr [] st
  | step {i : Nat} {cr cr' : List (Nat × Nat)} {o : Oper} {l : List Oper} {st st' : ASt} (h : Loc P n ops T W M nx0 i cr o st st' cr') (k : AG P n ops T W M nx0 Kt (i + 1) cr' l st') : AG P n ops T W M nx0 Kt i cr (o :: l) st
  | same {i : Nat} {cr : List (Nat × Nat)} {l : List Oper} {st st' : ASt} (h : Eqv st st') (k : AG P n ops T W M nx0 Kt i cr l st') : AG P n ops T W M nx0 Kt i cr l st
theorem AG.facts {P : Program} {n : Nat} {ops : Array Oper} {T : List (List Nat)} {W : List (Nat × Nat)} {M : List (Nat × AB)} {nx0 : Nat} {Kt : ASt → Prop} {i : Nat} {cr : List (Nat × Nat)} {l : List Oper} {st : ASt} (h : AG P n ops T W M nx0 Kt i cr l st) :
    ∃ (S : Nat → ASt) (C : Nat → List (Nat × Nat)), Eqv st (S 0) ∧ C 0 = cr ∧ Kt (S l.length) ∧ ∀ j o, l[j]? = some o → ∃ s', Loc P n ops T W M nx0 (i + j) (C j) o (S j) s' (C (j + 1)) ∧ Eqv s' (S (j + 1)) := by
  induction h with
  | @nil i cr st h => exact ⟨fun _ => st, fun _ => cr, Eqv.refl _, rfl, h, fun j o hj => by simp at hj⟩
  | @step i cr cr' o l st st' h k ih =>
    obtain ⟨S, C, h1, h2, h3, h4⟩ := ih
    refine ⟨fun j => match j with | 0 => st | j + 1 => S j, fun j => match j with | 0 => cr | j + 1 => C j, Eqv.refl _, rfl, h3, fun j o' hj => ?_⟩
    cases j with
    | zero =>
      simp at hj
      subst hj
      exact ⟨st', by show Loc P n ops T W M nx0 i cr o st st' (C 0); rw [h2]; exact h, h1⟩
    | succ j =>
      obtain ⟨s', g1, g2⟩ := h4 j o' (by simpa using hj)
      exact ⟨s', by rw [show i + (j + 1) = i + 1 + j by omega]; exact g1, g2⟩
  | @same i cr l st st' h k ih =>
    obtain ⟨S, C, h1, h2, h3, h4⟩ := ih
    exact ⟨S, C, h.trans h1, h2, h3, h4⟩
section
variable {P : Program} {n : Nat} {ops : Array Oper} {T : List (List Nat)} {W : List (Nat × Nat)} {M : List (Nat × AB)} {nx0 i : Nat} {cr cr' : List (Nat × Nat)} {o : Oper} {st st' : ASt}
theorem Loc.nx_le (h : Loc P n ops T W M nx0 i cr o st st' cr') : st.nx ≤ st'.nx := by
  cases h with
  | read => rw [put_nx]; exact Nat.le_refl _
  | call => rw [put_nx]; exact Nat.le_refl _
  | new => rw [put_nx]; exact Nat.le_succ _
  | skip => rw [put_nx]; exact Nat.le_refl _
  | write => rw [put_nx]; exact Nat.le_refl _
  | op _ _ _ _ _ hn => rw [put_nx]; exact hn
theorem Loc.regs (h : Loc P n ops T W M nx0 i cr o st st' cr') {t : Nat} (ht : o.dst ≠ some t) : look .any st'.regs t = look .any st.regs t := by
  cases h with
  | read => exact put_regs _ _ _ _ ht
  | call => exact put_regs _ _ _ _ ht
  | new => rw [put_regs _ _ _ _ ht]; rfl
  | skip => exact put_regs _ _ _ _ ht
  | write => rw [put_regs _ _ _ _ ht]; rfl
  | op => rw [put_regs _ _ _ _ ht]
theorem Loc.heap (h : Loc P n ops T W M nx0 i cr o st st' cr') {id : Nat} (hid : id < st.nx ∨ st'.nx ≤ id) (hw : (i, id) ∉ W) : look .dead st'.heap id = look .dead st.heap id := by
  cases h with
  | read => rw [put_heap']
  | call => rw [put_heap']
  | @new b =>
    rw [put_nx] at hid
    have hid : id < st.nx ∨ st.nx + 1 ≤ id := hid
    rw [put_heap']; exact look_ne _ (fun e => by omega) _ _
  | skip => rw [put_heap']
  | @write id' b x L hL _ hv hm => rw [put_heap']; exact look_ne _ (fun e => hw (by rw [← e]; exact hm)) _ _
  | @op st2 L hp hwa h hd hn hN hv hs htt hr hx hW hu =>
    rw [put_nx] at hid
    have hid : id < st.nx ∨ st2.nx ≤ id := hid
    rw [put_heap']
    show look .dead (onL (L ++ news st.nx st2.nx) _ _) id = _
    by_cases e : id ∈ L ++ news st.nx st2.nx
    · rw [onL_in e]
      rcases List.mem_append.1 e with e | e
      · exact (hu id e).resolve_left hw
      · have := news_mem.1 e; omega
    · exact onL_out e
theorem Loc.heap2 (h : Loc P n ops T W M nx0 i cr o st st' cr') (id : Nat) : look .dead st'.heap id = look .dead st.heap id ∨ (st.nx ≤ id ∧ id < st'.nx) ∨ vis T nx0 i cr id = true := by
  cases h with
  | read => left; rw [put_heap']
  | call => left; rw [put_heap']
  | skip => left; rw [put_heap']
  | @new b =>
    by_cases e : id = st.nx
    · exact .inr (.inl ⟨by omega, by rw [put_nx]; show id < st.nx + 1; omega⟩)
    · left; rw [put_heap']; exact look_ne _ (fun e' => e e'.symm) _ _
  | @write id' b x L hL _ hv hm =>
    by_cases e : id' = id
    · subst e
      unfold visW at hv
      rw [Bool.and_eq_true] at hv
      exact .inr (.inr hv.1)
    · left; rw [put_heap']; exact look_ne _ e _ _
  | @op st2 L hp hwa h hd hn hN hv hs htt hr hx hW hu =>
    by_cases e : id ∈ L ++ news st.nx st2.nx
    · rcases List.mem_append.1 e with e | e
      · have := (hv id e).2
        unfold visW at this
        rw [Bool.and_eq_true] at this
        exact .inr (.inr this.1)
      · exact .inr (.inl ⟨(news_mem.1 e).1, by rw [put_nx]; exact (news_mem.1 e).2⟩)
    · left
      rw [put_heap']
      exact onL_out e
theorem Loc.crm (h : Loc P n ops T W M nx0 i cr o st st' cr') : ∀ c ∈ cr', c ∈ cr ∨ (c.1 = i ∧ st.nx ≤ c.2 ∧ c.2 < st'.nx) := by
  cases h with
  | read => intro c hc; exact .inl hc
  | call => intro c hc; exact .inl hc
  | new =>
    intro c hc
    rcases List.mem_cons.1 hc with h | h
    · subst h; exact .inr ⟨rfl, Nat.le_refl _, by rw [put_nx]; exact Nat.lt_succ_self _⟩
    · exact .inl h
  | skip => intro c hc; exact .inl hc
  | write => intro c hc; exact .inl hc
  | op =>
    intro c hc
    rcases List.mem_append.1 hc with h | h
    · obtain ⟨id, h1, rfl⟩ := List.mem_map.1 h
      exact .inr ⟨rfl, (news_mem.1 h1).1, by rw [put_nx]; exact (news_mem.1 h1).2⟩
    · exact .inl h
theorem Loc.mask (h : Loc P n ops T W M nx0 i cr o st st' cr') (hnx : nx0 ≤ st.nx) (h0 : ∀ id, nx0 ≤ id → look .dead M id = .dead) (hM : ∀ id, LesB (look .dead M id) (look .dead st.heap id)) : ∀ id, LesB (look .dead M id) (look .dead st'.heap id) := by
  intro id
  by_cases hw : (i, id) ∈ W
  · cases h with
    | read hW => exact absurd hw (noW_at hW id)
    | call hW => exact absurd hw (noW_at hW id)
    | new hW => exact absurd hw (noW_at hW id)
    | skip hW => exact absurd hw (noW_at hW id)
    | @write id' b x L hL _ hv hm hu _ hb hn hMb =>
      have := onlyW_at hu hw
      subst this
      rw [put_heap']
      have e1 : look AB.dead (st.hset id b).heap id = b := look_self _ _ _ _
      rw [e1]; exact hMb
    | op L hp hwa h hd hn hN hv hs htt hr hx hW hu hMb =>
      rw [put_heap']
      show LesB _ (look .dead (onL (L ++ news st.nx _) _ _) id)
      rw [onL_in (List.mem_append.2 (.inl (hW id hw)))]
      exact hMb id hw
  · by_cases e : id < st.nx
    · rw [h.heap (.inl e) hw]; exact hM id
    · rw [h0 id (by omega)]; exact .dead _
end
theorem eqv_les {s s' : ASt} (h : Eqv s s') : LeS s' s := ⟨fun d => by rw [h.regs d]; exact .refl _, fun d => by rw [h.heap d]; exact .refl _, h.nx.symm⟩
section
variable {P : Program} {n : Nat} {l : List Oper} {T : List (List Nat)} {W : List (Nat × Nat)} {M : List (Nat × AB)} {S : Nat → ASt} {C : Nat → List (Nat × Nat)} {m : Nat}
theorem AG.step' (hp : ∀ i o, l[i]? = some o → PlanR l n i o) (hT : AncOk l T) (hml : m ≤ l.length) (hC0 : C 0 = [])
    (hE : ∀ j o, j < m → l[j]? = some o → ∃ s', Loc P n l.toArray T W M (S 0).nx j (C j) o (S j) s' (C (j + 1)) ∧ Eqv s' (S (j + 1))) (hM0 : ∀ id, (S 0).nx ≤ id → look .dead M id = .dead) (hM1 : ∀ id, LesB (look .dead M id) (look .dead (S 0).heap id))
    {K : Kn} {Q : Exit → Act → World → Prop} {i : Nat} {o : Oper} {d : Nat → Bool} {a : Act} {w : World} (hi : i < m) (ho : l[i]? = some o) (hd0 : d i = false) (hcl : ClosedD l d) (hdep : ∀ e ∈ o.after, Region.binds .any e = true → d e.on = true)
    (h : InvG K n l W S m (S 0).nx d a w) : if Region.wanted o (yielded l.toArray a.tmps) then o.wp P a w (fun a' w' => InvG K n l W S m (S 0).nx (upd d i) a' w') Q else InvG K n l W S m (S 0).nx (upd d i) (a.put o.dst undef) w := by
  have hL : ∀ j o, j < m → l[j]? = some o → ∃ s', Loc P n l.toArray T W M (S 0).nx j (C j) o (S j) s' (C (j + 1)) ∧ LeS (S (j + 1)) s' := fun j o hj ho => by
    obtain ⟨s', h1, h2⟩ := hE j o hj ho
    exact ⟨s', h1, eqv_les h2⟩
  obtain ⟨R, hpp, G, hR, I1, I2, I3⟩ := h
  have hop : ∀ j, j < m → ∃ o, l[j]? = some o := fun j hj => ⟨l[j], List.getElem?_eq_getElem (by omega)⟩
  have nxS : ∀ j, j < m → (S j).nx ≤ (S (j + 1)).nx := fun j hj => by
    obtain ⟨o, ho⟩ := hop j hj
    obtain ⟨s', h1, h2⟩ := hL j o hj ho
    rw [h2.nx]
    exact h1.nx_le
  have nxM : ∀ q, q ≤ m → ∀ p, p ≤ q → (S p).nx ≤ (S q).nx := by
    intro q
    induction q with
    | zero => intro _ p hp; obtain rfl : p = 0 := (by omega); exact Nat.le_refl _
    | succ q ih =>
      intro hq p hp
      rcases Nat.lt_or_ge p (q + 1) with h | h
      · exact Nat.le_trans (ih (by omega) p (by omega)) (nxS q (by omega))
      · obtain rfl : p = q + 1 := by omega
        exact Nat.le_refl _
  have regM : ∀ t q, q ≤ m → ∀ p, p ≤ q → (∀ j o, p ≤ j → j < q → l[j]? = some o → o.dst ≠ some t) → Les (look AV.any (S q).regs t) (look .any (S p).regs t) := by
    intro t q
    induction q with
    | zero => intro _ p hp _; obtain rfl : p = 0 := (by omega); exact .refl _
    | succ q ih =>
      intro hq p hp hno
      rcases Nat.lt_or_ge p (q + 1) with h | h
      · obtain ⟨o, ho⟩ := hop q (by omega)
        obtain ⟨s', h1, h2⟩ := hL q o (by omega) ho
        have e1 := h2.regs t
        rw [h1.regs (hno q o (by omega) (by omega) ho)] at e1
        exact e1.trans (ih (by omega) p (by omega) fun j o hj1 hj2 => hno j o hj1 (by omega))
      · obtain rfl : p = q + 1 := by omega
        exact .refl _
  have heapM : ∀ id q, q ≤ m → ∀ p, p ≤ q → id < (S p).nx → (∀ j, p ≤ j → j < q → (j, id) ∉ W) → LesB (look AB.dead (S q).heap id) (look .dead (S p).heap id) := by
    intro id q
    induction q with
    | zero => intro _ p hp _ _; obtain rfl : p = 0 := (by omega); exact .refl _
    | succ q ih =>
      intro hq p hp hlt hno
      rcases Nat.lt_or_ge p (q + 1) with h | h
      · obtain ⟨o, ho⟩ := hop q (by omega)
        obtain ⟨s', h1, h2⟩ := hL q o (by omega) ho
        have := nxM q (by omega) p (by omega)
        have e1 := h2.heap id
        rw [h1.heap (by omega) (hno q (by omega) (by omega))] at e1
        exact e1.trans (ih (by omega) p (by omega) hlt fun j j1 j2 => hno j j1 (by omega))
      · obtain rfl : p = q + 1 := by omega
        exact .refl _
  have heapE : ∀ id q, q ≤ m → ∀ p, p ≤ q → id < (S p).nx → (∀ j, p ≤ j → j < q → (j, id) ∉ W) → look AB.dead (S q).heap id = look .dead (S p).heap id := by
    intro id q
    induction q with
    | zero => intro _ p hp _ _; obtain rfl : p = 0 := (by omega); rfl
    | succ q ih =>
      intro hq p hp hlt hno
      rcases Nat.lt_or_ge p (q + 1) with h | h
      · obtain ⟨o, ho⟩ := hop q (by omega)
        obtain ⟨s', h1, h2⟩ := hE q o (by omega) ho
        have := nxM q (by omega) p (by omega)
        have e1 := h2.heap id
        rw [h1.heap (by omega) (hno q (by omega) (by omega))] at e1
        exact e1.symm.trans (ih (by omega) p (by omega) hlt fun j j1 j2 => hno j j1 (by omega))
      · obtain rfl : p = q + 1 := by omega
        rfl
  have hMall : ∀ q, q ≤ m → ∀ id, LesB (look AB.dead M id) (look .dead (S q).heap id) := by
    intro q
    induction q with
    | zero => intro _; exact hM1
    | succ q ih =>
      intro hq id
      obtain ⟨o, ho⟩ := hop q (by omega)
      obtain ⟨s', h1, h2⟩ := hE q o (by omega) ho
      rw [← h2.heap id]
      exact h1.mask (nxM q (by omega) 0 (Nat.zero_le _)) hM0 (ih (by omega)) id
  have crM : ∀ q, q ≤ m → ∀ c ∈ C q, c.1 < q ∧ (S c.1).nx ≤ c.2 ∧ c.2 < (S (c.1 + 1)).nx := by
    intro q
    induction q with
    | zero => intro _ c hc; rw [hC0] at hc; cases hc
    | succ q ih =>
      intro hq c hc
      obtain ⟨o, ho⟩ := hop q (by omega)
      obtain ⟨s', h1, h2⟩ := hL q o (by omega) ho
      rcases h1.crm c hc with h | ⟨h, h', h''⟩
      · obtain ⟨g1, g2⟩ := ih (by omega) c h
        exact ⟨by omega, g2⟩
      · rw [h]
        exact ⟨by omega, h', by rw [h2.nx]; exact h''⟩
  have pa := hp i o ho
  have hlook : ∀ t, t ∈ o.looksAt l.toArray → Les (look .any (S i).regs t) (R t) := by
    intro t ht
    by_cases hw : ∃ (j : Nat) (o' : Oper), l[j]? = some o' ∧ o'.dst = some t
    · obtain ⟨j, o', ho', hdst⟩ := hw
      rcases pa.look j o' t ho' hdst ht with ⟨hj, hr⟩ | ⟨hj, hr⟩
      · have hdj := hr.done hcl ho hdep
        exact (regM t i (by omega) (j + 1) (by omega) fun j2 o2 h1 h2 ho2 => (hp j2 o2 ho2).one j o' t ho' hdst (by omega)).trans (I1 j o' t (by omega) ho' hdj hdst)
      · have hnj : d j = false := by
          cases hdj : d j with
          | false => rfl
          | true => have := hr.done' hcl hdj; rw [hd0] at this; cases this
        have honly : ∀ j2 o2, l[j2]? = some o2 → j2 ≠ j → o2.dst ≠ some t := fun j2 o2 ho2 hne => (hp j2 o2 ho2).one j o' t ho' hdst hne
        refine (regM t i (by omega) 0 (Nat.zero_le _) fun j2 o2 _ h2 ho2 => honly j2 o2 ho2 (by omega)).trans (I2 t fun j2 o2 _ ho2 hd2 => honly j2 o2 ho2 fun e => ?_)
        subst e; rw [hnj] at hd2; cases hd2
    · exact (regM t i (by omega) 0 (Nat.zero_le _) fun j o' _ _ ho' hdst => hw ⟨j, o', ho', hdst⟩).trans (I2 t fun j o' _ ho' _ hdst => hw ⟨j, o', ho', hdst⟩)
  have hvis : ∀ id, vis T (S 0).nx i (C i) id = true → lvD S m (S 0).nx d id = true ∧ id < (S i).nx := by
    intro id h
    unfold vis at h
    rw [Bool.or_eq_true, List.any_eq_true] at h
    rcases h with h | ⟨c, hc, h⟩
    · have h : id < (S 0).nx := by simpa using h
      have := nxM i (by omega) 0 (Nat.zero_le _)
      exact ⟨lvD_iff.2 (.inl h), by omega⟩
    · rw [Bool.and_eq_true] at h
      obtain ⟨g1, g2, g3⟩ := crM i (by omega) c hc
      have hid := Nat.eq_of_beq_eq_true h.1
      have hdc := (reachT hT h.2).done hcl ho hdep
      have := nxM i (by omega) (c.1 + 1) (by omega)
      exact ⟨lvD_iff.2 (.inr ⟨c.1, by omega, hdc, by omega, by omega⟩), by omega⟩
  have hcont : ∀ id, visW T W (S 0).nx i (C i) id = true → LesB (look .dead (S i).heap id) (look AB.dead hpp id) := by
    intro id hv
    unfold visW at hv
    rw [Bool.and_eq_true] at hv
    obtain ⟨h1, h2⟩ := hvis id hv.1
    obtain ⟨p, p1, p2, p3, p4, p5, p6⟩ := I3 id h1
    have hpi : p ≤ i := by
      rcases p6 with rfl | ⟨q, rfl, hdq, hq⟩
      · exact Nat.zero_le _
      · rcases Nat.lt_or_ge q i with h | h
        · omega
        · exfalso
          rcases hq with hq | hq
          · by_cases e : q = i
            · subst e; rw [hd0] at hdq; cases hdq
            · have := (reachT hT ((okW_at hv.2 hq).2 (by omega))).done' hcl hdq
              rw [hd0] at this
              cases this
          · have := nxM q (by omega) i h
            omega
    refine (heapM id i (by omega) p hpi p2 fun j j1 j2 hj => ?_).trans p3
    have hdj := (reachT hT ((okW_at hv.2 hj).1 j2)).done hcl ho hdep
    rw [p5 j hj j1] at hdj
    cases hdj
  have hver : ∀ id, visW T W (S 0).nx i (C i) id = true → ∀ p, p ≤ m → id < (S p).nx → (∀ j, (j, id) ∈ W → p ≤ j → d j = false) → (p = 0 ∨ ∃ q, p = q + 1 ∧ d q = true ∧ ((q, id) ∈ W ∨ (S q).nx ≤ id)) → look .dead (S i).heap id = look AB.dead (S p).heap id := by
    intro id hv p p1 p2 p5 p6
    unfold visW at hv
    rw [Bool.and_eq_true] at hv
    obtain ⟨h1, h2⟩ := hvis id hv.1
    have hpi : p ≤ i := by
      rcases p6 with rfl | ⟨q, rfl, hdq, hq⟩
      · exact Nat.zero_le _
      · rcases Nat.lt_or_ge q i with h | h
        · omega
        · exfalso
          rcases hq with hq | hq
          · by_cases e : q = i
            · subst e; rw [hd0] at hdq; cases hdq
            · have := (reachT hT ((okW_at hv.2 hq).2 (by omega))).done' hcl hdq
              rw [hd0] at this
              cases this
          · have := nxM q (by omega) i h
            omega
    refine heapE id i (by omega) p hpi p2 fun j j1 j2 hj => ?_
    have hdj := (reachT hT ((okW_at hv.2 hj).1 j2)).done hcl ho hdep
    rw [p5 j hj j1] at hdj
    cases hdj
  have hregs : ∀ t, Les (look AV.any (lregs l.toArray (S i) o) t) (R t) := by
    intro t
    by_cases ht : t ∈ o.looksAt l.toArray
    · rcases (look_pick (f := fun t => look AV.any (S i).regs t) (l := o.looksAt l.toArray) (dd := AV.any) (t := t)) with e | e
      · show Les (look AV.any ((o.looksAt l.toArray).map fun t => (t, look AV.any (S i).regs t)) t) _
        rw [e]; exact hlook t ht
      · show Les (look AV.any ((o.looksAt l.toArray).map fun t => (t, look AV.any (S i).regs t)) t) _
        rw [e]; exact .any _
    · show Les (look AV.any ((o.looksAt l.toArray).map fun t => (t, look AV.any (S i).regs t)) t) _
      rw [look_pick_in ht]; exact .any _
  have hrel : RelG K n (lcl l.toArray T W M (S 0).nx i (C i) (S i) o (S m).nx) a w G := by
    refine RelP.rel' hR hregs (fun id => ?_) rfl
    rw [lcl_heap]
    cases hv : visW T W (S 0).nx i (C i) id with
    | false =>
      simp only [cond_false]
      rcases Nat.lt_or_ge id (S 0).nx with hlt | hge
      · obtain ⟨p, p1, p2, p3, _⟩ := I3 id (lvD_iff.2 (.inl hlt))
        exact (hMall p p1 id).trans p3
      · rw [hM0 id hge]; exact .dead _
    | true => exact hcont id hv
  have keep : ∀ id, (i, id) ∉ W → lvD S m (S 0).nx d id = true → ∃ p, p ≤ m ∧ id < (S p).nx ∧ LesB (look .dead (S p).heap id) (look .dead hpp id) ∧ (∀ j, (j, id) ∈ W → j < p → upd d i j = true) ∧ (∀ j, (j, id) ∈ W → p ≤ j → upd d i j = false) ∧ (p = 0 ∨ ∃ q, p = q + 1 ∧ upd d i q = true ∧ ((q, id) ∈ W ∨ (S q).nx ≤ id)) := by
    intro id hni hlv
    obtain ⟨p, p1, p2, p3, p4, p5, p6⟩ := I3 id hlv
    refine ⟨p, p1, p2, p3, fun j hj h => ?_, fun j hj h => ?_, p6.imp (fun h => h) fun ⟨q, e, hq, hw⟩ => ⟨q, e, by simp [upd, hq], hw⟩⟩
    · rw [upd_ne (fun e => hni (by rw [← e]; exact hj))]; exact p4 j hj h
    · rw [upd_ne (fun e => hni (by rw [← e]; exact hj))]; exact p5 j hj h
  have ho0 := ho
  obtain ⟨s', hloc, heq⟩ := hL i o hi ho
  have hdone : ∀ j, upd d i j = true ↔ d j = true ∨ j = i := fun j => by simp [upd]
  have J1 : ∀ (x : AV), (∀ t, o.dst = some t → Les (look .any (S (i + 1)).regs t) x) → ∀ j o' t, j < m → l[j]? = some o' → upd d i j = true → o'.dst = some t → Les (look .any (S (j + 1)).regs t) (updR R o.dst x t) := by
    intro x hx j o' t hj ho' hdj hdst
    by_cases hji : j = i
    · subst hji
      rw [ho] at ho'
      cases ho'
      rw [hdst]
      show Les _ (if t = t then x else R t)
      rw [if_pos rfl]
      exact hx t hdst
    · have hdj : d j = true := ((hdone j).1 hdj).resolve_right hji
      have hne : o.dst ≠ some t := pa.one j o' t ho' hdst (fun e => hji e.symm)
      have : updR R o.dst x t = R t := by
        cases hdd : o.dst with
        | none => rfl
        | some dd => exact if_neg (fun e => hne (by rw [hdd, e]))
      rw [this]
      exact I1 j o' t hj ho' hdj hdst
  have J2 : ∀ (x : AV) t, (∀ j o', j < m → l[j]? = some o' → upd d i j = true → o'.dst ≠ some t) → Les (look .any (S 0).regs t) (updR R o.dst x t) := by
    intro x t hno
    have hne : o.dst ≠ some t := hno i o hi ho ((hdone i).2 (.inr rfl))
    have : updR R o.dst x t = R t := by
      cases hdd : o.dst with
      | none => rfl
      | some dd => exact if_neg (fun e => hne (by rw [hdd, e]))
    rw [this]
    exact I2 t fun j o' hj ho' hdj => hno j o' hj ho' ((hdone j).2 (.inl hdj))
  have lvSame : (S (i + 1)).nx = (S i).nx → lvD S m (S 0).nx (upd d i) = lvD S m (S 0).nx d := by
    intro hn
    funext id
    rw [Bool.eq_iff_iff, lvD_iff, lvD_iff]
    constructor
    · rintro (h | ⟨j, h1, h2, h3, h4⟩)
      · exact .inl h
      · rcases (hdone j).1 h2 with h2 | h2
        · exact .inr ⟨j, h1, h2, h3, h4⟩
        · subst h2; omega
    · rintro (h | ⟨j, h1, h2, h3, h4⟩)
      · exact .inl h
      · exact .inr ⟨j, h1, (hdone j).2 (.inl h2), h3, h4⟩
  have hwant : o.guard = none ∨ gst l.toArray o (lcl l.toArray T W M (S 0).nx i (C i) (S i) o 0) = some true → Region.wanted o (yielded l.toArray a.tmps) = true := by
    rintro (hg | hg)
    · exact wanted_none hg a
    · obtain ⟨dd, want, g1, g2⟩ := gst_yes hg
      exact wanted_of (st := lcl l.toArray T W M (S 0).nx i (C i) (S i) o (S m).nx) g1 g2 K a w G hrel
  have lvmono : ∀ id, vis T (S 0).nx i (C i) id = true → lvD S m (S 0).nx d id = true := fun id h => (hvis id h).1
  have putSelf : ∀ (st : ASt) (x : AV), s' = st.put o.dst x → ∀ t, o.dst = some t → Les (look .any (S (i + 1)).regs t) x := by
    intro st x e t ht
    have := heq.regs t
    rw [e, ht, put_self] at this
    exact this
  generalize C (i + 1) = cr' at hloc
  cases hloc with
  | @read x hW hw h hn =>
    rw [if_pos (hwant hw)]
    obtain ⟨v, h1, h2⟩ := (h (S m).nx).out K a w G hrel
    have hnx : (S (i + 1)).nx = (S i).nx := by rw [heq.nx, put_nx]
    unfold Oper.wp
    rw [h1 w (Below.refl _ _)]
    exact ⟨_, hpp, G, by rw [lvSame hnx]; exact hR.put (h 0).dst h2 (nmd_mono lvmono _ hn), J1 x (putSelf _ x rfl), J2 x, by rw [lvSame hnx]; exact fun id => keep id (noW_at hW id)⟩
  | @call x hW hw h hn =>
    rw [if_pos (hwant hw)]
    obtain ⟨F, args, h1, h2⟩ := (h (S m).nx).out K a w G hrel
    have hnx : (S (i + 1)).nx = (S i).nx := by rw [heq.nx, put_nx]
    unfold Oper.wp
    rw [h1]
    refine h2.mono fun e w' ⟨v, e1, e2, e3⟩ => ?_
    subst e1
    exact ⟨_, hpp, G, by rw [lvSame hnx]; exact (hR.same e2).put (h 0).dst e3 (nmd_mono lvmono _ hn), J1 x (putSelf _ x rfl), J2 x, by rw [lvSame hnx]; exact fun id => keep id (noW_at hW id)⟩
  | @skip hW hw hd =>
    obtain ⟨dd, want, g1, g2⟩ := gst_no hw
    rw [if_neg (by rw [unwanted_of (st := lcl l.toArray T W M (S 0).nx i (C i) (S i) o (S m).nx) g1 g2 hrel]; decide)]
    have hnx : (S (i + 1)).nx = (S i).nx := by rw [heq.nx, put_nx]
    exact ⟨_, hpp, G, by rw [lvSame hnx]; exact hR.put hd (.dat .und) rfl, J1 .und (putSelf _ .und rfl), J2 .und, by rw [lvSame hnx]; exact fun id => keep id (noW_at hW id)⟩
  | @new b hW hN hw h hn =>
    rw [if_pos (hwant hw)]
    obtain ⟨v, w', h1, h2⟩ := (h (S m).nx).out K a w G hrel
    have hnx : (S (i + 1)).nx = (S i).nx + 1 := by rw [heq.nx, put_nx]; rfl
    have hge : (S 0).nx ≤ (S i).nx := nxM i (by omega) 0 (Nat.zero_le _)
    have hfree : lvD S m (S 0).nx d (S i).nx = false := by
      rw [Bool.eq_false_iff]
      intro hlv
      rcases lvD_iff.1 hlv with h | ⟨j, g1, g2, g3, g4⟩
      · omega
      · rcases Nat.lt_trichotomy j i with hlt | e | hlt
        · have := nxM i (by omega) (j + 1) (by omega); omega
        · subst e; rw [hd0] at g2; cases g2
        · have := nxM j (by omega) (i + 1) (by omega); omega
    have hlt : (S i).nx < (S m).nx := by have := nxM m (Nat.le_refl _) (i + 1) (by omega); omega
    have hlv' : lvD S m (S 0).nx (upd d i) = fun id => lvD S m (S 0).nx d id || Nat.beq id (S i).nx := by
      funext id
      rw [Bool.eq_iff_iff, lvD_iff, Bool.or_eq_true, lvD_iff]
      constructor
      · rintro (h | ⟨j, h1, h2, h3, h4⟩)
        · exact .inl (.inl h)
        · rcases (hdone j).1 h2 with h2 | h2
          · exact .inl (.inr ⟨j, h1, h2, h3, h4⟩)
          · subst h2
            right
            have e : id = (S j).nx := by omega
            rw [e]; exact Nat.beq_refl _
      · rintro ((h | ⟨j, h1, h2, h3, h4⟩) | h)
        · exact .inl h
        · exact .inr ⟨j, h1, (hdone j).2 (.inl h2), h3, h4⟩
        · have := Nat.eq_of_beq_eq_true h
          exact .inr ⟨i, hi, (hdone i).2 (.inr rfl), by omega, by omega⟩
    obtain ⟨hR2, hv⟩ := hR.newAt hfree hlt h2 (abnmd_mono lvmono hn)
    unfold Oper.wp
    rw [h1]
    have hb : LesB (look AB.dead (S (i + 1)).heap (S i).nx) b := by
      have := heq.heap (S i).nx
      rw [put_heap'] at this
      have e1 : look AB.dead ((S i).hnew b).heap (S i).nx = b := look_self _ _ _ _
      rw [e1] at this
      exact this
    refine ⟨_, ((S i).nx, b) :: hpp, G.at (S i).nx v (lnB b) (szB b), ?_, J1 (refB b (S i).nx) (putSelf _ _ rfl), J2 _, fun id hid => ?_⟩
    · rw [hlv']
      refine hR2.put (h 0).dst hv ?_
      cases b with
      | dead => rfl
      | box cs e => simp [refB, AV.nmd]
      | row sz rows e => simp [refB, AV.nmd]
    · rw [hlv'] at hid
      by_cases e : (S i).nx = id
      · subst e
        refine ⟨i + 1, by omega, by omega, by rw [look_cons, if_pos rfl]; exact hb, fun j hj hlt2 => ?_, fun j hj hge2 => ?_, .inr ⟨i, rfl, (hdone i).2 (.inr rfl), .inr (Nat.le_refl _)⟩⟩
        · have := (newW_at hN hj).1; omega
        · rw [upd_ne (by omega)]
          cases hdj : d j with
          | false => rfl
          | true =>
            have := (reachT hT (newW_at hN hj).2).done' hcl hdj
            rw [hd0] at this
            cases this
      · rw [Bool.or_eq_true] at hid
        obtain ⟨p, p1, p2, p3, p4, p5, p6⟩ := keep id (noW_at hW id) (hid.resolve_right fun h => e (Nat.eq_of_beq_eq_true h).symm)
        exact ⟨p, p1, p2, by rw [look_cons, if_neg e]; exact p3, p4, p5, p6⟩
  | @write id b x L hLL hw hv hm hu h hb hn =>
    rw [if_pos (hwant hw)]
    have hnx : (S (i + 1)).nx = (S i).nx := by rw [heq.nx, put_nx]; rfl
    have hv1 : vis T (S 0).nx i (C i) id = true := by unfold visW at hv; rw [Bool.and_eq_true] at hv; exact hv.1
    have hv2 : okW T W i id = true := by unfold visW at hv; rw [Bool.and_eq_true] at hv; exact hv.2
    -- the blocks that the operation looks at, as the text has them
    let hp2 : List (Nat × AB) := L.map (fun j => (j, look .dead (S i).heap j)) ++ hpp
    have hlk : ∀ j, (j ∈ L ∧ look AB.dead hp2 j = look .dead (S i).heap j) ∨ (look AB.dead hp2 j = look .dead hpp j) := by
      intro j
      show (_ ∧ look AB.dead (L.map (fun j => (j, look .dead (S i).heap j)) ++ hpp) j = _) ∨ look AB.dead (L.map (fun j => (j, look .dead (S i).heap j)) ++ hpp) j = _
      rw [look_append]
      clear hLL h
      induction L with
      | nil => exact .inr rfl
      | cons c L ih =>
        rw [List.map_cons, look_cons]
        by_cases e : c = j
        · subst e; rw [if_pos rfl]; exact .inl ⟨by simp, rfl⟩
        · rw [if_neg e]
          exact ih.imp (fun ⟨g1, g2⟩ => ⟨List.mem_cons_of_mem _ g1, g2⟩) (fun g => g)
    have hlkL : ∀ j ∈ L, look AB.dead hp2 j = look .dead (S i).heap j := by
      intro j hj
      show look AB.dead (L.map (fun j => (j, look .dead (S i).heap j)) ++ hpp) j = _
      rw [look_append]
      clear hLL h hlk
      induction L with
      | nil => cases hj
      | cons c L ih =>
        rw [List.map_cons, look_cons]
        by_cases e : c = j
        · subst e; rw [if_pos rfl]
        · rw [if_neg e]
          exact ih ((List.mem_cons.1 hj).resolve_left fun e' => e e'.symm)
    have hRP : RelP K n R hp2 (S m).nx (lvD S m (S 0).nx d) a w G := by
      refine RelP.lesH hR (fun j => ?_) (fun j => ?_) (fun j hj => ?_)
      · rcases hlk j with ⟨g1, g2⟩ | g2
        · rw [g2]; exact hcont j (hLL j g1).1
        · rw [g2]; exact .refl _
      · rcases hlk j with ⟨g1, g2⟩ | g2
        · rw [g2]; exact abnmd_mono lvmono (hLL j g1).2
        · rw [g2]; exact hR.bnm j
      · rcases hlk j with ⟨g1, g2⟩ | g2
        · have := (hLL j g1).1
          unfold visW at this
          rw [Bool.and_eq_true] at this
          rw [lvmono j this.1] at hj
          cases hj
        · rw [g2]; exact (hR.free j hj).1
    have hRG : RelG ⟨K.w0, w, G⟩ n ⟨lregs l.toArray (S i) o, hp2, (S m).nx⟩ a w G := by
      have r := RelP.rel' hRP (st := ⟨lregs l.toArray (S i) o, hp2, (S m).nx⟩) hregs (fun _ => .refl _) rfl
      exact ⟨r.nx, r.hr, Ext.refl _ _, r.size, r.defers, r.regs⟩
    have hop' := h hp2 (S m).nx hlkL
    obtain ⟨v, w', G', h1, h2, h3, h4, h5, h6⟩ := hop'.out _ a w G hRG
    have hxm : x.nmd (lvD S m (S 0).nx d) = true := nmd_mono lvmono _ hn
    have hbm : b.nmd (lvD S m (S 0).nx d) = true := abnmd_mono lvmono hb
    have hRP2 : RelP K n (updR R o.dst x) ((id, b) :: hpp) (S m).nx (lvD S m (S 0).nx d) (a.put o.dst v) w' G' := by
      have hHR : HR K.w0 w' G' ((id, b) :: hpp) := by
        refine ⟨h2.bs, h2.below, h2.ownlt, fun j => ?_, h2.dist, h2.ownhas⟩
        rw [look_cons]
        split
        · rename_i e
          subst e
          have := h2.blk id
          rw [look_self] at this
          exact this
        · rename_i e
          obtain ⟨g1, g2, g3⟩ := h5 j (Ne.symm e)
          exact (hR.hr.blk j).step h3 fun hj => ⟨g1, g2, g3 hj⟩
      have base : RelP K n R ((id, b) :: hpp) (S m).nx (lvD S m (S 0).nx d) a w' G' := by
        refine ⟨h4.trans hR.nx, hHR, hR.ext.trans h3, hR.size, hR.defers, fun t => (hR.regs t).ext h3, hR.rnm, fun j => ?_, fun j hj => ?_, hR.old⟩
        · rw [look_cons]
          split
          · exact hbm
          · exact hR.bnm j
        · have hne : id ≠ j := fun e => by subst e; rw [lvmono _ hv1] at hj; cases hj
          rw [look_cons, if_neg hne]
          obtain ⟨g1, g2⟩ := hR.free j hj
          exact ⟨g1, fun hlt => by rw [(h5 j (Ne.symm hne)).1]; exact g2 hlt⟩
      exact base.put hop'.dst h6 hxm
    have fin : InvG K n l W S m (S 0).nx (upd d i) (a.put o.dst v) w' := by
      refine ⟨_, (id, b) :: hpp, G', by rw [lvSame hnx]; exact hRP2, J1 x (putSelf _ x rfl), J2 x, fun id' hid' => ?_⟩
      rw [lvSame hnx] at hid'
      by_cases e : id = id'
      · subst e
        refine ⟨i + 1, by omega, by have := (hvis id hv1).2; omega, ?_, fun j hj hlt2 => ?_, fun j hj hge2 => ?_, .inr ⟨i, rfl, (hdone i).2 (.inr rfl), .inl hm⟩⟩
        · rw [look_cons, if_pos rfl]
          have := heq.heap id
          rw [put_heap'] at this
          have e1 : look AB.dead ((S i).hset id b).heap id = b := look_self _ _ _ _
          rw [e1] at this
          exact this
        · rcases Nat.lt_or_ge j i with g | g
          · exact (hdone j).2 (.inl ((reachT hT ((okW_at hv2 hj).1 g)).done hcl ho hdep))
          · exact (hdone j).2 (.inr (by omega))
        · rw [upd_ne (by omega)]
          cases hdj : d j with
          | false => rfl
          | true =>
            have := (reachT hT ((okW_at hv2 hj).2 (by omega))).done' hcl hdj
            rw [hd0] at this
            cases this
      · obtain ⟨p, p1, p2, p3, p4, p5, p6⟩ := keep id' (fun hj => e (onlyW_at hu hj).symm) hid'
        exact ⟨p, p1, p2, by rw [look_cons, if_neg e]; exact p3, p4, p5, p6⟩
    unfold Oper.wp
    rcases h1 with h1 | ⟨h1, hvu⟩
    · rw [h1]; exact fin
    · subst hvu; rw [h1]; exact fin
  | @op st2 L hp0 hw h hd hn hN hv hs ht hr hx hW hu hM =>
    rw [if_pos (hwant hw)]
    have hnx : (S (i + 1)).nx = st2.nx := by rw [heq.nx, put_nx]
    have hge : (S 0).nx ≤ (S i).nx := nxM i (by omega) 0 (Nat.zero_le _)
    have hvis1 : ∀ id ∈ L, vis T (S 0).nx i (C i) id = true := fun id hid => by
      have := (hv id hid).2
      unfold visW at this
      rw [Bool.and_eq_true] at this
      exact this.1
    have hlvL : ∀ id, hasN L id = true → lvD S m (S 0).nx d id = true := fun id hid => lvmono id (hvis1 id (hasN_mem hid))
    have hdis : ∀ id, lvD S m (S 0).nx d id = true → newN (S i).nx st2.nx id = false := fun id hlv => by
      rw [Bool.eq_false_iff]
      intro hnw
      have hnw := newN_iff.1 hnw
      rcases lvD_iff.1 hlv with h | ⟨j, g1, g2, g3, g4⟩
      · omega
      · rcases Nat.lt_trichotomy j i with hlt | e | hlt
        · have := nxM i (by omega) (j + 1) (by omega); omega
        · subst e; rw [hd0] at g2; cases g2
        · have := nxM j (by omega) (i + 1) (by omega); omega
    have hlv' : ∀ id, lvD S m (S 0).nx (upd d i) id = true ↔ lvD S m (S 0).nx d id = true ∨ newN (S i).nx st2.nx id = true := fun id => by
      rw [lvD_iff, lvD_iff, newN_iff]
      constructor
      · rintro (h | ⟨j, h1, h2, h3, h4⟩)
        · exact .inl (.inl h)
        · rcases (hdone j).1 h2 with h2 | h2
          · exact .inl (.inr ⟨j, h1, h2, h3, h4⟩)
          · subst h2; right; omega
      · rintro ((h | ⟨j, h1, h2, h3, h4⟩) | h)
        · exact .inl h
        · exact .inr ⟨j, h1, (hdone j).2 (.inl h2), h3, h4⟩
        · exact .inr ⟨i, hi, (hdone i).2 (.inr rfl), by omega, by omega⟩
    have lvUp : ∀ id, lvD S m (S 0).nx d id = true → lvD S m (S 0).nx (upd d i) id = true := fun id h => (hlv' id).2 (.inl h)
    have hqL : ∀ id, orN (hasN L) (S i).nx st2.nx id = true → lvD S m (S 0).nx (upd d i) id = true := fun id hid => by
      rcases orN_iff.1 hid with h | h
      · exact lvUp id (hlvL id h)
      · exact (hlv' id).2 (.inr (newN_iff.2 h))
    have hRP : RelP K n R (onL L (look .dead hp0) hpp) (S m).nx (lvD S m (S 0).nx d) a w G := by
      refine RelP.lesH hR (fun j => ?_) (fun j => ?_) (fun j hj => ?_)
      · by_cases e : j ∈ L
        · rw [onL_in e]
          rcases hs j with h' | ⟨_, h', _⟩
          · rw [h']; exact .dead _
          · rw [h']; exact hcont j (hv j e).2
        · rw [onL_out e]; exact .refl _
      · by_cases e : j ∈ L
        · rw [onL_in e]
          rcases hs j with h' | ⟨_, _, h'⟩
          · rw [h']; rfl
          · exact abnmd_mono hlvL h'
        · rw [onL_out e]; exact hR.bnm j
      · by_cases e : j ∈ L
        · rw [lvmono j (hvis1 j e)] at hj; cases hj
        · rw [onL_out e]; exact (hR.free j hj).1
    have hmi : st2.nx ≤ (S m).nx := by rw [← hnx]; exact nxM m (Nat.le_refl _) (i + 1) (by omega)
    refine OpY.run (Hp := onL L (look .dead hp0) hpp) (p := hasN L) (k2 := st2.nx) h hd (fun id hid => (hv id (hasN_mem hid)).1) rfl (fun id => ?_) (fun id => ?_) hr hx hRP.hr (by rw [hR.nx]; exact hmi) hR.size hR.defers (fun t => (hregs t).rel (hR.regs t)) (fun v w' G' ho hvv => ?_)
    · rcases hs id with h' | ⟨h1, h2, h3⟩
      · exact .inl h'
      · exact .inr ⟨hasN_of' h1, by rw [onL_in h1], h3⟩
    · exact ht id
    have memLL : ∀ j, j ∈ L ++ news (S i).nx st2.nx ↔ orN (hasN L) (S i).nx st2.nx j = true := fun j => by
      rw [List.mem_append, orN_iff, news_mem]
      constructor
      · rintro (h | h)
        · exact .inl (hasN_of' h)
        · exact .inr h
      · rintro (h | h)
        · exact .inl (hasN_mem h)
        · exact .inr h
    have hno : ∀ j, j ∉ L ++ news (S i).nx st2.nx → orN (hasN L) (S i).nx st2.nx j = false := fun j hj => by
      rw [Bool.eq_false_iff]
      intro h'
      exact hj ((memLL j).2 h')
    have hmv : Mv (lvD S m (S 0).nx d) w G w (patch G G' (newN (S i).nx st2.nx)) := patch_mv hdis
    have hextP : Ext K.w1 K.G1 w (patch G G' (newN (S i).nx st2.nx)) := by
      refine ⟨hR.ext.size, hR.ext.keep, hR.ext.own2, hR.ext.nx, hR.ext.bs, fun id hid => ?_⟩
      have hn' : ¬ (newN (S i).nx st2.nx id = true) := by rw [hdis id (hR.old id hid)]; decide
      have e1 : (patch G G' (newN (S i).nx st2.nx)).ρ id = G.ρ id := if_neg hn'
      have e2 : (patch G G' (newN (S i).nx st2.nx)).ln id = G.ln id := if_neg hn'
      have e3 : (patch G G' (newN (S i).nx st2.nx)).sz id = G.sz id := if_neg hn'
      rw [e1, e2, e3]
      exact hR.ext.gh id hid
    have hRP2 : RelP K n (updR R o.dst (dstV st2 o.dst)) (onL (L ++ news (S i).nx st2.nx) (look .dead st2.heap) hpp) (S m).nx (lvD S m (S 0).nx (upd d i)) (a.put o.dst v) w' G' := by
      have hHR : HR K.w0 w' G' (onL (L ++ news (S i).nx st2.nx) (look .dead st2.heap) hpp) := by
        refine ⟨ho.hr.bs, ho.hr.below, ho.hr.ownlt, fun j => ?_, ho.hr.dist, ho.hr.ownhas⟩
        by_cases e : j ∈ L ++ news (S i).nx st2.nx
        · rw [onL_in e]; exact ho.hr.blk j
        · rw [onL_out e]
          cases hlj : lvD S m (S 0).nx d j with
          | false => rw [(hR.free j hlj).1]; trivial
          | true =>
            obtain ⟨g1, g2, g3⟩ := ho.same j (hno j e)
            have hn' : ¬ (newN (S i).nx st2.nx j = true) := by rw [hdis j hlj]; decide
            have e1 : (patch G G' (newN (S i).nx st2.nx)).ρ j = G.ρ j := if_neg hn'
            have e2 : (patch G G' (newN (S i).nx st2.nx)).ln j = G.ln j := if_neg hn'
            exact ((hR.hr.blk j).mv hmv (hR.bnm j) (.inr hlj) (fun g _ => rfl)).step ho.ext fun hj => ⟨by rw [e1]; exact g1, by rw [e2]; exact g2, by rw [e1]; exact g3 hj⟩
      have base : RelP K n R (onL (L ++ news (S i).nx st2.nx) (look .dead st2.heap) hpp) (S m).nx (lvD S m (S 0).nx (upd d i)) a w' G' := by
        refine ⟨ho.nx.trans hR.nx, hHR, hextP.trans ho.ext, hR.size, hR.defers, fun t => ((hR.regs t).mv hmv (hR.rnm t)).ext ho.ext, fun t => nmd_mono lvUp _ (hR.rnm t), fun j => ?_, fun j hj => ?_, fun j hj => lvUp j (hR.old j hj)⟩
        · by_cases e : j ∈ L ++ news (S i).nx st2.nx
          · rw [onL_in e]
            rcases ht j with h' | ⟨_, h'⟩
            · rw [h']; rfl
            · exact abnmd_mono hqL (pfB_nmd h')
          · rw [onL_out e]; exact abnmd_mono lvUp (hR.bnm j)
        · have e : j ∉ L ++ news (S i).nx st2.nx := fun e => by rw [hqL j ((memLL j).1 e)] at hj; cases hj
          have hj' : lvD S m (S 0).nx d j = false := by
            rw [Bool.eq_false_iff]
            intro h'
            rw [lvUp j h'] at hj; cases hj
          rw [onL_out e]
          obtain ⟨g1, g2⟩ := hR.free j hj'
          exact ⟨g1, fun hlt => by rw [(ho.same j (hno j e)).1]; exact g2 hlt⟩
      exact base.put hd hvv (nmd_mono hqL _ (pf_nmd _ hx))
    refine ⟨_, onL (L ++ news (S i).nx st2.nx) (look .dead st2.heap) hpp, G', hRP2, J1 (dstV st2 o.dst) (putSelf _ _ rfl), J2 _, fun id' hid' => ?_⟩
    have hheap : ∀ id', id' ∈ L ++ news (S i).nx st2.nx → LesB (look AB.dead (S (i + 1)).heap id') (look .dead (onL (L ++ news (S i).nx st2.nx) (look .dead st2.heap) hpp) id') := fun id' e => by
      rw [onL_in e]
      have := heq.heap id'
      rw [put_heap'] at this
      have e1 : look AB.dead (onL (L ++ news (S i).nx st2.nx) (look .dead st2.heap) (S i).heap) id' = look .dead st2.heap id' := onL_in e
      exact e1 ▸ this
    by_cases hw' : (i, id') ∈ W
    · have e := hW id' hw'
      have hv2 : okW T W i id' = true := by
        have := (hv id' e).2
        unfold visW at this; rw [Bool.and_eq_true] at this; exact this.2
      refine ⟨i + 1, by omega, by have := (hv id' e).1; omega, hheap id' (List.mem_append.2 (.inl e)), fun j hj hlt2 => ?_, fun j hj hge2 => ?_, .inr ⟨i, rfl, (hdone i).2 (.inr rfl), .inl hw'⟩⟩
      · rcases Nat.lt_or_ge j i with g | g
        · exact (hdone j).2 (.inl ((reachT hT ((okW_at hv2 hj).1 g)).done hcl ho0 hdep))
        · exact (hdone j).2 (.inr (by omega))
      · rw [upd_ne (by omega)]
        cases hdj : d j with
        | false => rfl
        | true =>
          have := (reachT hT ((okW_at hv2 hj).2 (by omega))).done' hcl hdj
          rw [hd0] at this
          cases this
    · rcases (hlv' id').1 hid' with hid2 | hnw
      · obtain ⟨p, p1, p2, p3, p4, p5, p6⟩ := I3 id' hid2
        obtain ⟨p', q1, q2, q3, q4, q5, q6⟩ := keep id' hw' hid2
        by_cases e : id' ∈ L
        · refine ⟨p, p1, p2, ?_, fun j hj hlt => ?_, fun j hj hge => ?_, p6.imp (fun h => h) fun ⟨q, e, hq, hw⟩ => ⟨q, e, by simp [upd, hq], hw⟩⟩
          · rw [onL_in (List.mem_append.2 (.inl e)), (hu id' e).resolve_left hw', hver id' (hv id' e).2 p p1 p2 p5 p6]
            exact .refl _
          · rw [upd_ne (fun e => hw' (by rw [← e]; exact hj))]; exact p4 j hj hlt
          · rw [upd_ne (fun e => hw' (by rw [← e]; exact hj))]; exact p5 j hj hge
        · have e2 : id' ∉ L ++ news (S i).nx st2.nx := fun h' => by
            rcases List.mem_append.1 h' with h' | h'
            · exact e h'
            · have := hdis id' hid2
              rw [newN_iff.2 (news_mem.1 h')] at this
              cases this
          exact ⟨p', q1, q2, by rw [onL_out e2]; exact q3, q4, q5, q6⟩
      · have hnw2 := newN_iff.1 hnw
        have hNi := hN id' hnw2.1 hnw2.2
        refine ⟨i + 1, by omega, by omega, hheap id' (List.mem_append.2 (.inr (news_mem.2 hnw2))), fun j hj hlt2 => ?_, fun j hj hge2 => ?_, .inr ⟨i, rfl, (hdone i).2 (.inr rfl), .inr hnw2.1⟩⟩
        · have := (newW_at hNi hj).1; omega
        · rw [upd_ne (by omega)]
          cases hdj : d j with
          | false => rfl
          | true =>
            have := (reachT hT (newW_at hNi hj).2).done' hcl hdj
            rw [hd0] at this
            cases this
theorem AG.last (hp : ∀ i o, l[i]? = some o → PlanR l n i o) (hml : m ≤ l.length)
    (hC0 : C 0 = []) (hL : ∀ j o, j < m → l[j]? = some o → ∃ s', Loc P n l.toArray T W M (S 0).nx j (C j) o (S j) s' (C (j + 1)) ∧ LeS (S (j + 1)) s') (hdead : ∀ id, (S 0).nx ≤ id → look .dead (S 0).heap id = .dead)
    {K : Kn} {d : Nat → Bool} {a : Act} {w : World} (hall : ∀ i, i < m → d i = true) (h : InvG K n l W S m (S 0).nx d a w) : ∃ G, RelG K n (S m) a w G := by
  obtain ⟨R, hpp, G, hR, I1, I2, I3⟩ := h
  have hop : ∀ j, j < m → ∃ o, l[j]? = some o := fun j hj => ⟨l[j], List.getElem?_eq_getElem (by omega)⟩
  have regM : ∀ t q, q ≤ m → ∀ p, p ≤ q → (∀ j o, p ≤ j → j < q → l[j]? = some o → o.dst ≠ some t) → Les (look AV.any (S q).regs t) (look .any (S p).regs t) := by
    intro t q
    induction q with
    | zero => intro _ p hp _; obtain rfl : p = 0 := (by omega); exact .refl _
    | succ q ih =>
      intro hq p hp hno
      rcases Nat.lt_or_ge p (q + 1) with h | h
      · obtain ⟨o, ho⟩ := hop q (by omega)
        obtain ⟨s', h1, h2⟩ := hL q o (by omega) ho
        have e1 := h2.regs t
        rw [h1.regs (hno q o (by omega) (by omega) ho)] at e1
        exact e1.trans (ih (by omega) p (by omega) fun j o hj1 hj2 => hno j o hj1 (by omega))
      · obtain rfl : p = q + 1 := by omega
        exact .refl _
  have heapM : ∀ id q, q ≤ m → ∀ p, p ≤ q → (∀ j, p ≤ j → j < q → (id < (S j).nx ∨ (S (j + 1)).nx ≤ id) ∧ (j, id) ∉ W) → LesB (look AB.dead (S q).heap id) (look .dead (S p).heap id) := by
    intro id q
    induction q with
    | zero => intro _ p hp _; obtain rfl : p = 0 := (by omega); exact .refl _
    | succ q ih =>
      intro hq p hp hno
      rcases Nat.lt_or_ge p (q + 1) with h | h
      · obtain ⟨o, ho⟩ := hop q (by omega)
        obtain ⟨s', h1, h2⟩ := hL q o (by omega) ho
        obtain ⟨g1, g2⟩ := hno q (by omega) (by omega)
        refine (h2.heap id).trans ?_
        have e1 : look AB.dead s'.heap id = look .dead (S q).heap id := h1.heap (by rw [← h2.nx]; exact g1) g2
        rw [e1]
        exact ih (by omega) p (by omega) fun j j1 j2 => hno j j1 (by omega)
      · obtain rfl : p = q + 1 := by omega
        exact .refl _
  have nxM : ∀ q, q ≤ m → ∀ p, p ≤ q → (S p).nx ≤ (S q).nx := by
    intro q
    induction q with
    | zero => intro _ p hp; obtain rfl : p = 0 := (by omega); exact Nat.le_refl _
    | succ q ih =>
      intro hq p hp
      rcases Nat.lt_or_ge p (q + 1) with h | h
      · obtain ⟨o, ho⟩ := hop q (by omega)
        obtain ⟨s', h1, h2⟩ := hL q o (by omega) ho
        have := h1.nx_le
        have := h2.nx
        have := ih (by omega) p (by omega)
        omega
      · obtain rfl : p = q + 1 := by omega
        exact Nat.le_refl _
  have crM : ∀ q, q ≤ m → ∀ c ∈ C q, c.1 < q ∧ (S c.1).nx ≤ c.2 ∧ c.2 < (S (c.1 + 1)).nx := by
    intro q
    induction q with
    | zero => intro _ c hc; rw [hC0] at hc; cases hc
    | succ q ih =>
      intro hq c hc
      obtain ⟨o, ho⟩ := hop q (by omega)
      obtain ⟨s', h1, h2⟩ := hL q o (by omega) ho
      rcases h1.crm c hc with h | ⟨h, h', h''⟩
      · obtain ⟨g1, g2⟩ := ih (by omega) c h
        exact ⟨by omega, g2⟩
      · rw [h]
        exact ⟨by omega, h', by rw [h2.nx]; exact h''⟩
  refine ⟨G, RelP.rel' hR (fun t => ?_) (fun id => ?_) rfl⟩
  · by_cases hw : ∃ (j : Nat) (o' : Oper), j < m ∧ l[j]? = some o' ∧ o'.dst = some t
    · obtain ⟨j, o', hj, ho', hdst⟩ := hw
      exact (regM t m (Nat.le_refl _) (j + 1) (by omega) fun j2 o2 h1 h2 ho2 => (hp j2 o2 ho2).one j o' t ho' hdst (by omega)).trans (I1 j o' t hj ho' (hall j hj) hdst)
    · exact (regM t m (Nat.le_refl _) 0 (Nat.zero_le _) fun j o' _ hj ho' hdst => hw ⟨j, o', hj, ho', hdst⟩).trans (I2 t fun j o' hj ho' _ hdst => hw ⟨j, o', hj, ho', hdst⟩)
  · cases hlv : lvD S m (S 0).nx d id with
    | true =>
      obtain ⟨p, p1, p2, p3, p4, p5, _⟩ := I3 id hlv
      exact (heapM id m (Nat.le_refl _) p p1 fun j j1 j2 => ⟨.inl (by have := nxM j (by omega) p j1; omega), fun hj => by have := p5 j hj j1; rw [hall j j2] at this; cases this⟩).trans p3
    | false =>
      have hno : ¬ (id < (S 0).nx ∨ ∃ j, j < m ∧ d j = true ∧ (S j).nx ≤ id ∧ id < (S (j + 1)).nx) := fun h => by rw [lvD_iff.2 h] at hlv; cases hlv
      have hnl : ∀ j, j < m → (S j).nx ≤ id → id < (S (j + 1)).nx → False := fun j hj e h => hno (.inr ⟨j, hj, hall j hj, e, h⟩)
      have hdd : look AB.dead (S 0).heap id = .dead := hdead id (by omega)
      have hz : ∀ q, q ≤ m → LesB (look AB.dead (S q).heap id) .dead := by
        intro q
        induction q with
        | zero => intro _; rw [hdd]; exact .refl _
        | succ q ih =>
          intro hq
          obtain ⟨o, ho⟩ := hop q (by omega)
          obtain ⟨s', h1, h2⟩ := hL q o (by omega) ho
          refine (h2.heap id).trans ?_
          rcases h1.heap2 id with g | ⟨g1, g2⟩ | g
          · rw [g]; exact ih (by omega)
          · exact (hnl q (by omega) g1 (by rw [h2.nx]; exact g2)).elim
          · unfold vis at g
            rw [Bool.or_eq_true, List.any_eq_true] at g
            rcases g with g | ⟨c, hc, g⟩
            · exact absurd (.inl (by simpa using g)) hno
            · rw [Bool.and_eq_true] at g
              obtain ⟨c1, c2, c3⟩ := crM q (by omega) c hc
              have e := Nat.eq_of_beq_eq_true g.1
              exact (hnl c.1 (by omega) (by rw [← e]; exact c2) (by rw [← e]; exact c3)).elim
      exact (hz m (Nat.le_refl _)).trans (.dead _)
end
/-- a region that draws: its operations in any order, and what lies wholly behind them -/
theorem AW.drawR {P : Program} {n : Nat} {Q : Exit → ASt → Prop} {st : ASt} {id : Nat} {l : List Oper} {T : List (List Nat)} (W : List (Nat × Nat)) (M : List (Nat × AB)) (m : Nat) (hm : P.follows .mixedOrders = true) (hT : ancs l [] = T) (hk : planR l T = true) (htl : tailR l T m = true) (hM0 : ∀ id, st.nx ≤ id → look .dead M id = .dead) (hM1 : ∀ id, LesB (look .dead M id) (look .dead st.heap id))
    (h : AG P n l.toArray T W M st.nx (fun s => AL P n l.toArray Q (l.drop m) s) 0 [] (l.take m) st) : AW P n (.region id l.toArray true) Q st := .mk fun K a w ⟨G, r⟩ => by
  have hT' : AncOk l T := by
    rw [← hT]
    exact ancs_ok l [] (fun i A hA => by simp at hA) rfl
  have hpl := planR_at n hT' hk
  obtain ⟨S, C, e0', hC0, hK, hS⟩ := h.facts
  have e0 := eqv_les e0'
  have hm' : (l.take m).length = min m l.length := by simp
  have r2 : RelG K n (S 0) a w.drew G := (r.same (below_drew' w)).les e0
  have hE : ∀ j o, j < (l.take m).length → l[j]? = some o → ∃ s', Loc P n l.toArray T W M (S 0).nx j (C j) o (S j) s' (C (j + 1)) ∧ Eqv s' (S (j + 1)) := by
    intro j o hj ho
    have := hS j o (by rw [List.getElem?_take, if_pos (by omega)]; exact ho)
    rw [Nat.zero_add, ← e0.nx] at this
    exact this
  have hL : ∀ j o, j < (l.take m).length → l[j]? = some o → ∃ s', Loc P n l.toArray T W M (S 0).nx j (C j) o (S j) s' (C (j + 1)) ∧ LeS (S (j + 1)) s' := fun j o hj ho => by
    obtain ⟨s', h1, h2⟩ := hE j o hj ho
    exact ⟨s', h1, eqv_les h2⟩
  have hM0' : ∀ id, (S 0).nx ≤ id → look .dead M id = .dead := fun id hid => hM0 id (by rw [← e0.nx]; exact hid)
  have hM1' : ∀ id, LesB (look .dead M id) (look .dead (S 0).heap id) := fun id => by rw [← e0'.heap id]; exact hM1 id
  have hdead : ∀ id, (S 0).nx ≤ id → look .dead (S 0).heap id = .dead := by
    intro id hid
    have hkk := r2.hr.blk id
    have hn := r2.nx
    cases hb : look AB.dead (S 0).heap id with
    | dead => rfl
    | box cs e => rw [hb] at hkk; have := hkk.1; omega
    | row sz rows e => rw [hb] at hkk; have := hkk.1; omega
  have hnxM : (S 0).nx ≤ (S (l.take m).length).nx := by
    have : ∀ q, q ≤ (l.take m).length → (S 0).nx ≤ (S q).nx := by
      intro q
      induction q with
      | zero => intro _; exact Nat.le_refl _
      | succ q ih =>
        intro hq
        have hql : q < l.length := by omega
        obtain ⟨s', g1, g2⟩ := hL q l[q] (by omega) (List.getElem?_eq_getElem hql)
        have := g1.nx_le
        have := g2.nx
        have := ih (by omega)
        omega
    exact this _ (Nat.le_refl _)
  have hdr : l.drop (l.take m).length = l.drop m := by
    rw [hm']
    rcases Nat.lt_or_ge m l.length with h | h
    · rw [Nat.min_eq_left (by omega)]
    · rw [Nat.min_eq_right h, List.drop_length, List.drop_eq_nil_of_le h]
  refine wp_region_inv (Inv := InvG K n l W S (l.take m).length (S 0).nx) hm (fun i o ho => (hpl i o (by simpa using ho)).after) (l.take m).length (by omega) ?_ (fun i o d a w hi ho hd0 hcl hdep hI => AG.step' hpl hT' (by omega) hC0 hE hM0' hM1' hi ho hd0 hcl hdep hI) (fun d a w hall hI => ?_) (fun i hi hil j hj => ?_)
  · obtain ⟨G', hR⟩ := r2.reserve (Nat.le_trans r.ext.size (below_drew' w).size) (S (l.take m).length).nx hnxM
    have hlv : lvD S (l.take m).length (S 0).nx (fun _ => false) = fun id => Nat.blt id (S 0).nx := by
      funext id
      rw [Bool.eq_iff_iff, lvD_iff]
      constructor
      · rintro (h | ⟨j, _, h, _⟩)
        · simpa using h
        · cases h
      · intro h; exact .inl (by simpa using h)
    refine ⟨_, _, G', by rw [hlv]; exact hR, fun j o t _ _ h => absurd h (by simp), fun t _ => .refl _, fun id hid => ?_⟩
    rw [hlv] at hid
    have hid : id < (S 0).nx := by simpa using hid
    exact ⟨0, Nat.zero_le _, hid, .refl _, fun j _ h => absurd h (Nat.not_lt_zero _), fun _ _ _ => rfl, .inl rfl⟩
  · obtain ⟨G', hr⟩ := AG.last hpl (by omega) hC0 hL hdead hall hI
    rw [hdr]
    exact AL.out hK K a w ⟨G', hr⟩
  · have hge : m ≤ i := by rw [hm'] at hi; omega
    have := List.all_eq_true.1 htl i (List.mem_range.2 hil)
    rw [Bool.or_eq_true] at this
    rcases this with h | h
    · have h : i < m := by simpa using h
      omega
    · exact reachT hT' (List.all_eq_true.1 h j (List.mem_range.2 hj))
end Go.Proofs.Ytedjnjgnadbkaaa.Rn
/- A run of the abstract machine by one computed function, with regions that draw as RnR has them. No program in sight. -/
namespace Go.Proofs.Ytedjnjgnadbkaaa.Rn
open Go Go.RowKit Go.Proofs.Ytedjnjgnadbkaaa Go.Proofs.Ytedjnjgnadbkaaa.Dr

/-! ### Equal values, equal blocks -/
def strE (s t : ByteArray) : Bool := decide (s.data.toList = t.data.toList)
theorem strE_eq {s t : ByteArray} (h : strE s t = true) : s = t := by
  have := of_decide_eq_true h
  obtain ⟨⟨a⟩⟩ := s
  obtain ⟨⟨b⟩⟩ := t
  have this : a = b := this
  rw [this]
def avE : AV → AV → Bool
  | .any, .any => true
  | .und, .und => true
  | .int k n, .int k' n' => decide (k = k') && decide (n = n')
  | .bool b, .bool b' => b == b'
  | .str s, .str s' => strE s s'
  | .nilp, .nilp => true
  | .nils, .nils => true
  | .nilf, .nilf => true
  | .box i o, .box i' o' => Nat.beq i i' && Nat.beq o o'
  | .elt i n j o, .elt i' n' j' o' => Nat.beq i i' && Nat.beq n n' && Nat.beq j j' && Nat.beq o o'
  | .osl i n, .osl i' n' => Nat.beq i i' && Nat.beq n n'
  | .vsl i n l k, .vsl i' n' l' k' => Nat.beq i i' && Nat.beq n n' && Nat.beq l l' && Nat.beq k k'
  | .agg cs, .agg cs' => go cs cs'
  | .tup cs, .tup cs' => go cs cs'
  | .fn f cs, .fn f' cs' => Nat.beq f f' && go cs cs'
  | _, _ => false
where go : List AV → List AV → Bool
  | [], [] => true
  | a :: l, b :: m => avE a b && go l m
  | _, _ => false
theorem avE_eq : ∀ (a b : AV), avE a b = true → a = b
  | .any, b, h => by cases b <;> first | rfl | (simp [avE] at h)
  | .und, b, h => by cases b <;> first | rfl | (simp [avE] at h)
  | .nilp, b, h => by cases b <;> first | rfl | (simp [avE] at h)
  | .nils, b, h => by cases b <;> first | rfl | (simp [avE] at h)
  | .nilf, b, h => by cases b <;> first | rfl | (simp [avE] at h)
  | .int k n, b, h => by
    cases b <;> simp [avE] at h
    rw [h.1, h.2]
  | .bool k, b, h => by
    cases b <;> simp [avE] at h
    rw [h]
  | .str s, b, h => by
    cases b <;> simp [avE] at h
    rw [strE_eq h]
  | .box .., b, h => by
    cases b <;> simp [avE] at h
    rw [h.1, h.2]
  | .elt .., b, h => by
    cases b <;> simp [avE] at h
    obtain ⟨⟨⟨h1, h2⟩, h3⟩, h4⟩ := h
    rw [h1, h2, h3, h4]
  | .osl .., b, h => by
    cases b <;> simp [avE] at h
    rw [h.1, h.2]
  | .vsl .., b, h => by
    cases b <;> simp [avE] at h
    obtain ⟨⟨⟨h1, h2⟩, h3⟩, h4⟩ := h
    rw [h1, h2, h3, h4]
  | .agg cs, b, h => by
    cases b <;> simp [avE] at h
    rw [avE_go cs _ h]
  | .tup cs, b, h => by
    cases b <;> simp [avE] at h
    rw [avE_go cs _ h]
  | .fn f cs, b, h => by
    cases b <;> simp [avE] at h
    rw [h.1, avE_go cs _ h.2]
  | .peek .., b, h => by cases b <;> simp [avE] at h
  | .ro .., b, h => by cases b <;> simp [avE] at h
where avE_go : ∀ (l m : List AV), avE.go l m = true → l = m
  | [], [], _ => rfl
  | a :: l, b :: m, h => by
    rw [avE.go, Bool.and_eq_true] at h
    rw [avE_eq a b h.1, avE_go l m h.2]
  | [], _ :: _, h => by simp [avE.go] at h
  | _ :: _, [], h => by simp [avE.go] at h
def rowsE : List (List AV) → List (List AV) → Bool
  | [], [] => true
  | a :: l, b :: m => avE.go a b && rowsE l m
  | _, _ => false
theorem rowsE_eq : ∀ (l m : List (List AV)), rowsE l m = true → l = m
  | [], [], _ => rfl
  | a :: l, b :: m, h => by
    rw [rowsE, Bool.and_eq_true] at h
    rw [avE_eq.avE_go a b h.1, rowsE_eq l m h.2]
  | [], _ :: _, h => by simp [rowsE] at h
  | _ :: _, [], h => by simp [rowsE] at h
def abE : AB → AB → Bool
  | .dead, .dead => true
  | .box cs e, .box cs' e' => Nat.beq e e' && avE.go cs cs'
  | .row sz rows e, .row sz' rows' e' => Nat.beq e e' && Nat.beq sz sz' && rowsE rows rows'
  | _, _ => false
theorem abE_eq {a b : AB} (h : abE a b = true) : a = b := by
  cases a with
  | dead => cases b <;> first | rfl | (simp [abE] at h)
  | box cs e =>
    cases b <;> simp [abE] at h
    rw [h.1, avE_eq.avE_go _ _ h.2]
  | row sz rows e =>
    cases b <;> simp [abE] at h
    rw [h.1.1, h.1.2, rowsE_eq _ _ h.2]
/-- a mask: cells that are said, as the other has them -/
def cellLe (a b : AV) : Bool := match a with
  | .any => true
  | _ => avE a b
theorem cellLe_les {a b : AV} (h : cellLe a b = true) : Les a b := by
  unfold cellLe at h
  split at h
  · exact .any _
  · rw [avE_eq _ _ h]; exact .refl _
def cellsLe : List AV → List AV → Bool
  | [], [] => true
  | a :: l, b :: m => cellLe a b && cellsLe l m
  | _, _ => false
theorem cellsLe_les : ∀ {l m : List AV}, cellsLe l m = true → LesL l m
  | [], [], _ => .nil
  | a :: l, b :: m, h => by
    rw [cellsLe, Bool.and_eq_true] at h
    exact .cons (cellLe_les h.1) (cellsLe_les h.2)
  | [], _ :: _, h => by simp [cellsLe] at h
  | _ :: _, [], h => by simp [cellsLe] at h
def maskLe : AB → AB → Bool
  | .dead, _ => true
  | .box cs e, .box cs' e' => Nat.beq e e' && cellsLe cs cs'
  | _, _ => false
theorem maskLe_les {a b : AB} (h : maskLe a b = true) : LesB a b := by
  cases a with
  | dead => exact .dead _
  | box cs e =>
    cases b <;> simp [maskLe] at h
    rw [h.1]
    exact .box _ (cellsLe_les h.2)
  | row sz rows e => simp [maskLe] at h
/-! ### The blocks that an operation touches -/
def idsV : AV → List Nat
  | .box id _ | .elt id _ _ _ | .osl id _ | .vsl id _ _ _ => [id]
  | .agg cs | .tup cs | .fn _ cs => go cs
  | _ => []
where go : List AV → List Nat
  | [] => []
  | a :: l => idsV a ++ go l
def idsAB : AB → List Nat
  | .dead => []
  | .box cs _ => idsV.go cs
  | .row _ rows _ => rows.flatMap idsV.go
def clo (h : Nat → AB) : Nat → List Nat → List Nat → List Nat
  | 0, _, d => d
  | _ + 1, [], d => d
  | f + 1, x :: t, d => bif hasN d x then clo h f t d else clo h f (idsAB (h x) ++ t) (x :: d)
end Go.Proofs.Ytedjnjgnadbkaaa.Rn
/- More operations of the run: arrays as rows, comparisons with nil, the greatest of several. No program in sight. -/
namespace Go.Proofs.Ytedjnjgnadbkaaa.Rn
open Go Go.RowKit Go.Proofs.Ytedjnjgnadbkaaa Go.Proofs.Ytedjnjgnadbkaaa.Dr

section
variable {P : Program} {n : Nat} {T : Tab} {st st' : ASt} {d : Option Nat} {ty t t' : TypeId} {ps : String} {af : Array Edge} {g : Option (Nat × Bool)} {x y : Operand}
/-! ### nil -/
theorem eq_nils {t e : TypeId} (hT : P.underlying t = some (.slice e)) (w : World) : (Op.equal t (.slice none 0 0) (.slice none 0 0)).run P w = .ok true w := by
  unfold Op.equal
  rw [show Op.maxDepth = 9999 + 1 from rfl, Op.equalIn]
  simp [run_underlying hT]
theorem eq_someNil {t e : TypeId} {a : Addr} {m c : Nat} (hT : P.underlying t = some (.slice e)) (w : World) : (Op.equal t (.slice (some a) m c) (.slice none 0 0)).run P w = .ok false w := by
  unfold Op.equal
  rw [show Op.maxDepth = 9999 + 1 from rfl, Op.equalIn]
  simp [run_underlying hT]
theorem op_nilEq {neq : Bool} {e : TypeId} (hx : st.ev x = .nils) (hy : st.ev y = .nils) (hT : P.underlying t = some (.slice e)) (hd : dok d n = true) :
    OpR P n ⟨d, .binOp (bif neq then .neq else .eql) t x y t', ty, ps, af, g⟩ st (.bool (!neq)) := .mk hd fun K a w G rr => by
  have e1 := rr.ev x
  rw [hx] at e1
  have e1 := e1.nils'
  have e2 := rr.ev y
  rw [hy] at e2
  have e2 := e2.nils'
  refine ⟨.bool (!neq), fun w' _ => ?_, .dat (.bool _)⟩
  cases neq <;> simp [execOp, e1, e2, binOp, eqGuard, eq_nils hT w']
theorem op_oslNil {neq : Bool} {e : TypeId} {id m sz : Nat} {rows : List (List AV)} {e' : TypeId} (hx : st.ev x = .osl id m) (hb : look .dead st.heap id = .row sz rows e') (hm : m = rows.length) (h0 : 0 < m) (hy : st.ev y = .nils) (hT : P.underlying t = some (.slice e)) (hd : dok d n = true) :
    OpR P n ⟨d, .binOp (bif neq then .neq else .eql) t x y t', ty, ps, af, g⟩ st (.bool neq) := .mk hd fun K a w G rr => by
  have e1 := rr.ev x
  rw [hx] at e1
  obtain ⟨gg, c, flat, q1, q2, q3, q4, q5, q6, q7, q8⟩ := rr.rowAt hb hm h0
  have e2 := rr.ev y
  rw [hy] at e2
  have e2 := e2.nils'
  refine ⟨.bool neq, fun w' _ => ?_, .dat (.bool _)⟩
  generalize he : a.eval x = v at e1
  cases e1 with
  | dat h => cases h
  | osl _ _ _ hid hs hn hv hr =>
    have e3 := hr (by rw [q5, hm])
    rw [q1] at e3
    subst e3
    cases neq <;> simp [execOp, he, e2, binOp, eqGuard, eq_someNil hT w']
theorem eq_ptrs {t e : TypeId} (hT : P.underlying t = some (.pointer e)) (w : World) : (Op.equal t (.pointer none) (.pointer none)).run P w = .ok true w := by
  unfold Op.equal
  rw [show Op.maxDepth = 9999 + 1 from rfl, Op.equalIn]
  simp [run_underlying hT]
theorem eq_somePtr {t e : TypeId} {a : Addr} (hT : P.underlying t = some (.pointer e)) (w : World) : (Op.equal t (.pointer (some a)) (.pointer none)).run P w = .ok false w := by
  unfold Op.equal
  rw [show Op.maxDepth = 9999 + 1 from rfl, Op.equalIn]
  simp [run_underlying hT]
theorem op_nilpEq {neq : Bool} {e : TypeId} (hx : st.ev x = .nilp) (hy : st.ev y = .nilp) (hT : P.underlying t = some (.pointer e)) (hd : dok d n = true) :
    OpR P n ⟨d, .binOp (bif neq then .neq else .eql) t x y t', ty, ps, af, g⟩ st (.bool (!neq)) := .mk hd fun K a w G rr => by
  have e1 := rr.ev x
  rw [hx] at e1
  have e2 := rr.ev y
  rw [hy] at e2
  refine ⟨.bool (!neq), fun w' _ => ?_, .dat (.bool _)⟩
  generalize he1 : a.eval x = v1 at e1
  generalize he2 : a.eval y = v2 at e2
  cases e1 with
  | dat h1 =>
    cases h1
    cases e2 with
    | dat h2 =>
      cases h2
      cases neq <;> simp [execOp, he1, he2, binOp, eqGuard, eq_ptrs hT w']
theorem op_boxNil {neq : Bool} {e : TypeId} {id off : Nat} (hx : st.ev x = .box id off) (hy : st.ev y = .nilp) (hT : P.underlying t = some (.pointer e)) (hd : dok d n = true) :
    OpR P n ⟨d, .binOp (bif neq then .neq else .eql) t x y t', ty, ps, af, g⟩ st (.bool neq) := .mk hd fun K a w G rr => by
  have e1 := rr.ev x
  rw [hx] at e1
  have e2 := rr.ev y
  rw [hy] at e2
  refine ⟨.bool neq, fun w' _ => ?_, .dat (.bool _)⟩
  generalize he1 : a.eval x = v1 at e1
  generalize he2 : a.eval y = v2 at e2
  cases e2 with
  | dat h2 =>
    cases h2
    cases e1 with
    | dat h => cases h
    | box _ _ g hid hs hr =>
      cases neq <;> simp [execOp, he1, he2, binOp, eqGuard, eq_somePtr hT w']
/-! ### the greatest, the least of several -/
theorem foldMax (k : IntKind) (w : World) : ∀ (ns : List Int) (m : Int), ((ns.map fun q => Value.int k q).foldlM Builtin.max2 (.int k m)).run P w = .ok (.int k (ns.foldl max m)) w
  | [], m => by simp
  | q :: ns, m => by
    have h : (Builtin.max2 (.int k m) (.int k q)).run P w = .ok (.int k (max m q)) w := by
      have : (if m < q then q else m) = max m q := by split <;> omega
      simp [Builtin.max2, this]
    rw [List.map_cons, List.foldlM_cons, List.foldl_cons]
    simp [h, foldMax k w ns]
theorem foldMin (k : IntKind) (w : World) : ∀ (ns : List Int) (m : Int), ((ns.map fun q => Value.int k q).foldlM Builtin.min2 (.int k m)).run P w = .ok (.int k (ns.foldl min m)) w
  | [], m => by simp
  | q :: ns, m => by
    have h : (Builtin.min2 (.int k m) (.int k q)).run P w = .ok (.int k (min m q)) w := by
      have : (if q < m then q else m) = min m q := by split <;> omega
      simp [Builtin.min2, this]
    rw [List.map_cons, List.foldlM_cons, List.foldl_cons]
    simp [h, foldMin k w ns]
theorem ints_eval {K : Kn} {a : Act} {w : World} {G : Gh} (r : RelG K n st a w G) {k : IntKind} : ∀ (l : List Operand) (ns : List Int), l.map st.ev = ns.map (AV.int k) → l.map a.eval = ns.map (fun q => Value.int k q)
  | [], [], _ => rfl
  | [], _ :: _, h => by simp at h
  | _ :: _, [], h => by simp at h
  | y :: l, q :: ns, h => by
    simp only [List.map_cons, List.cons.injEq] at h
    have e := r.ev y
    rw [h.1] at e
    rw [List.map_cons, List.map_cons, e.int', ints_eval r l ns h.2]
theorem op_maxs {hi : Bool} {k : IntKind} {args : List Operand} {tt : Array TypeId} {m : Int} {ns : List Int} (h : intsOf k (args.map st.ev) = some (m :: ns)) (hd : dok d n = true) :
    OpR P n ⟨d, .call { callee := .builtin (bif hi then .max else .min), args := ⟨args⟩, argTypes := tt }, ty, ps, af, g⟩ st (.int k (bif hi then ns.foldl max m else ns.foldl min m)) := .mk hd fun K a w G rr => by
  have e := ints_eval rr args (m :: ns) (intsOf_eq h)
  refine ⟨_, fun w' _ => ?_, .dat (.int _ _)⟩
  have e2 : (Array.map a.eval ⟨args⟩).toList = (m :: ns).map (fun q => Value.int k q) := by rw [Array.toList_map]; exact e
  have e3 : Array.map a.eval ⟨args⟩ = ((m :: ns).map (fun q => Value.int k q)).toArray := by rw [← e2]
  cases hi
  · have := foldMin (P := P) k w' ns m
    simp [execOp, resolve, invoke, builtin, e3, Builtin.min_, this]
  · have := foldMax (P := P) k w' ns m
    simp [execOp, resolve, invoke, builtin, e3, Builtin.max_, this]
theorem op_compl' {k : IntKind} {m : Int} (hx : st.ev x = .int k m) (hd : dok d n = true) : OpR P n ⟨d, .unOp .xor t x, ty, ps, af, g⟩ st (.int k (bits .xor k (if k.signed then -1 else k.max) m)) :=
  .mk hd fun K a w G rr => by
    have e1 := rr.ev x
    rw [hx] at e1
    have e1 := e1.int'
    exact ⟨_, fun w' _ => by simp [execOp, e1, Op.unary, intBits_xor], .dat (.int _ _)⟩
end
/-! ### arrays of single cells are rows -/
def arrOf (T : Tab) (t : TypeId) : Option (Nat × TypeId × Option Value × Nat) := match lk T.und t with
  | some (.array L e) => match lk T.inf e with
    | some (z, s, b) => bif Nat.beq s 1 then some (L, e, z, b) else none
    | none => none
  | _ => none
theorem arrOf_ok {P : Program} {T : Tab} {t : TypeId} {L : Nat} {e : TypeId} {z : Option Value} {b : Nat} (hT : T.ok P) (h : arrOf T t = some (L, e, z, b)) : P.underlying t = some (.array L e) ∧ tyI P e = some (z, 1, b) := by
  unfold arrOf at h
  split at h
  · rename_i L' e' h1
    split at h
    · rename_i z' s' b' h2
      cases hs : Nat.beq s' 1 with
      | false => rw [hs] at h; cases h
      | true =>
        rw [hs] at h
        simp only [cond_true, Option.some.injEq, Prod.mk.injEq] at h
        obtain ⟨rfl, rfl, rfl, rfl⟩ := h
        have := Nat.eq_of_beq_eq_true hs
        subst this
        exact ⟨allP_at hT.und h1, allP_at hT.inf h2⟩
    · cases h
  · cases h
def ones (cs : List AV) : List (List AV) := cs.map fun a => [a]
theorem ones_flat : ∀ cs : List AV, (ones cs).flatten = cs
  | [] => rfl
  | a :: l => by
    show [a] ++ (ones l).flatten = _
    rw [ones_flat l]; rfl
theorem ones_row {cs : List AV} : ∀ r ∈ ones cs, r.length = 1 := fun r hr => by
  obtain ⟨a, _, rfl⟩ := List.mem_map.1 hr
  rfl
theorem ones_len (cs : List AV) : (ones cs).length = cs.length := List.length_map _
def isArr (T : Tab) : Op → Bool
  | .alloc e => (arrOf T e).isSome
  | .box e _ => (arrOf T e).isSome
  | _ => false
def memX (T : Tab) (st : ASt) (d : Option Nat) : Op → Option ASt
  | .alloc e => match arrOf T e, lk T.inf e with
    | some _, some (some z, _, _) => bif allOne (z.cells.toList.map avOf) && Nat.blt 0 z.cells.toList.length && Nat.ble z.cells.toList.length 1000000 then
        some ((st.hnew (.row 1 (ones (z.cells.toList.map avOf)) e)).put d (.elt st.nx (z.cells.toList.map avOf).length 0 0)) else none
    | _, _ => none
  | .box e x => match arrOf T e with
    | some _ => bif allOne (st.ev x).cells && Nat.blt 0 (st.ev x).cells.length && Nat.ble (st.ev x).cells.length 1000000 then
        some ((st.hnew (.row 1 (ones (st.ev x).cells) e)).put d (.elt st.nx (st.ev x).cells.length 0 0)) else none
    | none => none
  | .store t a v => match d, st.ev a with
    | none, .elt id m 0 0 => match arrOf T t, look .dead st.heap id, lk T.inf t with
      | some _, .row 1 rows e, some (_, s, _) => bif Nat.beq m rows.length && Nat.blt 0 m && allOne (st.ev v).cells && Nat.beq (st.ev v).cells.length m && Nat.beq s m && rows.all (fun r => Nat.beq r.length 1) then
          some (st.hset id (.row 1 (ones (st.ev v).cells) e)) else none
      | _, _, _ => none
    | _, _ => none
  | _ => none
/-- reading -/
def rdX (T : Tab) (st : ASt) : Op → Option AV
  | .binOp .eql t x y _ => match lk T.und t, st.ev x, st.ev y with
    | some (.pointer _), .nilp, .nilp => some (.bool true)
    | some (.pointer _), .box _ _, .nilp => some (.bool false)
    | some (.slice _), .nils, .nils => some (.bool true)
    | some (.slice _), .osl id m, .nils => match look .dead st.heap id with
      | .row _ rows _ => bif Nat.beq m rows.length && Nat.blt 0 m then some (.bool false) else none
      | _ => none
    | _, _, _ => none
  | .binOp .neq t x y _ => match lk T.und t, st.ev x, st.ev y with
    | some (.pointer _), .nilp, .nilp => some (.bool false)
    | some (.pointer _), .box _ _, .nilp => some (.bool true)
    | some (.slice _), .nils, .nils => some (.bool false)
    | some (.slice _), .osl id m, .nils => match look .dead st.heap id with
      | .row _ rows _ => bif Nat.beq m rows.length && Nat.blt 0 m then some (.bool true) else none
      | _ => none
    | _, _, _ => none
  | .call ⟨.builtin .max, ⟨args⟩, _⟩ => match intsOf .i64 (evL st args []) with
    | some (m :: ns) => some (.int .i64 (ns.foldl max m))
    | _ => none
  | .call ⟨.builtin .min, ⟨args⟩, _⟩ => match intsOf .i64 (evL st args []) with
    | some (m :: ns) => some (.int .i64 (ns.foldl min m))
    | _ => none
  | .unOp .xor _ x => match st.ev x with
    | .int k m => some (.int k (bits .xor k (if k.signed then -1 else k.max) m))
    | _ => none
  | .indexAddr t x y => match st.ev x, st.ev y with
    | .elt id m 0 0, .int _ i => match arrOf T t, look .dead st.heap id with
      | some (L, _, _, _), .row 1 rows _ => bif Nat.beq m rows.length && decide (0 ≤ i) && decide (i < (L : Int)) && decide (i < (m : Int)) then some (.elt id m i.toNat 0) else none
      | _, _ => none
    | _, _ => none
  | .load t x => match st.ev x with
    | .elt id m 0 0 => match arrOf T t, look .dead st.heap id, lk T.inf t with
      | some _, .row 1 rows _, some (_, s, _) => bif Nat.beq m rows.length && Nat.blt 0 m && Nat.beq s m then some (.agg rows.flatten) else none
      | _, _, _ => none
    | _ => none
  | .slice t x lo hi none => match st.ev x with
    | .elt id m 0 0 => match arrOf T t, look .dead st.heap id with
      | some (L, _, _, _), .row 1 rows _ => match bndN st 0 lo, bndN st m hi with
        | some l, some h => bif Nat.beq m rows.length && Nat.beq L m && Nat.blt 0 m && inB3 l h m then some (.vsl id m l.toNat (h.toNat - l.toNat)) else none
        | _, _ => none
      | _, _ => none
    | _ => none
  | _ => none
section
variable {P : Program} {n : Nat} {T : Tab} {st st' : ASt} {o : Oper} {x : AV}
theorem memX_ok (hT : T.ok P) (h : memX T st o.dst o.op = some st') (hd : dok o.dst n = true) : OpV P n o st st' := by
  obtain ⟨d, op, ty, ps, af, g⟩ := o
  simp only at h
  have hd : dok d n = true := hd
  unfold memX at h
  split at h
  · split at h
    · rename_i e _ q z s b h1 h2
      cases hc : (allOne (z.cells.toList.map avOf) && Nat.blt 0 z.cells.toList.length && Nat.ble z.cells.toList.length 1000000) with
      | false => rw [hc] at h; cases h
      | true =>
        rw [hc] at h
        simp only [cond_true, Option.some.injEq] at h
        simp only [Bool.and_eq_true] at hc
        obtain ⟨⟨c1, c2⟩, c3⟩ := hc
        have c2 : 0 < z.cells.toList.length := by simpa using c2
        have c3 := Nat.le_of_ble_eq_true c3
        subst h
        have key := op_alloc_arr (P := P) (n := n) (st := st) (d := d) (ty := ty) (ps := ps) (af := af) (g := g) (rows := ones (z.cells.toList.map avOf)) (sz := 1) (allP_at hT.inf h2) (ones_flat _).symm (by rw [ones_flat]; exact c1) (by omega) (by rw [ones_len, List.length_map]; exact c2) (by rw [ones_len, List.length_map]; exact Nat.le_trans c3 (by decide)) ones_row hd
        rw [ones_len] at key
        exact key
    · cases h
  · rename_i e y
    split at h
    · rename_i q h1
      cases hc : (allOne (st.ev y).cells && Nat.blt 0 (st.ev y).cells.length && Nat.ble (st.ev y).cells.length 1000000) with
      | false => rw [hc] at h; cases h
      | true =>
        rw [hc] at h
        simp only [cond_true, Option.some.injEq] at h
        simp only [Bool.and_eq_true] at hc
        obtain ⟨⟨c1, c2⟩, c3⟩ := hc
        have c2 : 0 < (st.ev y).cells.length := by simpa using c2
        have c3 := Nat.le_of_ble_eq_true c3
        subst h
        have key := op_box_arr (P := P) (n := n) (st := st) (d := d) (ty := ty) (ps := ps) (af := af) (g := g) (e := e) (x := y) (rows := ones (st.ev y).cells) (sz := 1) (ones_flat _).symm (by rw [ones_flat]; exact c1) (by omega) (by rw [ones_len]; exact c2) (by rw [ones_len]; exact Nat.le_trans c3 (by decide)) ones_row hd
        rw [ones_len] at key
        exact key
    · cases h
  · rename_i t a v
    split at h
    · rename_i id m ha _
      split at h
      · rename_i q rows e z s b h1 h2 h3
        cases hc : (Nat.beq m rows.length && Nat.blt 0 m && allOne (st.ev v).cells && Nat.beq (st.ev v).cells.length m && Nat.beq s m && rows.all (fun r => Nat.beq r.length 1)) with
        | false => rw [hc] at h; cases h
        | true =>
          rw [hc] at h
          simp only [cond_true, Option.some.injEq] at h
          simp only [Bool.and_eq_true] at hc
          obtain ⟨⟨⟨⟨⟨c1, c2⟩, c3⟩, c4⟩, c5⟩, c6⟩ := hc
          have c1 := Nat.eq_of_beq_eq_true c1
          have c2 : 0 < m := by simpa using c2
          have c4 := Nat.eq_of_beq_eq_true c4
          have c5 := Nat.eq_of_beq_eq_true c5
          subst h
          exact op_store_arr ha h2 c1 c2 (ones_flat _).symm (by rw [ones_flat]; exact c3) (allP_at hT.inf h3) (by rw [ones_flat, c4, c5]) (by rw [ones_len, c4]) ones_row
      · cases h
    · cases h
  · cases h
theorem rdX_ok (hT : T.ok P) (h : rdX T st o.op = some x) (hd : dok o.dst n = true) : OpR P n o st x := by
  obtain ⟨d, op, ty, ps, af, g⟩ := o
  simp only at h
  have hd : dok d n = true := hd
  unfold rdX at h
  split at h
  · split at h
    · rename_i hu hx hy
      injection h with h
      subst h
      exact op_nilpEq (neq := false) hx hy (allP_at hT.und hu) hd
    · rename_i hu hx hy
      injection h with h
      subst h
      exact op_boxNil (neq := false) hx hy (allP_at hT.und hu) hd
    · rename_i hu hx hy
      injection h with h
      subst h
      exact op_nilEq (neq := false) hx hy (allP_at hT.und hu) hd
    · rename_i id m hu hx hy
      split at h
      · rename_i sz rows e hb
        cases hc : (Nat.beq m rows.length && Nat.blt 0 m) with
        | false => rw [hc] at h; cases h
        | true =>
          rw [hc] at h
          injection h with h
          subst h
          rw [Bool.and_eq_true] at hc
          exact op_oslNil (neq := false) hx hb (Nat.eq_of_beq_eq_true hc.1) (by simpa using hc.2) hy (allP_at hT.und hu) hd
      · cases h
    · cases h
  · split at h
    · rename_i hu hx hy
      injection h with h
      subst h
      exact op_nilpEq (neq := true) hx hy (allP_at hT.und hu) hd
    · rename_i hu hx hy
      injection h with h
      subst h
      exact op_boxNil (neq := true) hx hy (allP_at hT.und hu) hd
    · rename_i hu hx hy
      injection h with h
      subst h
      exact op_nilEq (neq := true) hx hy (allP_at hT.und hu) hd
    · rename_i id m hu hx hy
      split at h
      · rename_i sz rows e hb
        cases hc : (Nat.beq m rows.length && Nat.blt 0 m) with
        | false => rw [hc] at h; cases h
        | true =>
          rw [hc] at h
          injection h with h
          subst h
          rw [Bool.and_eq_true] at hc
          exact op_oslNil (neq := true) hx hb (Nat.eq_of_beq_eq_true hc.1) (by simpa using hc.2) hy (allP_at hT.und hu) hd
      · cases h
    · cases h
  · split at h
    · rename_i args _ m ns h1
      injection h with h
      subst h
      rw [evL_eq, List.append_nil] at h1
      exact op_maxs (hi := true) h1 hd
    · cases h
  · split at h
    · rename_i args _ m ns h1
      injection h with h
      subst h
      rw [evL_eq, List.append_nil] at h1
      exact op_maxs (hi := false) h1 hd
    · cases h
  · split at h
    · rename_i k m hx
      injection h with h
      subst h
      exact op_compl' hx hd
    · cases h
  · split at h
    · rename_i t y z id m k i hx hy
      split at h
      · rename_i L e zz b rows e' h1 h2
        cases hc : (Nat.beq m rows.length && decide (0 ≤ i) && decide (i < (L : Int)) && decide (i < (m : Int))) with
        | false => rw [hc] at h; cases h
        | true =>
          rw [hc] at h
          injection h with h
          subst h
          simp only [Bool.and_eq_true] at hc
          obtain ⟨⟨⟨c1, c2⟩, c3⟩, c4⟩ := hc
          obtain ⟨g1, g2⟩ := arrOf_ok hT h1
          exact op_index_arr hx h2 (Nat.eq_of_beq_eq_true c1) hy g1 g2 (of_decide_eq_true c2) (of_decide_eq_true c3) (of_decide_eq_true c4) hd
      · cases h
    · cases h
  · split at h
    · rename_i t y id m hx
      split at h
      · rename_i q rows e' zz s b h1 h2 h3
        cases hc : (Nat.beq m rows.length && Nat.blt 0 m && Nat.beq s m) with
        | false => rw [hc] at h; cases h
        | true =>
          rw [hc] at h
          injection h with h
          subst h
          simp only [Bool.and_eq_true] at hc
          obtain ⟨⟨c1, c2⟩, c3⟩ := hc
          obtain ⟨L, e, z, bb⟩ := q
          obtain ⟨g1, g2⟩ := arrOf_ok hT h1
          exact op_load_arr hx h2 (Nat.eq_of_beq_eq_true c1) (by simpa using c2) g1 rfl (allP_at hT.inf h3) (by rw [Nat.eq_of_beq_eq_true c3, Nat.mul_one]) hd
      · cases h
    · cases h
  · split at h
    · rename_i t y lo hi id m hx
      split at h
      · rename_i L e zz b rows e' h1 h2
        split at h
        · rename_i l hh g3 g4
          cases hc : (Nat.beq m rows.length && Nat.beq L m && Nat.blt 0 m && inB3 l hh m) with
          | false => rw [hc] at h; cases h
          | true =>
            rw [hc] at h
            injection h with h
            subst h
            simp only [Bool.and_eq_true] at hc
            obtain ⟨⟨⟨c1, c2⟩, c3⟩, c4⟩ := hc
            obtain ⟨g1, g2⟩ := arrOf_ok hT h1
            have c2 := Nat.eq_of_beq_eq_true c2
            subst c2
            obtain ⟨b1, b2, b3⟩ := inB3_ok c4
            exact op_slice_arr hx h2 (Nat.eq_of_beq_eq_true c1) (bndN_ok g3) (bndN_ok g4) g1 g2 b1 b2 b3 (by simpa using c3) hd
        · cases h
      · cases h
    · cases h
  · cases h
theorem rdX_nx (r : List (Nat × AV)) (h : List (Nat × AB)) (k k' : Nat) (op : Op) : rdX T ⟨r, h, k⟩ op = rdX T ⟨r, h, k'⟩ op := by
  unfold rdX
  split <;> simp only [ev_nx r h k k', evL_nx r h k k', bndN_nx r h k k']
def readR (T : Tab) (st : ASt) (op : Op) : Option AV := match readC T st op with
  | some x => some x
  | none => rdX T st op
theorem readR_ok (hT : T.ok P) (h : readR T st o.op = some x) (hd : dok o.dst n = true) : OpR P n o st x := by
  unfold readR at h
  split at h
  · rename_i y h1
    injection h with h
    subst h
    exact readC_ok hT h1 hd
  · exact rdX_ok hT h hd
theorem readR_nx (r : List (Nat × AV)) (h : List (Nat × AB)) (k k' : Nat) (op : Op) : readR T ⟨r, h, k⟩ op = readR T ⟨r, h, k'⟩ op := by
  unfold readR
  rw [readC_nx r h k k', rdX_nx r h k k']
def memR (C : Ctx) (self : SelfT) (st : ASt) (o : Oper) : Option ASt := match memX C.T st o.dst o.op with
  | some s => some s
  | none => memC C self st o
theorem memR_Y {C : Ctx} {self : SelfT} (hC : C.ok P) (hS : SelfOk P self) (hd : dok o.dst n = true) (h : memR C self st o = some st') : OpY P n o st st' := by
  unfold memR at h
  split at h
  · rename_i s h1
    injection h with h
    subst h
    exact .ofV (memX_ok hC.T h1 hd)
  · exact memC_Y hC hS hd h
def stepBR (T : Tab) (st : ASt) (op : Op) : Option (AB × Prop) := bif isArr T op then none else stepB T st op
theorem memR_ok {C : Ctx} {self : SelfT} {ops : Array Oper} {l : List Oper} {Q : Exit → ASt → Prop} (hC : C.ok P) (hS : SelfOk P self) (hd : dok o.dst n = true) (h : memR C self st o = some st') (hw : ∀ (K : Kn) (a : Act) (w : World) (G : Gh), RelG K n st a w G → Region.wanted o (yielded ops a.tmps) = true) (k : AL P n ops Q l st') : AL P n ops Q (o :: l) st := by
  unfold memR at h
  split at h
  · rename_i s h1
    injection h with h
    subst h
    exact AL.opw hw (memX_ok hC.T h1 hd) k
  · exact memC_ok hC hS hd h hw k
def runT (C : Ctx) (self : SelfT) (n : Nat) (ops : Array Oper) : List Oper → ASt → Option ASt
  | [], st => some st
  | o :: l, st => bif dok o.dst n then (match wantC ops o st with
    | some true => match readR C.T st o.op with
      | some x => nmP st o.dst x (runT C self n ops l)
      | none => match memR C self st o with
        | some st' => nm st' (runT C self n ops l)
        | none => none
    | some false => nmP st o.dst .und (runT C self n ops l)
    | none => none) else none
theorem runT_ok {C : Ctx} {self : SelfT} {ops : Array Oper} {Q : Exit → ASt → Prop} (hC : C.ok P) (hS : SelfOk P self) : ∀ (l : List Oper) (st st' : ASt), runT C self n ops l st = some st' → Q .normal st' → AL P n ops Q l st
  | [], st, st', h, hq => by
    injection h with h
    subst h
    exact AL.nil hq
  | o :: l, st, st', h, hq => by
    rw [runT] at h
    cases hd : dok o.dst n with
    | false => rw [hd] at h; cases h
    | true =>
      rw [hd] at h
      simp only [cond_true] at h
      split at h
      · rename_i hw
        have hw' : ∀ (K : Kn) (a : Act) (w : World) (G : Gh), RelG K n st a w G → Region.wanted o (yielded ops a.tmps) = true := by
          rcases wantC_yes hw with hg | hg
          · exact fun _ a _ _ _ => wanted_none hg a
          · obtain ⟨d, want, g1, g2⟩ := gst_yes hg
            exact wanted_of g1 g2
        split at h
        · rename_i x h1
          obtain ⟨s', e1, e2⟩ := nmP_eq st o.dst x
          rw [e2] at h
          exact AL.opw hw' (readR_ok hC.T h1 hd).opv (AL.eqv e1 (runT_ok hC hS l s' st' h hq))
        · split at h
          · rename_i s h1
            obtain ⟨s', e1, e2⟩ := nm_eq s
            rw [e2] at h
            exact memR_ok hC hS hd h1 hw' (AL.eqv e1 (runT_ok hC hS l s' st' h hq))
          · cases h
      · rename_i hw
        obtain ⟨d, want, g1, g2⟩ := gst_no (wantC_no hw)
        obtain ⟨s', e1, e2⟩ := nmP_eq st o.dst .und
        rw [e2] at h
        exact AL.skipg g1 hd g2 (AL.eqv e1 (runT_ok hC hS l s' st' h hq))
      · cases h
end
end Go.Proofs.Ytedjnjgnadbkaaa.Rn
/- A run of the abstract machine by one computed function: control, functions. No program in sight. -/
namespace Go.Proofs.Ytedjnjgnadbkaaa.Rn
open Go Go.RowKit Go.Proofs.Ytedjnjgnadbkaaa Go.Proofs.Ytedjnjgnadbkaaa.Dr

section
variable {P : Program} {n : Nat} {T : List (List Nat)} {W : List (Nat × Nat)} {M : List (Nat × AB)} {st st' : ASt} {o : Oper} {x : AV} {Q : Exit → ASt → Prop} {ops : Array Oper} {l : List Oper}
/-- an operation that writes: the blocks, the state behind it -/
def opC (C : Ctx) (self : SelfT) (ops : Array Oper) (T : List (List Nat)) (W : List (Nat × Nat)) (M : List (Nat × AB)) (nx0 i : Nat) (cr : List (Nat × Nat)) (st : ASt) (o : Oper) (L : List Nat) : Option ASt :=
  bif L.all (fun id => Nat.blt id st.nx && visW T W nx0 i cr id && (look .dead st.heap id).nmd (hasN L)) && (lregs ops st o).all (fun p => p.2.nmd (hasN L)) then
    (match memR C self ⟨lregs ops st o, onL L (look .dead st.heap) [], st.nx⟩ o with
    | some s2 => bif Nat.ble st.nx s2.nx && (news st.nx s2.nx).all (fun id => newW T W i id && pfB (orN (hasN L) st.nx s2.nx) (look .dead s2.heap id)) && s2.heap.all (fun p => orN (hasN L) st.nx s2.nx p.1)
        && L.all (fun id => pfB (orN (hasN L) st.nx s2.nx) (look .dead s2.heap id) && ((W.any fun q => Nat.beq q.1 i && Nat.beq q.2 id) || abE (look .dead s2.heap id) (look .dead st.heap id))) && pf (orN (hasN L) st.nx s2.nx) (dstV s2 o.dst)
        && W.all (fun q => bif Nat.beq q.1 i then hasN L q.2 && maskLe (look .dead M q.2) (look .dead s2.heap q.2) else true) then some ((⟨st.regs, onL (L ++ news st.nx s2.nx) (look .dead s2.heap) st.heap, s2.nx⟩ : ASt).put o.dst (dstV s2 o.dst)) else none
    | none => none) else none
theorem look_mem {d : AB} : ∀ {l : List (Nat × AB)} {id : Nat}, look d l id ≠ d → ∃ p ∈ l, p.1 = id
  | [], id, h => absurd rfl h
  | (j, v) :: l, id, h => by
    rw [look_cons] at h
    by_cases e : j = id
    · exact ⟨(j, v), by simp, e⟩
    · rw [if_neg e] at h
      obtain ⟨p, h1, h2⟩ := look_mem h
      exact ⟨p, List.mem_cons_of_mem _ h1, h2⟩
theorem opC_ok {C : Ctx} {self : SelfT} (hC : C.ok P) (hS : SelfOk P self) {nx0 i : Nat} {cr : List (Nat × Nat)} {L : List Nat} (hd : dok o.dst n = true) (hw : o.guard = none ∨ gst ops o (lcl ops T W M nx0 i cr st o 0) = some true)
    (h : opC C self ops T W M nx0 i cr st o L = some st') : Loc P n ops T W M nx0 i cr o st st' ((news st.nx st'.nx).map (fun id => (i, id)) ++ cr) := by
  unfold opC at h
  cases h0 : (L.all (fun id => Nat.blt id st.nx && visW T W nx0 i cr id && (look .dead st.heap id).nmd (hasN L)) && (lregs ops st o).all (fun p => p.2.nmd (hasN L))) with
  | false => rw [h0] at h; cases h
  | true =>
    rw [h0] at h
    simp only [cond_true] at h
    rw [Bool.and_eq_true] at h0
    obtain ⟨h1, h2⟩ := h0
    have a1 : ∀ id ∈ L, id < st.nx ∧ visW T W nx0 i cr id = true ∧ (look .dead st.heap id).nmd (hasN L) = true := fun id hid => by
      have := List.all_eq_true.1 h1 id hid
      simp only [Bool.and_eq_true] at this
      exact ⟨by simpa using this.1.1, this.1.2, this.2⟩
    split at h
    · rename_i s2 hm
      cases h3 : (Nat.ble st.nx s2.nx && (news st.nx s2.nx).all (fun id => newW T W i id && pfB (orN (hasN L) st.nx s2.nx) (look .dead s2.heap id)) && s2.heap.all (fun p => orN (hasN L) st.nx s2.nx p.1)
        && L.all (fun id => pfB (orN (hasN L) st.nx s2.nx) (look .dead s2.heap id) && ((W.any fun q => Nat.beq q.1 i && Nat.beq q.2 id) || abE (look .dead s2.heap id) (look .dead st.heap id))) && pf (orN (hasN L) st.nx s2.nx) (dstV s2 o.dst)
        && W.all (fun q => bif Nat.beq q.1 i then hasN L q.2 && maskLe (look .dead M q.2) (look .dead s2.heap q.2) else true)) with
      | false => rw [h3] at h; cases h
      | true =>
        rw [h3] at h
        simp only [cond_true, Option.some.injEq] at h
        subst h
        simp only [Bool.and_eq_true] at h3
        obtain ⟨⟨⟨⟨⟨b1, b6⟩, b2⟩, b3⟩, b4⟩, b5⟩ := h3
        have c3 : ∀ id ∈ L, pfB (orN (hasN L) st.nx s2.nx) (look .dead s2.heap id) = true ∧ ((i, id) ∈ W ∨ look .dead s2.heap id = look .dead st.heap id) := fun id hid => by
          have := List.all_eq_true.1 b3 id hid
          rw [Bool.and_eq_true, Bool.or_eq_true] at this
          refine ⟨this.1, this.2.imp (fun h' => ?_) abE_eq⟩
          obtain ⟨q, q1, q2⟩ := List.any_eq_true.1 h'
          rw [Bool.and_eq_true] at q2
          have e1 := Nat.eq_of_beq_eq_true q2.1
          have e2 := Nat.eq_of_beq_eq_true q2.2
          rw [← e1, ← e2]
          exact q1
        have c5 : ∀ id, (i, id) ∈ W → id ∈ L ∧ LesB (look .dead M id) (look .dead s2.heap id) := fun id hid => by
          have := List.all_eq_true.1 b5 _ hid
          simp only [Nat.beq_refl, cond_true, Bool.and_eq_true] at this
          exact ⟨hasN_mem this.1, maskLe_les this.2⟩
        have c6 : ∀ id, st.nx ≤ id → id < s2.nx → newW T W i id = true ∧ pfB (orN (hasN L) st.nx s2.nx) (look .dead s2.heap id) = true := fun id g1 g2 => by
          have := List.all_eq_true.1 b6 id (news_mem.2 ⟨g1, g2⟩)
          rw [Bool.and_eq_true] at this
          exact this
        rw [put_nx]
        refine .op L (onL L (look .dead st.heap) []) hw (memR_Y hC hS hd hm) hd (Nat.le_of_ble_eq_true b1) (fun id g1 g2 => (c6 id g1 g2).1) (fun id hid => ⟨(a1 id hid).1, (a1 id hid).2.1⟩) (fun id => ?_) (fun id => ?_) (fun t => ?_) b4 (fun id hid => (c5 id hid).1) (fun id hid => (c3 id hid).2) (fun id hid => (c5 id hid).2)
        · by_cases e : id ∈ L
          · rw [onL_in e]; exact .inr ⟨e, rfl, (a1 id e).2.2⟩
          · rw [onL_out e]; exact .inl rfl
        · by_cases e2 : look .dead s2.heap id = .dead
          · exact .inl e2
          · obtain ⟨q, q1, q2⟩ := look_mem e2
            have := List.all_eq_true.1 b2 q q1
            rw [q2] at this
            rcases orN_iff.1 this with e | e
            · exact .inr ⟨this, (c3 id (hasN_mem e)).1⟩
            · exact .inr ⟨this, (c6 id e.1 e.2).2⟩
        · have key : ∀ (rg : List (Nat × AV)), (rg.all fun p => p.2.nmd (hasN L)) = true → (look AV.any rg t).nmd (hasN L) = true := by
            intro rg
            induction rg with
            | nil => intro _; rfl
            | cons c rg ih =>
              obtain ⟨j, v⟩ := c
              intro hh
              rw [List.all_cons, Bool.and_eq_true] at hh
              rw [look_cons]
              split
              · exact hh.1
              · exact ih hh.2
          exact key _ h2
    · cases h
/-- the blocks that an operation may reach -/
def reachC (ops : Array Oper) (st : ASt) (o : Oper) : List Nat := clo (look .dead st.heap) 200 (idsV.go ((lregs ops st o).map (·.2))) []
/-- append onto nil: a new block -/
def newC (T : Tab) (st : ASt) : Op → Option AB
  | .call ⟨.builtin .append, ⟨[x, y]⟩, ⟨[t, t']⟩⟩ => bif Nat.beq t' t then (match lk T.und t with
    | some (.slice e) => match lk T.inf e with
      | some (some z, sz, b) => bif Nat.beq z.cells.size sz && Nat.blt 0 sz then (match srcRows st sz (st.ev y) with
        | some new => match st.ev x with
          | .nils => bif Nat.ble (new.length * bmul b) 140737488355328 then some (.row sz new e) else none
          | _ => none
        | none => none) else none
      | _ => none
    | _ => none) else none
  | _ => none
theorem srcRows_nx (r : List (Nat × AV)) (h : List (Nat × AB)) (k k' : Nat) (sz : Nat) (a : AV) : srcRows ⟨r, h, k⟩ sz a = srcRows ⟨r, h, k'⟩ sz a := by
  cases a <;> rfl
theorem newC_nx {TT : Tab} (r : List (Nat × AV)) (h : List (Nat × AB)) (k k' : Nat) (op : Op) : newC TT ⟨r, h, k⟩ op = newC TT ⟨r, h, k'⟩ op := by
  unfold newC
  simp only [ev_nx r h k k', srcRows_nx r h k k']
theorem newC_ok {TT : Tab} {b : AB} (hT : TT.ok P) (h : newC TT st o.op = some b) (hd : dok o.dst n = true) : OpN P n o st b := by
  obtain ⟨d, op, ty, ps, af, g⟩ := o
  simp only at h
  have hd : dok d n = true := hd
  unfold newC at h
  split at h
  · rename_i x y t t'
    cases ht : Nat.beq t' t with
    | false => rw [ht] at h; cases h
    | true =>
      rw [ht] at h
      simp only [cond_true] at h
      have ht := Nat.eq_of_beq_eq_true ht
      subst ht
      split at h
      · rename_i e h1
        split at h
        · rename_i z sz bb h2
          cases hc : (Nat.beq z.cells.size sz && Nat.blt 0 sz) with
          | false => rw [hc] at h; cases h
          | true =>
            rw [hc] at h
            simp only [cond_true] at h
            rw [Bool.and_eq_true] at hc
            split at h
            · rename_i new h3
              split at h
              · rename_i h4
                cases hl : Nat.ble (new.length * bmul bb) 140737488355328 with
                | false => rw [hl] at h; cases h
                | true =>
                  rw [hl] at h
                  simp only [cond_true, Option.some.injEq] at h
                  subst h
                  exact opN_append_nil h4 rfl (srcRows_ok h3) (allP_at hT.und h1) (allP_at hT.inf h2) (by simpa using hc.2) (Nat.eq_of_beq_eq_true hc.1) (Nat.le_of_ble_eq_true hl) hd
              · cases h
            · cases h
        · cases h
      · cases h
  · cases h
def runG (C : Ctx) (self : SelfT) (n : Nat) (ops : Array Oper) (T : List (List Nat)) (W : List (Nat × Nat)) (M : List (Nat × AB)) (nx0 : Nat) (k : ASt → Option ASt) : Nat → List (Nat × Nat) → List Oper → ASt → Option ASt
  | _, _, [], st => k st
  | i, cr, o :: l, st => bif dok o.dst n then (match wantC ops o (lcl ops T W M nx0 i cr st o 0) with
    | some true => bif noW W i then (match readR C.T (lcl ops T W M nx0 i cr st o 0) o.op with
      | some x => bif x.nmd (vis T nx0 i cr) then nmP st o.dst x (runG C self n ops T W M nx0 k (i + 1) cr l) else none
      | none => match stepBR C.T (lcl ops T W M nx0 i cr st o 0) o.op with
        | some (b, _) => bif obM C.T (lcl ops T W M nx0 i cr st o 0) o.op && b.nmd (vis T nx0 i cr) && newW T W i st.nx then nm ((st.hnew b).put o.dst (refB b st.nx)) (runG C self n ops T W M nx0 k (i + 1) ((i, st.nx) :: cr) l) else none
        | none => match newC C.T (lcl ops T W M nx0 i cr st o 0) o.op with
        | some b => bif b.nmd (vis T nx0 i cr) && newW T W i st.nx then nm ((st.hnew b).put o.dst (refB b st.nx)) (runG C self n ops T W M nx0 k (i + 1) ((i, st.nx) :: cr) l) else none
        | none => match callQ C self (lcl ops T W M nx0 i cr st o 0) o.op with
          | some x => bif x.nmd (vis T nx0 i cr) then nmP st o.dst x (runG C self n ops T W M nx0 k (i + 1) cr l) else none
          | none => match opC C self ops T W M nx0 i cr st o (reachC ops st o) with
            | some s => nm s (runG C self n ops T W M nx0 k (i + 1) ((news st.nx s.nx).map (fun id => (i, id)) ++ cr) l)
            | none => none)
      else (match opC C self ops T W M nx0 i cr st o (reachC ops st o) with
        | some s => nm s (runG C self n ops T W M nx0 k (i + 1) ((news st.nx s.nx).map (fun id => (i, id)) ++ cr) l)
        | none => none)
    | some false => bif noW W i then nmP st o.dst .und (runG C self n ops T W M nx0 k (i + 1) cr l) else none
    | none => none) else none
theorem runG_ok {C : Ctx} {self : SelfT} (hC : C.ok P) (hS : SelfOk P self) {nx0 : Nat} {k : ASt → Option ASt} {Kt : ASt → Prop} (hk : ∀ s, k s = some st' → Kt s) : ∀ (l : List Oper) (i : Nat) (cr : List (Nat × Nat)) (st : ASt), runG C self n ops T W M nx0 k i cr l st = some st' → AG P n ops T W M nx0 Kt i cr l st
  | [], i, cr, st, h => .nil (hk st h)
  | o :: l, i, cr, st, h => by
    rw [runG] at h
    cases hd : dok o.dst n with
    | false => rw [hd] at h; cases h
    | true =>
      rw [hd] at h
      simp only [cond_true] at h
      have viaOp : o.guard = none ∨ gst ops o (lcl ops T W M nx0 i cr st o 0) = some true → (match opC C self ops T W M nx0 i cr st o (reachC ops st o) with
        | some s => nm s (runG C self n ops T W M nx0 k (i + 1) ((news st.nx s.nx).map (fun id => (i, id)) ++ cr) l)
        | none => none) = some st' → AG P n ops T W M nx0 Kt i cr (o :: l) st := by
        intro hw' h
        split at h
        · rename_i s h1
          obtain ⟨s', e1, e2⟩ := nm_eq s
          rw [e2] at h
          exact .step (opC_ok hC hS hd hw' h1) (.same e1 (runG_ok hC hS hk l (i + 1) _ s' h))
        · cases h
      split at h
      · rename_i hw
        have hw' := wantC_yes hw
        cases hW : noW W i with
        | false => rw [hW] at h; exact viaOp hw' h
        | true =>
          rw [hW] at h
          simp only [cond_true] at h
          split at h
          · rename_i x h1
            cases hn : x.nmd (vis T nx0 i cr) with
            | false => rw [hn] at h; cases h
            | true =>
              rw [hn] at h
              simp only [cond_true] at h
              obtain ⟨s', e1, e2⟩ := nmP_eq st o.dst x
              rw [e2] at h
              exact .step (.read hW hw' (fun k => readR_ok hC.T (by rw [← h1]; exact readR_nx _ _ _ _ _) hd) hn) (.same e1 (runG_ok hC hS hk l (i + 1) cr s' h))
          · split at h
            · rename_i b p h1
              have h1 : stepB C.T (lcl ops T W M nx0 i cr st o 0) o.op = some (b, p) := by
                unfold stepBR at h1
                cases hA : isArr C.T o.op with
                | true => rw [hA] at h1; cases h1
                | false => rw [hA] at h1; exact h1
              cases hn : (obM C.T (lcl ops T W M nx0 i cr st o 0) o.op && b.nmd (vis T nx0 i cr) && newW T W i st.nx) with
              | false => rw [hn] at h; cases h
              | true =>
                rw [hn] at h
                simp only [Bool.and_eq_true] at hn
                simp only [cond_true] at h
                obtain ⟨s', e1, e2⟩ := nm_eq ((st.hnew b).put o.dst (refB b st.nx))
                rw [e2] at h
                refine .step (.new hW hn.2 hw' (fun k => ?_) hn.1.2) (.same e1 (runG_ok hC hS hk l (i + 1) _ s' h))
                have h2 : stepB C.T (lcl ops T W M nx0 i cr st o k) o.op = some (b, p) := by rw [← h1]; exact stepB_nx _ _ _ _ _
                exact stepB_ok hC.T h2 (obB_ok' h1 hn.1.1) hd
            · split at h
              · rename_i b h1
                cases hn : (b.nmd (vis T nx0 i cr) && newW T W i st.nx) with
                | false => rw [hn] at h; cases h
                | true =>
                  rw [hn] at h
                  rw [Bool.and_eq_true] at hn
                  simp only [cond_true] at h
                  obtain ⟨s', e1, e2⟩ := nm_eq ((st.hnew b).put o.dst (refB b st.nx))
                  rw [e2] at h
                  exact .step (.new hW hn.2 hw' (fun k => newC_ok hC.T (by rw [← h1]; exact newC_nx _ _ _ _ _) hd) hn.1) (.same e1 (runG_ok hC hS hk l (i + 1) _ s' h))
              · split at h
                · rename_i x h1
                  cases hn : x.nmd (vis T nx0 i cr) with
                  | false => rw [hn] at h; cases h
                  | true =>
                    rw [hn] at h
                    simp only [cond_true] at h
                    obtain ⟨s', e1, e2⟩ := nmP_eq st o.dst x
                    rw [e2] at h
                    exact .step (.call hW hw' (fun k => callQ_ok hC hS h1 hd k) hn) (.same e1 (runG_ok hC hS hk l (i + 1) cr s' h))
                · exact viaOp hw' h
      · rename_i hw
        cases hW : noW W i with
        | false => rw [hW] at h; cases h
        | true =>
          rw [hW] at h
          simp only [cond_true] at h
          obtain ⟨s', e1, e2⟩ := nmP_eq st o.dst .und
          rw [e2] at h
          exact .step (.skip hW (wantC_no hw) hd) (.same e1 (runG_ok hC hS hk l (i + 1) cr s' h))
      · cases h
end
end Go.Proofs.Ytedjnjgnadbkaaa.Rn
/- A run of the abstract machine by one computed function: control, functions. No program in sight. -/
namespace Go.Proofs.Ytedjnjgnadbkaaa.Rn
open Go Go.RowKit Go.Proofs.Ytedjnjgnadbkaaa Go.Proofs.Ytedjnjgnadbkaaa.Dr

section
variable {P : Program} {n : Nat} {st st' : ASt} {o : Oper} {x : AV} {Q : Exit → ASt → Prop} {ops : Array Oper} {l : List Oper}
/-- where the operations begin that lie wholly behind all before them -/
def tailM (T : List (List Nat)) : Nat → Nat
  | 0 => 0
  | i + 1 => bif (List.range i).all fun j => hasN (T.getD i []) j then tailM T i else i + 1
/-- a region that draws, with what is written and the cells that stay -/
def runW (C : Ctx) (self : SelfT) (n : Nat) (l : List Oper) (T : List (List Nat)) (W : List (Nat × Nat)) (M : List (Nat × AB)) (st : ASt) : Option ASt :=
  bif M.all (fun q => Nat.blt q.1 st.nx && maskLe (look .dead M q.1) (look .dead st.heap q.1)) then runG C self n ⟨l⟩ T W M st.nx (runT C self n ⟨l⟩ (l.drop (tailM T l.length))) 0 [] (l.take (tailM T l.length)) st else none
/-- in the order of the text: what is written -/
def chg (i : Nat) (st st' : ASt) : List (Nat × Nat) := ((clo (fun _ => .dead) 1000 (st.heap.map (·.1)) []).filter fun id => !(abE (look .dead st'.heap id) (look .dead st.heap id))).map fun id => (i, id)
def seqW (C : Ctx) (self : SelfT) (ops : Array Oper) : Nat → List Oper → ASt → List (Nat × Nat) → List (Nat × Nat) × ASt
  | _, [], st, W => (W, st)
  | i, o :: l, st, W => match wantC ops o st with
    | some true => match readR C.T st o.op with
      | some x => nmP st o.dst x fun s => seqW C self ops (i + 1) l s W
      | none => match memR C self st o with
        | some st' => nm st' fun s => seqW C self ops (i + 1) l s (chg i st s ++ W)
        | none => (W, st)
    | some false => nmP st o.dst .und fun s => seqW C self ops (i + 1) l s W
    | none => (W, st)
def cellM (a b : AV) : AV := match a with
  | .int .. | .bool _ | .str _ | .nilp | .nils | .nilf => bif avE a b then a else .any
  | _ => .any
def cellsM : List AV → List AV → List AV
  | a :: l, b :: m => cellM a b :: cellsM l m
  | _, _ => []
def maskM (a b : AB) : AB := match a, b with
  | .box cs e, .box cs' _ => .box (cellsM cs cs') e
  | _, _ => .dead
def masks (st st' : ASt) (W : List (Nat × Nat)) : List (Nat × AB) := (W.filter fun q => Nat.blt q.2 st.nx).map fun q => (q.2, maskM (look .dead st.heap q.2) (look .dead st'.heap q.2))
def runD (C : Ctx) (self : SelfT) (n : Nat) (l : List Oper) (T : List (List Nat)) (st : ASt) : Option ASt :=
  bif planR l T && tailR l T (tailM T l.length) then (match runW C self n l T [] [] st with
    | some s => some s
    | none => match seqW C self ⟨l⟩ 0 (l.take (tailM T l.length)) st [] with
      | (W, s) => runW C self n l T W (masks st s W) st) else none
theorem runW_ok {C : Ctx} {self : SelfT} {id : Nat} {W : List (Nat × Nat)} {M : List (Nat × AB)} (hC : C.ok P) (hS : SelfOk P self) (hp : planR l (ancs l []) = true) (ht : tailR l (ancs l []) (tailM (ancs l []) l.length) = true) (h : runW C self n l (ancs l []) W M st = some st') : AW P n (.region id ⟨l⟩ true) (fun e s => e = .normal ∧ s = st') st := by
  unfold runW at h
  cases hb : M.all (fun q => Nat.blt q.1 st.nx && maskLe (look .dead M q.1) (look .dead st.heap q.1)) with
  | false => rw [hb] at h; cases h
  | true =>
    rw [hb] at h
    simp only [cond_true] at h
    have key : ∀ id, look .dead M id = .dead ∨ (id < st.nx ∧ maskLe (look .dead M id) (look .dead st.heap id) = true) := by
      intro id
      by_cases e : look .dead M id = .dead
      · exact .inl e
      · obtain ⟨q, q1, q2⟩ := look_mem e
        have := List.all_eq_true.1 hb q q1
        rw [Bool.and_eq_true, q2] at this
        exact .inr ⟨by simpa using this.1, this.2⟩
    exact AW.drawR W M (tailM (ancs l []) l.length) hC.mixed rfl hp ht (fun id hid => (key id).elim (fun h => h) (fun ⟨h', _⟩ => by omega)) (fun id => (key id).elim (fun h => by rw [h]; exact .dead _) (fun h => maskLe_les h.2)) (runG_ok hC hS (fun s hs => runT_ok hC hS _ s _ hs ⟨rfl, rfl⟩) _ 0 [] st h)
theorem runD_ok {C : Ctx} {self : SelfT} {id : Nat} (hC : C.ok P) (hS : SelfOk P self) (h : runD C self n l (ancs l []) st = some st') : AW P n (.region id ⟨l⟩ true) (fun e s => e = .normal ∧ s = st') st := by
  unfold runD at h
  cases hp : (planR l (ancs l []) && tailR l (ancs l []) (tailM (ancs l []) l.length)) with
  | false => rw [hp] at h; cases h
  | true =>
    rw [hp] at h
    simp only [cond_true] at h
    rw [Bool.and_eq_true] at hp
    split at h
    · rename_i s h1
      injection h with h
      subst h
      exact runW_ok hC hS hp.1 hp.2 h1
    · exact runW_ok hC hS hp.1 hp.2 h
def runC (C : Ctx) (self : SelfT) (fl n : Nat) : Code → ASt → Option (Exit × ASt)
  | .skip, st => some (.normal, st)
  | .label _, st => some (.normal, st)
  | .exit id, st => some (.exit id, st)
  | .ret, st => some (.ret, st)
  | .seq a b, st => match runC C self fl n a st with
    | some (.normal, st') => runC C self fl n b st'
    | r => r
  | .cond c a b, st => match st.ev c with
    | .bool true => runC C self fl n a st
    | .bool false => runC C self fl n b st
    | _ => none
  | .block id c, st => match runC C self fl n c st with
    | some (.exit id', st') => bif Nat.beq id' id then some (.normal, st') else some (.exit id', st')
    | r => r
  | .loop c, st => loopN (runC C self fl n c) fl st
  | .region _ ⟨l⟩ false, st => match runT C self n ⟨l⟩ l st with
    | some st' => some (.normal, st')
    | none => none
  | .region _ ⟨l⟩ true, st => match runD C self n l (ancs l []) st with
    | some st' => some (.normal, st')
    | none => none
  | .rangeFunc .., _ => none
  | .scope c, st => match runC C self fl n c st with
    | some (.goto _, _) => none
    | r => r
  | .goto _, _ => none
  | .refuse _, _ => none
theorem runC_ok {C : Ctx} {self : SelfT} {fl : Nat} (hC : C.ok P) (hS : SelfOk P self) : ∀ (c : Code) (st : ASt) (e : Exit) (st' : ASt), runC C self fl n c st = some (e, st') → AW P n c (fun e1 s => e1 = e ∧ s = st') st := by
  intro c
  induction c with
  | skip => intro st e st' h; rw [runC] at h; injection h with h; injection h with h1 h2; exact AW.skip ⟨h1, h2⟩
  | label l => intro st e st' h; rw [runC] at h; injection h with h; injection h with h1 h2; exact AW.label ⟨h1, h2⟩
  | exit id => intro st e st' h; rw [runC] at h; injection h with h; injection h with h1 h2; exact AW.exit ⟨h1, h2⟩
  | ret => intro st e st' h; rw [runC] at h; injection h with h; injection h with h1 h2; exact AW.ret ⟨h1, h2⟩
  | seq a b iha ihb =>
    intro st e st' h
    rw [runC] at h
    cases h1 : runC C self fl n a st with
    | none => rw [h1] at h; cases h
    | some p =>
      obtain ⟨e0, s0⟩ := p
      rw [h1] at h
      refine AW.seq ((iha st e0 s0 h1).mono ?_)
      rintro e1 s ⟨rfl, rfl⟩
      cases e1 with
      | normal => exact ihb _ _ _ h
      | _ =>
        injection h with h
        injection h with h2 h3
        exact ⟨h2, h3⟩
  | cond c a b iha ihb =>
    intro st e st' h
    rw [runC] at h
    split at h
    · rename_i h1
      exact AW.condT h1 (iha _ _ _ h)
    · rename_i h1
      exact AW.condF h1 (ihb _ _ _ h)
    · cases h
  | block id c ih =>
    intro st e st' h
    rw [runC] at h
    cases h1 : runC C self fl n c st with
    | none => rw [h1] at h; cases h
    | some p =>
      obtain ⟨e0, s0⟩ := p
      rw [h1] at h
      refine AW.block ((ih st e0 s0 h1).mono ?_)
      rintro e1 s ⟨rfl, rfl⟩
      cases e1 with
      | exit id' =>
        simp only at h
        cases hb : Nat.beq id' id with
        | true =>
          rw [hb] at h
          have := Nat.eq_of_beq_eq_true hb
          subst this
          simp only [cond_true] at h
          injection h with h
          injection h with h2 h3
          exact inA_eq ⟨h2, h3⟩
        | false =>
          rw [hb] at h
          simp only [cond_false] at h
          injection h with h
          injection h with h2 h3
          exact inA_ne hb ⟨h2, h3⟩
      | _ =>
        injection h with h
        injection h with h2 h3
        exact ⟨h2, h3⟩
  | loop c ih =>
    intro st e st' h
    rw [runC] at h
    exact loopN_ok ih h
  | region id ops d =>
    intro st e st' h
    obtain ⟨l⟩ := ops
    cases d with
    | false =>
      rw [runC] at h
      cases h1 : runT C self n ⟨l⟩ l st with
      | none => rw [h1] at h; cases h
      | some s =>
        rw [h1] at h
        injection h with h
        injection h with h2 h3
        exact AW.region (runT_ok hC hS l st s h1 ⟨h2, h3⟩)
    | true =>
      rw [runC] at h
      cases h1 : runD C self n l (ancs l []) st with
      | none => rw [h1] at h; cases h
      | some s =>
        rw [h1] at h
        injection h with h
        injection h with h2 h3
        subst h3
        subst h2
        exact runD_ok hC hS h1
  | rangeFunc f ps a b => intro st e st' h; rw [runC] at h; cases h
  | scope c ih =>
    intro st e st' h
    rw [runC] at h
    cases h1 : runC C self fl n c st with
    | none => rw [h1] at h; cases h
    | some p =>
      obtain ⟨e0, s0⟩ := p
      rw [h1] at h
      refine AW.scope ((ih st e0 s0 h1).mono ?_)
      rintro e1 s ⟨rfl, rfl⟩
      cases e1 with
      | goto l => cases h
      | _ =>
        injection h with h
        injection h with h2 h3
        exact ⟨rfl, h2, h3⟩
  | goto l => intro st e st' h; rw [runC] at h; cases h
  | refuse w => intro st e st' h; rw [runC] at h; cases h

def run (C : Ctx) (fl : Nat) : Nat → Nat → List AV → List (Nat × AB) → Nat → Option (AV × List (Nat × AB) × Nat)
  | 0, _, _, _, _ => none
  | f + 1, F, xs, hp, nx => match lk C.fns F with
    | some fn => match fn.body with
      | some c => bif Nat.ble xs.length fn.ntmps then fL1 xs fun xs => outC C fn.results.toList (runC C (run C fl f) fl fn.ntmps c ⟨argR 0 xs, hp, nx⟩) else none
      | none => none
    | none => none
theorem run_ok {C : Ctx} (hC : C.ok P) (fl : Nat) : ∀ f, SelfOk P (run C fl f)
  | 0 => fun F xs hp nx x hp' nx' h => by cases h
  | f + 1 => fun F xs hp nx x hp' nx' h => by
    rw [run] at h
    split at h
    · rename_i fn h1
      split at h
      · rename_i c h2
        cases hb : Nat.ble xs.length fn.ntmps with
        | false => rw [hb] at h; cases h
        | true =>
          rw [hb] at h
          simp only [cond_true] at h
          rw [fL1_eq] at h
          cases hr : runC C (run C fl f) fl fn.ntmps c ⟨argR 0 xs, hp, nx⟩ with
          | none => rw [hr] at h; cases h
          | some p =>
            obtain ⟨e, st⟩ := p
            rw [hr] at h
            have hw := runC_ok hC (run_ok hC fl f) c _ _ _ hr
            have key : ∀ ys, resC C st fn.results.toList = some ys → oneOf ys = x → st.heap = hp' → st.nx = nx' → e = .ret ∨ e = .normal → AC P F xs hp nx (fun x1 hp1 nx1 => x1 = x ∧ hp1 = hp' ∧ nx1 = nx') := by
              intro ys h3 h4 h5 h6 he
              refine AC.body (allP_at hC.fns h1) h2 rfl rfl hb (hw.mono ?_)
              rintro e1 s ⟨rfl, rfl⟩
              exact ⟨he, ys, resC_ok hC h3, h4, h5, h6⟩
            cases e with
            | ret =>
              simp only [outC] at h
              split at h
              · rename_i ys h3
                injection h with h
                simp only [Prod.mk.injEq] at h
                exact key ys h3 h.1 h.2.1 h.2.2 (.inl rfl)
              · cases h
            | normal =>
              simp only [outC] at h
              split at h
              · rename_i ys h3
                injection h with h
                simp only [Prod.mk.injEq] at h
                exact key ys h3 h.1 h.2.1 h.2.2 (.inr rfl)
              · cases h
            | _ => cases h
      · cases h
    · cases h
/-- a closed call -/
def okRun (C : Ctx) (fl f : Nat) (F : Nat) (xs : List AV) : Option AV := match run C fl f F xs [] 0 with
  | some (y, hp, _) => frzRC hp 8 y
  | none => none
theorem AF.run {C : Ctx} (hC : C.ok P) (fl f : Nat) {F : Nat} {xs : List AV} {y : AV} (h : okRun C fl f F xs = some y) : AF P F xs y := by
  unfold okRun at h
  split at h
  · rename_i x hp nx h1
    exact AF.of_AC ((run_ok hC fl f _ _ _ _ _ _ _ h1).mono (by rintro x1 hp1 nx1 ⟨rfl, rfl, rfl⟩; exact frzRC_ok 8 _ _ h))
  · cases h
end
end Go.Proofs.Ytedjnjgnadbkaaa.Rn
/- Works of pressWorks, by a run. -/
namespace Go.Proofs.Ytedjnjgnadbkaaa
open Go Go.RowKit

theorem pressWorks_f : AF Try.prog 57 [] (.bool true) := Rn.AF.run ctx_ok 1000 20 (by kernel_rfl)
def law_pressWorks_r (_ : Nat) (_ : Unit) : Option (Bool × Unit) := some (true, ())
def law_pressWorks_ctr : Ctr := ⟨.unit, .pair .bool .unit, law_pressWorks_r, 57⟩
theorem law_pressWorks_ok : CtrOk Try.prog 57 law_pressWorks_ctr := fun _ _ y h => by
  have h : some (true, ()) = some y := h
  injection h with h
  subst h
  exact pressWorks_f
end Go.Proofs.Ytedjnjgnadbkaaa
/- Residual programs of functions (printed by a program out of the code), checked by the kernel, and the contracts that follow. -/
namespace Go.Proofs.Ytedjnjgnadbkaaa
open Go Go.RowKit
set_option linter.unusedVariables false
def R_Floor_j1 (fu : Nat) (v1 : Int) : Option ((Int) × (Unit)) :=
  some ((v1, ()))
def R_Floor_r (fu : Nat) (a : (Int) × ((Int) × (Unit))) : Option ((Int) × (Unit)) :=
  bif (decide (a.2.1 ≠ (0 : Int))) then
  let v0 : Int := (IntKind.i64.wrap (Int.tdiv a.1 a.2.1))
  joinF (R_Floor_j1 fu) fun j1 =>
  bif (decide (a.1 < (IntKind.i64.wrap (v0 * a.2.1)))) then
    let v2 : Int := (IntKind.i64.wrap (v0 - (1 : Int)))
    j1 (v2)
  else
  j1 (v0)
  else none
def R_Floor_an : An := (.n none .z (.n none .z (.n (some ⟨[], [], [], [.reg 5 (.int .i64)], 0, []⟩) (.n none .z (.n none .z .z)) (.n none .z .z))))
noncomputable def R_Floor_dc : List (Nat × Ctr) := []
def R_Floor_ctr : Ctr := ⟨(.pair (.int .i64) (.pair (.int .i64) .unit)), (.pair (.int .i64) .unit), R_Floor_r, 69⟩
theorem R_Floor_ok : CtrOk Try.prog 69 R_Floor_ctr := ctr_ok (l := R_Floor_dc) (f := 12) (an := R_Floor_an) trivial fun fu x => by kernel_rfl
def R_Within_r (fu : Nat) (a : (Int) × ((Int) × ((Int) × (Unit)))) : Option ((Bool) × (Unit)) :=
  bif (decide (a.2.1 ≤ a.1)) then
    let v0 : Bool := (decide (a.1 ≤ a.2.2.1))
    some ((v0, ()))
  else
  some ((false, ()))
def R_Within_an : An := (.n none .z (.n none .z .z))
noncomputable def R_Within_dc : List (Nat × Ctr) := []
def R_Within_ctr : Ctr := ⟨(.pair (.int .i64) (.pair (.int .i64) (.pair (.int .i64) .unit))), (.pair .bool .unit), R_Within_r, 20⟩
theorem R_Within_ok : CtrOk Try.prog 20 R_Within_ctr := ctr_ok (l := R_Within_dc) (f := 12) (an := R_Within_an) trivial fun fu x => by kernel_rfl
def R_Bit_j1 (fu : Nat) (a : ((Int) × ((Int) × (List (Int)))) × ((Int) × ((Int) × (Unit)))) (v0 : Bool) : Option ((Bool) × (Unit)) :=
  bif v0 then
    some ((false, ()))
  else
  bif ((decide ((0 : Int) ≤ (IntKind.i64.wrap ((IntKind.i64.wrap (a.2.2.1 * (IntKind.i64.wrap (Int.tdiv (IntKind.i64.wrap (a.1.1 + (7 : Int))) (8 : Int))))) + (IntKind.i64.wrap (Int.tdiv a.2.1 (8 : Int))))))) && (decide ((IntKind.i64.wrap ((IntKind.i64.wrap (a.2.2.1 * (IntKind.i64.wrap (Int.tdiv (IntKind.i64.wrap (a.1.1 + (7 : Int))) (8 : Int))))) + (IntKind.i64.wrap (Int.tdiv a.2.1 (8 : Int))))) < (List.length a.1.2.2 : Int)))) then
  let v1 : Int := (List.getD a.1.2.2 (Int.toNat (IntKind.i64.wrap ((IntKind.i64.wrap (a.2.2.1 * (IntKind.i64.wrap (Int.tdiv (IntKind.i64.wrap (a.1.1 + (7 : Int))) (8 : Int))))) + (IntKind.i64.wrap (Int.tdiv a.2.1 (8 : Int)))))) 0)
  bif ((decide ((0 : Int) ≤ (Int.tmod a.2.1 (8 : Int)))) && (decide ((Int.tmod a.2.1 (8 : Int)) ≤ (8 : Int)))) then
  let v2 : Bool := (decide ((bits BinOp.and IntKind.u8 (IntKind.u8.wrap (v1 * 2 ^ (Int.toNat (Int.tmod a.2.1 (8 : Int))))) (128 : Int)) ≠ (0 : Int)))
  some ((v2, ()))
  else none
  else none
def R_Bit_r (fu : Nat) (a : ((Int) × ((Int) × (List (Int)))) × ((Int) × ((Int) × (Unit)))) : Option ((Bool) × (Unit)) :=
  joinF (R_Bit_j1 fu a) fun j0 =>
  bindO (R_Within_r fu ((a.2.1, ((0 : Int), ((IntKind.i64.wrap (a.1.1 - (1 : Int))), ()))))) fun v1 =>
  bif (!v1.1) then
    j0 (true)
  else
  bindO (R_Within_r fu ((a.2.2.1, ((0 : Int), ((IntKind.i64.wrap (a.1.2.1 - (1 : Int))), ()))))) fun v2 =>
  j0 ((!v2.1))
def R_Bit_an : An := (.n none .z (.n none (.n (some ⟨[2, 3, 1], [0], [], [.reg 20 .bool], 0, []⟩) .z (.n none (.n none .z .z) .z)) (.n none .z .z)))
noncomputable def R_Bit_dc : List (Nat × Ctr) := [(20, R_Within_ctr)]
def R_Bit_ctr : Ctr := ⟨(.pair (.agg (.pair (.int .i64) (.pair (.int .i64) (.list (.int .u8))))) (.pair (.int .i64) (.pair (.int .i64) .unit))), (.pair .bool .unit), R_Bit_r, 70⟩
theorem R_Bit_ok : CtrOk Try.prog 70 R_Bit_ctr := ctr_ok (l := R_Bit_dc) (f := 12) (an := R_Bit_an) ⟨R_Within_ok, trivial⟩ fun fu x => by kernel_rfl
def R_Round_j1 (fu : Nat) (v2 : Int) : Option ((Int) × (Unit)) :=
  some ((v2, ()))
def R_Round_r (fu : Nat) (a : (Int) × ((Int) × (Unit))) : Option ((Int) × (Unit)) :=
  bindO (R_Floor_r fu ((a.1, (a.2.1, ())))) fun v0 =>
  let v1 : Int := v0.1
  joinF (R_Round_j1 fu) fun j2 =>
  bif (decide (a.2.1 ≤ (IntKind.i64.wrap ((2 : Int) * (IntKind.i64.wrap (a.1 - (IntKind.i64.wrap (v1 * a.2.1)))))))) then
    let v3 : Int := (IntKind.i64.wrap (v1 + (1 : Int)))
    j2 (v3)
  else
  j2 (v1)
def R_Round_an : An := (.n none .z (.n none .z (.n (some ⟨[], [], [], [.reg 5 (.int .i64)], 0, []⟩) (.n none .z (.n none .z .z)) (.n none .z .z))))
noncomputable def R_Round_dc : List (Nat × Ctr) := [(69, R_Floor_ctr)]
def R_Round_ctr : Ctr := ⟨(.pair (.int .i64) (.pair (.int .i64) .unit)), (.pair (.int .i64) .unit), R_Round_r, 51⟩
theorem R_Round_ok : CtrOk Try.prog 51 R_Round_ctr := ctr_ok (l := R_Round_dc) (f := 12) (an := R_Round_an) ⟨R_Floor_ok, trivial⟩ fun fu x => by kernel_rfl
def law_big_r (fu : Nat) (a : ((Int) × ((Int) × (List (Int)))) × (Unit)) : Option ((Bool) × (Unit)) :=
  bif (decide ((48 : Int) < a.1.1)) then
    some ((true, ()))
  else
  let v0 : Bool := (decide ((24 : Int) < a.1.2.1))
  some ((v0, ()))
def law_big_an : An := (.n none .z (.n none .z .z))
noncomputable def law_big_dc : List (Nat × Ctr) := []
def law_big_ctr : Ctr := ⟨(.pair (.agg (.pair (.int .i64) (.pair (.int .i64) (.list (.int .u8))))) .unit), (.pair .bool .unit), law_big_r, 68⟩
theorem law_big_ok : CtrOk Try.prog 68 law_big_ctr := ctr_ok (l := law_big_dc) (f := 12) (an := law_big_an) trivial fun fu x => by kernel_rfl
def law_none_r (fu : Nat) (a : (Bool) × ((Int) × ((Int) × (Unit)))) : Option ((Bool) × (Unit)) :=
  bif a.1 then
    let v0 : Bool := (decide (a.2.1 = a.2.2.1))
    some ((v0, ()))
  else
  some ((false, ()))
def law_none_an : An := (.n none .z (.n none .z .z))
noncomputable def law_none_dc : List (Nat × Ctr) := []
def law_none_ctr : Ctr := ⟨(.pair .bool (.pair (.int .i64) (.pair (.int .i64) .unit))), (.pair .bool .unit), law_none_r, 21⟩
theorem law_none_ok : CtrOk Try.prog 21 law_none_ctr := ctr_ok (l := law_none_dc) (f := 12) (an := law_none_an) trivial fun fu x => by kernel_rfl
def R_TonesErr_l1 (fu : Nat) (a : (List (Int)) × ((Int) × ((Int) × (Unit)))) (j0 : (Int) → Option ((Int) × (Unit))) (v0 : Int) : Option ((Int) × (Unit)) :=
  bif (decide (v0 < (List.length a.1 : Int))) then
    bif ((decide ((0 : Int) ≤ v0)) && (decide (v0 < (List.length a.1 : Int)))) then
    let v1 : Int := (List.getD a.1 (Int.toNat v0) 0)
    bindO (R_Within_r fu ((v1, ((0 : Int), (a.2.2.1, ()))))) fun v2 =>
    bif (!v2.1) then
      some (((3 : Int), ()))
    else
    j0 ((IntKind.i64.wrap (v0 + (1 : Int))))
    else none
  else
  some (((0 : Int), ()))
def R_TonesErr_r (fu : Nat) (a : (List (Int)) × ((Int) × ((Int) × (Unit)))) : Option ((Int) × (Unit)) :=
  bif (decide ((List.length a.1 : Int) ≠ a.2.1)) then
    some (((4 : Int), ()))
  else
  loopF (R_TonesErr_l1 fu a) fu ((0 : Int))
def R_TonesErr_an : An := (.n none .z (.n none (.n none .z (.n none (.n none .z .z) .z)) (.n none (.n none .z (.n none (.n (some ⟨[13, 2, 14], [], [], [.reg 15 (.int .i64)], 0, []⟩) (.n none .z (.n none .z (.n none (.n none (.n none .z (.n none .z (.n none (.n none .z .z) .z))) .z) .z))) .z) .z)) (.n none .z .z))))
noncomputable def R_TonesErr_dc : List (Nat × Ctr) := [(20, R_Within_ctr)]
def R_TonesErr_ctr : Ctr := ⟨(.pair (.list (.int .i64)) (.pair (.int .i64) (.pair (.int .i64) .unit))), (.pair (.int .i64) .unit), R_TonesErr_r, 50⟩
theorem R_TonesErr_ok : CtrOk Try.prog 50 R_TonesErr_ctr := ctr_ok (l := R_TonesErr_dc) (f := 12) (an := R_TonesErr_an) ⟨R_Within_ok, trivial⟩ fun fu x => by kernel_rfl
def R_BitsErr_j4 (fu : Nat) (v4 : Int) (j4 : (Int) → Option ((Int) × (Unit))) (v5 : Bool) : Option ((Int) × (Unit)) :=
  bif v5 then
    some (((4 : Int), ()))
  else
  j4 ((IntKind.i64.wrap (v4 + (1 : Int))))
def R_BitsErr_l3 (fu : Nat) (a : ((Int) × ((Int) × (List (Int)))) × (Unit)) (v1 : Int) (v2 : Int) (v3 : Int) (j2 : (Int) → Option ((Int) × (Unit))) (j4 : (Int) → Option ((Int) × (Unit))) (v4 : Int) : Option ((Int) × (Unit)) :=
  bif (decide (v4 < (8 : Int))) then
    joinF (R_BitsErr_j4 fu v4 j4) fun j5 =>
    bif (decide (v1 ≠ (0 : Int))) then
    bif (decide (a.1.1 ≤ (IntKind.i64.wrap ((IntKind.i64.wrap ((Int.tmod v2 v1) * (8 : Int))) + v4)))) then
      bif ((decide ((0 : Int) ≤ v4)) && (decide (v4 ≤ (8 : Int)))) then
      j5 ((decide ((bits BinOp.and IntKind.u8 (IntKind.u8.wrap (v3 * 2 ^ (Int.toNat v4))) (128 : Int)) ≠ (0 : Int))))
      else none
    else
    j5 (false)
    else none
  else
  j2 ((IntKind.i64.wrap (v2 + (1 : Int))))
def R_BitsErr_l2 (fu : Nat) (a : ((Int) × ((Int) × (List (Int)))) × (Unit)) (v1 : Int) (j2 : (Int) → Option ((Int) × (Unit))) (v2 : Int) : Option ((Int) × (Unit)) :=
  bif (decide (v2 < (List.length a.1.2.2 : Int))) then
    bif ((decide ((0 : Int) ≤ v2)) && (decide (v2 < (List.length a.1.2.2 : Int)))) then
    let v3 : Int := (List.getD a.1.2.2 (Int.toNat v2) 0)
    loopF (R_BitsErr_l3 fu a v1 v2 v3 j2) fu ((0 : Int))
    else none
  else
  some (((0 : Int), ()))
def R_BitsErr_j1 (fu : Nat) (a : ((Int) × ((Int) × (List (Int)))) × (Unit)) (v0 : Bool) : Option ((Int) × (Unit)) :=
  bif v0 then
    some (((3 : Int), ()))
  else
  let v1 : Int := (IntKind.i64.wrap (Int.tdiv (IntKind.i64.wrap (a.1.1 + (7 : Int))) (8 : Int)))
  bif (decide ((List.length a.1.2.2 : Int) ≠ (IntKind.i64.wrap (v1 * a.1.2.1)))) then
    some (((4 : Int), ()))
  else
  loopF (R_BitsErr_l2 fu a v1) fu ((0 : Int))
def R_BitsErr_r (fu : Nat) (a : ((Int) × ((Int) × (List (Int)))) × (Unit)) : Option ((Int) × (Unit)) :=
  joinF (R_BitsErr_j1 fu a) fun j0 =>
  bindO (R_Within_r fu ((a.1.1, ((1 : Int), ((1024 : Int), ()))))) fun v1 =>
  bif (!v1.1) then
    j0 (true)
  else
  bindO (R_Within_r fu ((a.1.2.1, ((1 : Int), ((1024 : Int), ()))))) fun v2 =>
  j0 ((!v2.1))
def R_BitsErr_an : An := (.n none .z (.n none (.n (some ⟨[1], [0], [], [.reg 16 .bool], 0, []⟩) .z (.n none (.n none .z .z) .z)) (.n none .z (.n none (.n none .z (.n none (.n none .z .z) .z)) (.n none (.n none .z (.n none (.n (some ⟨[30, 3, 1, 31], [0], [], [.reg 32 (.int .i64)], 0, []⟩) (.n none .z (.n none .z (.n none (.n none (.n none .z (.n none .z (.n none (.n (some ⟨[32, 4, 5], [], [], [.reg 37 (.int .i64)], 0, []⟩) (.n none .z (.n none .z (.n none (.n none (.n none .z (.n (some ⟨[37], [], [], [.reg 55 .bool], 0, []⟩) (.dr [] []) (.n none (.n none .z .z) .z))) .z) .z))) .z) .z))) .z) .z))) .z) .z)) (.n none .z .z))))))
noncomputable def R_BitsErr_dc : List (Nat × Ctr) := [(20, R_Within_ctr)]
def R_BitsErr_ctr : Ctr := ⟨(.pair (.agg (.pair (.int .i64) (.pair (.int .i64) (.list (.int .u8))))) .unit), (.pair (.int .i64) .unit), R_BitsErr_r, 67⟩
theorem R_BitsErr_ok : CtrOk Try.prog 67 R_BitsErr_ctr := ctr_ok (l := R_BitsErr_dc) (f := 12) (an := R_BitsErr_an) ⟨R_Within_ok, trivial⟩ fun fu x => by kernel_rfl
def curve_Nearest_j1 (fu : Nat) (v3 : Int) : Option ((Int) × (Unit)) :=
  some ((v3, ()))
def curve_Nearest_r (fu : Nat) (a : (Int) × ((Int) × (Unit))) : Option ((Int) × (Unit)) :=
  let v0 : Int := (IntKind.i64.wrap ((IntKind.i64.wrap ((2 : Int) * a.1)) + a.2.1))
  let v1 : Int := (IntKind.i64.wrap ((2 : Int) * a.2.1))
  bif (decide (v1 ≠ (0 : Int))) then
  let v2 : Int := (IntKind.i64.wrap (Int.tdiv v0 v1))
  joinF (curve_Nearest_j1 fu) fun j3 =>
  bif (decide (v1 ≠ (0 : Int))) then
  bif (decide ((Int.tmod v0 v1) < (0 : Int))) then
    let v4 : Int := (IntKind.i64.wrap (v2 - (1 : Int)))
    j3 (v4)
  else
  j3 (v2)
  else none
  else none
def curve_Nearest_an : An := (.n none .z (.n none .z (.n none .z (.n (some ⟨[], [], [], [.reg 5 (.int .i64)], 0, []⟩) (.n none .z (.n none .z .z)) (.n none .z .z)))))
noncomputable def curve_Nearest_dc : List (Nat × Ctr) := []
def curve_Nearest_ctr : Ctr := ⟨(.pair (.int .i64) (.pair (.int .i64) .unit)), (.pair (.int .i64) .unit), curve_Nearest_r, 97⟩
theorem curve_Nearest_ok : CtrOk Try.prog 97 curve_Nearest_ctr := ctr_ok (l := curve_Nearest_dc) (f := 12) (an := curve_Nearest_an) trivial fun fu x => by kernel_rfl
def bitmap_stride_r (fu : Nat) (a : (Int) × (Unit)) : Option ((Int) × (Unit)) :=
  let v0 : Int := (IntKind.i64.wrap (Int.tdiv (IntKind.i64.wrap (a.1 + (7 : Int))) (8 : Int)))
  some ((v0, ()))
def bitmap_stride_an : An := (.n none .z (.n none .z .z))
noncomputable def bitmap_stride_dc : List (Nat × Ctr) := []
def bitmap_stride_ctr : Ctr := ⟨(.pair (.int .i64) .unit), (.pair (.int .i64) .unit), bitmap_stride_r, 109⟩
theorem bitmap_stride_ok : CtrOk Try.prog 109 bitmap_stride_ctr := ctr_ok (l := bitmap_stride_dc) (f := 12) (an := bitmap_stride_an) trivial fun fu x => by kernel_rfl
def bitmap_Is_r (fu : Nat) (a : ((Int) × ((Int) × (List (Int)))) × ((Int) × ((Int) × (Unit)))) : Option ((Bool) × (Unit)) :=
  bif (decide ((0 : Int) ≤ a.2.1)) then
    bif (decide (a.2.1 < a.1.1)) then
      bif (decide ((0 : Int) ≤ a.2.2.1)) then
        bif (decide (a.2.2.1 < a.1.2.1)) then
          bindO (bitmap_stride_r fu ((a.1.1, ()))) fun v0 =>
          bif ((decide ((0 : Int) ≤ (IntKind.i64.wrap ((IntKind.i64.wrap (a.2.2.1 * v0.1)) + (IntKind.i64.wrap (Int.tdiv a.2.1 (8 : Int))))))) && (decide ((IntKind.i64.wrap ((IntKind.i64.wrap (a.2.2.1 * v0.1)) + (IntKind.i64.wrap (Int.tdiv a.2.1 (8 : Int))))) < (List.length a.1.2.2 : Int)))) then
          let v1 : Int := (List.getD a.1.2.2 (Int.toNat (IntKind.i64.wrap ((IntKind.i64.wrap (a.2.2.1 * v0.1)) + (IntKind.i64.wrap (Int.tdiv a.2.1 (8 : Int)))))) 0)
          bif ((decide ((0 : Int) ≤ (Int.tmod a.2.1 (8 : Int)))) && (decide ((Int.tmod a.2.1 (8 : Int)) ≤ (8 : Int)))) then
          let v2 : Bool := (decide ((bits BinOp.and IntKind.u8 v1 ((128 : Int) / 2 ^ (Int.toNat (Int.tmod a.2.1 (8 : Int))))) ≠ (0 : Int)))
          some ((v2, ()))
          else none
          else none
        else
        some ((false, ()))
      else
      some ((false, ()))
    else
    some ((false, ()))
  else
  some ((false, ()))
def bitmap_Is_an : An := (.n none .z (.n none (.dr [] []) .z))
noncomputable def bitmap_Is_dc : List (Nat × Ctr) := [(109, bitmap_stride_ctr)]
def bitmap_Is_ctr : Ctr := ⟨(.pair (.ptr (.pair (.int .i64) (.pair (.int .i64) (.list (.int .u8))))) (.pair (.int .i64) (.pair (.int .i64) .unit))), (.pair .bool .unit), bitmap_Is_r, 105⟩
theorem bitmap_Is_ok : CtrOk Try.prog 105 bitmap_Is_ctr := ctr_ok (l := bitmap_Is_dc) (f := 12) (an := bitmap_Is_an) ⟨bitmap_stride_ok, trivial⟩ fun fu x => by kernel_rfl
def bitmap_Check_j2 (fu : Nat) (v3 : Unit) : Option ((Int) × (Unit)) :=
  some (((0 : Int), ()))
def bitmap_Check_l3 (fu : Nat) (a : ((Int) × ((Int) × (List (Int)))) × (Unit)) (v2 : Int) (v4 : Int) (j3 : (Unit) → Option ((Int) × (Unit))) (j5 : (Int) → Option ((Int) × (Unit))) (v5 : Int) : Option ((Int) × (Unit)) :=
  bif (decide (v5 < a.1.2.1)) then
    bif ((decide ((0 : Int) ≤ (IntKind.i64.wrap ((IntKind.i64.wrap ((IntKind.i64.wrap (v5 * v2)) + v2)) - (1 : Int))))) && (decide ((IntKind.i64.wrap ((IntKind.i64.wrap ((IntKind.i64.wrap (v5 * v2)) + v2)) - (1 : Int))) < (List.length a.1.2.2 : Int)))) then
    let v6 : Int := (List.getD a.1.2.2 (Int.toNat (IntKind.i64.wrap ((IntKind.i64.wrap ((IntKind.i64.wrap (v5 * v2)) + v2)) - (1 : Int)))) 0)
    bif (decide ((bits BinOp.and IntKind.u8 v6 v4) ≠ (0 : Int))) then
      some (((4 : Int), ()))
    else
    j5 ((IntKind.i64.wrap (v5 + (1 : Int))))
    else none
  else
  j3 (())
def bitmap_Check_j1 (fu : Nat) (a : ((Int) × ((Int) × (List (Int)))) × (Unit)) (v0 : Bool) : Option ((Int) × (Unit)) :=
  bif v0 then
    some (((3 : Int), ()))
  else
  bindO (bitmap_stride_r fu ((a.1.1, ()))) fun v1 =>
  let v2 : Int := v1.1
  bif (decide ((List.length a.1.2.2 : Int) ≠ (IntKind.i64.wrap (v2 * a.1.2.1)))) then
    some (((4 : Int), ()))
  else
  joinF (bitmap_Check_j2 fu) fun j3 =>
  bif ((decide ((0 : Int) ≤ (IntKind.i64.wrap ((IntKind.i64.wrap ((8 : Int) * v2)) - a.1.1)))) && (decide ((IntKind.i64.wrap ((IntKind.i64.wrap ((8 : Int) * v2)) - a.1.1)) ≤ (8 : Int)))) then
  let v4 : Int := (IntKind.u8.wrap ((IntKind.u8.wrap ((1 : Int) * 2 ^ (Int.toNat (IntKind.i64.wrap ((IntKind.i64.wrap ((8 : Int) * v2)) - a.1.1))))) - (1 : Int)))
  bif (decide (v4 ≠ (0 : Int))) then
    loopF (bitmap_Check_l3 fu a v2 v4 j3) fu ((0 : Int))
  else
  j3 (())
  else none
def bitmap_Check_r (fu : Nat) (a : ((Int) × ((Int) × (List (Int)))) × (Unit)) : Option ((Int) × (Unit)) :=
  joinF (bitmap_Check_j1 fu a) fun j0 =>
  bif (decide (a.1.1 < (1 : Int))) then
    j0 (true)
  else
  bif (decide ((1024 : Int) < a.1.1)) then
    j0 (true)
  else
  bif (decide (a.1.2.1 < (1 : Int))) then
    j0 (true)
  else
  j0 ((decide ((1024 : Int) < a.1.2.1)))
def bitmap_Check_an : An := (.n none .z (.n none (.n (some ⟨[1], [0], [], [.reg 23 .bool], 0, []⟩) .z (.n none (.n none .z .z) .z)) (.n none .z (.n none (.n none .z (.n none (.n none .z .z) .z)) (.n (some ⟨[], [0], [], [], 0, []⟩) (.n none .z (.n none .z (.n none (.n none .z (.n none (.n (some ⟨[1, 3, 4, 45], [], [], [.reg 46 (.int .i64)], 0, []⟩) (.n none .z (.n none .z (.n none (.n none (.n none .z (.n none .z (.n none (.n none .z .z) .z))) .z) .z))) .z) .z)) .z))) (.n none .z .z))))))
noncomputable def bitmap_Check_dc : List (Nat × Ctr) := [(109, bitmap_stride_ctr)]
def bitmap_Check_ctr : Ctr := ⟨(.pair (.agg (.pair (.int .i64) (.pair (.int .i64) (.list (.int .u8))))) .unit), (.pair (.int .i64) .unit), bitmap_Check_r, 104⟩
theorem bitmap_Check_ok : CtrOk Try.prog 104 bitmap_Check_ctr := ctr_ok (l := bitmap_Check_dc) (f := 12) (an := bitmap_Check_an) ⟨bitmap_stride_ok, trivial⟩ fun fu x => by kernel_rfl
def press_Presets_j4 (fu : Nat) (v4 : Int) (j4 : (Int) → Option ((List (List (Int))) × ((List (List (Int))) × ((Int) × (Unit))))) (v6 : Bool) : Option ((List (List (Int))) × ((List (List (Int))) × ((Int) × (Unit)))) :=
  bif v6 then
    some ((([] : List (List (Int))), (([] : List (List (Int))), ((3 : Int), ()))))
  else
  j4 ((IntKind.i64.wrap (v4 + (1 : Int))))
def press_Presets_j9 (fu : Nat) (j17 : ((Int) × (Int)) → Option ((List (List (Int))) × ((List (List (Int))) × ((Int) × (Unit))))) (v18 : (Int) × (Int)) : Option ((List (List (Int))) × ((List (List (Int))) × ((Int) × (Unit)))) :=
  let v19 : Int := (IntKind.i64.wrap (v18.1 + (1 : Int)))
  j17 ((v18.2, v19))
def press_Presets_l8 (fu : Nat) (a : (List ((Int) × ((Int) × (List (Int))))) × ((Int) × ((List (Int)) × (Unit)))) (v6 : Int) (v13 : Int) (v15 : (Int) × (Int)) (v16 : Int) (j15 : ((Int) × (Int)) → Option ((List (List (Int))) × ((List (List (Int))) × ((Int) × (Unit))))) (j17 : ((Int) × (Int)) → Option ((List (List (Int))) × ((List (List (Int))) × ((Int) × (Unit))))) (v17 : (Int) × (Int)) : Option ((List (List (Int))) × ((List (List (Int))) × ((Int) × (Unit)))) :=
  bif (decide (v17.2 < v13)) then
    joinF (press_Presets_j9 fu j17) fun j18 =>
    bif ((decide ((0 : Int) ≤ v6)) && (decide (v6 < (List.length a.1 : Int)))) then
    let v19 : (Int) × ((Int) × (List (Int))) := (List.getD a.1 (Int.toNat v6) (0, (0, [])))
    bindO (bitmap_Is_r fu ((v19, (v17.2, (v16, ()))))) fun v20 =>
    bif v20.1 then
      let v21 : Int := (IntKind.i64.wrap (v17.1 + (1 : Int)))
      j18 ((v17.2, v21))
    else
    j18 ((v17.2, v17.1))
    else none
  else
  j15 ((v17.1, (IntKind.i64.wrap (v15.2 + (1 : Int)))))
def press_Presets_l7 (fu : Nat) (a : (List ((Int) × ((Int) × (List (Int))))) × ((Int) × ((List (Int)) × (Unit)))) (v6 : Int) (v8 : (Int) × ((List (Int)) × (List (Int)))) (v12 : Int) (v13 : Int) (v14 : (Int) × ((Int) × (List (Int)))) (j8 : ((Int) × ((List (Int)) × (List (Int)))) → Option ((List (List (Int))) × ((List (List (Int))) × ((Int) × (Unit))))) (j15 : ((Int) × (Int)) → Option ((List (List (Int))) × ((List (List (Int))) × ((Int) × (Unit))))) (v15 : (Int) × (Int)) : Option ((List (List (Int))) × ((List (List (Int))) × ((Int) × (Unit)))) :=
  bif (decide (v15.2 < v14.2.1)) then
    let v16 : Int := v15.2
    loopF (press_Presets_l8 fu a v6 v13 v15 v16 j15) fu ((v15.1, v12))
  else
  bif ((decide ((0 : Int) ≤ v6)) && (decide (v6 < (List.length a.1 : Int)))) then
  let v16 : (Int) × ((Int) × (List (Int))) := (List.getD a.1 (Int.toNat v6) (0, (0, [])))
  bindO (curve_Nearest_r fu (((IntKind.i64.wrap ((8 : Int) * v15.1)), ((IntKind.i64.wrap ((IntKind.i64.wrap (v13 - v12)) * v16.2.1)), ())))) fun v17 =>
  let v18 : Int := v17.1
  bif (decide ((((List.length v8.2.2 : Int) + (List.length (v18 :: ([] : List (Int))) : Int)) * (8 : Int)) ≤ (140737488355328 : Int))) then
  bif ((decide ((0 : Int) ≤ v6)) && (decide (v6 < (List.length a.2.2.1 : Int)))) then
  let v19 : Int := (List.getD a.2.2.1 (Int.toNat v6) 0)
  bindO (curve_Nearest_r fu (((IntKind.i64.wrap (v19 * (IntKind.i64.wrap ((8 : Int) + v18)))), ((128 : Int), ())))) fun v20 =>
  bif (decide ((((List.length v8.2.1 : Int) + (List.length ((min (1000 : Int) v20.1) :: ([] : List (Int))) : Int)) * (8 : Int)) ≤ (140737488355328 : Int))) then
  j8 (((IntKind.i64.wrap (v8.1 + (1 : Int))), ((v8.2.1 ++ ((min (1000 : Int) v20.1) :: ([] : List (Int)))), (v8.2.2 ++ (v18 :: ([] : List (Int)))))))
  else none
  else none
  else none
  else none
def press_Presets_l6 (fu : Nat) (a : (List ((Int) × ((Int) × (List (Int))))) × ((Int) × ((List (Int)) × (Unit)))) (v5 : (Int) × ((List (List (Int))) × (List (List (Int))))) (v6 : Int) (j5 : ((Int) × ((List (List (Int))) × (List (List (Int))))) → Option ((List (List (Int))) × ((List (List (Int))) × ((Int) × (Unit))))) (j8 : ((Int) × ((List (Int)) × (List (Int)))) → Option ((List (List (Int))) × ((List (List (Int))) × ((Int) × (Unit))))) (v8 : (Int) × ((List (Int)) × (List (Int)))) : Option ((List (List (Int))) × ((List (List (Int))) × ((Int) × (Unit)))) :=
  bif (decide (v8.1 < a.2.1)) then
    let v9 : Int := v8.1
    bif ((decide ((0 : Int) ≤ v6)) && (decide (v6 < (List.length a.1 : Int)))) then
    let v10 : (Int) × ((Int) × (List (Int))) := (List.getD a.1 (Int.toNat v6) (0, (0, [])))
    bif (decide (a.2.1 ≠ (0 : Int))) then
    bif ((decide ((0 : Int) ≤ v6)) && (decide (v6 < (List.length a.1 : Int)))) then
    let v11 : (Int) × ((Int) × (List (Int))) := (List.getD a.1 (Int.toNat v6) (0, (0, [])))
    bif (decide (a.2.1 ≠ (0 : Int))) then
    let v12 : Int := (IntKind.i64.wrap (Int.tdiv (IntKind.i64.wrap (v9 * v10.1)) a.2.1))
    let v13 : Int := (IntKind.i64.wrap (Int.tdiv (IntKind.i64.wrap ((IntKind.i64.wrap (v9 + (1 : Int))) * v11.1)) a.2.1))
    bif ((decide ((0 : Int) ≤ v6)) && (decide (v6 < (List.length a.1 : Int)))) then
    let v14 : (Int) × ((Int) × (List (Int))) := (List.getD a.1 (Int.toNat v6) (0, (0, [])))
    loopF (press_Presets_l7 fu a v6 v8 v12 v13 v14 j8) fu (((0 : Int), (0 : Int)))
    else none
    else none
    else none
    else none
    else none
  else
  let v9 : List (Int) := v8.2.2
  bif (decide ((((List.length v5.2.2 : Int) + (List.length (v9 :: ([] : List (List (Int)))) : Int)) * (24 : Int)) ≤ (140737488355328 : Int))) then
  let v10 : List (Int) := v8.2.1
  bif (decide ((((List.length v5.2.1 : Int) + (List.length (v10 :: ([] : List (List (Int)))) : Int)) * (24 : Int)) ≤ (140737488355328 : Int))) then
  j5 (((IntKind.i64.wrap (v5.1 + (1 : Int))), ((v5.2.1 ++ (v10 :: ([] : List (List (Int))))), (v5.2.2 ++ (v9 :: ([] : List (List (Int))))))))
  else none
  else none
def press_Presets_l5 (fu : Nat) (a : (List ((Int) × ((Int) × (List (Int))))) × ((Int) × ((List (Int)) × (Unit)))) (j5 : ((Int) × ((List (List (Int))) × (List (List (Int))))) → Option ((List (List (Int))) × ((List (List (Int))) × ((Int) × (Unit))))) (v5 : (Int) × ((List (List (Int))) × (List (List (Int))))) : Option ((List (List (Int))) × ((List (List (Int))) × ((Int) × (Unit)))) :=
  bif (decide (v5.1 < (List.length a.1 : Int))) then
    let v6 : Int := v5.1
    bif ((decide ((0 : Int) ≤ v6)) && (decide (v6 < (List.length a.1 : Int)))) then
    let v7 : (Int) × ((Int) × (List (Int))) := (List.getD a.1 (Int.toNat v6) (0, (0, [])))
    bif (decide (v7.1 < a.2.1)) then
      some ((([] : List (List (Int))), (([] : List (List (Int))), ((19 : Int), ()))))
    else
    loopF (press_Presets_l6 fu a v5 v6 j5) fu (((0 : Int), (([] : List (Int)), ([] : List (Int)))))
    else none
  else
  some ((v5.2.2, (v5.2.1, ((0 : Int), ()))))
def press_Presets_l3 (fu : Nat) (a : (List ((Int) × ((Int) × (List (Int))))) × ((Int) × ((List (Int)) × (Unit)))) (j4 : (Int) → Option ((List (List (Int))) × ((List (List (Int))) × ((Int) × (Unit))))) (v4 : Int) : Option ((List (List (Int))) × ((List (List (Int))) × ((Int) × (Unit)))) :=
  bif (decide (v4 < (List.length a.2.2.1 : Int))) then
    bif ((decide ((0 : Int) ≤ v4)) && (decide (v4 < (List.length a.2.2.1 : Int)))) then
    let v5 : Int := (List.getD a.2.2.1 (Int.toNat v4) 0)
    joinF (press_Presets_j4 fu v4 j4) fun j6 =>
    bif (decide (v5 < (0 : Int))) then
      j6 (true)
    else
    j6 ((decide ((24000 : Int) < v5)))
    else none
  else
  loopF (press_Presets_l5 fu a) fu (((0 : Int), (([] : List (List (Int))), ([] : List (List (Int))))))
def press_Presets_j2 (fu : Nat) (a : (List ((Int) × ((Int) × (List (Int))))) × ((Int) × ((List (Int)) × (Unit)))) (v3 : Bool) : Option ((List (List (Int))) × ((List (List (Int))) × ((Int) × (Unit)))) :=
  bif v3 then
    some ((([] : List (List (Int))), (([] : List (List (Int))), ((3 : Int), ()))))
  else
  bif (decide ((List.length a.2.2.1 : Int) ≠ (List.length a.1 : Int))) then
    some ((([] : List (List (Int))), (([] : List (List (Int))), ((4 : Int), ()))))
  else
  loopF (press_Presets_l3 fu a) fu ((0 : Int))
def press_Presets_l1 (fu : Nat) (a : (List ((Int) × ((Int) × (List (Int))))) × ((Int) × ((List (Int)) × (Unit)))) (j2 : (Int) → Option ((List (List (Int))) × ((List (List (Int))) × ((Int) × (Unit))))) (v2 : Int) : Option ((List (List (Int))) × ((List (List (Int))) × ((Int) × (Unit)))) :=
  bif (decide (v2 < (List.length a.1 : Int))) then
    bif ((decide ((0 : Int) ≤ v2)) && (decide (v2 < (List.length a.1 : Int)))) then
    let v3 : (Int) × ((Int) × (List (Int))) := (List.getD a.1 (Int.toNat v2) (0, (0, [])))
    bindO (bitmap_Check_r fu (((v3.1, (v3.2.1, v3.2.2)), ()))) fun v4 =>
    let v5 : Int := v4.1
    bif (decide (v5 ≠ (0 : Int))) then
      some ((([] : List (List (Int))), (([] : List (List (Int))), (v5, ()))))
    else
    j2 ((IntKind.i64.wrap (v2 + (1 : Int))))
    else none
  else
  joinF (press_Presets_j2 fu a) fun j3 =>
  bif (decide (a.2.1 < (1 : Int))) then
    j3 (true)
  else
  j3 ((decide ((16 : Int) < a.2.1)))
def press_Presets_r (fu : Nat) (a : (List ((Int) × ((Int) × (List (Int))))) × ((Int) × ((List (Int)) × (Unit)))) : Option ((List (List (Int))) × ((List (List (Int))) × ((Int) × (Unit)))) :=
  let v0 : Bool := (decide ((8 : Int) < (List.length a.1 : Int)))
  bif v0 then
    some ((([] : List (List (Int))), (([] : List (List (Int))), ((2 : Int), ()))))
  else
  let v1 : Bool := (decide ((List.length a.1 : Int) = (0 : Int)))
  bif v1 then
    some ((([] : List (List (Int))), (([] : List (List (Int))), ((1 : Int), ()))))
  else
  loopF (press_Presets_l1 fu a) fu ((0 : Int))
def press_Presets_an : An := (.n none .z (.n none (.n none (.n none .z (.n none (.n none .z .z) (.n none .z (.n none (.n none .z .z) .z)))) .z) (.n none (.n none .z (.n none (.n (some ⟨[1, 2, 0, 32, 33], [], [(7, .nils), (6, .nils)], [.reg 34 (.int .i64)], 0, []⟩) (.n none .z (.n none .z (.n none (.n none (.n none .z (.n none .z (.n none .z (.n none (.n none .z .z) .z)))) .z) .z))) .z) .z)) (.n none (.n (some ⟨[0, 2, 1], [], [(6, .nils), (7, .nils)], [.reg 49 .bool], 0, []⟩) .z (.n none (.n none .z .z) .z)) (.n none (.n none .z (.n none (.n none .z .z) .z)) (.n none (.n none .z (.n none (.n (some ⟨[0, 2, 1, 55, 56], [], [(6, .nils), (7, .nils)], [.reg 57 (.int .i64)], 0, []⟩) (.n none .z (.n none .z (.n none (.n none (.n none .z (.n (some ⟨[57], [], [(6, .nils), (7, .nils)], [.reg 66 .bool], 0, []⟩) .z (.n none (.n none .z .z) .z))) .z) .z))) .z) .z)) (.n none (.n none .z (.n none (.n (some ⟨[1, 2, 0, 69], [], [(7, (.osl 0 0)), (6, (.osl 1 0))], [.reg 70 (.int .i64), .row 0 true (.list (.int .i64)) 29 0, .row 1 true (.list (.int .i64)) 29 0], 2, [(7, (.list (.int .i64)), 29), (6, (.list (.int .i64)), 29)]⟩) (.n none .z (.n none .z (.n none (.n none (.n none .z (.n none (.n none .z (.n none (.n none .z .z) .z)) (.n none .z (.n none (.n none .z (.n none (.n (some ⟨[70, 7, 6, 14, 80], [1, 0], [(16, (.osl 2 0)), (15, (.osl 3 0))], [.reg 81 (.int .i64), .row 2 true (.int .i64) 3 0, .row 3 true (.int .i64) 3 0], 2, [(16, (.int .i64), 3), (15, (.int .i64), 3)]⟩) (.n none .z (.n none .z (.n none (.n none (.n none .z (.n none (.dr [] []) (.n none .z (.n none (.n none .z (.n none (.n (some ⟨[81, 16, 15, 18, 19, 107], [3, 2], [], [.reg 20 (.int .i64), .reg 108 (.int .i64)], 0, []⟩) (.n none .z (.n none .z (.n none (.n none (.n none .z (.n none .z (.n none (.n (some ⟨[108, 21], [], [], [.reg 20 (.int .i64), .reg 22 (.int .i64)], 0, []⟩) (.n none (.n none .z .z) (.n (some ⟨[], [], [], [.reg 22 (.int .i64), .reg 20 (.int .i64)], 0, []⟩) (.n none (.n none .z (.n none .z .z)) .z) .z)) .z) .z))) .z) .z))) .z) .z)) (.n none .z (.n none .z .z)))))) .z) .z))) .z) .z)) .z)))) .z) .z))) .z) .z)) (.n none .z .z))))))))
noncomputable def press_Presets_dc : List (Nat × Ctr) := [(97, curve_Nearest_ctr), (104, bitmap_Check_ctr), (105, bitmap_Is_ctr)]
def press_Presets_ctr : Ctr := ⟨(.pair (.list (.pair (.int .i64) (.pair (.int .i64) (.list (.int .u8))))) (.pair (.int .i64) (.pair (.list (.int .i64)) .unit))), (.pair (.list (.list (.int .i64))) (.pair (.list (.list (.int .i64))) (.pair (.int .i64) .unit))), press_Presets_r, 66⟩
theorem press_Presets_ok : CtrOk Try.prog 66 press_Presets_ctr := ctr_ok (l := press_Presets_dc) (f := 12) (an := press_Presets_an) ⟨curve_Nearest_ok, ⟨bitmap_Check_ok, ⟨bitmap_Is_ok, trivial⟩⟩⟩ fun fu x => by kernel_rfl
def law_PressPresets_j7 (fu : Nat) (j9 : ((Int) × (Int)) → Option ((Bool) × (Unit))) (v11 : (Int) × (Int)) : Option ((Bool) × (Unit)) :=
  let v12 : Int := (IntKind.i64.wrap (v11.1 + (1 : Int)))
  j9 ((v11.2, v12))
def law_PressPresets_j14 (fu : Nat) (j17 : ((Int) × ((Int) × (Int))) → Option ((Bool) × (Unit))) (v18 : (Int) × ((Int) × (Int))) : Option ((Bool) × (Unit)) :=
  j17 ((v18.2.1, (v18.2.2, (IntKind.i64.wrap (v18.1 + (1 : Int))))))
def law_PressPresets_j15 (fu : Nat) (v14 : (Int) × ((Int) × (List (Int)))) (v17 : (Int) × ((Int) × (Int))) (v19 : Int) (v20 : Int) (j18 : ((Int) × ((Int) × (Int))) → Option ((Bool) × (Unit))) (v21 : (Bool) × ((Int) × (Int))) : Option ((Bool) × (Unit)) :=
  bif v21.1 then
    let v22 : Int := (IntKind.i64.wrap (v21.2.1 + (1 : Int)))
    bif (decide (v14.1 ≠ (0 : Int))) then
    bindO (R_Bit_r fu (((v14.1, (v14.2.1, v14.2.2)), (v20, ((IntKind.i64.wrap (Int.tdiv v19 v14.1)), ()))))) fun v23 =>
    bif v23.1 then
      let v24 : Int := (IntKind.i64.wrap (v21.2.2 + (1 : Int)))
      j18 ((v17.2.2, (v22, v24)))
    else
    j18 ((v17.2.2, (v22, v21.2.2)))
    else none
  else
  j18 ((v17.2.2, (v21.2.1, v21.2.2)))
def law_PressPresets_j16 (fu : Nat) (v16 : Int) (j16 : (Int) → Option ((Bool) × (Unit))) (v20 : Bool) : Option ((Bool) × (Unit)) :=
  bif v20 then
    some ((false, ()))
  else
  j16 ((IntKind.i64.wrap (v16 + (1 : Int))))
def law_PressPresets_l13 (fu : Nat) (a : (List ((Int) × ((Int) × (List (Int))))) × ((Int) × ((List (Int)) × (Unit)))) (v2 : List (List (Int))) (v3 : List (List (Int))) (v13 : Int) (v14 : (Int) × ((Int) × (List (Int)))) (v16 : Int) (j16 : (Int) → Option ((Bool) × (Unit))) (j17 : ((Int) × ((Int) × (Int))) → Option ((Bool) × (Unit))) (v17 : (Int) × ((Int) × (Int))) : Option ((Bool) × (Unit)) :=
  bif (decide (v17.2.2 < (IntKind.i64.wrap (v14.1 * v14.2.1)))) then
    joinF (law_PressPresets_j14 fu j17) fun j18 =>
    let v19 : Int := v17.2.2
    bif (decide (v14.1 ≠ (0 : Int))) then
    let v20 : Int := (Int.tmod v19 v14.1)
    joinF (law_PressPresets_j15 fu v14 v17 v19 v20 j18) fun j21 =>
    bindO (R_Floor_r fu (((IntKind.i64.wrap (v16 * v14.1)), (a.2.1, ())))) fun v22 =>
    bif (decide (v22.1 ≤ v20)) then
      bindO (R_Floor_r fu (((IntKind.i64.wrap ((IntKind.i64.wrap (v16 + (1 : Int))) * v14.1)), (a.2.1, ())))) fun v23 =>
      j21 (((decide (v20 < v23.1)), (v17.1, v17.2.1)))
    else
    j21 ((false, (v17.1, v17.2.1)))
    else none
  else
  bindO (R_Round_r fu (((IntKind.i64.wrap ((8 : Int) * v17.2.1)), (v17.1, ())))) fun v18 =>
  let v19 : Int := v18.1
  joinF (law_PressPresets_j16 fu v16 j16) fun j20 =>
  bif ((decide ((0 : Int) ≤ v13)) && (decide (v13 < (List.length v2 : Int)))) then
  let v21 : List (Int) := (List.getD v2 (Int.toNat v13) [])
  bif ((decide ((0 : Int) ≤ v16)) && (decide (v16 < (List.length v21 : Int)))) then
  let v22 : Int := (List.getD v21 (Int.toNat v16) 0)
  bif (decide (v22 ≠ v19)) then
    j20 (true)
  else
  bif ((decide ((0 : Int) ≤ v13)) && (decide (v13 < (List.length v3 : Int)))) then
  let v23 : List (Int) := (List.getD v3 (Int.toNat v13) [])
  bif ((decide ((0 : Int) ≤ v16)) && (decide (v16 < (List.length v23 : Int)))) then
  let v24 : Int := (List.getD v23 (Int.toNat v16) 0)
  bif ((decide ((0 : Int) ≤ v13)) && (decide (v13 < (List.length a.2.2.1 : Int)))) then
  let v25 : Int := (List.getD a.2.2.1 (Int.toNat v13) 0)
  bindO (R_Round_r fu (((IntKind.i64.wrap (v25 * (IntKind.i64.wrap ((8 : Int) + v19)))), ((128 : Int), ())))) fun v26 =>
  j20 ((decide (v24 ≠ (min (1000 : Int) v26.1))))
  else none
  else none
  else none
  else none
  else none
def law_PressPresets_l12 (fu : Nat) (a : (List ((Int) × ((Int) × (List (Int))))) × ((Int) × ((List (Int)) × (Unit)))) (v2 : List (List (Int))) (v3 : List (List (Int))) (v13 : Int) (v14 : (Int) × ((Int) × (List (Int)))) (j13 : (Int) → Option ((Bool) × (Unit))) (j16 : (Int) → Option ((Bool) × (Unit))) (v16 : Int) : Option ((Bool) × (Unit)) :=
  bif (decide (v16 < a.2.1)) then
    loopF (law_PressPresets_l13 fu a v2 v3 v13 v14 v16 j16) fu (((0 : Int), ((0 : Int), (0 : Int))))
  else
  j13 ((IntKind.i64.wrap (v13 + (1 : Int))))
def law_PressPresets_j11 (fu : Nat) (a : (List ((Int) × ((Int) × (List (Int))))) × ((Int) × ((List (Int)) × (Unit)))) (v2 : List (List (Int))) (v3 : List (List (Int))) (v13 : Int) (v14 : (Int) × ((Int) × (List (Int)))) (j13 : (Int) → Option ((Bool) × (Unit))) (v15 : Bool) : Option ((Bool) × (Unit)) :=
  bif v15 then
    some ((false, ()))
  else
  loopF (law_PressPresets_l12 fu a v2 v3 v13 v14 j13) fu ((0 : Int))
def law_PressPresets_l10 (fu : Nat) (a : (List ((Int) × ((Int) × (List (Int))))) × ((Int) × ((List (Int)) × (Unit)))) (v2 : List (List (Int))) (v3 : List (List (Int))) (j13 : (Int) → Option ((Bool) × (Unit))) (v13 : Int) : Option ((Bool) × (Unit)) :=
  bif (decide (v13 < (List.length a.1 : Int))) then
    bif ((decide ((0 : Int) ≤ v13)) && (decide (v13 < (List.length a.1 : Int)))) then
    let v14 : (Int) × ((Int) × (List (Int))) := (List.getD a.1 (Int.toNat v13) (0, (0, [])))
    joinF (law_PressPresets_j11 fu a v2 v3 v13 v14 j13) fun j15 =>
    bif ((decide ((0 : Int) ≤ v13)) && (decide (v13 < (List.length v2 : Int)))) then
    let v16 : List (Int) := (List.getD v2 (Int.toNat v13) [])
    bif (decide ((List.length v16 : Int) ≠ a.2.1)) then
      j15 (true)
    else
    bif ((decide ((0 : Int) ≤ v13)) && (decide (v13 < (List.length v3 : Int)))) then
    let v17 : List (Int) := (List.getD v3 (Int.toNat v13) [])
    j15 ((decide ((List.length v17 : Int) ≠ a.2.1)))
    else none
    else none
    else none
  else
  some ((true, ()))
def law_PressPresets_j9 (fu : Nat) (a : (List ((Int) × ((Int) × (List (Int))))) × ((Int) × ((List (Int)) × (Unit)))) (v2 : List (List (Int))) (v3 : List (List (Int))) (v12 : Bool) : Option ((Bool) × (Unit)) :=
  bif v12 then
    some ((false, ()))
  else
  loopF (law_PressPresets_l10 fu a v2 v3) fu ((0 : Int))
def law_PressPresets_l8 (fu : Nat) (a : (List ((Int) × ((Int) × (List (Int))))) × ((Int) × ((List (Int)) × (Unit)))) (v2 : List (List (Int))) (v3 : List (List (Int))) (v4 : Int) (j11 : (Int) → Option ((Bool) × (Unit))) (v11 : Int) : Option ((Bool) × (Unit)) :=
  bif (decide (v11 < (List.length a.1 : Int))) then
    bif ((decide ((0 : Int) ≤ v11)) && (decide (v11 < (List.length a.1 : Int)))) then
    let v12 : (Int) × ((Int) × (List (Int))) := (List.getD a.1 (Int.toNat v11) (0, (0, [])))
    bindO (law_big_r fu (((v12.1, (v12.2.1, v12.2.2)), ()))) fun v13 =>
    bif v13.1 then
      some ((true, ()))
    else
    j11 ((IntKind.i64.wrap (v11 + (1 : Int))))
    else none
  else
  joinF (law_PressPresets_j9 fu a v2 v3) fun j12 =>
  bif (decide (v4 ≠ (0 : Int))) then
    j12 (true)
  else
  bif (decide ((List.length v2 : Int) ≠ (List.length a.1 : Int))) then
    j12 (true)
  else
  j12 ((decide ((List.length v3 : Int) ≠ (List.length a.1 : Int))))
def law_PressPresets_j6 (fu : Nat) (a : (List ((Int) × ((Int) × (List (Int))))) × ((Int) × ((List (Int)) × (Unit)))) (v2 : List (List (Int))) (v3 : List (List (Int))) (v4 : Int) (v9 : (Int) × (Int)) (j9 : ((Int) × (Int)) → Option ((Bool) × (Unit))) (v10 : Bool) : Option ((Bool) × (Unit)) :=
  bif v10 then
    joinF (law_PressPresets_j7 fu j9) fun j11 =>
    bif ((decide ((0 : Int) ≤ v9.2)) && (decide (v9.2 < (List.length a.1 : Int)))) then
    let v12 : (Int) × ((Int) × (List (Int))) := (List.getD a.1 (Int.toNat v9.2) (0, (0, [])))
    bif (decide (v12.1 < a.2.1)) then
      j11 ((v9.2, (19 : Int)))
    else
    j11 ((v9.2, v9.1))
    else none
  else
  bif (decide (v9.1 ≠ (0 : Int))) then
    bindO (law_none_r fu (((decide ((IntKind.i64.wrap ((List.length v2 : Int) + (List.length v3 : Int))) = (0 : Int))), (v4, (v9.1, ()))))) fun v11 =>
    let v12 : Bool := v11.1
    some ((v12, ()))
  else
  loopF (law_PressPresets_l8 fu a v2 v3 v4) fu ((0 : Int))
def law_PressPresets_l5 (fu : Nat) (a : (List ((Int) × ((Int) × (List (Int))))) × ((Int) × ((List (Int)) × (Unit)))) (v2 : List (List (Int))) (v3 : List (List (Int))) (v4 : Int) (j9 : ((Int) × (Int)) → Option ((Bool) × (Unit))) (v9 : (Int) × (Int)) : Option ((Bool) × (Unit)) :=
  joinF (law_PressPresets_j6 fu a v2 v3 v4 v9 j9) fun j10 =>
  bif (decide (v9.2 < (List.length a.1 : Int))) then
    j10 ((decide (v9.1 = (0 : Int))))
  else
  j10 (false)
def law_PressPresets_j4 (fu : Nat) (a : (List ((Int) × ((Int) × (List (Int))))) × ((Int) × ((List (Int)) × (Unit)))) (v2 : List (List (Int))) (v3 : List (List (Int))) (v4 : Int) (v8 : Int) : Option ((Bool) × (Unit)) :=
  loopF (law_PressPresets_l5 fu a v2 v3 v4) fu ((v8, (0 : Int)))
def law_PressPresets_j3 (fu : Nat) (a : (List ((Int) × ((Int) × (List (Int))))) × ((Int) × ((List (Int)) × (Unit)))) (v2 : List (List (Int))) (v3 : List (List (Int))) (v4 : Int) (v6 : (Int) × (Int)) (j6 : ((Int) × (Int)) → Option ((Bool) × (Unit))) (v7 : Bool) : Option ((Bool) × (Unit)) :=
  bif v7 then
    bif ((decide ((0 : Int) ≤ v6.2)) && (decide (v6.2 < (List.length a.1 : Int)))) then
    let v8 : (Int) × ((Int) × (List (Int))) := (List.getD a.1 (Int.toNat v6.2) (0, (0, [])))
    bindO (R_BitsErr_r fu (((v8.1, (v8.2.1, v8.2.2)), ()))) fun v9 =>
    let v10 : Int := v9.1
    let v11 : Int := (IntKind.i64.wrap (v6.2 + (1 : Int)))
    j6 ((v10, v11))
    else none
  else
  joinF (law_PressPresets_j4 fu a v2 v3 v4) fun j8 =>
  let v9 : Bool := (decide (v6.1 ≠ (0 : Int)))
  bif v9 then
    j8 (v6.1)
  else
  bindO (R_Within_r fu ((a.2.1, ((1 : Int), ((16 : Int), ()))))) fun v10 =>
  let v11 : Bool := (!v10.1)
  bif v11 then
    j8 ((3 : Int))
  else
  bindO (R_TonesErr_r fu ((a.2.2.1, ((List.length a.1 : Int), ((24000 : Int), ()))))) fun v12 =>
  let v13 : Int := v12.1
  j8 (v13)
def law_PressPresets_l2 (fu : Nat) (a : (List ((Int) × ((Int) × (List (Int))))) × ((Int) × ((List (Int)) × (Unit)))) (v2 : List (List (Int))) (v3 : List (List (Int))) (v4 : Int) (j6 : ((Int) × (Int)) → Option ((Bool) × (Unit))) (v6 : (Int) × (Int)) : Option ((Bool) × (Unit)) :=
  joinF (law_PressPresets_j3 fu a v2 v3 v4 v6 j6) fun j7 =>
  bif (decide (v6.2 < (List.length a.1 : Int))) then
    j7 ((decide (v6.1 = (0 : Int))))
  else
  j7 (false)
def law_PressPresets_j1 (fu : Nat) (a : (List ((Int) × ((Int) × (List (Int))))) × ((Int) × ((List (Int)) × (Unit)))) (v2 : List (List (Int))) (v3 : List (List (Int))) (v4 : Int) (v5 : Int) : Option ((Bool) × (Unit)) :=
  loopF (law_PressPresets_l2 fu a v2 v3 v4) fu ((v5, (0 : Int)))
def law_PressPresets_r (fu : Nat) (a : (List ((Int) × ((Int) × (List (Int))))) × ((Int) × ((List (Int)) × (Unit)))) : Option ((Bool) × (Unit)) :=
  bindO (law_pressWorks_r fu (())) fun v0 =>
  bif (!v0.1) then
    some ((false, ()))
  else
  bindO (press_Presets_r fu ((a.1, (a.2.1, (a.2.2.1, ()))))) fun v1 =>
  let v2 : List (List (Int)) := v1.1
  let v3 : List (List (Int)) := v1.2.1
  let v4 : Int := v1.2.2.1
  joinF (law_PressPresets_j1 fu a v2 v3 v4) fun j5 =>
  let v6 : Bool := (decide ((8 : Int) < (List.length a.1 : Int)))
  bif v6 then
    j5 ((2 : Int))
  else
  let v7 : Bool := (decide ((List.length a.1 : Int) = (0 : Int)))
  bif v7 then
    j5 ((1 : Int))
  else
  j5 ((0 : Int))
def law_PressPresets_an : An := (.n none .z (.n none (.n none .z (.n none (.n none .z .z) .z)) (.n none .z (.n none .z (.n (some ⟨[1, 7, 8, 2, 0, 9], [], [], [.reg 10 (.int .i64)], 0, []⟩) (.n none (.n none .z (.n none .z (.n none .z (.n none .z .z)))) .z) (.n none (.n none .z (.n none (.n (some ⟨[], [], [], [.reg 10 (.int .i64), .reg 11 (.int .i64)], 0, []⟩) (.n none (.n (some ⟨[11, 10], [], [], [.reg 48 .bool], 0, []⟩) .z .z) (.n none (.n none .z .z) .z)) .z) .z)) (.n (some ⟨[], [], [], [.reg 10 (.int .i64)], 0, []⟩) (.n none (.n none .z (.n none .z (.n none .z (.n none .z .z)))) .z) (.n none (.n none .z (.n none (.n (some ⟨[], [], [], [.reg 10 (.int .i64), .reg 12 (.int .i64)], 0, []⟩) (.n none (.n (some ⟨[12, 10], [], [], [.reg 74 .bool], 0, []⟩) .z .z) (.n (some ⟨[], [], [], [.reg 12 (.int .i64), .reg 10 (.int .i64)], 0, []⟩) (.n none (.n none .z (.n none .z .z)) .z) .z)) .z) .z)) (.n none (.n none .z (.n none (.n none .z .z) .z)) (.n none (.n none .z (.n none (.n (some ⟨[95, 96], [], [], [.reg 97 (.int .i64)], 0, []⟩) (.n none .z (.n none .z (.n none (.n none (.n none .z (.n none .z (.n none (.n none .z .z) .z))) .z) .z))) .z) .z)) (.n none (.n (some ⟨[], [], [], [.reg 119 .bool], 0, []⟩) .z (.n none (.n none .z .z) .z)) (.n none (.n none .z (.n none (.n (some ⟨[120, 121], [], [], [.reg 122 (.int .i64)], 0, []⟩) (.n none .z (.n none .z (.n none (.n none (.n none .z (.n none (.n (some ⟨[122, 15, 16], [0], [], [.reg 142 .bool], 0, []⟩) .z (.n none (.n none .z .z) .z)) (.n none .z (.n none (.n (some ⟨[122, 15, 16, 143], [0], [], [.reg 144 (.int .i64)], 0, []⟩) (.n none .z (.n none .z (.n none (.n none (.n none .z (.n none .z (.n none (.n none .z (.n none (.n (some ⟨[144, 17, 151], [], [], [.reg 19 (.int .i64), .reg 18 (.int .i64), .reg 152 (.int .i64)], 0, []⟩) (.n none .z (.n none .z (.n (some ⟨[], [], [], [.reg 152 (.int .i64), .reg 19 (.int .i64), .reg 18 (.int .i64)], 0, []⟩) (.n none (.n none .z (.n none .z (.n (some ⟨[20, 21, 152], [], [], [.reg 177 .bool, .reg 19 (.int .i64), .reg 18 (.int .i64)], 0, []⟩) .z (.n none (.n none .z (.n none (.dr [] []) (.n none .z .z))) .z)))) .z) .z))) .z) .z)) (.n none .z (.n (some ⟨[144], [], [], [.reg 221 .bool], 0, []⟩) (.dr [] []) (.n none (.n none .z .z) .z)))))) .z) .z))) .z) .z)))) .z) .z))) .z) .z)) (.n none .z .z)))))))))))))
noncomputable def law_PressPresets_dc : List (Nat × Ctr) := [(20, R_Within_ctr), (21, law_none_ctr), (50, R_TonesErr_ctr), (51, R_Round_ctr), (57, law_pressWorks_ctr), (66, press_Presets_ctr), (67, R_BitsErr_ctr), (68, law_big_ctr), (69, R_Floor_ctr), (70, R_Bit_ctr)]
def law_PressPresets_ctr : Ctr := ⟨(.pair (.list (.pair (.int .i64) (.pair (.int .i64) (.list (.int .u8))))) (.pair (.int .i64) (.pair (.list (.int .i64)) .unit))), (.pair .bool .unit), law_PressPresets_r, 13⟩
theorem law_PressPresets_ok : CtrOk Try.prog 13 law_PressPresets_ctr := ctr_ok (l := law_PressPresets_dc) (f := 12) (an := law_PressPresets_an) ⟨R_Within_ok, ⟨law_none_ok, ⟨R_TonesErr_ok, ⟨R_Round_ok, ⟨law_pressWorks_ok, ⟨press_Presets_ok, ⟨R_BitsErr_ok, ⟨law_big_ok, ⟨R_Floor_ok, ⟨R_Bit_ok, trivial⟩⟩⟩⟩⟩⟩⟩⟩⟩⟩ fun fu x => by kernel_rfl
end Go.Proofs.Ytedjnjgnadbkaaa
/- Plain facts for residual programs. No program in sight. -/
namespace Go.Proofs.Ytedjnjgnadbkaaa
open Go Go.RowKit
theorem loopF_spec {α β : Type} {f : (α → Option β) → α → Option β} (μ : α → Nat) (I : α → Prop) (S : α → Option β) (h : ∀ j x, I x → (∀ x', I x' → μ x' < μ x → j x' = S x') → f j x = S x) : ∀ (fu : Nat) (x : α), I x → μ x < fu → loopF f fu x = S x
  | 0, _, _, h0 => absurd h0 (Nat.not_lt_zero _)
  | fu + 1, x, hI, hm => by
    rw [loopF]
    exact h _ x hI fun x' h1 h2 => loopF_spec μ I S h fu x' h1 (by omega)
theorem bif_pos {α : Type} {p : Prop} [Decidable p] {a b : α} (h : p) : (bif decide p then a else b) = a := by rw [decide_eq_true h]; rfl
theorem bif_neg {α : Type} {p : Prop} [Decidable p] {a b : α} (h : ¬ p) : (bif decide p then a else b) = b := by rw [decide_eq_false h]; rfl
theorem bif_and {α : Type} {p q : Prop} [Decidable p] [Decidable q] {a b : α} (h : p) (k : q) : (bif decide p && decide q then a else b) = a := by rw [decide_eq_true h, decide_eq_true k]; rfl
theorem joinF_eq {α β : Type} (J : α → Option β) (b : (α → Option β) → Option β) : joinF J b = b J := rfl
theorem bindO_some {α β : Type} (x : α) (k : α → Option β) : bindO (some x) k = k x := rfl
/-- the fuel -/
def FU : Nat := 18446744073709551616
theorem FU_val : FU = 18446744073709551616 := rfl
/-! ### What is left of a loop -/
def allFrom (p : Nat → Bool) (n i : Nat) : Bool := (List.range' i (n - i)).all p
theorem allFrom_lt {p : Nat → Bool} {n i : Nat} (h : i < n) : allFrom p n i = (p i && allFrom p n (i + 1)) := by
  unfold allFrom
  rw [show n - i = (n - (i + 1)) + 1 by omega, List.range'_succ, List.all_cons]
theorem allFrom_ge {p : Nat → Bool} {n i : Nat} (h : n ≤ i) : allFrom p n i = true := by
  unfold allFrom
  rw [show n - i = 0 by omega]; rfl
theorem allFrom_zero (p : Nat → Bool) (n : Nat) : allFrom p n 0 = (List.range n).all p := by
  unfold allFrom
  rw [Nat.sub_zero, List.range_eq_range']
end Go.Proofs.Ytedjnjgnadbkaaa
