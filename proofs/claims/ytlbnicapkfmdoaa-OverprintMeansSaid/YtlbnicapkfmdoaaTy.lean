/- Facts on the types and functions that the symbolic walks ask for (printed by a program). -/
import Derived.Test.YtlbnicapkfmdoaaSxH
import Derived.Test.YtlbnicapkfmdoaaProg
namespace Go.Proofs.Ytlbnicapkfmdoaa
open Go
def tab : Tab := {
  und := [(0, Go.TypeDesc.tuple #[]),
    (1, Go.TypeDesc.func #[] #[] false),
    (2, Go.TypeDesc.int (Go.IntKind.i64)),
    (3, Go.TypeDesc.int (Go.IntKind.i64)),
    (4, Go.TypeDesc.bool),
    (5, Go.TypeDesc.int (Go.IntKind.u8)),
    (6, Go.TypeDesc.int (Go.IntKind.u8)),
    (7, Go.TypeDesc.struct #[{ name := "x", type := 2, offset := 0, embedded := false, tag := "", pkgPath := "runtime", byteOffset := 0 }, { name := "y", type := 3, offset := 1, embedded := false, tag := "", pkgPath := "runtime", byteOffset := 8 }, { name := "signed", type := 4, offset := 2, embedded := false, tag := "", pkgPath := "runtime", byteOffset := 16 }, { name := "code", type := 6, offset := 3, embedded := false, tag := "", pkgPath := "runtime", byteOffset := 17 }]),
    (8, Go.TypeDesc.struct #[{ name := "x", type := 2, offset := 0, embedded := false, tag := "", pkgPath := "runtime", byteOffset := 0 }, { name := "y", type := 3, offset := 1, embedded := false, tag := "", pkgPath := "runtime", byteOffset := 8 }, { name := "signed", type := 4, offset := 2, embedded := false, tag := "", pkgPath := "runtime", byteOffset := 16 }, { name := "code", type := 6, offset := 3, embedded := false, tag := "", pkgPath := "runtime", byteOffset := 17 }]),
    (9, Go.TypeDesc.string),
    (10, Go.TypeDesc.string),
    (11, Go.TypeDesc.string),
    (12, Go.TypeDesc.int (Go.IntKind.u64)),
    (13, Go.TypeDesc.struct #[{ name := "msg", type := 9, offset := 0, embedded := false, tag := "", pkgPath := "runtime", byteOffset := 0 }, { name := "addr", type := 12, offset := 1, embedded := false, tag := "", pkgPath := "runtime", byteOffset := 16 }]),
    (14, Go.TypeDesc.struct #[{ name := "msg", type := 9, offset := 0, embedded := false, tag := "", pkgPath := "runtime", byteOffset := 0 }, { name := "addr", type := 12, offset := 1, embedded := false, tag := "", pkgPath := "runtime", byteOffset := 16 }]),
    (15, Go.TypeDesc.pointer 90),
    (16, Go.TypeDesc.pointer 93),
    (17, Go.TypeDesc.pointer 103),
    (18, Go.TypeDesc.struct #[{ name := "typ", type := 17, offset := 0, embedded := false, tag := "", pkgPath := "internal/runtime/maps", byteOffset := 0 }]),
    (19, Go.TypeDesc.struct #[{ name := "typ", type := 17, offset := 0, embedded := false, tag := "", pkgPath := "internal/runtime/maps", byteOffset := 0 }]),
    (20, Go.TypeDesc.interface #[]),
    (21, Go.TypeDesc.int (Go.IntKind.i32)),
    (22, Go.TypeDesc.func #[] #[4] false),
    (23, Go.TypeDesc.int (Go.IntKind.i64)),
    (24, Go.TypeDesc.tuple #[3, 23]),
    (25, Go.TypeDesc.func #[3] #[3, 23] false),
    (26, Go.TypeDesc.func #[3, 3, 3] #[4] false),
    (27, Go.TypeDesc.func #[4, 23, 23] #[4] false),
    (28, Go.TypeDesc.func #[3] #[3] false),
    (29, Go.TypeDesc.func #[3, 3] #[4] false),
    (30, Go.TypeDesc.func #[3, 3] #[3, 23] false),
    (31, Go.TypeDesc.func #[3, 3] #[3] false),
    (32, Go.TypeDesc.slice 3),
    (33, Go.TypeDesc.tuple #[32, 23]),
    (34, Go.TypeDesc.func #[32, 32, 32] #[32, 23] false),
    (35, Go.TypeDesc.func #[32, 3, 3] #[23] false),
    (36, Go.TypeDesc.func #[32, 32] #[4] false),
    (37, Go.TypeDesc.func #[32, 32, 32] #[4] false),
    (38, Go.TypeDesc.slice 41),
    (39, Go.TypeDesc.func #[32] #[32, 23] false),
    (40, Go.TypeDesc.struct #[{ name := "L", type := 3, offset := 0, embedded := false, tag := "", pkgPath := "", byteOffset := 0 }, { name := "A", type := 3, offset := 1, embedded := false, tag := "", pkgPath := "", byteOffset := 8 }, { name := "B", type := 3, offset := 2, embedded := false, tag := "", pkgPath := "", byteOffset := 16 }]),
    (41, Go.TypeDesc.struct #[{ name := "L", type := 3, offset := 0, embedded := false, tag := "", pkgPath := "", byteOffset := 0 }, { name := "A", type := 3, offset := 1, embedded := false, tag := "", pkgPath := "", byteOffset := 8 }, { name := "B", type := 3, offset := 2, embedded := false, tag := "", pkgPath := "", byteOffset := 16 }]),
    (42, Go.TypeDesc.tuple #[41, 23]),
    (43, Go.TypeDesc.func #[38, 32] #[41, 23] false),
    (44, Go.TypeDesc.func #[32, 3] #[3] false),
    (45, Go.TypeDesc.func #[41] #[23] false),
    (46, Go.TypeDesc.func #[38, 32] #[4] false),
    (47, Go.TypeDesc.slice 66),
    (48, Go.TypeDesc.struct #[{ name := "Points", type := 47, offset := 0, embedded := false, tag := "", pkgPath := "", byteOffset := 0 }]),
    (49, Go.TypeDesc.struct #[{ name := "Points", type := 47, offset := 0, embedded := false, tag := "", pkgPath := "", byteOffset := 0 }]),
    (50, Go.TypeDesc.tuple #[32, 3, 23]),
    (51, Go.TypeDesc.func #[32, 49] #[32, 3, 23] false),
    (52, Go.TypeDesc.func #[32, 49, 3] #[32, 23] false),
    (53, Go.TypeDesc.func #[49] #[23] false),
    (54, Go.TypeDesc.func #[49, 3] #[3] false),
    (55, Go.TypeDesc.func #[32, 3, 3] #[32] false),
    (56, Go.TypeDesc.func #[32, 49, 3] #[4] false),
    (57, Go.TypeDesc.func #[32] #[3, 23] false),
    (58, Go.TypeDesc.func #[32, 3, 3] #[32, 23] false),
    (59, Go.TypeDesc.func #[32] #[3] false),
    (60, Go.TypeDesc.func #[32, 3, 3] #[4] false),
    (61, Go.TypeDesc.func #[49, 3] #[3, 23] false),
    (62, Go.TypeDesc.func #[49, 3] #[4] false),
    (63, Go.TypeDesc.tuple #[49, 23]),
    (64, Go.TypeDesc.func #[47] #[49, 23] false),
    (65, Go.TypeDesc.struct #[{ name := "X", type := 3, offset := 0, embedded := false, tag := "", pkgPath := "", byteOffset := 0 }, { name := "Y", type := 3, offset := 1, embedded := false, tag := "", pkgPath := "", byteOffset := 8 }]),
    (66, Go.TypeDesc.struct #[{ name := "X", type := 3, offset := 0, embedded := false, tag := "", pkgPath := "", byteOffset := 0 }, { name := "Y", type := 3, offset := 1, embedded := false, tag := "", pkgPath := "", byteOffset := 8 }]),
    (67, Go.TypeDesc.slice 69),
    (68, Go.TypeDesc.func #[47] #[67] false),
    (69, Go.TypeDesc.array 2 3),
    (70, Go.TypeDesc.func #[49, 49] #[4] false),
    (71, Go.TypeDesc.func #[47] #[4] false),
    (72, Go.TypeDesc.func #[49] #[32, 23] false),
    (73, Go.TypeDesc.func #[49] #[4] false),
    (74, Go.TypeDesc.int (Go.IntKind.u64)),
    (75, Go.TypeDesc.func #[3] #[23] false),
    (76, Go.TypeDesc.func #[32, 3] #[23] false),
    (77, Go.TypeDesc.func #[3] #[31] false),
    (78, Go.TypeDesc.func #[32] #[23] false),
    (79, Go.TypeDesc.func #[32] #[32] false),
    (80, Go.TypeDesc.func #[] #[49] false),
    (81, Go.TypeDesc.tuple #[32, 3]),
    (82, Go.TypeDesc.func #[32, 49] #[32, 3] false),
    (83, Go.TypeDesc.slice 85),
    (84, Go.TypeDesc.struct #[{ name := "sum", type := 3, offset := 0, embedded := false, tag := "", pkgPath := "printworks/curve", byteOffset := 0 }, { name := "n", type := 3, offset := 1, embedded := false, tag := "", pkgPath := "printworks/curve", byteOffset := 8 }]),
    (85, Go.TypeDesc.struct #[{ name := "sum", type := 3, offset := 0, embedded := false, tag := "", pkgPath := "printworks/curve", byteOffset := 0 }, { name := "n", type := 3, offset := 1, embedded := false, tag := "", pkgPath := "printworks/curve", byteOffset := 8 }]),
    (86, Go.TypeDesc.func #[87] #[3] false),
    (87, Go.TypeDesc.int (Go.IntKind.u64)),
    (88, Go.TypeDesc.func #[] #[9] false),
    (89, Go.TypeDesc.struct #[{ name := "_interface", type := 17, offset := 0, embedded := false, tag := "", pkgPath := "runtime", byteOffset := 0 }, { name := "concrete", type := 17, offset := 1, embedded := false, tag := "", pkgPath := "runtime", byteOffset := 8 }, { name := "asserted", type := 17, offset := 2, embedded := false, tag := "", pkgPath := "runtime", byteOffset := 16 }, { name := "missingMethod", type := 9, offset := 3, embedded := false, tag := "", pkgPath := "runtime", byteOffset := 24 }]),
    (90, Go.TypeDesc.struct #[{ name := "_interface", type := 17, offset := 0, embedded := false, tag := "", pkgPath := "runtime", byteOffset := 0 }, { name := "concrete", type := 17, offset := 1, embedded := false, tag := "", pkgPath := "runtime", byteOffset := 8 }, { name := "asserted", type := 17, offset := 2, embedded := false, tag := "", pkgPath := "runtime", byteOffset := 16 }, { name := "missingMethod", type := 9, offset := 3, embedded := false, tag := "", pkgPath := "runtime", byteOffset := 24 }]),
    (91, Go.TypeDesc.array 0 16),
    (92, Go.TypeDesc.struct #[{ name := "_", type := 91, offset := 0, embedded := false, tag := "", pkgPath := "runtime", byteOffset := 0 }]),
    (93, Go.TypeDesc.struct #[{ name := "_", type := 91, offset := 0, embedded := false, tag := "", pkgPath := "runtime", byteOffset := 0 }]),
    (94, Go.TypeDesc.func #[] #[3] false),
    (95, Go.TypeDesc.int (Go.IntKind.u32)),
    (96, Go.TypeDesc.int (Go.IntKind.u8)),
    (97, Go.TypeDesc.int (Go.IntKind.u8)),
    (98, Go.TypeDesc.func #[104, 104] #[4] false),
    (99, Go.TypeDesc.pointer 5),
    (100, Go.TypeDesc.int (Go.IntKind.i32)),
    (101, Go.TypeDesc.int (Go.IntKind.i32)),
    (102, Go.TypeDesc.struct #[{ name := "Size_", type := 12, offset := 0, embedded := false, tag := "", pkgPath := "", byteOffset := 0 }, { name := "PtrBytes", type := 12, offset := 1, embedded := false, tag := "", pkgPath := "", byteOffset := 8 }, { name := "Hash", type := 95, offset := 2, embedded := false, tag := "", pkgPath := "", byteOffset := 16 }, { name := "TFlag", type := 96, offset := 3, embedded := false, tag := "", pkgPath := "", byteOffset := 20 }, { name := "Align_", type := 5, offset := 4, embedded := false, tag := "", pkgPath := "", byteOffset := 21 }, { name := "FieldAlign_", type := 5, offset := 5, embedded := false, tag := "", pkgPath := "", byteOffset := 22 }, { name := "Kind_", type := 97, offset := 6, embedded := false, tag := "", pkgPath := "", byteOffset := 23 }, { name := "Equal", type := 98, offset := 7, embedded := false, tag := "", pkgPath := "", byteOffset := 24 }, { name := "GCData", type := 99, offset := 8, embedded := false, tag := "", pkgPath := "", byteOffset := 32 }, { name := "Str", type := 100, offset := 9, embedded := false, tag := "", pkgPath := "", byteOffset := 40 }, { name := "PtrToThis", type := 101, offset := 10, embedded := false, tag := "", pkgPath := "", byteOffset := 44 }]),
    (103, Go.TypeDesc.struct #[{ name := "Size_", type := 12, offset := 0, embedded := false, tag := "", pkgPath := "", byteOffset := 0 }, { name := "PtrBytes", type := 12, offset := 1, embedded := false, tag := "", pkgPath := "", byteOffset := 8 }, { name := "Hash", type := 95, offset := 2, embedded := false, tag := "", pkgPath := "", byteOffset := 16 }, { name := "TFlag", type := 96, offset := 3, embedded := false, tag := "", pkgPath := "", byteOffset := 20 }, { name := "Align_", type := 5, offset := 4, embedded := false, tag := "", pkgPath := "", byteOffset := 21 }, { name := "FieldAlign_", type := 5, offset := 5, embedded := false, tag := "", pkgPath := "", byteOffset := 22 }, { name := "Kind_", type := 97, offset := 6, embedded := false, tag := "", pkgPath := "", byteOffset := 23 }, { name := "Equal", type := 98, offset := 7, embedded := false, tag := "", pkgPath := "", byteOffset := 24 }, { name := "GCData", type := 99, offset := 8, embedded := false, tag := "", pkgPath := "", byteOffset := 32 }, { name := "Str", type := 100, offset := 9, embedded := false, tag := "", pkgPath := "", byteOffset := 40 }, { name := "PtrToThis", type := 101, offset := 10, embedded := false, tag := "", pkgPath := "", byteOffset := 44 }]),
    (104, Go.TypeDesc.unsafePointer)],
  inf := [(1, (some (.nilFunc), 1, 8)),
    (2, (some (.int .i64 0), 1, 8)),
    (3, (some (.int .i64 0), 1, 8)),
    (4, (some (.bool false), 1, 1)),
    (5, (some (.int .u8 0), 1, 1)),
    (6, (some (.int .u8 0), 1, 1)),
    (7, (some (.agg #[.int .i64 0, .int .i64 0, .bool false, .int .u8 0]), 4, 24)),
    (8, (some (.agg #[.int .i64 0, .int .i64 0, .bool false, .int .u8 0]), 4, 24)),
    (9, (some (.string ByteArray.empty), 1, 16)),
    (10, (some (.string ByteArray.empty), 1, 16)),
    (11, (some (.string ByteArray.empty), 1, 16)),
    (12, (some (.int .u64 0), 1, 8)),
    (13, (some (.agg #[.string ByteArray.empty, .int .u64 0]), 2, 24)),
    (14, (some (.agg #[.string ByteArray.empty, .int .u64 0]), 2, 24)),
    (15, (some (.pointer none), 1, 8)),
    (16, (some (.pointer none), 1, 8)),
    (17, (some (.pointer none), 1, 8)),
    (18, (some (.agg #[.pointer none]), 1, 8)),
    (19, (some (.agg #[.pointer none]), 1, 8)),
    (20, (some (.nilIface), 1, 16)),
    (21, (some (.int .i32 0), 1, 4)),
    (22, (some (.nilFunc), 1, 8)),
    (23, (some (.int .i64 0), 1, 8)),
    (25, (some (.nilFunc), 1, 8)),
    (26, (some (.nilFunc), 1, 8)),
    (27, (some (.nilFunc), 1, 8)),
    (28, (some (.nilFunc), 1, 8)),
    (29, (some (.nilFunc), 1, 8)),
    (30, (some (.nilFunc), 1, 8)),
    (31, (some (.nilFunc), 1, 8)),
    (32, (some (.slice none 0 0), 1, 24)),
    (34, (some (.nilFunc), 1, 8)),
    (35, (some (.nilFunc), 1, 8)),
    (36, (some (.nilFunc), 1, 8)),
    (37, (some (.nilFunc), 1, 8)),
    (38, (some (.slice none 0 0), 1, 24)),
    (39, (some (.nilFunc), 1, 8)),
    (40, (some (.agg #[.int .i64 0, .int .i64 0, .int .i64 0]), 3, 24)),
    (41, (some (.agg #[.int .i64 0, .int .i64 0, .int .i64 0]), 3, 24)),
    (43, (some (.nilFunc), 1, 8)),
    (44, (some (.nilFunc), 1, 8)),
    (45, (some (.nilFunc), 1, 8)),
    (46, (some (.nilFunc), 1, 8)),
    (47, (some (.slice none 0 0), 1, 24)),
    (48, (some (.agg #[.slice none 0 0]), 1, 24)),
    (49, (some (.agg #[.slice none 0 0]), 1, 24)),
    (51, (some (.nilFunc), 1, 8)),
    (52, (some (.nilFunc), 1, 8)),
    (53, (some (.nilFunc), 1, 8)),
    (54, (some (.nilFunc), 1, 8)),
    (55, (some (.nilFunc), 1, 8)),
    (56, (some (.nilFunc), 1, 8)),
    (57, (some (.nilFunc), 1, 8)),
    (58, (some (.nilFunc), 1, 8)),
    (59, (some (.nilFunc), 1, 8)),
    (60, (some (.nilFunc), 1, 8)),
    (61, (some (.nilFunc), 1, 8)),
    (62, (some (.nilFunc), 1, 8)),
    (64, (some (.nilFunc), 1, 8)),
    (65, (some (.agg #[.int .i64 0, .int .i64 0]), 2, 16)),
    (66, (some (.agg #[.int .i64 0, .int .i64 0]), 2, 16)),
    (67, (some (.slice none 0 0), 1, 24)),
    (68, (some (.nilFunc), 1, 8)),
    (69, (some (.agg #[.int .i64 0, .int .i64 0]), 2, 16)),
    (70, (some (.nilFunc), 1, 8)),
    (71, (some (.nilFunc), 1, 8)),
    (72, (some (.nilFunc), 1, 8)),
    (73, (some (.nilFunc), 1, 8)),
    (74, (some (.int .u64 0), 1, 8)),
    (75, (some (.nilFunc), 1, 8)),
    (76, (some (.nilFunc), 1, 8)),
    (77, (some (.nilFunc), 1, 8)),
    (78, (some (.nilFunc), 1, 8)),
    (79, (some (.nilFunc), 1, 8)),
    (80, (some (.nilFunc), 1, 8)),
    (82, (some (.nilFunc), 1, 8)),
    (83, (some (.slice none 0 0), 1, 24)),
    (84, (some (.agg #[.int .i64 0, .int .i64 0]), 2, 16)),
    (85, (some (.agg #[.int .i64 0, .int .i64 0]), 2, 16)),
    (86, (some (.nilFunc), 1, 8)),
    (87, (some (.int .u64 0), 1, 8)),
    (88, (some (.nilFunc), 1, 8)),
    (89, (some (.agg #[.pointer none, .pointer none, .pointer none, .string ByteArray.empty]), 4, 40)),
    (90, (some (.agg #[.pointer none, .pointer none, .pointer none, .string ByteArray.empty]), 4, 40)),
    (91, (some (.agg #[]), 0, 0)),
    (92, (some (.agg #[]), 0, 0)),
    (93, (some (.agg #[]), 0, 0)),
    (94, (some (.nilFunc), 1, 8)),
    (95, (some (.int .u32 0), 1, 4)),
    (96, (some (.int .u8 0), 1, 1)),
    (97, (some (.int .u8 0), 1, 1)),
    (98, (some (.nilFunc), 1, 8)),
    (99, (some (.pointer none), 1, 8)),
    (100, (some (.int .i32 0), 1, 4)),
    (101, (some (.int .i32 0), 1, 4)),
    (102, (some (.agg #[.int .u64 0, .int .u64 0, .int .u32 0, .int .u8 0, .int .u8 0, .int .u8 0, .int .u8 0, .nilFunc, .pointer none, .int .i32 0, .int .i32 0]), 11, 48)),
    (103, (some (.agg #[.int .u64 0, .int .u64 0, .int .u32 0, .int .u8 0, .int .u8 0, .int .u8 0, .int .u8 0, .nilFunc, .pointer none, .int .i32 0, .int .i32 0]), 11, 48)),
    (104, (some (.pointer none), 1, 8))],
  fld := [(7, [(0, (1, false)), (1, (1, false)), (2, (1, false)), (3, (1, false))]),
    (8, [(0, (1, false)), (1, (1, false)), (2, (1, false)), (3, (1, false))]),
    (13, [(0, (1, false)), (1, (1, false))]),
    (14, [(0, (1, false)), (1, (1, false))]),
    (18, [(0, (1, false))]),
    (19, [(0, (1, false))]),
    (40, [(0, (1, false)), (1, (1, false)), (2, (1, false))]),
    (41, [(0, (1, false)), (1, (1, false)), (2, (1, false))]),
    (48, [(0, (1, false))]),
    (49, [(0, (1, false))]),
    (65, [(0, (1, false)), (1, (1, false))]),
    (66, [(0, (1, false)), (1, (1, false))]),
    (84, [(0, (1, false)), (1, (1, false))]),
    (85, [(0, (1, false)), (1, (1, false))]),
    (89, [(0, (1, false)), (1, (1, false)), (2, (1, false)), (3, (1, false))]),
    (90, [(0, (1, false)), (1, (1, false)), (2, (1, false)), (3, (1, false))]),
    (92, [(0, (0, true))]),
    (93, [(0, (0, true))]),
    (102, [(0, (1, false)), (1, (1, false)), (2, (1, false)), (3, (1, false)), (4, (1, false)), (5, (1, false)), (6, (1, false)), (7, (1, false)), (8, (1, false)), (9, (1, false)), (10, (1, false))]),
    (103, [(0, (1, false)), (1, (1, false)), (2, (1, false)), (3, (1, false)), (4, (1, false)), (5, (1, false)), (6, (1, false)), (7, (1, false)), (8, (1, false)), (9, (1, false)), (10, (1, false))])],
  eqs := [(40, 3), (41, 3), (65, 2), (66, 2), (84, 2), (85, 2)] }
theorem ty_1 : tyI Try.prog 1 = some (some (.nilFunc), 1, 8) := by kernel_rfl
theorem ty_2 : tyI Try.prog 2 = some (some (.int .i64 0), 1, 8) := by kernel_rfl
theorem ty_3 : tyI Try.prog 3 = some (some (.int .i64 0), 1, 8) := by kernel_rfl
theorem ty_4 : tyI Try.prog 4 = some (some (.bool false), 1, 1) := by kernel_rfl
theorem ty_5 : tyI Try.prog 5 = some (some (.int .u8 0), 1, 1) := by kernel_rfl
theorem ty_6 : tyI Try.prog 6 = some (some (.int .u8 0), 1, 1) := by kernel_rfl
theorem ty_7 : tyI Try.prog 7 = some (some (.agg #[.int .i64 0, .int .i64 0, .bool false, .int .u8 0]), 4, 24) := by kernel_rfl
theorem ty_8 : tyI Try.prog 8 = some (some (.agg #[.int .i64 0, .int .i64 0, .bool false, .int .u8 0]), 4, 24) := by kernel_rfl
theorem ty_9 : tyI Try.prog 9 = some (some (.string ByteArray.empty), 1, 16) := by kernel_rfl
theorem ty_10 : tyI Try.prog 10 = some (some (.string ByteArray.empty), 1, 16) := by kernel_rfl
theorem ty_11 : tyI Try.prog 11 = some (some (.string ByteArray.empty), 1, 16) := by kernel_rfl
theorem ty_12 : tyI Try.prog 12 = some (some (.int .u64 0), 1, 8) := by kernel_rfl
theorem ty_13 : tyI Try.prog 13 = some (some (.agg #[.string ByteArray.empty, .int .u64 0]), 2, 24) := by kernel_rfl
theorem ty_14 : tyI Try.prog 14 = some (some (.agg #[.string ByteArray.empty, .int .u64 0]), 2, 24) := by kernel_rfl
theorem ty_15 : tyI Try.prog 15 = some (some (.pointer none), 1, 8) := by kernel_rfl
theorem ty_16 : tyI Try.prog 16 = some (some (.pointer none), 1, 8) := by kernel_rfl
theorem ty_17 : tyI Try.prog 17 = some (some (.pointer none), 1, 8) := by kernel_rfl
theorem ty_18 : tyI Try.prog 18 = some (some (.agg #[.pointer none]), 1, 8) := by kernel_rfl
theorem ty_19 : tyI Try.prog 19 = some (some (.agg #[.pointer none]), 1, 8) := by kernel_rfl
theorem ty_20 : tyI Try.prog 20 = some (some (.nilIface), 1, 16) := by kernel_rfl
theorem ty_21 : tyI Try.prog 21 = some (some (.int .i32 0), 1, 4) := by kernel_rfl
theorem ty_22 : tyI Try.prog 22 = some (some (.nilFunc), 1, 8) := by kernel_rfl
theorem ty_23 : tyI Try.prog 23 = some (some (.int .i64 0), 1, 8) := by kernel_rfl
theorem ty_25 : tyI Try.prog 25 = some (some (.nilFunc), 1, 8) := by kernel_rfl
theorem ty_26 : tyI Try.prog 26 = some (some (.nilFunc), 1, 8) := by kernel_rfl
theorem ty_27 : tyI Try.prog 27 = some (some (.nilFunc), 1, 8) := by kernel_rfl
theorem ty_28 : tyI Try.prog 28 = some (some (.nilFunc), 1, 8) := by kernel_rfl
theorem ty_29 : tyI Try.prog 29 = some (some (.nilFunc), 1, 8) := by kernel_rfl
theorem ty_30 : tyI Try.prog 30 = some (some (.nilFunc), 1, 8) := by kernel_rfl
theorem ty_31 : tyI Try.prog 31 = some (some (.nilFunc), 1, 8) := by kernel_rfl
theorem ty_32 : tyI Try.prog 32 = some (some (.slice none 0 0), 1, 24) := by kernel_rfl
theorem ty_34 : tyI Try.prog 34 = some (some (.nilFunc), 1, 8) := by kernel_rfl
theorem ty_35 : tyI Try.prog 35 = some (some (.nilFunc), 1, 8) := by kernel_rfl
theorem ty_36 : tyI Try.prog 36 = some (some (.nilFunc), 1, 8) := by kernel_rfl
theorem ty_37 : tyI Try.prog 37 = some (some (.nilFunc), 1, 8) := by kernel_rfl
theorem ty_38 : tyI Try.prog 38 = some (some (.slice none 0 0), 1, 24) := by kernel_rfl
theorem ty_39 : tyI Try.prog 39 = some (some (.nilFunc), 1, 8) := by kernel_rfl
theorem ty_40 : tyI Try.prog 40 = some (some (.agg #[.int .i64 0, .int .i64 0, .int .i64 0]), 3, 24) := by kernel_rfl
theorem ty_41 : tyI Try.prog 41 = some (some (.agg #[.int .i64 0, .int .i64 0, .int .i64 0]), 3, 24) := by kernel_rfl
theorem ty_43 : tyI Try.prog 43 = some (some (.nilFunc), 1, 8) := by kernel_rfl
theorem ty_44 : tyI Try.prog 44 = some (some (.nilFunc), 1, 8) := by kernel_rfl
theorem ty_45 : tyI Try.prog 45 = some (some (.nilFunc), 1, 8) := by kernel_rfl
theorem ty_46 : tyI Try.prog 46 = some (some (.nilFunc), 1, 8) := by kernel_rfl
theorem ty_47 : tyI Try.prog 47 = some (some (.slice none 0 0), 1, 24) := by kernel_rfl
theorem ty_48 : tyI Try.prog 48 = some (some (.agg #[.slice none 0 0]), 1, 24) := by kernel_rfl
theorem ty_49 : tyI Try.prog 49 = some (some (.agg #[.slice none 0 0]), 1, 24) := by kernel_rfl
theorem ty_51 : tyI Try.prog 51 = some (some (.nilFunc), 1, 8) := by kernel_rfl
theorem ty_52 : tyI Try.prog 52 = some (some (.nilFunc), 1, 8) := by kernel_rfl
theorem ty_53 : tyI Try.prog 53 = some (some (.nilFunc), 1, 8) := by kernel_rfl
theorem ty_54 : tyI Try.prog 54 = some (some (.nilFunc), 1, 8) := by kernel_rfl
theorem ty_55 : tyI Try.prog 55 = some (some (.nilFunc), 1, 8) := by kernel_rfl
theorem ty_56 : tyI Try.prog 56 = some (some (.nilFunc), 1, 8) := by kernel_rfl
theorem ty_57 : tyI Try.prog 57 = some (some (.nilFunc), 1, 8) := by kernel_rfl
theorem ty_58 : tyI Try.prog 58 = some (some (.nilFunc), 1, 8) := by kernel_rfl
theorem ty_59 : tyI Try.prog 59 = some (some (.nilFunc), 1, 8) := by kernel_rfl
theorem ty_60 : tyI Try.prog 60 = some (some (.nilFunc), 1, 8) := by kernel_rfl
theorem ty_61 : tyI Try.prog 61 = some (some (.nilFunc), 1, 8) := by kernel_rfl
theorem ty_62 : tyI Try.prog 62 = some (some (.nilFunc), 1, 8) := by kernel_rfl
theorem ty_64 : tyI Try.prog 64 = some (some (.nilFunc), 1, 8) := by kernel_rfl
theorem ty_65 : tyI Try.prog 65 = some (some (.agg #[.int .i64 0, .int .i64 0]), 2, 16) := by kernel_rfl
theorem ty_66 : tyI Try.prog 66 = some (some (.agg #[.int .i64 0, .int .i64 0]), 2, 16) := by kernel_rfl
theorem ty_67 : tyI Try.prog 67 = some (some (.slice none 0 0), 1, 24) := by kernel_rfl
theorem ty_68 : tyI Try.prog 68 = some (some (.nilFunc), 1, 8) := by kernel_rfl
theorem ty_69 : tyI Try.prog 69 = some (some (.agg #[.int .i64 0, .int .i64 0]), 2, 16) := by kernel_rfl
theorem ty_70 : tyI Try.prog 70 = some (some (.nilFunc), 1, 8) := by kernel_rfl
theorem ty_71 : tyI Try.prog 71 = some (some (.nilFunc), 1, 8) := by kernel_rfl
theorem ty_72 : tyI Try.prog 72 = some (some (.nilFunc), 1, 8) := by kernel_rfl
theorem ty_73 : tyI Try.prog 73 = some (some (.nilFunc), 1, 8) := by kernel_rfl
theorem ty_74 : tyI Try.prog 74 = some (some (.int .u64 0), 1, 8) := by kernel_rfl
theorem ty_75 : tyI Try.prog 75 = some (some (.nilFunc), 1, 8) := by kernel_rfl
theorem ty_76 : tyI Try.prog 76 = some (some (.nilFunc), 1, 8) := by kernel_rfl
theorem ty_77 : tyI Try.prog 77 = some (some (.nilFunc), 1, 8) := by kernel_rfl
theorem ty_78 : tyI Try.prog 78 = some (some (.nilFunc), 1, 8) := by kernel_rfl
theorem ty_79 : tyI Try.prog 79 = some (some (.nilFunc), 1, 8) := by kernel_rfl
theorem ty_80 : tyI Try.prog 80 = some (some (.nilFunc), 1, 8) := by kernel_rfl
theorem ty_82 : tyI Try.prog 82 = some (some (.nilFunc), 1, 8) := by kernel_rfl
theorem ty_83 : tyI Try.prog 83 = some (some (.slice none 0 0), 1, 24) := by kernel_rfl
theorem ty_84 : tyI Try.prog 84 = some (some (.agg #[.int .i64 0, .int .i64 0]), 2, 16) := by kernel_rfl
theorem ty_85 : tyI Try.prog 85 = some (some (.agg #[.int .i64 0, .int .i64 0]), 2, 16) := by kernel_rfl
theorem ty_86 : tyI Try.prog 86 = some (some (.nilFunc), 1, 8) := by kernel_rfl
theorem ty_87 : tyI Try.prog 87 = some (some (.int .u64 0), 1, 8) := by kernel_rfl
theorem ty_88 : tyI Try.prog 88 = some (some (.nilFunc), 1, 8) := by kernel_rfl
theorem ty_89 : tyI Try.prog 89 = some (some (.agg #[.pointer none, .pointer none, .pointer none, .string ByteArray.empty]), 4, 40) := by kernel_rfl
theorem ty_90 : tyI Try.prog 90 = some (some (.agg #[.pointer none, .pointer none, .pointer none, .string ByteArray.empty]), 4, 40) := by kernel_rfl
theorem ty_91 : tyI Try.prog 91 = some (some (.agg #[]), 0, 0) := by kernel_rfl
theorem ty_92 : tyI Try.prog 92 = some (some (.agg #[]), 0, 0) := by kernel_rfl
theorem ty_93 : tyI Try.prog 93 = some (some (.agg #[]), 0, 0) := by kernel_rfl
theorem ty_94 : tyI Try.prog 94 = some (some (.nilFunc), 1, 8) := by kernel_rfl
theorem ty_95 : tyI Try.prog 95 = some (some (.int .u32 0), 1, 4) := by kernel_rfl
theorem ty_96 : tyI Try.prog 96 = some (some (.int .u8 0), 1, 1) := by kernel_rfl
theorem ty_97 : tyI Try.prog 97 = some (some (.int .u8 0), 1, 1) := by kernel_rfl
theorem ty_98 : tyI Try.prog 98 = some (some (.nilFunc), 1, 8) := by kernel_rfl
theorem ty_99 : tyI Try.prog 99 = some (some (.pointer none), 1, 8) := by kernel_rfl
theorem ty_100 : tyI Try.prog 100 = some (some (.int .i32 0), 1, 4) := by kernel_rfl
theorem ty_101 : tyI Try.prog 101 = some (some (.int .i32 0), 1, 4) := by kernel_rfl
theorem ty_102 : tyI Try.prog 102 = some (some (.agg #[.int .u64 0, .int .u64 0, .int .u32 0, .int .u8 0, .int .u8 0, .int .u8 0, .int .u8 0, .nilFunc, .pointer none, .int .i32 0, .int .i32 0]), 11, 48) := by kernel_rfl
theorem ty_103 : tyI Try.prog 103 = some (some (.agg #[.int .u64 0, .int .u64 0, .int .u32 0, .int .u8 0, .int .u8 0, .int .u8 0, .int .u8 0, .nilFunc, .pointer none, .int .i32 0, .int .i32 0]), 11, 48) := by kernel_rfl
theorem ty_104 : tyI Try.prog 104 = some (some (.pointer none), 1, 8) := by kernel_rfl
theorem fl_7 : fieldsP Try.prog 7 = some [(0, (1, false)), (1, (1, false)), (2, (1, false)), (3, (1, false))] := by kernel_rfl
theorem fl_8 : fieldsP Try.prog 8 = some [(0, (1, false)), (1, (1, false)), (2, (1, false)), (3, (1, false))] := by kernel_rfl
theorem fl_13 : fieldsP Try.prog 13 = some [(0, (1, false)), (1, (1, false))] := by kernel_rfl
theorem fl_14 : fieldsP Try.prog 14 = some [(0, (1, false)), (1, (1, false))] := by kernel_rfl
theorem fl_18 : fieldsP Try.prog 18 = some [(0, (1, false))] := by kernel_rfl
theorem fl_19 : fieldsP Try.prog 19 = some [(0, (1, false))] := by kernel_rfl
theorem fl_40 : fieldsP Try.prog 40 = some [(0, (1, false)), (1, (1, false)), (2, (1, false))] := by kernel_rfl
theorem fl_41 : fieldsP Try.prog 41 = some [(0, (1, false)), (1, (1, false)), (2, (1, false))] := by kernel_rfl
theorem fl_48 : fieldsP Try.prog 48 = some [(0, (1, false))] := by kernel_rfl
theorem fl_49 : fieldsP Try.prog 49 = some [(0, (1, false))] := by kernel_rfl
theorem fl_65 : fieldsP Try.prog 65 = some [(0, (1, false)), (1, (1, false))] := by kernel_rfl
theorem fl_66 : fieldsP Try.prog 66 = some [(0, (1, false)), (1, (1, false))] := by kernel_rfl
theorem fl_84 : fieldsP Try.prog 84 = some [(0, (1, false)), (1, (1, false))] := by kernel_rfl
theorem fl_85 : fieldsP Try.prog 85 = some [(0, (1, false)), (1, (1, false))] := by kernel_rfl
theorem fl_89 : fieldsP Try.prog 89 = some [(0, (1, false)), (1, (1, false)), (2, (1, false)), (3, (1, false))] := by kernel_rfl
theorem fl_90 : fieldsP Try.prog 90 = some [(0, (1, false)), (1, (1, false)), (2, (1, false)), (3, (1, false))] := by kernel_rfl
theorem fl_92 : fieldsP Try.prog 92 = some [(0, (0, true))] := by kernel_rfl
theorem fl_93 : fieldsP Try.prog 93 = some [(0, (0, true))] := by kernel_rfl
theorem fl_102 : fieldsP Try.prog 102 = some [(0, (1, false)), (1, (1, false)), (2, (1, false)), (3, (1, false)), (4, (1, false)), (5, (1, false)), (6, (1, false)), (7, (1, false)), (8, (1, false)), (9, (1, false)), (10, (1, false))] := by kernel_rfl
theorem fl_103 : fieldsP Try.prog 103 = some [(0, (1, false)), (1, (1, false)), (2, (1, false)), (3, (1, false)), (4, (1, false)), (5, (1, false)), (6, (1, false)), (7, (1, false)), (8, (1, false)), (9, (1, false)), (10, (1, false))] := by kernel_rfl
theorem eq_40 : eqInts Try.prog 40 = true ∧ (match Try.prog.underlying 40 with | some (.struct fs) => fs.size | _ => 0) = 3 := ⟨by kernel_rfl, by rw [Try.underlying40]; rfl⟩
theorem eq_41 : eqInts Try.prog 41 = true ∧ (match Try.prog.underlying 41 with | some (.struct fs) => fs.size | _ => 0) = 3 := ⟨by kernel_rfl, by rw [Try.underlying41]; rfl⟩
theorem eq_65 : eqInts Try.prog 65 = true ∧ (match Try.prog.underlying 65 with | some (.struct fs) => fs.size | _ => 0) = 2 := ⟨by kernel_rfl, by rw [Try.underlying65]; rfl⟩
theorem eq_66 : eqInts Try.prog 66 = true ∧ (match Try.prog.underlying 66 with | some (.struct fs) => fs.size | _ => 0) = 2 := ⟨by kernel_rfl, by rw [Try.underlying66]; rfl⟩
theorem eq_84 : eqInts Try.prog 84 = true ∧ (match Try.prog.underlying 84 with | some (.struct fs) => fs.size | _ => 0) = 2 := ⟨by kernel_rfl, by rw [Try.underlying84]; rfl⟩
theorem eq_85 : eqInts Try.prog 85 = true ∧ (match Try.prog.underlying 85 with | some (.struct fs) => fs.size | _ => 0) = 2 := ⟨by kernel_rfl, by rw [Try.underlying85]; rfl⟩
theorem tab_und : allP (fun k D => Try.prog.underlying k = some D) tab.und := ⟨Try.underlying0, ⟨Try.underlying1, ⟨Try.underlying2, ⟨Try.underlying3, ⟨Try.underlying4, ⟨Try.underlying5, ⟨Try.underlying6, ⟨Try.underlying7, ⟨Try.underlying8, ⟨Try.underlying9, ⟨Try.underlying10, ⟨Try.underlying11, ⟨Try.underlying12, ⟨Try.underlying13, ⟨Try.underlying14, ⟨Try.underlying15, ⟨Try.underlying16, ⟨Try.underlying17, ⟨Try.underlying18, ⟨Try.underlying19, ⟨Try.underlying20, ⟨Try.underlying21, ⟨Try.underlying22, ⟨Try.underlying23, ⟨Try.underlying24, ⟨Try.underlying25, ⟨Try.underlying26, ⟨Try.underlying27, ⟨Try.underlying28, ⟨Try.underlying29, ⟨Try.underlying30, ⟨Try.underlying31, ⟨Try.underlying32, ⟨Try.underlying33, ⟨Try.underlying34, ⟨Try.underlying35, ⟨Try.underlying36, ⟨Try.underlying37, ⟨Try.underlying38, ⟨Try.underlying39, ⟨Try.underlying40, ⟨Try.underlying41, ⟨Try.underlying42, ⟨Try.underlying43, ⟨Try.underlying44, ⟨Try.underlying45, ⟨Try.underlying46, ⟨Try.underlying47, ⟨Try.underlying48, ⟨Try.underlying49, ⟨Try.underlying50, ⟨Try.underlying51, ⟨Try.underlying52, ⟨Try.underlying53, ⟨Try.underlying54, ⟨Try.underlying55, ⟨Try.underlying56, ⟨Try.underlying57, ⟨Try.underlying58, ⟨Try.underlying59, ⟨Try.underlying60, ⟨Try.underlying61, ⟨Try.underlying62, ⟨Try.underlying63, ⟨Try.underlying64, ⟨Try.underlying65, ⟨Try.underlying66, ⟨Try.underlying67, ⟨Try.underlying68, ⟨Try.underlying69, ⟨Try.underlying70, ⟨Try.underlying71, ⟨Try.underlying72, ⟨Try.underlying73, ⟨Try.underlying74, ⟨Try.underlying75, ⟨Try.underlying76, ⟨Try.underlying77, ⟨Try.underlying78, ⟨Try.underlying79, ⟨Try.underlying80, ⟨Try.underlying81, ⟨Try.underlying82, ⟨Try.underlying83, ⟨Try.underlying84, ⟨Try.underlying85, ⟨Try.underlying86, ⟨Try.underlying87, ⟨Try.underlying88, ⟨Try.underlying89, ⟨Try.underlying90, ⟨Try.underlying91, ⟨Try.underlying92, ⟨Try.underlying93, ⟨Try.underlying94, ⟨Try.underlying95, ⟨Try.underlying96, ⟨Try.underlying97, ⟨Try.underlying98, ⟨Try.underlying99, ⟨Try.underlying100, ⟨Try.underlying101, ⟨Try.underlying102, ⟨Try.underlying103, ⟨Try.underlying104, trivial⟩⟩⟩⟩⟩⟩⟩⟩⟩⟩⟩⟩⟩⟩⟩⟩⟩⟩⟩⟩⟩⟩⟩⟩⟩⟩⟩⟩⟩⟩⟩⟩⟩⟩⟩⟩⟩⟩⟩⟩⟩⟩⟩⟩⟩⟩⟩⟩⟩⟩⟩⟩⟩⟩⟩⟩⟩⟩⟩⟩⟩⟩⟩⟩⟩⟩⟩⟩⟩⟩⟩⟩⟩⟩⟩⟩⟩⟩⟩⟩⟩⟩⟩⟩⟩⟩⟩⟩⟩⟩⟩⟩⟩⟩⟩⟩⟩⟩⟩⟩⟩⟩⟩⟩⟩
theorem tab_inf : allP (fun k x => tyI Try.prog k = some x) tab.inf := ⟨ty_1, ⟨ty_2, ⟨ty_3, ⟨ty_4, ⟨ty_5, ⟨ty_6, ⟨ty_7, ⟨ty_8, ⟨ty_9, ⟨ty_10, ⟨ty_11, ⟨ty_12, ⟨ty_13, ⟨ty_14, ⟨ty_15, ⟨ty_16, ⟨ty_17, ⟨ty_18, ⟨ty_19, ⟨ty_20, ⟨ty_21, ⟨ty_22, ⟨ty_23, ⟨ty_25, ⟨ty_26, ⟨ty_27, ⟨ty_28, ⟨ty_29, ⟨ty_30, ⟨ty_31, ⟨ty_32, ⟨ty_34, ⟨ty_35, ⟨ty_36, ⟨ty_37, ⟨ty_38, ⟨ty_39, ⟨ty_40, ⟨ty_41, ⟨ty_43, ⟨ty_44, ⟨ty_45, ⟨ty_46, ⟨ty_47, ⟨ty_48, ⟨ty_49, ⟨ty_51, ⟨ty_52, ⟨ty_53, ⟨ty_54, ⟨ty_55, ⟨ty_56, ⟨ty_57, ⟨ty_58, ⟨ty_59, ⟨ty_60, ⟨ty_61, ⟨ty_62, ⟨ty_64, ⟨ty_65, ⟨ty_66, ⟨ty_67, ⟨ty_68, ⟨ty_69, ⟨ty_70, ⟨ty_71, ⟨ty_72, ⟨ty_73, ⟨ty_74, ⟨ty_75, ⟨ty_76, ⟨ty_77, ⟨ty_78, ⟨ty_79, ⟨ty_80, ⟨ty_82, ⟨ty_83, ⟨ty_84, ⟨ty_85, ⟨ty_86, ⟨ty_87, ⟨ty_88, ⟨ty_89, ⟨ty_90, ⟨ty_91, ⟨ty_92, ⟨ty_93, ⟨ty_94, ⟨ty_95, ⟨ty_96, ⟨ty_97, ⟨ty_98, ⟨ty_99, ⟨ty_100, ⟨ty_101, ⟨ty_102, ⟨ty_103, ⟨ty_104, trivial⟩⟩⟩⟩⟩⟩⟩⟩⟩⟩⟩⟩⟩⟩⟩⟩⟩⟩⟩⟩⟩⟩⟩⟩⟩⟩⟩⟩⟩⟩⟩⟩⟩⟩⟩⟩⟩⟩⟩⟩⟩⟩⟩⟩⟩⟩⟩⟩⟩⟩⟩⟩⟩⟩⟩⟩⟩⟩⟩⟩⟩⟩⟩⟩⟩⟩⟩⟩⟩⟩⟩⟩⟩⟩⟩⟩⟩⟩⟩⟩⟩⟩⟩⟩⟩⟩⟩⟩⟩⟩⟩⟩⟩⟩⟩⟩⟩⟩
theorem tab_fld : allP (fun k x => fieldsP Try.prog k = some x) tab.fld := ⟨fl_7, ⟨fl_8, ⟨fl_13, ⟨fl_14, ⟨fl_18, ⟨fl_19, ⟨fl_40, ⟨fl_41, ⟨fl_48, ⟨fl_49, ⟨fl_65, ⟨fl_66, ⟨fl_84, ⟨fl_85, ⟨fl_89, ⟨fl_90, ⟨fl_92, ⟨fl_93, ⟨fl_102, ⟨fl_103, trivial⟩⟩⟩⟩⟩⟩⟩⟩⟩⟩⟩⟩⟩⟩⟩⟩⟩⟩⟩⟩
theorem tab_eqs : allP (fun k L => eqInts Try.prog k = true ∧ (match Try.prog.underlying k with | some (.struct fs) => fs.size | _ => 0) = L) tab.eqs := ⟨eq_40, ⟨eq_41, ⟨eq_65, ⟨eq_66, ⟨eq_84, ⟨eq_85, trivial⟩⟩⟩⟩⟩⟩
theorem tab_ok : tab.ok Try.prog := ⟨tab_und, tab_inf, tab_fld, tab_eqs⟩
theorem und_of {k : Nat} {D : TypeDesc} (h : lk tab.und k = some D) : Try.prog.underlying k = some D := allP_at tab_und h
theorem tyi_of {k : Nat} {x : Option Value × Nat × Nat} (h : lk tab.inf k = some x) : tyI Try.prog k = some x := allP_at tab_inf h
def cas : List (Nat × Nat) := [(2, 0), (3, 0), (4, 0), (5, 0), (6, 0), (7, 0), (8, 0), (9, 0), (10, 0), (11, 0), (12, 0), (13, 0), (14, 0), (15, 0), (16, 0), (17, 0), (18, 0), (19, 0), (20, 0), (21, 0), (22, 0), (23, 0), (24, 0), (25, 0), (26, 0), (27, 0), (28, 0), (29, 0), (30, 0), (31, 0), (32, 0), (33, 0), (34, 0), (35, 0), (36, 0), (37, 0), (38, 0), (39, 0), (40, 0), (41, 0), (42, 0), (43, 0), (44, 0), (45, 0), (46, 0), (47, 0), (48, 0), (49, 0), (50, 0), (51, 0), (52, 0), (53, 0), (54, 0), (55, 0), (56, 0), (57, 0), (58, 0), (59, 0), (60, 0), (61, 0), (62, 0), (63, 0), (64, 0), (65, 0), (66, 0), (67, 0), (68, 0), (69, 0), (70, 0), (71, 0), (72, 0), (73, 0)]
theorem ca_2 : callable Try.prog 2 = true := by kernel_rfl
theorem ca_3 : callable Try.prog 3 = true := by kernel_rfl
theorem ca_4 : callable Try.prog 4 = true := by kernel_rfl
theorem ca_5 : callable Try.prog 5 = true := by kernel_rfl
theorem ca_6 : callable Try.prog 6 = true := by kernel_rfl
theorem ca_7 : callable Try.prog 7 = true := by kernel_rfl
theorem ca_8 : callable Try.prog 8 = true := by kernel_rfl
theorem ca_9 : callable Try.prog 9 = true := by kernel_rfl
theorem ca_10 : callable Try.prog 10 = true := by kernel_rfl
theorem ca_11 : callable Try.prog 11 = true := by kernel_rfl
theorem ca_12 : callable Try.prog 12 = true := by kernel_rfl
theorem ca_13 : callable Try.prog 13 = true := by kernel_rfl
theorem ca_14 : callable Try.prog 14 = true := by kernel_rfl
theorem ca_15 : callable Try.prog 15 = true := by kernel_rfl
theorem ca_16 : callable Try.prog 16 = true := by kernel_rfl
theorem ca_17 : callable Try.prog 17 = true := by kernel_rfl
theorem ca_18 : callable Try.prog 18 = true := by kernel_rfl
theorem ca_19 : callable Try.prog 19 = true := by kernel_rfl
theorem ca_20 : callable Try.prog 20 = true := by kernel_rfl
theorem ca_21 : callable Try.prog 21 = true := by kernel_rfl
theorem ca_22 : callable Try.prog 22 = true := by kernel_rfl
theorem ca_23 : callable Try.prog 23 = true := by kernel_rfl
theorem ca_24 : callable Try.prog 24 = true := by kernel_rfl
theorem ca_25 : callable Try.prog 25 = true := by kernel_rfl
theorem ca_26 : callable Try.prog 26 = true := by kernel_rfl
theorem ca_27 : callable Try.prog 27 = true := by kernel_rfl
theorem ca_28 : callable Try.prog 28 = true := by kernel_rfl
theorem ca_29 : callable Try.prog 29 = true := by kernel_rfl
theorem ca_30 : callable Try.prog 30 = true := by kernel_rfl
theorem ca_31 : callable Try.prog 31 = true := by kernel_rfl
theorem ca_32 : callable Try.prog 32 = true := by kernel_rfl
theorem ca_33 : callable Try.prog 33 = true := by kernel_rfl
theorem ca_34 : callable Try.prog 34 = true := by kernel_rfl
theorem ca_35 : callable Try.prog 35 = true := by kernel_rfl
theorem ca_36 : callable Try.prog 36 = true := by kernel_rfl
theorem ca_37 : callable Try.prog 37 = true := by kernel_rfl
theorem ca_38 : callable Try.prog 38 = true := by kernel_rfl
theorem ca_39 : callable Try.prog 39 = true := by kernel_rfl
theorem ca_40 : callable Try.prog 40 = true := by kernel_rfl
theorem ca_41 : callable Try.prog 41 = true := by kernel_rfl
theorem ca_42 : callable Try.prog 42 = true := by kernel_rfl
theorem ca_43 : callable Try.prog 43 = true := by kernel_rfl
theorem ca_44 : callable Try.prog 44 = true := by kernel_rfl
theorem ca_45 : callable Try.prog 45 = true := by kernel_rfl
theorem ca_46 : callable Try.prog 46 = true := by kernel_rfl
theorem ca_47 : callable Try.prog 47 = true := by kernel_rfl
theorem ca_48 : callable Try.prog 48 = true := by kernel_rfl
theorem ca_49 : callable Try.prog 49 = true := by kernel_rfl
theorem ca_50 : callable Try.prog 50 = true := by kernel_rfl
theorem ca_51 : callable Try.prog 51 = true := by kernel_rfl
theorem ca_52 : callable Try.prog 52 = true := by kernel_rfl
theorem ca_53 : callable Try.prog 53 = true := by kernel_rfl
theorem ca_54 : callable Try.prog 54 = true := by kernel_rfl
theorem ca_55 : callable Try.prog 55 = true := by kernel_rfl
theorem ca_56 : callable Try.prog 56 = true := by kernel_rfl
theorem ca_57 : callable Try.prog 57 = true := by kernel_rfl
theorem ca_58 : callable Try.prog 58 = true := by kernel_rfl
theorem ca_59 : callable Try.prog 59 = true := by kernel_rfl
theorem ca_60 : callable Try.prog 60 = true := by kernel_rfl
theorem ca_61 : callable Try.prog 61 = true := by kernel_rfl
theorem ca_62 : callable Try.prog 62 = true := by kernel_rfl
theorem ca_63 : callable Try.prog 63 = true := by kernel_rfl
theorem ca_64 : callable Try.prog 64 = true := by kernel_rfl
theorem ca_65 : callable Try.prog 65 = true := by kernel_rfl
theorem ca_66 : callable Try.prog 66 = true := by kernel_rfl
theorem ca_67 : callable Try.prog 67 = true := by kernel_rfl
theorem ca_68 : callable Try.prog 68 = true := by kernel_rfl
theorem ca_69 : callable Try.prog 69 = true := by kernel_rfl
theorem ca_70 : callable Try.prog 70 = true := by kernel_rfl
theorem ca_71 : callable Try.prog 71 = true := by kernel_rfl
theorem ca_72 : callable Try.prog 72 = true := by kernel_rfl
theorem ca_73 : callable Try.prog 73 = true := by kernel_rfl
theorem cas_ok : allP (fun k _ => callable Try.prog k = true) cas := ⟨ca_2, ⟨ca_3, ⟨ca_4, ⟨ca_5, ⟨ca_6, ⟨ca_7, ⟨ca_8, ⟨ca_9, ⟨ca_10, ⟨ca_11, ⟨ca_12, ⟨ca_13, ⟨ca_14, ⟨ca_15, ⟨ca_16, ⟨ca_17, ⟨ca_18, ⟨ca_19, ⟨ca_20, ⟨ca_21, ⟨ca_22, ⟨ca_23, ⟨ca_24, ⟨ca_25, ⟨ca_26, ⟨ca_27, ⟨ca_28, ⟨ca_29, ⟨ca_30, ⟨ca_31, ⟨ca_32, ⟨ca_33, ⟨ca_34, ⟨ca_35, ⟨ca_36, ⟨ca_37, ⟨ca_38, ⟨ca_39, ⟨ca_40, ⟨ca_41, ⟨ca_42, ⟨ca_43, ⟨ca_44, ⟨ca_45, ⟨ca_46, ⟨ca_47, ⟨ca_48, ⟨ca_49, ⟨ca_50, ⟨ca_51, ⟨ca_52, ⟨ca_53, ⟨ca_54, ⟨ca_55, ⟨ca_56, ⟨ca_57, ⟨ca_58, ⟨ca_59, ⟨ca_60, ⟨ca_61, ⟨ca_62, ⟨ca_63, ⟨ca_64, ⟨ca_65, ⟨ca_66, ⟨ca_67, ⟨ca_68, ⟨ca_69, ⟨ca_70, ⟨ca_71, ⟨ca_72, ⟨ca_73, trivial⟩⟩⟩⟩⟩⟩⟩⟩⟩⟩⟩⟩⟩⟩⟩⟩⟩⟩⟩⟩⟩⟩⟩⟩⟩⟩⟩⟩⟩⟩⟩⟩⟩⟩⟩⟩⟩⟩⟩⟩⟩⟩⟩⟩⟩⟩⟩⟩⟩⟩⟩⟩⟩⟩⟩⟩⟩⟩⟩⟩⟩⟩⟩⟩⟩⟩⟩⟩⟩⟩⟩⟩
theorem ca_of {k x : Nat} (h : lk cas k = some x) : callable Try.prog k = true := allP_at cas_ok h
end Go.Proofs.Ytlbnicapkfmdoaa
