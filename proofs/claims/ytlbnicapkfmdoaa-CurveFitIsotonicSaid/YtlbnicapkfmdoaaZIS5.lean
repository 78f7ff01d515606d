/- CurveFitIsotonic: for every input this law returns true and leaves its arguments as they were. -/
import Derived.Test.YtlbnicapkfmdoaaZIS4
import Derived.Test.YtlbnicapkfmdoaaProg
import Derived.Test.YtlbnicapkfmdoaaRows
import Derived.WalkKit
import Derived.ProofKit
import Derived.SizedLaws
import Derived.BigQuiet
import Derived.Deep.QuietTactic
import Derived.Deep.Slices
import Derived.OpenShut
/- Facts on the types and functions that the symbolic walks ask for (printed by a program). -/
set_option maxRecDepth 1000000
namespace Go.Proofs.Ytlbnicapkfmdoaa
open Go
def tab : Tab := {
  und := [(0, Go.TypeDesc.tuple #[]),
    (1, Go.TypeDesc.func #[] #[] false),
    (2, Go.TypeDesc.int (Go.IntKind.i64)),
    (3, Go.TypeDesc.int (Go.IntKind.i64)),
    (4, Go.TypeDesc.bool),
    (5, Go.TypeDesc.int (Go.IntKind.u8)),
    (6, Go.TypeDesc.int (Go.IntKind.u8)),
    (7, Go.TypeDesc.struct #[{ name := "x", type := 2, offset := 0, embedded := false, tag := "", pkgPath := "runtime", byteOffset := 0 }, { name := "y", type := 3, offset := 1, embedded := false, tag := "", pkgPath := "runtime", byteOffset := 8 }, { name := "signed", type := 4, offset := 2, embedded := false, tag := "", pkgPath := "runtime", byteOffset := 16 }, { name := "code", type := 6, offset := 3, embedded := false, tag := "", pkgPath := "runtime", byteOffset := 17 }]),
    (8, Go.TypeDesc.struct #[{ name := "x", type := 2, offset := 0, embedded := false, tag := "", pkgPath := "runtime", byteOffset := 0 }, { name := "y", type := 3, offset := 1, embedded := false, tag := "", pkgPath := "runtime", byteOffset := 8 }, { name := "signed", type := 4, offset := 2, embedded := false, tag := "", pkgPath := "runtime", byteOffset := 16 }, { name := "code", type := 6, offset := 3, embedded := false, tag := "", pkgPath := "runtime", byteOffset := 17 }]),
    (9, Go.TypeDesc.string),
    (10, Go.TypeDesc.string),
    (11, Go.TypeDesc.string),
    (12, Go.TypeDesc.int (Go.IntKind.u64)),
    (13, Go.TypeDesc.struct #[{ name := "msg", type := 9, offset := 0, embedded := false, tag := "", pkgPath := "runtime", byteOffset := 0 }, { name := "addr", type := 12, offset := 1, embedded := false, tag := "", pkgPath := "runtime", byteOffset := 16 }]),
    (14, Go.TypeDesc.struct #[{ name := "msg", type := 9, offset := 0, embedded := false, tag := "", pkgPath := "runtime", byteOffset := 0 }, { name := "addr", type := 12, offset := 1, embedded := false, tag := "", pkgPath := "runtime", byteOffset := 16 }]),
    (15, Go.TypeDesc.pointer 90),
    (16, Go.TypeDesc.pointer 93),
    (17, Go.TypeDesc.pointer 103),
    (18, Go.TypeDesc.struct #[{ name := "typ", type := 17, offset := 0, embedded := false, tag := "", pkgPath := "internal/runtime/maps", byteOffset := 0 }]),
    (19, Go.TypeDesc.struct #[{ name := "typ", type := 17, offset := 0, embedded := false, tag := "", pkgPath := "internal/runtime/maps", byteOffset := 0 }]),
    (20, Go.TypeDesc.interface #[]),
    (21, Go.TypeDesc.int (Go.IntKind.i32)),
    (22, Go.TypeDesc.func #[] #[4] false),
    (23, Go.TypeDesc.int (Go.IntKind.i64)),
    (24, Go.TypeDesc.tuple #[3, 23]),
    (25, Go.TypeDesc.func #[3] #[3, 23] false),
    (26, Go.TypeDesc.func #[3, 3, 3] #[4] false),
    (27, Go.TypeDesc.func #[4, 23, 23] #[4] false),
    (28, Go.TypeDesc.func #[3] #[3] false),
    (29, Go.TypeDesc.func #[3, 3] #[4] false),
    (30, Go.TypeDesc.func #[3, 3] #[3, 23] false),
    (31, Go.TypeDesc.func #[3, 3] #[3] false),
    (32, Go.TypeDesc.slice 3),
    (33, Go.TypeDesc.tuple #[32, 23]),
    (34, Go.TypeDesc.func #[32, 32, 32] #[32, 23] false),
    (35, Go.TypeDesc.func #[32, 3, 3] #[23] false),
    (36, Go.TypeDesc.func #[32, 32] #[4] false),
    (37, Go.TypeDesc.func #[32, 32, 32] #[4] false),
    (38, Go.TypeDesc.slice 41),
    (39, Go.TypeDesc.func #[32] #[32, 23] false),
    (40, Go.TypeDesc.struct #[{ name := "L", type := 3, offset := 0, embedded := false, tag := "", pkgPath := "", byteOffset := 0 }, { name := "A", type := 3, offset := 1, embedded := false, tag := "", pkgPath := "", byteOffset := 8 }, { name := "B", type := 3, offset := 2, embedded := false, tag := "", pkgPath := "", byteOffset := 16 }]),
    (41, Go.TypeDesc.struct #[{ name := "L", type := 3, offset := 0, embedded := false, tag := "", pkgPath := "", byteOffset := 0 }, { name := "A", type := 3, offset := 1, embedded := false, tag := "", pkgPath := "", byteOffset := 8 }, { name := "B", type := 3, offset := 2, embedded := false, tag := "", pkgPath := "", byteOffset := 16 }]),
    (42, Go.TypeDesc.tuple #[41, 23]),
    (43, Go.TypeDesc.func #[38, 32] #[41, 23] false),
    (44, Go.TypeDesc.func #[32, 3] #[3] false),
    (45, Go.TypeDesc.func #[41] #[23] false),
    (46, Go.TypeDesc.func #[38, 32] #[4] false),
    (47, Go.TypeDesc.slice 66),
    (48, Go.TypeDesc.struct #[{ name := "Points", type := 47, offset := 0, embedded := false, tag := "", pkgPath := "", byteOffset := 0 }]),
    (49, Go.TypeDesc.struct #[{ name := "Points", type := 47, offset := 0, embedded := false, tag := "", pkgPath := "", byteOffset := 0 }]),
    (50, Go.TypeDesc.tuple #[32, 3, 23]),
    (51, Go.TypeDesc.func #[32, 49] #[32, 3, 23] false),
    (52, Go.TypeDesc.func #[32, 49, 3] #[32, 23] false),
    (53, Go.TypeDesc.func #[49] #[23] false),
    (54, Go.TypeDesc.func #[49, 3] #[3] false),
    (55, Go.TypeDesc.func #[32, 3, 3] #[32] false),
    (56, Go.TypeDesc.func #[32, 49, 3] #[4] false),
    (57, Go.TypeDesc.func #[32] #[3, 23] false),
    (58, Go.TypeDesc.func #[32, 3, 3] #[32, 23] false),
    (59, Go.TypeDesc.func #[32] #[3] false),
    (60, Go.TypeDesc.func #[32, 3, 3] #[4] false),
    (61, Go.TypeDesc.func #[49, 3] #[3, 23] false),
    (62, Go.TypeDesc.func #[49, 3] #[4] false),
    (63, Go.TypeDesc.tuple #[49, 23]),
    (64, Go.TypeDesc.func #[47] #[49, 23] false),
    (65, Go.TypeDesc.struct #[{ name := "X", type := 3, offset := 0, embedded := false, tag := "", pkgPath := "", byteOffset := 0 }, { name := "Y", type := 3, offset := 1, embedded := false, tag := "", pkgPath := "", byteOffset := 8 }]),
    (66, Go.TypeDesc.struct #[{ name := "X", type := 3, offset := 0, embedded := false, tag := "", pkgPath := "", byteOffset := 0 }, { name := "Y", type := 3, offset := 1, embedded := false, tag := "", pkgPath := "", byteOffset := 8 }]),
    (67, Go.TypeDesc.slice 69),
    (68, Go.TypeDesc.func #[47] #[67] false),
    (69, Go.TypeDesc.array 2 3),
    (70, Go.TypeDesc.func #[49, 49] #[4] false),
    (71, Go.TypeDesc.func #[47] #[4] false),
    (72, Go.TypeDesc.func #[49] #[32, 23] false),
    (73, Go.TypeDesc.func #[49] #[4] false),
    (74, Go.TypeDesc.int (Go.IntKind.u64)),
    (75, Go.TypeDesc.func #[3] #[23] false),
    (76, Go.TypeDesc.func #[32, 3] #[23] false),
    (77, Go.TypeDesc.func #[3] #[31] false),
    (78, Go.TypeDesc.func #[32] #[23] false),
    (79, Go.TypeDesc.func #[32] #[32] false),
    (80, Go.TypeDesc.func #[] #[49] false),
    (81, Go.TypeDesc.tuple #[32, 3]),
    (82, Go.TypeDesc.func #[32, 49] #[32, 3] false),
    (83, Go.TypeDesc.slice 85),
    (84, Go.TypeDesc.struct #[{ name := "sum", type := 3, offset := 0, embedded := false, tag := "", pkgPath := "printworks/curve", byteOffset := 0 }, { name := "n", type := 3, offset := 1, embedded := false, tag := "", pkgPath := "printworks/curve", byteOffset := 8 }]),
    (85, Go.TypeDesc.struct #[{ name := "sum", type := 3, offset := 0, embedded := false, tag := "", pkgPath := "printworks/curve", byteOffset := 0 }, { name := "n", type := 3, offset := 1, embedded := false, tag := "", pkgPath := "printworks/curve", byteOffset := 8 }]),
    (86, Go.TypeDesc.func #[87] #[3] false),
    (87, Go.TypeDesc.int (Go.IntKind.u64)),
    (88, Go.TypeDesc.func #[] #[9] false),
    (89, Go.TypeDesc.struct #[{ name := "_interface", type := 17, offset := 0, embedded := false, tag := "", pkgPath := "runtime", byteOffset := 0 }, { name := "concrete", type := 17, offset := 1, embedded := false, tag := "", pkgPath := "runtime", byteOffset := 8 }, { name := "asserted", type := 17, offset := 2, embedded := false, tag := "", pkgPath := "runtime", byteOffset := 16 }, { name := "missingMethod", type := 9, offset := 3, embedded := false, tag := "", pkgPath := "runtime", byteOffset := 24 }]),
    (90, Go.TypeDesc.struct #[{ name := "_interface", type := 17, offset := 0, embedded := false, tag := "", pkgPath := "runtime", byteOffset := 0 }, { name := "concrete", type := 17, offset := 1, embedded := false, tag := "", pkgPath := "runtime", byteOffset := 8 }, { name := "asserted", type := 17, offset := 2, embedded := false, tag := "", pkgPath := "runtime", byteOffset := 16 }, { name := "missingMethod", type := 9, offset := 3, embedded := false, tag := "", pkgPath := "runtime", byteOffset := 24 }]),
    (91, Go.TypeDesc.array 0 16),
    (92, Go.TypeDesc.struct #[{ name := "_", type := 91, offset := 0, embedded := false, tag := "", pkgPath := "runtime", byteOffset := 0 }]),
    (93, Go.TypeDesc.struct #[{ name := "_", type := 91, offset := 0, embedded := false, tag := "", pkgPath := "runtime", byteOffset := 0 }]),
    (94, Go.TypeDesc.func #[] #[3] false),
    (95, Go.TypeDesc.int (Go.IntKind.u32)),
    (96, Go.TypeDesc.int (Go.IntKind.u8)),
    (97, Go.TypeDesc.int (Go.IntKind.u8)),
    (98, Go.TypeDesc.func #[104, 104] #[4] false),
    (99, Go.TypeDesc.pointer 5),
    (100, Go.TypeDesc.int (Go.IntKind.i32)),
    (101, Go.TypeDesc.int (Go.IntKind.i32)),
    (102, Go.TypeDesc.struct #[{ name := "Size_", type := 12, offset := 0, embedded := false, tag := "", pkgPath := "", byteOffset := 0 }, { name := "PtrBytes", type := 12, offset := 1, embedded := false, tag := "", pkgPath := "", byteOffset := 8 }, { name := "Hash", type := 95, offset := 2, embedded := false, tag := "", pkgPath := "", byteOffset := 16 }, { name := "TFlag", type := 96, offset := 3, embedded := false, tag := "", pkgPath := "", byteOffset := 20 }, { name := "Align_", type := 5, offset := 4, embedded := false, tag := "", pkgPath := "", byteOffset := 21 }, { name := "FieldAlign_", type := 5, offset := 5, embedded := false, tag := "", pkgPath := "", byteOffset := 22 }, { name := "Kind_", type := 97, offset := 6, embedded := false, tag := "", pkgPath := "", byteOffset := 23 }, { name := "Equal", type := 98, offset := 7, embedded := false, tag := "", pkgPath := "", byteOffset := 24 }, { name := "GCData", type := 99, offset := 8, embedded := false, tag := "", pkgPath := "", byteOffset := 32 }, { name := "Str", type := 100, offset := 9, embedded := false, tag := "", pkgPath := "", byteOffset := 40 }, { name := "PtrToThis", type := 101, offset := 10, embedded := false, tag := "", pkgPath := "", byteOffset := 44 }]),
    (103, Go.TypeDesc.struct #[{ name := "Size_", type := 12, offset := 0, embedded := false, tag := "", pkgPath := "", byteOffset := 0 }, { name := "PtrBytes", type := 12, offset := 1, embedded := false, tag := "", pkgPath := "", byteOffset := 8 }, { name := "Hash", type := 95, offset := 2, embedded := false, tag := "", pkgPath := "", byteOffset := 16 }, { name := "TFlag", type := 96, offset := 3, embedded := false, tag := "", pkgPath := "", byteOffset := 20 }, { name := "Align_", type := 5, offset := 4, embedded := false, tag := "", pkgPath := "", byteOffset := 21 }, { name := "FieldAlign_", type := 5, offset := 5, embedded := false, tag := "", pkgPath := "", byteOffset := 22 }, { name := "Kind_", type := 97, offset := 6, embedded := false, tag := "", pkgPath := "", byteOffset := 23 }, { name := "Equal", type := 98, offset := 7, embedded := false, tag := "", pkgPath := "", byteOffset := 24 }, { name := "GCData", type := 99, offset := 8, embedded := false, tag := "", pkgPath := "", byteOffset := 32 }, { name := "Str", type := 100, offset := 9, embedded := false, tag := "", pkgPath := "", byteOffset := 40 }, { name := "PtrToThis", type := 101, offset := 10, embedded := false, tag := "", pkgPath := "", byteOffset := 44 }]),
    (104, Go.TypeDesc.unsafePointer)],
  inf := [(1, (some (.nilFunc), 1, 8)),
    (2, (some (.int .i64 0), 1, 8)),
    (3, (some (.int .i64 0), 1, 8)),
    (4, (some (.bool false), 1, 1)),
    (5, (some (.int .u8 0), 1, 1)),
    (6, (some (.int .u8 0), 1, 1)),
    (7, (some (.agg #[.int .i64 0, .int .i64 0, .bool false, .int .u8 0]), 4, 24)),
    (8, (some (.agg #[.int .i64 0, .int .i64 0, .bool false, .int .u8 0]), 4, 24)),
    (9, (some (.string ByteArray.empty), 1, 16)),
    (10, (some (.string ByteArray.empty), 1, 16)),
    (11, (some (.string ByteArray.empty), 1, 16)),
    (12, (some (.int .u64 0), 1, 8)),
    (13, (some (.agg #[.string ByteArray.empty, .int .u64 0]), 2, 24)),
    (14, (some (.agg #[.string ByteArray.empty, .int .u64 0]), 2, 24)),
    (15, (some (.pointer none), 1, 8)),
    (16, (some (.pointer none), 1, 8)),
    (17, (some (.pointer none), 1, 8)),
    (18, (some (.agg #[.pointer none]), 1, 8)),
    (19, (some (.agg #[.pointer none]), 1, 8)),
    (20, (some (.nilIface), 1, 16)),
    (21, (some (.int .i32 0), 1, 4)),
    (22, (some (.nilFunc), 1, 8)),
    (23, (some (.int .i64 0), 1, 8)),
    (25, (some (.nilFunc), 1, 8)),
    (26, (some (.nilFunc), 1, 8)),
    (27, (some (.nilFunc), 1, 8)),
    (28, (some (.nilFunc), 1, 8)),
    (29, (some (.nilFunc), 1, 8)),
    (30, (some (.nilFunc), 1, 8)),
    (31, (some (.nilFunc), 1, 8)),
    (32, (some (.slice none 0 0), 1, 24)),
    (34, (some (.nilFunc), 1, 8)),
    (35, (some (.nilFunc), 1, 8)),
    (36, (some (.nilFunc), 1, 8)),
    (37, (some (.nilFunc), 1, 8)),
    (38, (some (.slice none 0 0), 1, 24)),
    (39, (some (.nilFunc), 1, 8)),
    (40, (some (.agg #[.int .i64 0, .int .i64 0, .int .i64 0]), 3, 24)),
    (41, (some (.agg #[.int .i64 0, .int .i64 0, .int .i64 0]), 3, 24)),
    (43, (some (.nilFunc), 1, 8)),
    (44, (some (.nilFunc), 1, 8)),
    (45, (some (.nilFunc), 1, 8)),
    (46, (some (.nilFunc), 1, 8)),
    (47, (some (.slice none 0 0), 1, 24)),
    (48, (some (.agg #[.slice none 0 0]), 1, 24)),
    (49, (some (.agg #[.slice none 0 0]), 1, 24)),
    (51, (some (.nilFunc), 1, 8)),
    (52, (some (.nilFunc), 1, 8)),
    (53, (some (.nilFunc), 1, 8)),
    (54, (some (.nilFunc), 1, 8)),
    (55, (some (.nilFunc), 1, 8)),
    (56, (some (.nilFunc), 1, 8)),
    (57, (some (.nilFunc), 1, 8)),
    (58, (some (.nilFunc), 1, 8)),
    (59, (some (.nilFunc), 1, 8)),
    (60, (some (.nilFunc), 1, 8)),
    (61, (some (.nilFunc), 1, 8)),
    (62, (some (.nilFunc), 1, 8)),
    (64, (some (.nilFunc), 1, 8)),
    (65, (some (.agg #[.int .i64 0, .int .i64 0]), 2, 16)),
    (66, (some (.agg #[.int .i64 0, .int .i64 0]), 2, 16)),
    (67, (some (.slice none 0 0), 1, 24)),
    (68, (some (.nilFunc), 1, 8)),
    (69, (some (.agg #[.int .i64 0, .int .i64 0]), 2, 16)),
    (70, (some (.nilFunc), 1, 8)),
    (71, (some (.nilFunc), 1, 8)),
    (72, (some (.nilFunc), 1, 8)),
    (73, (some (.nilFunc), 1, 8)),
    (74, (some (.int .u64 0), 1, 8)),
    (75, (some (.nilFunc), 1, 8)),
    (76, (some (.nilFunc), 1, 8)),
    (77, (some (.nilFunc), 1, 8)),
    (78, (some (.nilFunc), 1, 8)),
    (79, (some (.nilFunc), 1, 8)),
    (80, (some (.nilFunc), 1, 8)),
    (82, (some (.nilFunc), 1, 8)),
    (83, (some (.slice none 0 0), 1, 24)),
    (84, (some (.agg #[.int .i64 0, .int .i64 0]), 2, 16)),
    (85, (some (.agg #[.int .i64 0, .int .i64 0]), 2, 16)),
    (86, (some (.nilFunc), 1, 8)),
    (87, (some (.int .u64 0), 1, 8)),
    (88, (some (.nilFunc), 1, 8)),
    (89, (some (.agg #[.pointer none, .pointer none, .pointer none, .string ByteArray.empty]), 4, 40)),
    (90, (some (.agg #[.pointer none, .pointer none, .pointer none, .string ByteArray.empty]), 4, 40)),
    (91, (some (.agg #[]), 0, 0)),
    (92, (some (.agg #[]), 0, 0)),
    (93, (some (.agg #[]), 0, 0)),
    (94, (some (.nilFunc), 1, 8)),
    (95, (some (.int .u32 0), 1, 4)),
    (96, (some (.int .u8 0), 1, 1)),
    (97, (some (.int .u8 0), 1, 1)),
    (98, (some (.nilFunc), 1, 8)),
    (99, (some (.pointer none), 1, 8)),
    (100, (some (.int .i32 0), 1, 4)),
    (101, (some (.int .i32 0), 1, 4)),
    (102, (some (.agg #[.int .u64 0, .int .u64 0, .int .u32 0, .int .u8 0, .int .u8 0, .int .u8 0, .int .u8 0, .nilFunc, .pointer none, .int .i32 0, .int .i32 0]), 11, 48)),
    (103, (some (.agg #[.int .u64 0, .int .u64 0, .int .u32 0, .int .u8 0, .int .u8 0, .int .u8 0, .int .u8 0, .nilFunc, .pointer none, .int .i32 0, .int .i32 0]), 11, 48)),
    (104, (some (.pointer none), 1, 8))],
  fld := [(7, [(0, (1, false)), (1, (1, false)), (2, (1, false)), (3, (1, false))]),
    (8, [(0, (1, false)), (1, (1, false)), (2, (1, false)), (3, (1, false))]),
    (13, [(0, (1, false)), (1, (1, false))]),
    (14, [(0, (1, false)), (1, (1, false))]),
    (18, [(0, (1, false))]),
    (19, [(0, (1, false))]),
    (40, [(0, (1, false)), (1, (1, false)), (2, (1, false))]),
    (41, [(0, (1, false)), (1, (1, false)), (2, (1, false))]),
    (48, [(0, (1, false))]),
    (49, [(0, (1, false))]),
    (65, [(0, (1, false)), (1, (1, false))]),
    (66, [(0, (1, false)), (1, (1, false))]),
    (84, [(0, (1, false)), (1, (1, false))]),
    (85, [(0, (1, false)), (1, (1, false))]),
    (89, [(0, (1, false)), (1, (1, false)), (2, (1, false)), (3, (1, false))]),
    (90, [(0, (1, false)), (1, (1, false)), (2, (1, false)), (3, (1, false))]),
    (92, [(0, (0, true))]),
    (93, [(0, (0, true))]),
    (102, [(0, (1, false)), (1, (1, false)), (2, (1, false)), (3, (1, false)), (4, (1, false)), (5, (1, false)), (6, (1, false)), (7, (1, false)), (8, (1, false)), (9, (1, false)), (10, (1, false))]),
    (103, [(0, (1, false)), (1, (1, false)), (2, (1, false)), (3, (1, false)), (4, (1, false)), (5, (1, false)), (6, (1, false)), (7, (1, false)), (8, (1, false)), (9, (1, false)), (10, (1, false))])],
  eqs := [(40, 3), (41, 3), (65, 2), (66, 2), (84, 2), (85, 2)] }
theorem ty_1 : tyI Try.prog 1 = some (some (.nilFunc), 1, 8) := by kernel_rfl
theorem ty_2 : tyI Try.prog 2 = some (some (.int .i64 0), 1, 8) := by kernel_rfl
theorem ty_3 : tyI Try.prog 3 = some (some (.int .i64 0), 1, 8) := by kernel_rfl
theorem ty_4 : tyI Try.prog 4 = some (some (.bool false), 1, 1) := by kernel_rfl
theorem ty_5 : tyI Try.prog 5 = some (some (.int .u8 0), 1, 1) := by kernel_rfl
theorem ty_6 : tyI Try.prog 6 = some (some (.int .u8 0), 1, 1) := by kernel_rfl
theorem ty_7 : tyI Try.prog 7 = some (some (.agg #[.int .i64 0, .int .i64 0, .bool false, .int .u8 0]), 4, 24) := by kernel_rfl
theorem ty_8 : tyI Try.prog 8 = some (some (.agg #[.int .i64 0, .int .i64 0, .bool false, .int .u8 0]), 4, 24) := by kernel_rfl
theorem ty_9 : tyI Try.prog 9 = some (some (.string ByteArray.empty), 1, 16) := by kernel_rfl
theorem ty_10 : tyI Try.prog 10 = some (some (.string ByteArray.empty), 1, 16) := by kernel_rfl
theorem ty_11 : tyI Try.prog 11 = some (some (.string ByteArray.empty), 1, 16) := by kernel_rfl
theorem ty_12 : tyI Try.prog 12 = some (some (.int .u64 0), 1, 8) := by kernel_rfl
theorem ty_13 : tyI Try.prog 13 = some (some (.agg #[.string ByteArray.empty, .int .u64 0]), 2, 24) := by kernel_rfl
theorem ty_14 : tyI Try.prog 14 = some (some (.agg #[.string ByteArray.empty, .int .u64 0]), 2, 24) := by kernel_rfl
theorem ty_15 : tyI Try.prog 15 = some (some (.pointer none), 1, 8) := by kernel_rfl
theorem ty_16 : tyI Try.prog 16 = some (some (.pointer none), 1, 8) := by kernel_rfl
theorem ty_17 : tyI Try.prog 17 = some (some (.pointer none), 1, 8) := by kernel_rfl
theorem ty_18 : tyI Try.prog 18 = some (some (.agg #[.pointer none]), 1, 8) := by kernel_rfl
theorem ty_19 : tyI Try.prog 19 = some (some (.agg #[.pointer none]), 1, 8) := by kernel_rfl
theorem ty_20 : tyI Try.prog 20 = some (some (.nilIface), 1, 16) := by kernel_rfl
theorem ty_21 : tyI Try.prog 21 = some (some (.int .i32 0), 1, 4) := by kernel_rfl
theorem ty_22 : tyI Try.prog 22 = some (some (.nilFunc), 1, 8) := by kernel_rfl
theorem ty_23 : tyI Try.prog 23 = some (some (.int .i64 0), 1, 8) := by kernel_rfl
theorem ty_25 : tyI Try.prog 25 = some (some (.nilFunc), 1, 8) := by kernel_rfl
theorem ty_26 : tyI Try.prog 26 = some (some (.nilFunc), 1, 8) := by kernel_rfl
theorem ty_27 : tyI Try.prog 27 = some (some (.nilFunc), 1, 8) := by kernel_rfl
theorem ty_28 : tyI Try.prog 28 = some (some (.nilFunc), 1, 8) := by kernel_rfl
theorem ty_29 : tyI Try.prog 29 = some (some (.nilFunc), 1, 8) := by kernel_rfl
theorem ty_30 : tyI Try.prog 30 = some (some (.nilFunc), 1, 8) := by kernel_rfl
theorem ty_31 : tyI Try.prog 31 = some (some (.nilFunc), 1, 8) := by kernel_rfl
theorem ty_32 : tyI Try.prog 32 = some (some (.slice none 0 0), 1, 24) := by kernel_rfl
theorem ty_34 : tyI Try.prog 34 = some (some (.nilFunc), 1, 8) := by kernel_rfl
theorem ty_35 : tyI Try.prog 35 = some (some (.nilFunc), 1, 8) := by kernel_rfl
theorem ty_36 : tyI Try.prog 36 = some (some (.nilFunc), 1, 8) := by kernel_rfl
theorem ty_37 : tyI Try.prog 37 = some (some (.nilFunc), 1, 8) := by kernel_rfl
theorem ty_38 : tyI Try.prog 38 = some (some (.slice none 0 0), 1, 24) := by kernel_rfl
theorem ty_39 : tyI Try.prog 39 = some (some (.nilFunc), 1, 8) := by kernel_rfl
theorem ty_40 : tyI Try.prog 40 = some (some (.agg #[.int .i64 0, .int .i64 0, .int .i64 0]), 3, 24) := by kernel_rfl
theorem ty_41 : tyI Try.prog 41 = some (some (.agg #[.int .i64 0, .int .i64 0, .int .i64 0]), 3, 24) := by kernel_rfl
theorem ty_43 : tyI Try.prog 43 = some (some (.nilFunc), 1, 8) := by kernel_rfl
theorem ty_44 : tyI Try.prog 44 = some (some (.nilFunc), 1, 8) := by kernel_rfl
theorem ty_45 : tyI Try.prog 45 = some (some (.nilFunc), 1, 8) := by kernel_rfl
theorem ty_46 : tyI Try.prog 46 = some (some (.nilFunc), 1, 8) := by kernel_rfl
theorem ty_47 : tyI Try.prog 47 = some (some (.slice none 0 0), 1, 24) := by kernel_rfl
theorem ty_48 : tyI Try.prog 48 = some (some (.agg #[.slice none 0 0]), 1, 24) := by kernel_rfl
theorem ty_49 : tyI Try.prog 49 = some (some (.agg #[.slice none 0 0]), 1, 24) := by kernel_rfl
theorem ty_51 : tyI Try.prog 51 = some (some (.nilFunc), 1, 8) := by kernel_rfl
theorem ty_52 : tyI Try.prog 52 = some (some (.nilFunc), 1, 8) := by kernel_rfl
theorem ty_53 : tyI Try.prog 53 = some (some (.nilFunc), 1, 8) := by kernel_rfl
theorem ty_54 : tyI Try.prog 54 = some (some (.nilFunc), 1, 8) := by kernel_rfl
theorem ty_55 : tyI Try.prog 55 = some (some (.nilFunc), 1, 8) := by kernel_rfl
theorem ty_56 : tyI Try.prog 56 = some (some (.nilFunc), 1, 8) := by kernel_rfl
theorem ty_57 : tyI Try.prog 57 = some (some (.nilFunc), 1, 8) := by kernel_rfl
theorem ty_58 : tyI Try.prog 58 = some (some (.nilFunc), 1, 8) := by kernel_rfl
theorem ty_59 : tyI Try.prog 59 = some (some (.nilFunc), 1, 8) := by kernel_rfl
theorem ty_60 : tyI Try.prog 60 = some (some (.nilFunc), 1, 8) := by kernel_rfl
theorem ty_61 : tyI Try.prog 61 = some (some (.nilFunc), 1, 8) := by kernel_rfl
theorem ty_62 : tyI Try.prog 62 = some (some (.nilFunc), 1, 8) := by kernel_rfl
theorem ty_64 : tyI Try.prog 64 = some (some (.nilFunc), 1, 8) := by kernel_rfl
theorem ty_65 : tyI Try.prog 65 = some (some (.agg #[.int .i64 0, .int .i64 0]), 2, 16) := by kernel_rfl
theorem ty_66 : tyI Try.prog 66 = some (some (.agg #[.int .i64 0, .int .i64 0]), 2, 16) := by kernel_rfl
theorem ty_67 : tyI Try.prog 67 = some (some (.slice none 0 0), 1, 24) := by kernel_rfl
theorem ty_68 : tyI Try.prog 68 = some (some (.nilFunc), 1, 8) := by kernel_rfl
theorem ty_69 : tyI Try.prog 69 = some (some (.agg #[.int .i64 0, .int .i64 0]), 2, 16) := by kernel_rfl
theorem ty_70 : tyI Try.prog 70 = some (some (.nilFunc), 1, 8) := by kernel_rfl
theorem ty_71 : tyI Try.prog 71 = some (some (.nilFunc), 1, 8) := by kernel_rfl
theorem ty_72 : tyI Try.prog 72 = some (some (.nilFunc), 1, 8) := by kernel_rfl
theorem ty_73 : tyI Try.prog 73 = some (some (.nilFunc), 1, 8) := by kernel_rfl
theorem ty_74 : tyI Try.prog 74 = some (some (.int .u64 0), 1, 8) := by kernel_rfl
theorem ty_75 : tyI Try.prog 75 = some (some (.nilFunc), 1, 8) := by kernel_rfl
theorem ty_76 : tyI Try.prog 76 = some (some (.nilFunc), 1, 8) := by kernel_rfl
theorem ty_77 : tyI Try.prog 77 = some (some (.nilFunc), 1, 8) := by kernel_rfl
theorem ty_78 : tyI Try.prog 78 = some (some (.nilFunc), 1, 8) := by kernel_rfl
theorem ty_79 : tyI Try.prog 79 = some (some (.nilFunc), 1, 8) := by kernel_rfl
theorem ty_80 : tyI Try.prog 80 = some (some (.nilFunc), 1, 8) := by kernel_rfl
theorem ty_82 : tyI Try.prog 82 = some (some (.nilFunc), 1, 8) := by kernel_rfl
theorem ty_83 : tyI Try.prog 83 = some (some (.slice none 0 0), 1, 24) := by kernel_rfl
theorem ty_84 : tyI Try.prog 84 = some (some (.agg #[.int .i64 0, .int .i64 0]), 2, 16) := by kernel_rfl
theorem ty_85 : tyI Try.prog 85 = some (some (.agg #[.int .i64 0, .int .i64 0]), 2, 16) := by kernel_rfl
theorem ty_86 : tyI Try.prog 86 = some (some (.nilFunc), 1, 8) := by kernel_rfl
theorem ty_87 : tyI Try.prog 87 = some (some (.int .u64 0), 1, 8) := by kernel_rfl
theorem ty_88 : tyI Try.prog 88 = some (some (.nilFunc), 1, 8) := by kernel_rfl
theorem ty_89 : tyI Try.prog 89 = some (some (.agg #[.pointer none, .pointer none, .pointer none, .string ByteArray.empty]), 4, 40) := by kernel_rfl
theorem ty_90 : tyI Try.prog 90 = some (some (.agg #[.pointer none, .pointer none, .pointer none, .string ByteArray.empty]), 4, 40) := by kernel_rfl
theorem ty_91 : tyI Try.prog 91 = some (some (.agg #[]), 0, 0) := by kernel_rfl
theorem ty_92 : tyI Try.prog 92 = some (some (.agg #[]), 0, 0) := by kernel_rfl
theorem ty_93 : tyI Try.prog 93 = some (some (.agg #[]), 0, 0) := by kernel_rfl
theorem ty_94 : tyI Try.prog 94 = some (some (.nilFunc), 1, 8) := by kernel_rfl
theorem ty_95 : tyI Try.prog 95 = some (some (.int .u32 0), 1, 4) := by kernel_rfl
theorem ty_96 : tyI Try.prog 96 = some (some (.int .u8 0), 1, 1) := by kernel_rfl
theorem ty_97 : tyI Try.prog 97 = some (some (.int .u8 0), 1, 1) := by kernel_rfl
theorem ty_98 : tyI Try.prog 98 = some (some (.nilFunc), 1, 8) := by kernel_rfl
theorem ty_99 : tyI Try.prog 99 = some (some (.pointer none), 1, 8) := by kernel_rfl
theorem ty_100 : tyI Try.prog 100 = some (some (.int .i32 0), 1, 4) := by kernel_rfl
theorem ty_101 : tyI Try.prog 101 = some (some (.int .i32 0), 1, 4) := by kernel_rfl
theorem ty_102 : tyI Try.prog 102 = some (some (.agg #[.int .u64 0, .int .u64 0, .int .u32 0, .int .u8 0, .int .u8 0, .int .u8 0, .int .u8 0, .nilFunc, .pointer none, .int .i32 0, .int .i32 0]), 11, 48) := by kernel_rfl
theorem ty_103 : tyI Try.prog 103 = some (some (.agg #[.int .u64 0, .int .u64 0, .int .u32 0, .int .u8 0, .int .u8 0, .int .u8 0, .int .u8 0, .nilFunc, .pointer none, .int .i32 0, .int .i32 0]), 11, 48) := by kernel_rfl
theorem ty_104 : tyI Try.prog 104 = some (some (.pointer none), 1, 8) := by kernel_rfl
theorem fl_7 : fieldsP Try.prog 7 = some [(0, (1, false)), (1, (1, false)), (2, (1, false)), (3, (1, false))] := by kernel_rfl
theorem fl_8 : fieldsP Try.prog 8 = some [(0, (1, false)), (1, (1, false)), (2, (1, false)), (3, (1, false))] := by kernel_rfl
theorem fl_13 : fieldsP Try.prog 13 = some [(0, (1, false)), (1, (1, false))] := by kernel_rfl
theorem fl_14 : fieldsP Try.prog 14 = some [(0, (1, false)), (1, (1, false))] := by kernel_rfl
theorem fl_18 : fieldsP Try.prog 18 = some [(0, (1, false))] := by kernel_rfl
theorem fl_19 : fieldsP Try.prog 19 = some [(0, (1, false))] := by kernel_rfl
theorem fl_40 : fieldsP Try.prog 40 = some [(0, (1, false)), (1, (1, false)), (2, (1, false))] := by kernel_rfl
theorem fl_41 : fieldsP Try.prog 41 = some [(0, (1, false)), (1, (1, false)), (2, (1, false))] := by kernel_rfl
theorem fl_48 : fieldsP Try.prog 48 = some [(0, (1, false))] := by kernel_rfl
theorem fl_49 : fieldsP Try.prog 49 = some [(0, (1, false))] := by kernel_rfl
theorem fl_65 : fieldsP Try.prog 65 = some [(0, (1, false)), (1, (1, false))] := by kernel_rfl
theorem fl_66 : fieldsP Try.prog 66 = some [(0, (1, false)), (1, (1, false))] := by kernel_rfl
theorem fl_84 : fieldsP Try.prog 84 = some [(0, (1, false)), (1, (1, false))] := by kernel_rfl
theorem fl_85 : fieldsP Try.prog 85 = some [(0, (1, false)), (1, (1, false))] := by kernel_rfl
theorem fl_89 : fieldsP Try.prog 89 = some [(0, (1, false)), (1, (1, false)), (2, (1, false)), (3, (1, false))] := by kernel_rfl
theorem fl_90 : fieldsP Try.prog 90 = some [(0, (1, false)), (1, (1, false)), (2, (1, false)), (3, (1, false))] := by kernel_rfl
theorem fl_92 : fieldsP Try.prog 92 = some [(0, (0, true))] := by kernel_rfl
theorem fl_93 : fieldsP Try.prog 93 = some [(0, (0, true))] := by kernel_rfl
theorem fl_102 : fieldsP Try.prog 102 = some [(0, (1, false)), (1, (1, false)), (2, (1, false)), (3, (1, false)), (4, (1, false)), (5, (1, false)), (6, (1, false)), (7, (1, false)), (8, (1, false)), (9, (1, false)), (10, (1, false))] := by kernel_rfl
theorem fl_103 : fieldsP Try.prog 103 = some [(0, (1, false)), (1, (1, false)), (2, (1, false)), (3, (1, false)), (4, (1, false)), (5, (1, false)), (6, (1, false)), (7, (1, false)), (8, (1, false)), (9, (1, false)), (10, (1, false))] := by kernel_rfl
theorem eq_40 : eqInts Try.prog 40 = true ∧ (match Try.prog.underlying 40 with | some (.struct fs) => fs.size | _ => 0) = 3 := ⟨by kernel_rfl, by rw [Try.underlying40]; rfl⟩
theorem eq_41 : eqInts Try.prog 41 = true ∧ (match Try.prog.underlying 41 with | some (.struct fs) => fs.size | _ => 0) = 3 := ⟨by kernel_rfl, by rw [Try.underlying41]; rfl⟩
theorem eq_65 : eqInts Try.prog 65 = true ∧ (match Try.prog.underlying 65 with | some (.struct fs) => fs.size | _ => 0) = 2 := ⟨by kernel_rfl, by rw [Try.underlying65]; rfl⟩
theorem eq_66 : eqInts Try.prog 66 = true ∧ (match Try.prog.underlying 66 with | some (.struct fs) => fs.size | _ => 0) = 2 := ⟨by kernel_rfl, by rw [Try.underlying66]; rfl⟩
theorem eq_84 : eqInts Try.prog 84 = true ∧ (match Try.prog.underlying 84 with | some (.struct fs) => fs.size | _ => 0) = 2 := ⟨by kernel_rfl, by rw [Try.underlying84]; rfl⟩
theorem eq_85 : eqInts Try.prog 85 = true ∧ (match Try.prog.underlying 85 with | some (.struct fs) => fs.size | _ => 0) = 2 := ⟨by kernel_rfl, by rw [Try.underlying85]; rfl⟩
theorem tab_und : allP (fun k D => Try.prog.underlying k = some D) tab.und := ⟨Try.underlying0, ⟨Try.underlying1, ⟨Try.underlying2, ⟨Try.underlying3, ⟨Try.underlying4, ⟨Try.underlying5, ⟨Try.underlying6, ⟨Try.underlying7, ⟨Try.underlying8, ⟨Try.underlying9, ⟨Try.underlying10, ⟨Try.underlying11, ⟨Try.underlying12, ⟨Try.underlying13, ⟨Try.underlying14, ⟨Try.underlying15, ⟨Try.underlying16, ⟨Try.underlying17, ⟨Try.underlying18, ⟨Try.underlying19, ⟨Try.underlying20, ⟨Try.underlying21, ⟨Try.underlying22, ⟨Try.underlying23, ⟨Try.underlying24, ⟨Try.underlying25, ⟨Try.underlying26, ⟨Try.underlying27, ⟨Try.underlying28, ⟨Try.underlying29, ⟨Try.underlying30, ⟨Try.underlying31, ⟨Try.underlying32, ⟨Try.underlying33, ⟨Try.underlying34, ⟨Try.underlying35, ⟨Try.underlying36, ⟨Try.underlying37, ⟨Try.underlying38, ⟨Try.underlying39, ⟨Try.underlying40, ⟨Try.underlying41, ⟨Try.underlying42, ⟨Try.underlying43, ⟨Try.underlying44, ⟨Try.underlying45, ⟨Try.underlying46, ⟨Try.underlying47, ⟨Try.underlying48, ⟨Try.underlying49, ⟨Try.underlying50, ⟨Try.underlying51, ⟨Try.underlying52, ⟨Try.underlying53, ⟨Try.underlying54, ⟨Try.underlying55, ⟨Try.underlying56, ⟨Try.underlying57, ⟨Try.underlying58, ⟨Try.underlying59, ⟨Try.underlying60, ⟨Try.underlying61, ⟨Try.underlying62, ⟨Try.underlying63, ⟨Try.underlying64, ⟨Try.underlying65, ⟨Try.underlying66, ⟨Try.underlying67, ⟨Try.underlying68, ⟨Try.underlying69, ⟨Try.underlying70, ⟨Try.underlying71, ⟨Try.underlying72, ⟨Try.underlying73, ⟨Try.underlying74, ⟨Try.underlying75, ⟨Try.underlying76, ⟨Try.underlying77, ⟨Try.underlying78, ⟨Try.underlying79, ⟨Try.underlying80, ⟨Try.underlying81, ⟨Try.underlying82, ⟨Try.underlying83, ⟨Try.underlying84, ⟨Try.underlying85, ⟨Try.underlying86, ⟨Try.underlying87, ⟨Try.underlying88, ⟨Try.underlying89, ⟨Try.underlying90, ⟨Try.underlying91, ⟨Try.underlying92, ⟨Try.underlying93, ⟨Try.underlying94, ⟨Try.underlying95, ⟨Try.underlying96, ⟨Try.underlying97, ⟨Try.underlying98, ⟨Try.underlying99, ⟨Try.underlying100, ⟨Try.underlying101, ⟨Try.underlying102, ⟨Try.underlying103, ⟨Try.underlying104, trivial⟩⟩⟩⟩⟩⟩⟩⟩⟩⟩⟩⟩⟩⟩⟩⟩⟩⟩⟩⟩⟩⟩⟩⟩⟩⟩⟩⟩⟩⟩⟩⟩⟩⟩⟩⟩⟩⟩⟩⟩⟩⟩⟩⟩⟩⟩⟩⟩⟩⟩⟩⟩⟩⟩⟩⟩⟩⟩⟩⟩⟩⟩⟩⟩⟩⟩⟩⟩⟩⟩⟩⟩⟩⟩⟩⟩⟩⟩⟩⟩⟩⟩⟩⟩⟩⟩⟩⟩⟩⟩⟩⟩⟩⟩⟩⟩⟩⟩⟩⟩⟩⟩⟩⟩⟩
theorem tab_inf : allP (fun k x => tyI Try.prog k = some x) tab.inf := ⟨ty_1, ⟨ty_2, ⟨ty_3, ⟨ty_4, ⟨ty_5, ⟨ty_6, ⟨ty_7, ⟨ty_8, ⟨ty_9, ⟨ty_10, ⟨ty_11, ⟨ty_12, ⟨ty_13, ⟨ty_14, ⟨ty_15, ⟨ty_16, ⟨ty_17, ⟨ty_18, ⟨ty_19, ⟨ty_20, ⟨ty_21, ⟨ty_22, ⟨ty_23, ⟨ty_25, ⟨ty_26, ⟨ty_27, ⟨ty_28, ⟨ty_29, ⟨ty_30, ⟨ty_31, ⟨ty_32, ⟨ty_34, ⟨ty_35, ⟨ty_36, ⟨ty_37, ⟨ty_38, ⟨ty_39, ⟨ty_40, ⟨ty_41, ⟨ty_43, ⟨ty_44, ⟨ty_45, ⟨ty_46, ⟨ty_47, ⟨ty_48, ⟨ty_49, ⟨ty_51, ⟨ty_52, ⟨ty_53, ⟨ty_54, ⟨ty_55, ⟨ty_56, ⟨ty_57, ⟨ty_58, ⟨ty_59, ⟨ty_60, ⟨ty_61, ⟨ty_62, ⟨ty_64, ⟨ty_65, ⟨ty_66, ⟨ty_67, ⟨ty_68, ⟨ty_69, ⟨ty_70, ⟨ty_71, ⟨ty_72, ⟨ty_73, ⟨ty_74, ⟨ty_75, ⟨ty_76, ⟨ty_77, ⟨ty_78, ⟨ty_79, ⟨ty_80, ⟨ty_82, ⟨ty_83, ⟨ty_84, ⟨ty_85, ⟨ty_86, ⟨ty_87, ⟨ty_88, ⟨ty_89, ⟨ty_90, ⟨ty_91, ⟨ty_92, ⟨ty_93, ⟨ty_94, ⟨ty_95, ⟨ty_96, ⟨ty_97, ⟨ty_98, ⟨ty_99, ⟨ty_100, ⟨ty_101, ⟨ty_102, ⟨ty_103, ⟨ty_104, trivial⟩⟩⟩⟩⟩⟩⟩⟩⟩⟩⟩⟩⟩⟩⟩⟩⟩⟩⟩⟩⟩⟩⟩⟩⟩⟩⟩⟩⟩⟩⟩⟩⟩⟩⟩⟩⟩⟩⟩⟩⟩⟩⟩⟩⟩⟩⟩⟩⟩⟩⟩⟩⟩⟩⟩⟩⟩⟩⟩⟩⟩⟩⟩⟩⟩⟩⟩⟩⟩⟩⟩⟩⟩⟩⟩⟩⟩⟩⟩⟩⟩⟩⟩⟩⟩⟩⟩⟩⟩⟩⟩⟩⟩⟩⟩⟩⟩⟩
theorem tab_fld : allP (fun k x => fieldsP Try.prog k = some x) tab.fld := ⟨fl_7, ⟨fl_8, ⟨fl_13, ⟨fl_14, ⟨fl_18, ⟨fl_19, ⟨fl_40, ⟨fl_41, ⟨fl_48, ⟨fl_49, ⟨fl_65, ⟨fl_66, ⟨fl_84, ⟨fl_85, ⟨fl_89, ⟨fl_90, ⟨fl_92, ⟨fl_93, ⟨fl_102, ⟨fl_103, trivial⟩⟩⟩⟩⟩⟩⟩⟩⟩⟩⟩⟩⟩⟩⟩⟩⟩⟩⟩⟩
set_option maxRecDepth 100000 in
theorem tab_eqs : allP (fun k L => eqInts Try.prog k = true ∧ (match Try.prog.underlying k with | some (.struct fs) => fs.size | _ => 0) = L) tab.eqs := ⟨eq_40, ⟨eq_41, ⟨eq_65, ⟨eq_66, ⟨eq_84, ⟨eq_85, trivial⟩⟩⟩⟩⟩⟩
set_option maxRecDepth 100000 in
theorem tab_ok : tab.ok Try.prog := ⟨tab_und, tab_inf, tab_fld, tab_eqs⟩
def cas : List (Nat × Nat) := [(2, 0), (3, 0), (4, 0), (5, 0), (6, 0), (7, 0), (8, 0), (9, 0), (10, 0), (11, 0), (12, 0), (13, 0), (14, 0), (15, 0), (16, 0), (17, 0), (18, 0), (19, 0), (20, 0), (21, 0), (22, 0), (23, 0), (24, 0), (25, 0), (26, 0), (27, 0), (28, 0), (29, 0), (30, 0), (31, 0), (32, 0), (33, 0), (34, 0), (35, 0), (36, 0), (37, 0), (38, 0), (39, 0), (40, 0), (41, 0), (42, 0), (43, 0), (44, 0), (45, 0), (46, 0), (47, 0), (48, 0), (49, 0), (50, 0), (51, 0), (52, 0), (53, 0), (54, 0), (55, 0), (56, 0), (57, 0), (58, 0), (59, 0), (60, 0), (61, 0), (62, 0), (63, 0), (64, 0), (65, 0), (66, 0), (67, 0), (68, 0), (69, 0), (70, 0), (71, 0), (72, 0), (73, 0)]
theorem ca_2 : callable Try.prog 2 = true := by kernel_rfl
theorem ca_3 : callable Try.prog 3 = true := by kernel_rfl
theorem ca_4 : callable Try.prog 4 = true := by kernel_rfl
theorem ca_5 : callable Try.prog 5 = true := by kernel_rfl
theorem ca_6 : callable Try.prog 6 = true := by kernel_rfl
theorem ca_7 : callable Try.prog 7 = true := by kernel_rfl
theorem ca_8 : callable Try.prog 8 = true := by kernel_rfl
theorem ca_9 : callable Try.prog 9 = true := by kernel_rfl
theorem ca_10 : callable Try.prog 10 = true := by kernel_rfl
theorem ca_11 : callable Try.prog 11 = true := by kernel_rfl
theorem ca_12 : callable Try.prog 12 = true := by kernel_rfl
theorem ca_13 : callable Try.prog 13 = true := by kernel_rfl
theorem ca_14 : callable Try.prog 14 = true := by kernel_rfl
theorem ca_15 : callable Try.prog 15 = true := by kernel_rfl
theorem ca_16 : callable Try.prog 16 = true := by kernel_rfl
theorem ca_17 : callable Try.prog 17 = true := by kernel_rfl
theorem ca_18 : callable Try.prog 18 = true := by kernel_rfl
theorem ca_19 : callable Try.prog 19 = true := by kernel_rfl
theorem ca_20 : callable Try.prog 20 = true := by kernel_rfl
theorem ca_21 : callable Try.prog 21 = true := by kernel_rfl
theorem ca_22 : callable Try.prog 22 = true := by kernel_rfl
theorem ca_23 : callable Try.prog 23 = true := by kernel_rfl
theorem ca_24 : callable Try.prog 24 = true := by kernel_rfl
theorem ca_25 : callable Try.prog 25 = true := by kernel_rfl
theorem ca_26 : callable Try.prog 26 = true := by kernel_rfl
theorem ca_27 : callable Try.prog 27 = true := by kernel_rfl
theorem ca_28 : callable Try.prog 28 = true := by kernel_rfl
theorem ca_29 : callable Try.prog 29 = true := by kernel_rfl
theorem ca_30 : callable Try.prog 30 = true := by kernel_rfl
theorem ca_31 : callable Try.prog 31 = true := by kernel_rfl
theorem ca_32 : callable Try.prog 32 = true := by kernel_rfl
theorem ca_33 : callable Try.prog 33 = true := by kernel_rfl
theorem ca_34 : callable Try.prog 34 = true := by kernel_rfl
theorem ca_35 : callable Try.prog 35 = true := by kernel_rfl
theorem ca_36 : callable Try.prog 36 = true := by kernel_rfl
theorem ca_37 : callable Try.prog 37 = true := by kernel_rfl
theorem ca_38 : callable Try.prog 38 = true := by kernel_rfl
theorem ca_39 : callable Try.prog 39 = true := by kernel_rfl
theorem ca_40 : callable Try.prog 40 = true := by kernel_rfl
theorem ca_41 : callable Try.prog 41 = true := by kernel_rfl
theorem ca_42 : callable Try.prog 42 = true := by kernel_rfl
theorem ca_43 : callable Try.prog 43 = true := by kernel_rfl
theorem ca_44 : callable Try.prog 44 = true := by kernel_rfl
theorem ca_45 : callable Try.prog 45 = true := by kernel_rfl
theorem ca_46 : callable Try.prog 46 = true := by kernel_rfl
theorem ca_47 : callable Try.prog 47 = true := by kernel_rfl
theorem ca_48 : callable Try.prog 48 = true := by kernel_rfl
theorem ca_49 : callable Try.prog 49 = true := by kernel_rfl
theorem ca_50 : callable Try.prog 50 = true := by kernel_rfl
theorem ca_51 : callable Try.prog 51 = true := by kernel_rfl
theorem ca_52 : callable Try.prog 52 = true := by kernel_rfl
theorem ca_53 : callable Try.prog 53 = true := by kernel_rfl
theorem ca_54 : callable Try.prog 54 = true := by kernel_rfl
theorem ca_55 : callable Try.prog 55 = true := by kernel_rfl
theorem ca_56 : callable Try.prog 56 = true := by kernel_rfl
theorem ca_57 : callable Try.prog 57 = true := by kernel_rfl
theorem ca_58 : callable Try.prog 58 = true := by kernel_rfl
theorem ca_59 : callable Try.prog 59 = true := by kernel_rfl
theorem ca_60 : callable Try.prog 60 = true := by kernel_rfl
theorem ca_61 : callable Try.prog 61 = true := by kernel_rfl
theorem ca_62 : callable Try.prog 62 = true := by kernel_rfl
theorem ca_63 : callable Try.prog 63 = true := by kernel_rfl
theorem ca_64 : callable Try.prog 64 = true := by kernel_rfl
theorem ca_65 : callable Try.prog 65 = true := by kernel_rfl
theorem ca_66 : callable Try.prog 66 = true := by kernel_rfl
theorem ca_67 : callable Try.prog 67 = true := by kernel_rfl
theorem ca_68 : callable Try.prog 68 = true := by kernel_rfl
theorem ca_69 : callable Try.prog 69 = true := by kernel_rfl
theorem ca_70 : callable Try.prog 70 = true := by kernel_rfl
theorem ca_71 : callable Try.prog 71 = true := by kernel_rfl
theorem ca_72 : callable Try.prog 72 = true := by kernel_rfl
theorem ca_73 : callable Try.prog 73 = true := by kernel_rfl
theorem cas_ok : allP (fun k _ => callable Try.prog k = true) cas := ⟨ca_2, ⟨ca_3, ⟨ca_4, ⟨ca_5, ⟨ca_6, ⟨ca_7, ⟨ca_8, ⟨ca_9, ⟨ca_10, ⟨ca_11, ⟨ca_12, ⟨ca_13, ⟨ca_14, ⟨ca_15, ⟨ca_16, ⟨ca_17, ⟨ca_18, ⟨ca_19, ⟨ca_20, ⟨ca_21, ⟨ca_22, ⟨ca_23, ⟨ca_24, ⟨ca_25, ⟨ca_26, ⟨ca_27, ⟨ca_28, ⟨ca_29, ⟨ca_30, ⟨ca_31, ⟨ca_32, ⟨ca_33, ⟨ca_34, ⟨ca_35, ⟨ca_36, ⟨ca_37, ⟨ca_38, ⟨ca_39, ⟨ca_40, ⟨ca_41, ⟨ca_42, ⟨ca_43, ⟨ca_44, ⟨ca_45, ⟨ca_46, ⟨ca_47, ⟨ca_48, ⟨ca_49, ⟨ca_50, ⟨ca_51, ⟨ca_52, ⟨ca_53, ⟨ca_54, ⟨ca_55, ⟨ca_56, ⟨ca_57, ⟨ca_58, ⟨ca_59, ⟨ca_60, ⟨ca_61, ⟨ca_62, ⟨ca_63, ⟨ca_64, ⟨ca_65, ⟨ca_66, ⟨ca_67, ⟨ca_68, ⟨ca_69, ⟨ca_70, ⟨ca_71, ⟨ca_72, ⟨ca_73, trivial⟩⟩⟩⟩⟩⟩⟩⟩⟩⟩⟩⟩⟩⟩⟩⟩⟩⟩⟩⟩⟩⟩⟩⟩⟩⟩⟩⟩⟩⟩⟩⟩⟩⟩⟩⟩⟩⟩⟩⟩⟩⟩⟩⟩⟩⟩⟩⟩⟩⟩⟩⟩⟩⟩⟩⟩⟩⟩⟩⟩⟩⟩⟩⟩⟩⟩⟩⟩⟩⟩⟩⟩
end Go.Proofs.Ytlbnicapkfmdoaa
/- What a run of the abstract machine asks of the program (printed by a program). -/
set_option maxRecDepth 1000000
namespace Go.Proofs.Ytlbnicapkfmdoaa
open Go
noncomputable def ctx : Ctx := ⟨tab, [(2, Try.f2), (3, Try.f3), (4, Try.f4), (5, Try.f5), (6, Try.f6), (7, Try.f7), (8, Try.f8), (9, Try.f9), (10, Try.f10), (11, Try.f11), (12, Try.f12), (13, Try.f13), (14, Try.f14), (15, Try.f15), (16, Try.f16), (17, Try.f17), (18, Try.f18), (19, Try.f19), (20, Try.f20), (21, Try.f21), (22, Try.f22), (23, Try.f23), (24, Try.f24), (25, Try.f25), (26, Try.f26), (27, Try.f27), (28, Try.f28), (29, Try.f29), (30, Try.f30), (31, Try.f31), (32, Try.f32), (33, Try.f33), (34, Try.f34), (35, Try.f35), (36, Try.f36), (37, Try.f37), (38, Try.f38), (39, Try.f39), (40, Try.f40), (41, Try.f41), (42, Try.f42), (43, Try.f43), (44, Try.f44), (45, Try.f45), (46, Try.f46), (47, Try.f47), (48, Try.f48), (49, Try.f49), (50, Try.f50), (51, Try.f51), (52, Try.f52), (53, Try.f53), (54, Try.f54), (55, Try.f55), (56, Try.f56), (57, Try.f57), (58, Try.f58), (59, Try.f59), (60, Try.f60), (61, Try.f61), (62, Try.f62), (63, Try.f63), (64, Try.f64), (65, Try.f65), (66, Try.f66), (67, Try.f67), (68, Try.f68), (69, Try.f69), (70, Try.f70), (71, Try.f71), (72, Try.f72), (73, Try.f73)], cas⟩
set_option maxRecDepth 100000 in
theorem fns_ok : allP (fun k f => Try.prog.funcs[k]? = some f) ctx.fns := ⟨Try.func2, ⟨Try.func3, ⟨Try.func4, ⟨Try.func5, ⟨Try.func6, ⟨Try.func7, ⟨Try.func8, ⟨Try.func9, ⟨Try.func10, ⟨Try.func11, ⟨Try.func12, ⟨Try.func13, ⟨Try.func14, ⟨Try.func15, ⟨Try.func16, ⟨Try.func17, ⟨Try.func18, ⟨Try.func19, ⟨Try.func20, ⟨Try.func21, ⟨Try.func22, ⟨Try.func23, ⟨Try.func24, ⟨Try.func25, ⟨Try.func26, ⟨Try.func27, ⟨Try.func28, ⟨Try.func29, ⟨Try.func30, ⟨Try.func31, ⟨Try.func32, ⟨Try.func33, ⟨Try.func34, ⟨Try.func35, ⟨Try.func36, ⟨Try.func37, ⟨Try.func38, ⟨Try.func39, ⟨Try.func40, ⟨Try.func41, ⟨Try.func42, ⟨Try.func43, ⟨Try.func44, ⟨Try.func45, ⟨Try.func46, ⟨Try.func47, ⟨Try.func48, ⟨Try.func49, ⟨Try.func50, ⟨Try.func51, ⟨Try.func52, ⟨Try.func53, ⟨Try.func54, ⟨Try.func55, ⟨Try.func56, ⟨Try.func57, ⟨Try.func58, ⟨Try.func59, ⟨Try.func60, ⟨Try.func61, ⟨Try.func62, ⟨Try.func63, ⟨Try.func64, ⟨Try.func65, ⟨Try.func66, ⟨Try.func67, ⟨Try.func68, ⟨Try.func69, ⟨Try.func70, ⟨Try.func71, ⟨Try.func72, ⟨Try.func73, trivial⟩⟩⟩⟩⟩⟩⟩⟩⟩⟩⟩⟩⟩⟩⟩⟩⟩⟩⟩⟩⟩⟩⟩⟩⟩⟩⟩⟩⟩⟩⟩⟩⟩⟩⟩⟩⟩⟩⟩⟩⟩⟩⟩⟩⟩⟩⟩⟩⟩⟩⟩⟩⟩⟩⟩⟩⟩⟩⟩⟩⟩⟩⟩⟩⟩⟩⟩⟩⟩⟩⟩⟩
theorem ctx_ok : ctx.ok Try.prog := ⟨tab_ok, fns_ok, cas_ok, by kernel_rfl⟩
end Go.Proofs.Ytlbnicapkfmdoaa
/- Decompiling: the program's functions as the machine over terms takes them. -/
namespace Go.Proofs.Ytlbnicapkfmdoaa
open Go Go.RowKit
noncomputable def dc (l : List (Nat × Ctr)) : DC := ⟨tab, ctx.fns, ctx.cas, l⟩
theorem dc_ok {l : List (Nat × Ctr)} (h : allP (CtrOk Try.prog) l) : (dc l).ok Try.prog := ⟨ctx_ok.T, ctx_ok.fns, ctx_ok.cas, ctx_ok.mixed, h⟩
theorem ctr_ok {l : List (Nat × Ctr)} (hl : allP (CtrOk Try.prog) l) {f : Nat} {an : An} {Fn : Nat} {σ ρ : Ty} {g : Nat → σ.den → Option ρ.den} (h : ∀ fu x, (topG (ρ := ρ) (dc l) (drR (dc l)) f an Fn σ (.var x)).den fu = g fu x) : CtrOk Try.prog Fn ⟨σ, ρ, g, Fn⟩ :=
  fun fu x _ hy => topG_ok (dc_ok hl) (fun _ _ hS => drR_ok (dc_ok hl) hS) ((h fu x).trans hy)
end Go.Proofs.Ytlbnicapkfmdoaa
/- Residual programs of functions (printed by a program out of the code), checked by the kernel, and the contracts that follow. -/
namespace Go.Proofs.Ytlbnicapkfmdoaa
open Go Go.RowKit
set_option linter.unusedVariables false
def R_SameCurves_l1 (fu : Nat) (a : (List ((Int) × (Int))) × ((List ((Int) × (Int))) × (Unit))) (j0 : (Int) → Option ((Bool) × (Unit))) (v0 : Int) : Option ((Bool) × (Unit)) :=
  bif (decide (v0 < (List.length a.1 : Int))) then
    bif ((decide ((0 : Int) ≤ v0)) && (decide (v0 < (List.length a.1 : Int)))) then
    let v1 : (Int) × (Int) := (List.getD a.1 (Int.toNat v0) (0, 0))
    bif ((decide ((0 : Int) ≤ v0)) && (decide (v0 < (List.length a.2.1 : Int)))) then
    let v2 : (Int) × (Int) := (List.getD a.2.1 (Int.toNat v0) (0, 0))
    bif (!((decide (v1.1 = v2.1)) && (decide (v1.2 = v2.2)))) then
      some ((false, ()))
    else
    j0 ((IntKind.i64.wrap (v0 + (1 : Int))))
    else none
    else none
  else
  some ((true, ()))
def R_SameCurves_r (fu : Nat) (a : (List ((Int) × (Int))) × ((List ((Int) × (Int))) × (Unit))) : Option ((Bool) × (Unit)) :=
  bif (decide ((List.length a.1 : Int) ≠ (List.length a.2.1 : Int))) then
    some ((false, ()))
  else
  loopF (R_SameCurves_l1 fu a) fu ((0 : Int))
def R_SameCurves_an : An := (.n none .z (.n none (.n none .z (.n none (.n none .z .z) .z)) (.n none (.n none .z (.n none (.n (some ⟨[2, 3, 15], [1, 0], [], [.reg 16 (.int .i64)], 0, []⟩) (.n none .z (.n none .z (.n none (.n none (.n none .z (.n none (.dr [] []) (.n none (.n none .z .z) .z))) .z) .z))) .z) .z)) (.n none .z .z))))
noncomputable def R_SameCurves_dc : List (Nat × Ctr) := []
def R_SameCurves_ctr : Ctr := ⟨(.pair (.agg (.list (.pair (.int .i64) (.int .i64)))) (.pair (.agg (.list (.pair (.int .i64) (.int .i64)))) .unit)), (.pair .bool .unit), R_SameCurves_r, 49⟩
theorem R_SameCurves_ok : CtrOk Try.prog 49 R_SameCurves_ctr := ctr_ok (l := R_SameCurves_dc) (f := 12) (an := R_SameCurves_an) trivial fun fu x => by kernel_rfl
def R_Fitted_j3 (fu : Nat) (j2 : ((Int) × (List (Int))) → Option ((List ((Int) × (Int))) × (Unit))) (v3 : (Int) × (List (Int))) : Option ((List ((Int) × (Int))) × (Unit)) :=
  let v4 : Int := (IntKind.i64.wrap (v3.1 + (1 : Int)))
  j2 ((v4, v3.2))
def R_Fitted_j5 (fu : Nat) (j4 : ((Int) × (List (Int))) → Option ((List ((Int) × (Int))) × (Unit))) (v5 : (Int) × (List (Int))) : Option ((List ((Int) × (Int))) × (Unit)) :=
  let v6 : Int := (IntKind.i64.wrap (v5.1 + (1 : Int)))
  j4 ((v6, v5.2))
def R_Fitted_j7 (fu : Nat) (v4 : (Int) × (List (Int))) (v7 : (Int) × (Int)) (v8 : Int) (j5 : ((Int) × (List (Int))) → Option ((List ((Int) × (Int))) × (Unit))) (v9 : Bool) : Option ((List ((Int) × (Int))) × (Unit)) :=
  bif v9 then
    bif (decide ((List.length v4.2 : Int) = (2 : Int))) then
    j5 ((v4.1, (v7.1 :: (v8 :: ([] : List (Int))))))
    else none
  else
  j5 ((v4.1, v4.2))
def R_Fitted_l6 (fu : Nat) (a : (List ((Int) × (Int))) × (Unit)) (v2 : (Int) × (List (Int))) (v4 : (Int) × (List (Int))) (j5 : ((Int) × (List (Int))) → Option ((List ((Int) × (Int))) × (Unit))) (j7 : ((Int) × (Int)) → Option ((List ((Int) × (Int))) × (Unit))) (v7 : (Int) × (Int)) : Option ((List ((Int) × (Int))) × (Unit)) :=
  bif (decide (v7.2 ≤ v4.1)) then
    bif ((decide ((0 : Int) ≤ v7.2)) && (decide (v7.2 < (List.length a.1 : Int)))) then
    let v8 : (Int) × (Int) := (List.getD a.1 (Int.toNat v7.2) (0, 0))
    let v9 : Int := (IntKind.i64.wrap (v7.1 + v8.2))
    let v10 : Int := (IntKind.i64.wrap (v7.2 + (1 : Int)))
    j7 ((v9, v10))
    else none
  else
  let v8 : Int := (IntKind.i64.wrap ((IntKind.i64.wrap (v4.1 - v2.1)) + (1 : Int)))
  joinF (R_Fitted_j7 fu v4 v7 v8 j5) fun j9 =>
  bif (decide ((1 : Int) < (List.length v4.2 : Int))) then
  bif (decide ((List.getD v4.2 (Int.toNat (1 : Int)) 0) = (0 : Int))) then
    j9 (true)
  else
  bif (decide ((1 : Int) < (List.length v4.2 : Int))) then
  bif (decide ((0 : Int) < (List.length v4.2 : Int))) then
  j9 ((decide ((IntKind.i64.wrap (v7.1 * (List.getD v4.2 (Int.toNat (1 : Int)) 0))) < (IntKind.i64.wrap ((List.getD v4.2 (Int.toNat (0 : Int)) 0) * v8)))))
  else none
  else none
  else none
def R_Fitted_l4 (fu : Nat) (a : (List ((Int) × (Int))) × (Unit)) (v2 : (Int) × (List (Int))) (j3 : ((Int) × (List (Int))) → Option ((List ((Int) × (Int))) × (Unit))) (j4 : ((Int) × (List (Int))) → Option ((List ((Int) × (Int))) × (Unit))) (v4 : (Int) × (List (Int))) : Option ((List ((Int) × (Int))) × (Unit)) :=
  bif (decide (v4.1 < (List.length a.1 : Int))) then
    joinF (R_Fitted_j5 fu j4) fun j5 =>
    let v6 : Int := v2.1
    loopF (R_Fitted_l6 fu a v2 v4 j5) fu (((0 : Int), v6))
  else
  bif (decide ((0 : Int) < (List.length v4.2 : Int))) then
  bif (decide ((1 : Int) < (List.length v2.2 : Int))) then
  bif (decide ((0 : Int) < (List.length v2.2 : Int))) then
  bif (decide ((1 : Int) < (List.length v4.2 : Int))) then
  bif (decide ((IntKind.i64.wrap ((List.getD v2.2 (Int.toNat (0 : Int)) 0) * (List.getD v4.2 (Int.toNat (1 : Int)) 0))) < (IntKind.i64.wrap ((List.getD v4.2 (Int.toNat (0 : Int)) 0) * (List.getD v2.2 (Int.toNat (1 : Int)) 0))))) then
    bif (decide ((List.length v4.2 : Int) = (2 : Int))) then
    bif (decide ((List.length v2.2 : Int) = (2 : Int))) then
    j3 ((v2.1, ((List.getD v4.2 (Int.toNat (0 : Int)) 0) :: ((List.getD v4.2 (Int.toNat (1 : Int)) 0) :: ([] : List (Int))))))
    else none
    else none
  else
  j3 ((v2.1, v2.2))
  else none
  else none
  else none
  else none
def R_Fitted_l2 (fu : Nat) (a : (List ((Int) × (Int))) × (Unit)) (v0 : (Int) × (List ((Int) × (Int)))) (v1 : Int) (j0 : ((Int) × (List ((Int) × (Int)))) → Option ((List ((Int) × (Int))) × (Unit))) (j2 : ((Int) × (List (Int))) → Option ((List ((Int) × (Int))) × (Unit))) (v2 : (Int) × (List (Int))) : Option ((List ((Int) × (Int))) × (Unit)) :=
  bif (decide (v2.1 ≤ v1)) then
    joinF (R_Fitted_j3 fu j2) fun j3 =>
    bif (decide ((List.length ((0 : Int) :: ((0 : Int) :: ([] : List (Int)))) : Int) = (2 : Int))) then
    loopF (R_Fitted_l4 fu a v2 j3) fu ((v1, ((0 : Int) :: ((0 : Int) :: ([] : List (Int))))))
    else none
  else
  bif (decide ((List.length v2.2 : Int) = (2 : Int))) then
  bif ((decide ((0 : Int) ≤ v1)) && (decide (v1 < (List.length v0.2 : Int)))) then
  j0 (((IntKind.i64.wrap (v0.1 + (1 : Int))), (List.set v0.2 (Int.toNat v1) ((List.getD v2.2 (Int.toNat (0 : Int)) 0), (List.getD v2.2 (Int.toNat (1 : Int)) 0)))))
  else none
  else none
def R_Fitted_l1 (fu : Nat) (a : (List ((Int) × (Int))) × (Unit)) (j0 : ((Int) × (List ((Int) × (Int)))) → Option ((List ((Int) × (Int))) × (Unit))) (v0 : (Int) × (List ((Int) × (Int)))) : Option ((List ((Int) × (Int))) × (Unit)) :=
  bif (decide (v0.1 < (List.length a.1 : Int))) then
    let v1 : Int := v0.1
    bif (decide ((List.length ((0 : Int) :: ((0 : Int) :: ([] : List (Int)))) : Int) = (2 : Int))) then
    loopF (R_Fitted_l2 fu a v0 v1 j0) fu (((0 : Int), ((-1 : Int) :: ((1 : Int) :: ([] : List (Int))))))
    else none
  else
  some ((v0.2, ()))
def R_Fitted_r (fu : Nat) (a : (List ((Int) × (Int))) × (Unit)) : Option ((List ((Int) × (Int))) × (Unit)) :=
  bif ((decide ((0 : Int) ≤ (List.length a.1 : Int))) && (decide (((16 : Int) * (List.length a.1 : Int)) ≤ (281474976710656 : Int)))) then
  loopF (R_Fitted_l1 fu a) fu (((0 : Int), (List.replicate (Int.toNat (List.length a.1 : Int)) ((0 : Int), (0 : Int)))))
  else none
def R_Fitted_an : An := (.n none .z (.n none .z (.n none (.n none .z (.n none (.n (some ⟨[3, 0, 16, 2], [], [], [.reg 17 (.int .i64), .row 0 true (.pair (.int .i64) (.int .i64)) 69 0], 0, []⟩) (.n none .z (.n none .z (.n none (.n none (.n none .z (.n none .z (.n none (.n none .z (.n none (.n (some ⟨[17, 5, 4], [0], [], [.reg 6 (.int .i64), .row 1 true (.int .i64) 69 0], 0, []⟩) (.n none (.n none .z .z) (.n (some ⟨[], [], [], [.reg 6 (.int .i64), .row 1 true (.int .i64) 69 0], 0, []⟩) (.n none (.n none .z (.n none (.n none .z (.n none (.n (some ⟨[6, 7], [1], [], [.reg 8 (.int .i64), .row 2 true (.int .i64) 69 0], 0, []⟩) (.n none (.n none .z .z) (.n (some ⟨[], [], [], [.reg 8 (.int .i64), .row 2 true (.int .i64) 69 0], 0, []⟩) (.n none (.n none .z (.n none (.n none .z (.n none (.n (some ⟨[8], [2], [], [.reg 9 (.int .i64), .reg 10 (.int .i64)], 0, []⟩) (.n none (.n none .z .z) (.n none (.n none .z .z) .z)) .z) .z)) (.n none .z (.n (some ⟨[11, 9, 8], [2], [], [.reg 64 .bool], 0, []⟩) .z (.n none .z .z))))) .z) .z)) .z) .z)) (.n none .z (.n none .z .z)))) .z) .z)) .z) .z)) .z))) .z) .z))) .z) .z)) (.n none .z .z))))
noncomputable def R_Fitted_dc : List (Nat × Ctr) := []
def R_Fitted_ctr : Ctr := ⟨(.pair (.list (.pair (.int .i64) (.int .i64))) .unit), (.pair (.list (.pair (.int .i64) (.int .i64))) .unit), R_Fitted_r, 48⟩
theorem R_Fitted_ok : CtrOk Try.prog 48 R_Fitted_ctr := ctr_ok (l := R_Fitted_dc) (f := 12) (an := R_Fitted_an) trivial fun fu x => by kernel_rfl
def R_Floor_j1 (fu : Nat) (v1 : Int) : Option ((Int) × (Unit)) :=
  some ((v1, ()))
def R_Floor_r (fu : Nat) (a : (Int) × ((Int) × (Unit))) : Option ((Int) × (Unit)) :=
  bif (decide (a.2.1 ≠ (0 : Int))) then
  let v0 : Int := (IntKind.i64.wrap (Int.tdiv a.1 a.2.1))
  joinF (R_Floor_j1 fu) fun j1 =>
  bif (decide (a.1 < (IntKind.i64.wrap (v0 * a.2.1)))) then
    let v2 : Int := (IntKind.i64.wrap (v0 - (1 : Int)))
    j1 (v2)
  else
  j1 (v0)
  else none
def R_Floor_an : An := (.n none .z (.n none .z (.n (some ⟨[], [], [], [.reg 5 (.int .i64)], 0, []⟩) (.n none .z (.n none .z .z)) (.n none .z .z))))
noncomputable def R_Floor_dc : List (Nat × Ctr) := []
def R_Floor_ctr : Ctr := ⟨(.pair (.int .i64) (.pair (.int .i64) .unit)), (.pair (.int .i64) .unit), R_Floor_r, 55⟩
theorem R_Floor_ok : CtrOk Try.prog 55 R_Floor_ctr := ctr_ok (l := R_Floor_dc) (f := 12) (an := R_Floor_an) trivial fun fu x => by kernel_rfl
def R_Round_j1 (fu : Nat) (v2 : Int) : Option ((Int) × (Unit)) :=
  some ((v2, ()))
def R_Round_r (fu : Nat) (a : (Int) × ((Int) × (Unit))) : Option ((Int) × (Unit)) :=
  bindO (R_Floor_r fu ((a.1, (a.2.1, ())))) fun v0 =>
  let v1 : Int := v0.1
  joinF (R_Round_j1 fu) fun j2 =>
  bif (decide (a.2.1 ≤ (IntKind.i64.wrap ((2 : Int) * (IntKind.i64.wrap (a.1 - (IntKind.i64.wrap (v1 * a.2.1)))))))) then
    let v3 : Int := (IntKind.i64.wrap (v1 + (1 : Int)))
    j2 (v3)
  else
  j2 (v1)
def R_Round_an : An := (.n none .z (.n none .z (.n (some ⟨[], [], [], [.reg 5 (.int .i64)], 0, []⟩) (.n none .z (.n none .z .z)) (.n none .z .z))))
noncomputable def R_Round_dc : List (Nat × Ctr) := [(55, R_Floor_ctr)]
def R_Round_ctr : Ctr := ⟨(.pair (.int .i64) (.pair (.int .i64) .unit)), (.pair (.int .i64) .unit), R_Round_r, 23⟩
theorem R_Round_ok : CtrOk Try.prog 23 R_Round_ctr := ctr_ok (l := R_Round_dc) (f := 12) (an := R_Round_an) ⟨R_Floor_ok, trivial⟩ fun fu x => by kernel_rfl
def law_none_r (fu : Nat) (a : (Bool) × ((Int) × ((Int) × (Unit)))) : Option ((Bool) × (Unit)) :=
  bif a.1 then
    let v0 : Bool := (decide (a.2.1 = a.2.2.1))
    some ((v0, ()))
  else
  some ((false, ()))
def law_none_an : An := (.n none .z (.n none .z .z))
noncomputable def law_none_dc : List (Nat × Ctr) := []
def law_none_ctr : Ctr := ⟨(.pair .bool (.pair (.int .i64) (.pair (.int .i64) .unit))), (.pair .bool .unit), law_none_r, 17⟩
theorem law_none_ok : CtrOk Try.prog 17 law_none_ctr := ctr_ok (l := law_none_dc) (f := 12) (an := law_none_an) trivial fun fu x => by kernel_rfl
def R_Within_r (fu : Nat) (a : (Int) × ((Int) × ((Int) × (Unit)))) : Option ((Bool) × (Unit)) :=
  bif (decide (a.2.1 ≤ a.1)) then
    let v0 : Bool := (decide (a.1 ≤ a.2.2.1))
    some ((v0, ()))
  else
  some ((false, ()))
def R_Within_an : An := (.n none .z (.n none .z .z))
noncomputable def R_Within_dc : List (Nat × Ctr) := []
def R_Within_ctr : Ctr := ⟨(.pair (.int .i64) (.pair (.int .i64) (.pair (.int .i64) .unit))), (.pair .bool .unit), R_Within_r, 16⟩
theorem R_Within_ok : CtrOk Try.prog 16 R_Within_ctr := ctr_ok (l := R_Within_dc) (f := 12) (an := R_Within_an) trivial fun fu x => by kernel_rfl
def curve_Nearest_j1 (fu : Nat) (v3 : Int) : Option ((Int) × (Unit)) :=
  some ((v3, ()))
def curve_Nearest_r (fu : Nat) (a : (Int) × ((Int) × (Unit))) : Option ((Int) × (Unit)) :=
  let v0 : Int := (IntKind.i64.wrap ((IntKind.i64.wrap ((2 : Int) * a.1)) + a.2.1))
  let v1 : Int := (IntKind.i64.wrap ((2 : Int) * a.2.1))
  bif (decide (v1 ≠ (0 : Int))) then
  let v2 : Int := (IntKind.i64.wrap (Int.tdiv v0 v1))
  joinF (curve_Nearest_j1 fu) fun j3 =>
  bif (decide (v1 ≠ (0 : Int))) then
  bif (decide ((Int.tmod v0 v1) < (0 : Int))) then
    let v4 : Int := (IntKind.i64.wrap (v2 - (1 : Int)))
    j3 (v4)
  else
  j3 (v2)
  else none
  else none
def curve_Nearest_an : An := (.n none .z (.n none .z (.n none .z (.n (some ⟨[], [], [], [.reg 5 (.int .i64)], 0, []⟩) (.n none .z (.n none .z .z)) (.n none .z .z)))))
noncomputable def curve_Nearest_dc : List (Nat × Ctr) := []
def curve_Nearest_ctr : Ctr := ⟨(.pair (.int .i64) (.pair (.int .i64) .unit)), (.pair (.int .i64) .unit), curve_Nearest_r, 54⟩
theorem curve_Nearest_ok : CtrOk Try.prog 54 curve_Nearest_ctr := ctr_ok (l := curve_Nearest_dc) (f := 12) (an := curve_Nearest_an) trivial fun fu x => by kernel_rfl
def curve_Fit_j3 (fu : Nat) (v0 : (Int) × (Unit)) (j0 : ((Int) × (Unit)) → Option ((List ((Int) × (Int))) × ((Int) × (Unit)))) (v4 : Bool) : Option ((List ((Int) × (Int))) × ((Int) × (Unit))) :=
  bif v4 then
    some ((([] : List ((Int) × (Int))), ((18 : Int), ())))
  else
  j0 (((IntKind.i64.wrap (v0.1 + (1 : Int))), ()))
def curve_Fit_j2 (fu : Nat) (a : (List ((Int) × (Int))) × (Unit)) (v0 : (Int) × (Unit)) (v1 : (Int) × (Int)) (v2 : Int) (j0 : ((Int) × (Unit)) → Option ((List ((Int) × (Int))) × ((Int) × (Unit)))) (v3 : Bool) : Option ((List ((Int) × (Int))) × ((Int) × (Unit))) :=
  bif v3 then
    some ((([] : List ((Int) × (Int))), ((3 : Int), ())))
  else
  joinF (curve_Fit_j3 fu v0 j0) fun j4 =>
  bif (decide ((0 : Int) < v2)) then
    bif ((decide ((0 : Int) ≤ (IntKind.i64.wrap (v2 - (1 : Int))))) && (decide ((IntKind.i64.wrap (v2 - (1 : Int))) < (List.length a.1 : Int)))) then
    let v5 : (Int) × (Int) := (List.getD a.1 (Int.toNat (IntKind.i64.wrap (v2 - (1 : Int)))) (0, 0))
    j4 ((decide (v1.1 ≤ v5.1)))
    else none
  else
  j4 (false)
def curve_Fit_j5 (fu : Nat) (v1 : (Int) × (List ((Int) × (Int)))) (j1 : ((Int) × (List ((Int) × (Int)))) → Option ((List ((Int) × (Int))) × ((Int) × (Unit)))) (v3 : (List ((Int) × (Int))) × ((Int) × (Int))) : Option ((List ((Int) × (Int))) × ((Int) × (Unit))) :=
  bif (decide ((((List.length v3.1 : Int) + (List.length ((v3.2.1, v3.2.2) :: ([] : List ((Int) × (Int)))) : Int)) * (16 : Int)) ≤ (140737488355328 : Int))) then
  j1 (((IntKind.i64.wrap (v1.1 + (1 : Int))), (v3.1 ++ ((v3.2.1, v3.2.2) :: ([] : List ((Int) × (Int)))))))
  else none
def curve_Fit_l6 (fu : Nat) (j3 : ((List ((Int) × (Int))) × ((Int) × (Int))) → Option ((List ((Int) × (Int))) × ((Int) × (Unit)))) (j4 : ((List ((Int) × (Int))) × ((Int) × (Int))) → Option ((List ((Int) × (Int))) × ((Int) × (Unit)))) (v4 : (List ((Int) × (Int))) × ((Int) × (Int))) : Option ((List ((Int) × (Int))) × ((Int) × (Unit))) :=
  bif (decide ((0 : Int) < (List.length v4.1 : Int))) then
    bif ((decide ((0 : Int) ≤ (IntKind.i64.wrap ((List.length v4.1 : Int) - (1 : Int))))) && (decide ((IntKind.i64.wrap ((List.length v4.1 : Int) - (1 : Int))) < (List.length v4.1 : Int)))) then
    bif (decide ((IntKind.i64.wrap ((List.getD v4.1 (Int.toNat (IntKind.i64.wrap ((List.length v4.1 : Int) - (1 : Int)))) (0, 0)).1 * v4.2.2)) ≤ (IntKind.i64.wrap (v4.2.1 * (List.getD v4.1 (Int.toNat (IntKind.i64.wrap ((List.length v4.1 : Int) - (1 : Int)))) (0, 0)).2)))) then
      j3 ((v4.1, (v4.2.1, v4.2.2)))
    else
    bif ((decide ((0 : Int) ≤ (IntKind.i64.wrap ((List.length v4.1 : Int) - (1 : Int))))) && (decide ((IntKind.i64.wrap ((List.length v4.1 : Int) - (1 : Int))) ≤ (List.length v4.1 : Int)))) then
    j4 (((List.drop (Int.toNat (0 : Int)) (List.take (Int.toNat (IntKind.i64.wrap ((List.length v4.1 : Int) - (1 : Int)))) v4.1)), ((IntKind.i64.wrap ((List.getD v4.1 (Int.toNat (IntKind.i64.wrap ((List.length v4.1 : Int) - (1 : Int)))) (0, 0)).1 + v4.2.1)), (IntKind.i64.wrap ((List.getD v4.1 (Int.toNat (IntKind.i64.wrap ((List.length v4.1 : Int) - (1 : Int)))) (0, 0)).2 + v4.2.2)))))
    else none
    else none
  else
  j3 ((v4.1, (v4.2.1, v4.2.2)))
def curve_Fit_l8 (fu : Nat) (a : (List ((Int) × (Int))) × (Unit)) (v1 : (Int) × (List ((Int) × (Int)))) (v2 : (Int) × ((Int) × (List ((Int) × (Int))))) (v4 : Int) (j2 : ((Int) × ((Int) × (List ((Int) × (Int))))) → Option ((List ((Int) × (Int))) × ((Int) × (Unit)))) (j5 : ((Int) × ((Int) × (List ((Int) × (Int))))) → Option ((List ((Int) × (Int))) × ((Int) × (Unit)))) (v5 : (Int) × ((Int) × (List ((Int) × (Int))))) : Option ((List ((Int) × (Int))) × ((Int) × (Unit))) :=
  bif (decide (v5.2.1 < (List.getD v1.2 (Int.toNat v2.1) (0, 0)).2)) then
    bif ((decide ((0 : Int) ≤ v5.1)) && (decide (v5.1 < (List.length a.1 : Int)))) then
    let v6 : (Int) × (Int) := (List.getD a.1 (Int.toNat v5.1) (0, 0))
    bif (decide ((((List.length v5.2.2 : Int) + (List.length ((v6.1, v4) :: ([] : List ((Int) × (Int)))) : Int)) * (16 : Int)) ≤ (140737488355328 : Int))) then
    let v7 : Int := (IntKind.i64.wrap (v5.1 + (1 : Int)))
    j5 ((v7, ((IntKind.i64.wrap (v5.2.1 + (1 : Int))), (v5.2.2 ++ ((v6.1, v4) :: ([] : List ((Int) × (Int))))))))
    else none
    else none
  else
  j2 (((IntKind.i64.wrap (v2.1 + (1 : Int))), (v5.1, v5.2.2)))
def curve_Fit_j10 (fu : Nat) (v4 : List ((Int) × (Int))) : Option ((List ((Int) × (Int))) × ((Int) × (Unit))) :=
  some ((v4, ((0 : Int), ())))
def curve_Fit_j9 (fu : Nat) (v3 : List ((Int) × (Int))) : Option ((List ((Int) × (Int))) × ((Int) × (Unit))) :=
  joinF (curve_Fit_j10 fu) fun j4 =>
  bif ((decide ((0 : Int) ≤ (IntKind.i64.wrap ((List.length v3 : Int) - (1 : Int))))) && (decide ((IntKind.i64.wrap ((List.length v3 : Int) - (1 : Int))) < (List.length v3 : Int)))) then
  bif (decide ((List.getD v3 (Int.toNat (IntKind.i64.wrap ((List.length v3 : Int) - (1 : Int)))) (0, 0)).1 < (65280 : Int))) then
    bif (decide ((((List.length v3 : Int) + (List.length (((65280 : Int), (List.getD v3 (Int.toNat (IntKind.i64.wrap ((List.length v3 : Int) - (1 : Int)))) (0, 0)).2) :: ([] : List ((Int) × (Int)))) : Int)) * (16 : Int)) ≤ (140737488355328 : Int))) then
    j4 ((v3 ++ (((65280 : Int), (List.getD v3 (Int.toNat (IntKind.i64.wrap ((List.length v3 : Int) - (1 : Int)))) (0, 0)).2) :: ([] : List ((Int) × (Int))))))
    else none
  else
  j4 (v3)
  else none
def curve_Fit_l7 (fu : Nat) (a : (List ((Int) × (Int))) × (Unit)) (v1 : (Int) × (List ((Int) × (Int)))) (j2 : ((Int) × ((Int) × (List ((Int) × (Int))))) → Option ((List ((Int) × (Int))) × ((Int) × (Unit)))) (v2 : (Int) × ((Int) × (List ((Int) × (Int))))) : Option ((List ((Int) × (Int))) × ((Int) × (Unit))) :=
  bif (decide (v2.1 < (List.length v1.2 : Int))) then
    bif ((decide ((0 : Int) ≤ v2.1)) && (decide (v2.1 < (List.length v1.2 : Int)))) then
    bindO (curve_Nearest_r fu (((List.getD v1.2 (Int.toNat v2.1) (0, 0)).1, ((List.getD v1.2 (Int.toNat v2.1) (0, 0)).2, ())))) fun v3 =>
    let v4 : Int := v3.1
    loopF (curve_Fit_l8 fu a v1 v2 v4 j2) fu ((v2.2.1, ((0 : Int), v2.2.2)))
    else none
  else
  joinF (curve_Fit_j9 fu) fun j3 =>
  bif (decide ((0 : Int) < (List.length v2.2.2 : Int))) then
  bif (decide ((0 : Int) < (List.getD v2.2.2 (Int.toNat (0 : Int)) (0, 0)).1)) then
    bif (decide ((((List.length (((0 : Int), (List.getD v2.2.2 (Int.toNat (0 : Int)) (0, 0)).2) :: ([] : List ((Int) × (Int)))) : Int) + (List.length v2.2.2 : Int)) * (16 : Int)) ≤ (140737488355328 : Int))) then
    j3 (((((0 : Int), (List.getD v2.2.2 (Int.toNat (0 : Int)) (0, 0)).2) :: ([] : List ((Int) × (Int)))) ++ v2.2.2))
    else none
  else
  j3 (v2.2.2)
  else none
def curve_Fit_l4 (fu : Nat) (a : (List ((Int) × (Int))) × (Unit)) (j1 : ((Int) × (List ((Int) × (Int)))) → Option ((List ((Int) × (Int))) × ((Int) × (Unit)))) (v1 : (Int) × (List ((Int) × (Int)))) : Option ((List ((Int) × (Int))) × ((Int) × (Unit))) :=
  bif (decide (v1.1 < (List.length a.1 : Int))) then
    bif ((decide ((0 : Int) ≤ v1.1)) && (decide (v1.1 < (List.length a.1 : Int)))) then
    let v2 : (Int) × (Int) := (List.getD a.1 (Int.toNat v1.1) (0, 0))
    joinF (curve_Fit_j5 fu v1 j1) fun j3 =>
    loopF (curve_Fit_l6 fu j3) fu ((v1.2, (v2.2, (1 : Int))))
    else none
  else
  loopF (curve_Fit_l7 fu a v1) fu (((0 : Int), ((0 : Int), ([] : List ((Int) × (Int))))))
def curve_Fit_l1 (fu : Nat) (a : (List ((Int) × (Int))) × (Unit)) (j0 : ((Int) × (Unit)) → Option ((List ((Int) × (Int))) × ((Int) × (Unit)))) (v0 : (Int) × (Unit)) : Option ((List ((Int) × (Int))) × ((Int) × (Unit))) :=
  bif (decide (v0.1 < (List.length a.1 : Int))) then
    bif ((decide ((0 : Int) ≤ v0.1)) && (decide (v0.1 < (List.length a.1 : Int)))) then
    let v1 : (Int) × (Int) := (List.getD a.1 (Int.toNat v0.1) (0, 0))
    let v2 : Int := v0.1
    joinF (curve_Fit_j2 fu a v0 v1 v2 j0) fun j3 =>
    bif (decide (v1.1 < (0 : Int))) then
      j3 (true)
    else
    bif (decide ((65280 : Int) < v1.1)) then
      j3 (true)
    else
    bif (decide (v1.2 < (0 : Int))) then
      j3 (true)
    else
    j3 ((decide ((65280 : Int) < v1.2)))
    else none
  else
  loopF (curve_Fit_l4 fu a) fu (((0 : Int), ([] : List ((Int) × (Int)))))
def curve_Fit_r (fu : Nat) (a : (List ((Int) × (Int))) × (Unit)) : Option ((List ((Int) × (Int))) × ((Int) × (Unit))) :=
  bif (decide ((31 : Int) < (List.length a.1 : Int))) then
    some ((([] : List ((Int) × (Int))), ((2 : Int), ())))
  else
  bif (decide ((List.length a.1 : Int) = (0 : Int))) then
    some ((([] : List ((Int) × (Int))), ((1 : Int), ())))
  else
  loopF (curve_Fit_l1 fu a) fu (((0 : Int), ()))
def curve_Fit_an : An := (.n none .z (.n none (.n none .z (.n none (.n none .z .z) .z)) (.n none (.n none .z (.n none (.n none .z .z) .z)) (.n none (.n none .z (.n none (.n (some ⟨[2, 0, 26, 27], [], [], [.reg 28 (.int .i64), .box 0 [.nils] 49], 0, []⟩) (.n none .z (.n none .z (.n none (.n none (.n none .z (.n none (.n (some ⟨[5, 4, 28], [0, 1], [], [.reg 50 .bool], 0, []⟩) .z (.n none (.n none .z .z) .z)) (.n (some ⟨[28], [0, 1], [], [.reg 64 .bool], 0, []⟩) (.dr [] []) (.n none (.n none .z .z) .z)))) .z) .z))) .z) .z)) (.n none .z (.n none (.n none .z (.n none (.n (some ⟨[0, 2, 67, 68], [0], [(6, (.osl 1 0))], [.reg 69 (.int .i64), .row 1 true (.pair (.int .i64) (.int .i64)) 85 0], 1, [(6, (.pair (.int .i64) (.int .i64)), 85)]⟩) (.n none .z (.n none .z (.n none (.n none (.n none .z (.n none .z (.n (some ⟨[9, 69], [2], [(6, (.osl 1 0))], [.row 1 true (.pair (.int .i64) (.int .i64)) 85 0, .box 3 [(.int .i64), (.int .i64)] 85], 0, []⟩) (.n none (.n (some ⟨[], [], [(6, (.osl 1 0))], [.row 1 true (.pair (.int .i64) (.int .i64)) 85 0, .box 3 [(.int .i64), (.int .i64)] 85], 0, []⟩) (.n none (.n none .z .z) (.n none (.n none .z (.n none (.n none .z .z) (.n none .z (.ops [(4, (.dr [] []))])))) .z)) .z) .z) .z))) .z) .z))) .z) .z)) (.n none .z (.n none .z (.n none (.n none .z (.n none (.n (some ⟨[2, 117, 0, 118], [0, 1], [(11, (.osl 2 0))], [.reg 119 (.int .i64), .reg 12 (.int .i64), .row 2 true (.pair (.int .i64) (.int .i64)) 66 0], 1, [(11, (.pair (.int .i64) (.int .i64)), 66)]⟩) (.n none .z (.n none .z (.n none (.n none (.n none .z (.n none .z (.n none .z (.n none (.n (some ⟨[119, 15, 129], [3], [(11, (.osl 2 0))], [.reg 12 (.int .i64), .reg 130 (.int .i64), .row 2 true (.pair (.int .i64) (.int .i64)) 66 0], 0, []⟩) (.n none .z (.n none .z (.n none (.n none (.n none .z .z) .z) .z))) .z) .z)))) .z) .z))) .z) .z)) (.n (some ⟨[2], [1, 0], [(11, (.osl 3 1))], [.row 3 true (.pair (.int .i64) (.int .i64)) 66 1], 1, []⟩) (.n none .z (.n none .z (.n none .z .z))) (.n (some ⟨[], [], [(11, (.osl 3 2))], [.row 3 true (.pair (.int .i64) (.int .i64)) 66 2], 0, []⟩) (.n none .z (.n none .z (.n none .z .z))) (.n none .z .z))))))))))))
noncomputable def curve_Fit_dc : List (Nat × Ctr) := [(54, curve_Nearest_ctr)]
def curve_Fit_ctr : Ctr := ⟨(.pair (.list (.pair (.int .i64) (.int .i64))) .unit), (.pair (.agg (.list (.pair (.int .i64) (.int .i64)))) (.pair (.int .i64) .unit)), curve_Fit_r, 47⟩
theorem curve_Fit_ok : CtrOk Try.prog 47 curve_Fit_ctr := ctr_ok (l := curve_Fit_dc) (f := 12) (an := curve_Fit_an) ⟨curve_Nearest_ok, trivial⟩ fun fu x => by kernel_rfl
def curve_Raw_l1 (fu : Nat) (a : (List ((Int) × (Int))) × ((Int) × (Unit))) (j1 : ((Int) × (Int)) → Option ((Int) × (Unit))) (v1 : (Int) × (Int)) : Option ((Int) × (Unit)) :=
  bif (decide ((1 : Int) < (IntKind.i64.wrap (v1.1 - v1.2)))) then
    let v2 : Int := (IntKind.i64.wrap (Int.tdiv (IntKind.i64.wrap (v1.2 + v1.1)) (2 : Int)))
    bif ((decide ((0 : Int) ≤ v2)) && (decide (v2 < (List.length a.1 : Int)))) then
    let v3 : (Int) × (Int) := (List.getD a.1 (Int.toNat v2) (0, 0))
    bif (decide (v3.1 ≤ a.2.1)) then
      j1 ((v1.1, v2))
    else
    j1 ((v2, v1.2))
    else none
  else
  bif ((decide ((0 : Int) ≤ v1.2)) && (decide (v1.2 < (List.length a.1 : Int)))) then
  let v2 : (Int) × (Int) := (List.getD a.1 (Int.toNat v1.2) (0, 0))
  bif ((decide ((0 : Int) ≤ v1.1)) && (decide (v1.1 < (List.length a.1 : Int)))) then
  let v3 : (Int) × (Int) := (List.getD a.1 (Int.toNat v1.1) (0, 0))
  bindO (curve_Nearest_r fu (((IntKind.i64.wrap ((IntKind.i64.wrap (v3.2 - v2.2)) * (IntKind.i64.wrap (a.2.1 - v2.1)))), ((IntKind.i64.wrap (v3.1 - v2.1)), ())))) fun v4 =>
  let v5 : Int := (IntKind.i64.wrap (v2.2 + v4.1))
  some ((v5, ()))
  else none
  else none
def curve_Raw_r (fu : Nat) (a : (List ((Int) × (Int))) × ((Int) × (Unit))) : Option ((Int) × (Unit)) :=
  let v0 : Int := (IntKind.i64.wrap ((List.length a.1 : Int) - (1 : Int)))
  loopF (curve_Raw_l1 fu a) fu ((v0, (0 : Int)))
def curve_Raw_an : An := (.n none .z (.n none (.dr [] []) (.n none (.n none (.n (some ⟨[1, 2, 4], [0], [], [.reg 6 (.int .i64), .reg 5 (.int .i64)], 0, []⟩) (.n none (.n none .z .z) (.n none (.n none .z (.n none .z (.n none .z .z))) .z)) .z) .z) (.n none (.dr [] []) (.n none (.dr [] []) .z)))))
noncomputable def curve_Raw_dc : List (Nat × Ctr) := [(54, curve_Nearest_ctr)]
def curve_Raw_ctr : Ctr := ⟨(.pair (.agg (.list (.pair (.int .i64) (.int .i64)))) (.pair (.int .i64) .unit)), (.pair (.int .i64) .unit), curve_Raw_r, 67⟩
theorem curve_Raw_ok : CtrOk Try.prog 67 curve_Raw_ctr := ctr_ok (l := curve_Raw_dc) (f := 12) (an := curve_Raw_an) ⟨curve_Nearest_ok, trivial⟩ fun fu x => by kernel_rfl
def curve_Check_j3 (fu : Nat) (v3 : Int) (j3 : (Int) → Option ((Int) × (Unit))) (v6 : Bool) : Option ((Int) × (Unit)) :=
  bif v6 then
    some (((18 : Int), ()))
  else
  j3 ((IntKind.i64.wrap (v3 + (1 : Int))))
def curve_Check_j2 (fu : Nat) (a : (List ((Int) × (Int))) × (Unit)) (v3 : Int) (v4 : (Int) × (Int)) (j3 : (Int) → Option ((Int) × (Unit))) (v5 : Bool) : Option ((Int) × (Unit)) :=
  bif v5 then
    some (((3 : Int), ()))
  else
  joinF (curve_Check_j3 fu v3 j3) fun j6 =>
  bif (decide ((0 : Int) < v3)) then
    bif ((decide ((0 : Int) ≤ (IntKind.i64.wrap (v3 - (1 : Int))))) && (decide ((IntKind.i64.wrap (v3 - (1 : Int))) < (List.length a.1 : Int)))) then
    let v7 : (Int) × (Int) := (List.getD a.1 (Int.toNat (IntKind.i64.wrap (v3 - (1 : Int)))) (0, 0))
    bif (decide (v4.1 ≤ v7.1)) then
      j6 (true)
    else
    bif ((decide ((0 : Int) ≤ (IntKind.i64.wrap (v3 - (1 : Int))))) && (decide ((IntKind.i64.wrap (v3 - (1 : Int))) < (List.length a.1 : Int)))) then
    let v8 : (Int) × (Int) := (List.getD a.1 (Int.toNat (IntKind.i64.wrap (v3 - (1 : Int)))) (0, 0))
    j6 ((decide (v4.2 < v8.2)))
    else none
    else none
  else
  j6 (false)
def curve_Check_j4 (fu : Nat) (v4 : Bool) : Option ((Int) × (Unit)) :=
  bif v4 then
    some (((4 : Int), ()))
  else
  some (((0 : Int), ()))
def curve_Check_l1 (fu : Nat) (a : (List ((Int) × (Int))) × (Unit)) (j3 : (Int) → Option ((Int) × (Unit))) (v3 : Int) : Option ((Int) × (Unit)) :=
  bif (decide (v3 < (List.length a.1 : Int))) then
    bif ((decide ((0 : Int) ≤ v3)) && (decide (v3 < (List.length a.1 : Int)))) then
    let v4 : (Int) × (Int) := (List.getD a.1 (Int.toNat v3) (0, 0))
    joinF (curve_Check_j2 fu a v3 v4 j3) fun j5 =>
    bif (decide (v4.1 < (0 : Int))) then
      j5 (true)
    else
    bif (decide ((65280 : Int) < v4.1)) then
      j5 (true)
    else
    bif (decide (v4.2 < (0 : Int))) then
      j5 (true)
    else
    j5 ((decide ((65280 : Int) < v4.2)))
    else none
  else
  joinF (curve_Check_j4 fu) fun j4 =>
  bif (decide ((0 : Int) < (List.length a.1 : Int))) then
  let v5 : (Int) × (Int) := (List.getD a.1 (Int.toNat (0 : Int)) (0, 0))
  bif (decide (v5.1 ≠ (0 : Int))) then
    j4 (true)
  else
  bif ((decide ((0 : Int) ≤ (IntKind.i64.wrap ((List.length a.1 : Int) - (1 : Int))))) && (decide ((IntKind.i64.wrap ((List.length a.1 : Int) - (1 : Int))) < (List.length a.1 : Int)))) then
  let v6 : (Int) × (Int) := (List.getD a.1 (Int.toNat (IntKind.i64.wrap ((List.length a.1 : Int) - (1 : Int)))) (0, 0))
  j4 ((decide (v6.1 ≠ (65280 : Int))))
  else none
  else none
def curve_Check_r (fu : Nat) (a : (List ((Int) × (Int))) × (Unit)) : Option ((Int) × (Unit)) :=
  let v0 : Int := (List.length a.1 : Int)
  let v1 : Bool := (decide ((33 : Int) < v0))
  bif v1 then
    some (((2 : Int), ()))
  else
  let v2 : Bool := (decide (v0 < (2 : Int)))
  bif v2 then
    some (((1 : Int), ()))
  else
  loopF (curve_Check_l1 fu a) fu ((0 : Int))
def curve_Check_an : An := (.n none .z (.n none (.n none .z (.n none (.n none .z (.n none (.n none .z .z) (.n none .z (.n none (.n none .z .z) .z)))) .z)) (.n none (.n none .z (.n none (.n (some ⟨[1, 16, 17], [0], [], [.reg 18 (.int .i64)], 0, []⟩) (.n none .z (.n none .z (.n none (.n none (.n none .z (.n none (.n (some ⟨[5, 4, 18], [1], [], [.reg 40 .bool], 0, []⟩) .z (.n none (.n none .z .z) .z)) (.n (some ⟨[18], [1], [], [.reg 66 .bool], 0, []⟩) (.dr [] []) (.n none (.n none .z .z) .z)))) .z) .z))) .z) .z)) (.n none (.n (some ⟨[], [0], [], [.reg 85 .bool], 0, []⟩) .z (.n none (.n none .z .z) .z)) (.n none .z .z)))))
noncomputable def curve_Check_dc : List (Nat × Ctr) := []
def curve_Check_ctr : Ctr := ⟨(.pair (.agg (.list (.pair (.int .i64) (.int .i64)))) .unit), (.pair (.int .i64) .unit), curve_Check_r, 44⟩
theorem curve_Check_ok : CtrOk Try.prog 44 curve_Check_ctr := ctr_ok (l := curve_Check_dc) (f := 12) (an := curve_Check_an) trivial fun fu x => by kernel_rfl
def curve_Table_l1 (fu : Nat) (a : (List ((Int) × (Int))) × (Unit)) (j2 : ((Int) × (List (Int))) → Option ((List (Int)) × ((Int) × (Unit)))) (v2 : (Int) × (List (Int))) : Option ((List (Int)) × ((Int) × (Unit))) :=
  bif (decide (v2.1 < (List.length (List.replicate (Int.toNat (256 : Int)) (0 : Int)) : Int))) then
    let v3 : Int := v2.1
    bindO (curve_Raw_r fu ((a.1, ((IntKind.i64.wrap ((256 : Int) * v3)), ())))) fun v4 =>
    bindO (curve_Nearest_r fu ((v4.1, ((256 : Int), ())))) fun v5 =>
    bif ((decide ((0 : Int) ≤ v3)) && (decide (v3 < (List.length v2.2 : Int)))) then
    j2 (((IntKind.i64.wrap (v2.1 + (1 : Int))), (List.set v2.2 (Int.toNat v3) v5.1)))
    else none
  else
  some ((v2.2, ((0 : Int), ())))
def curve_Table_r (fu : Nat) (a : (List ((Int) × (Int))) × (Unit)) : Option ((List (Int)) × ((Int) × (Unit))) :=
  bindO (curve_Check_r fu ((a.1, ()))) fun v0 =>
  let v1 : Int := v0.1
  bif (decide (v1 ≠ (0 : Int))) then
    some ((([] : List (Int)), (v1, ())))
  else
  loopF (curve_Table_l1 fu a) fu (((0 : Int), (List.replicate (Int.toNat (256 : Int)) (0 : Int))))
def curve_Table_an : An := (.n none .z (.n none (.n none .z (.n none .z (.n none (.n none .z .z) .z))) (.n none .z (.n none (.n none .z (.n none (.n (some ⟨[5, 1, 14, 2, 3], [0], [], [.reg 15 (.int .i64), .row 1 true (.int .i64) 3 0], 0, []⟩) (.n none .z (.n none .z (.n none (.n none (.n none .z .z) .z) .z))) .z) .z)) (.n none .z .z)))))
noncomputable def curve_Table_dc : List (Nat × Ctr) := [(44, curve_Check_ctr), (54, curve_Nearest_ctr), (67, curve_Raw_ctr)]
def curve_Table_ctr : Ctr := ⟨(.pair (.agg (.list (.pair (.int .i64) (.int .i64)))) .unit), (.pair (.list (.int .i64)) (.pair (.int .i64) .unit)), curve_Table_r, 50⟩
theorem curve_Table_ok : CtrOk Try.prog 50 curve_Table_ctr := ctr_ok (l := curve_Table_dc) (f := 12) (an := curve_Table_an) ⟨curve_Check_ok, ⟨curve_Nearest_ok, ⟨curve_Raw_ok, trivial⟩⟩⟩ fun fu x => by kernel_rfl
def law_bent_r (fu : Nat) (a : Unit) : Option ((List ((Int) × (Int))) × (Unit)) :=
  some (((((0 : Int), (0 : Int)) :: (((32640 : Int), (16320 : Int)) :: (((65280 : Int), (65280 : Int)) :: ([] : List ((Int) × (Int)))))), ()))
def law_bent_an : An := (.n none .z (.n none .z .z))
noncomputable def law_bent_dc : List (Nat × Ctr) := []
def law_bent_ctr : Ctr := ⟨.unit, (.pair (.agg (.list (.pair (.int .i64) (.int .i64)))) .unit), law_bent_r, 66⟩
theorem law_bent_ok : CtrOk Try.prog 66 law_bent_ctr := ctr_ok (l := law_bent_dc) (f := 12) (an := law_bent_an) trivial fun fu x => by kernel_rfl
def curve_least_l1 (fu : Nat) (a : (List ((Int) × (Int))) × ((Int) × (Unit))) (j0 : ((Int) × (Int)) → Option ((Int) × (Unit))) (v0 : (Int) × (Int)) : Option ((Int) × (Unit)) :=
  bif (decide ((1 : Int) < (IntKind.i64.wrap (v0.1 - v0.2)))) then
    let v1 : Int := (IntKind.i64.wrap (Int.tdiv (IntKind.i64.wrap (v0.2 + v0.1)) (2 : Int)))
    bindO (curve_Raw_r fu ((a.1, (v1, ())))) fun v2 =>
    bif (decide (a.2.1 ≤ v2.1)) then
      j0 ((v1, v0.2))
    else
    j0 ((v0.1, v1))
  else
  let v1 : Int := v0.1
  some ((v1, ()))
def curve_least_r (fu : Nat) (a : (List ((Int) × (Int))) × ((Int) × (Unit))) : Option ((Int) × (Unit)) :=
  loopF (curve_least_l1 fu a) fu (((65280 : Int), (-1 : Int)))
def curve_least_an : An := (.n none .z (.n none .z (.n none (.n none (.n (some ⟨[2, 1, 4], [0], [], [.reg 6 (.int .i64), .reg 5 (.int .i64)], 0, []⟩) (.n none (.n none .z .z) (.n none (.n none .z (.n none .z (.n none .z .z))) .z)) .z) .z) (.n none .z .z))))
noncomputable def curve_least_dc : List (Nat × Ctr) := [(67, curve_Raw_ctr)]
def curve_least_ctr : Ctr := ⟨(.pair (.agg (.list (.pair (.int .i64) (.int .i64)))) (.pair (.int .i64) .unit)), (.pair (.int .i64) .unit), curve_least_r, 68⟩
theorem curve_least_ok : CtrOk Try.prog 68 curve_least_ctr := ctr_ok (l := curve_least_dc) (f := 12) (an := curve_least_an) ⟨curve_Raw_ok, trivial⟩ fun fu x => by kernel_rfl
def curve_Inverse_j1 (fu : Nat) (a : (List ((Int) × (Int))) × ((Int) × (Unit))) (v2 : Bool) : Option ((Int) × ((Int) × (Unit))) :=
  bif v2 then
    some (((0 : Int), ((3 : Int), ())))
  else
  bif ((decide ((0 : Int) ≤ (IntKind.i64.wrap ((List.length a.1 : Int) - (1 : Int))))) && (decide ((IntKind.i64.wrap ((List.length a.1 : Int) - (1 : Int))) < (List.length a.1 : Int)))) then
  let v3 : (Int) × (Int) := (List.getD a.1 (Int.toNat (IntKind.i64.wrap ((List.length a.1 : Int) - (1 : Int)))) (0, 0))
  bif (decide (v3.2 < a.2.1)) then
    some (((0 : Int), ((8 : Int), ())))
  else
  bindO (curve_least_r fu ((a.1, (a.2.1, ())))) fun v4 =>
  let v5 : Int := v4.1
  some ((v5, ((0 : Int), ())))
  else none
def curve_Inverse_r (fu : Nat) (a : (List ((Int) × (Int))) × ((Int) × (Unit))) : Option ((Int) × ((Int) × (Unit))) :=
  bindO (curve_Check_r fu ((a.1, ()))) fun v0 =>
  let v1 : Int := v0.1
  bif (decide (v1 ≠ (0 : Int))) then
    some (((0 : Int), (v1, ())))
  else
  joinF (curve_Inverse_j1 fu a) fun j2 =>
  bif (decide (a.2.1 < (0 : Int))) then
    j2 (true)
  else
  j2 ((decide ((65280 : Int) < a.2.1)))
def curve_Inverse_an : An := (.n none .z (.n none (.n none .z (.n none .z (.n none (.n none .z .z) .z))) (.n none (.n (some ⟨[2, 1], [0], [], [.reg 17 .bool], 0, []⟩) .z (.n none (.n none .z .z) .z)) (.n none (.n none .z (.n none (.n none .z .z) .z)) (.n none .z .z)))))
noncomputable def curve_Inverse_dc : List (Nat × Ctr) := [(44, curve_Check_ctr), (68, curve_least_ctr)]
def curve_Inverse_ctr : Ctr := ⟨(.pair (.agg (.list (.pair (.int .i64) (.int .i64)))) (.pair (.int .i64) .unit)), (.pair (.int .i64) (.pair (.int .i64) .unit)), curve_Inverse_r, 45⟩
theorem curve_Inverse_ok : CtrOk Try.prog 45 curve_Inverse_ctr := ctr_ok (l := curve_Inverse_dc) (f := 12) (an := curve_Inverse_an) ⟨curve_Check_ok, ⟨curve_least_ok, trivial⟩⟩ fun fu x => by kernel_rfl
def curve_At_j1 (fu : Nat) (a : (List ((Int) × (Int))) × ((Int) × (Unit))) (v2 : Bool) : Option ((Int) × ((Int) × (Unit))) :=
  bif v2 then
    some (((0 : Int), ((3 : Int), ())))
  else
  bindO (curve_Raw_r fu ((a.1, (a.2.1, ())))) fun v3 =>
  let v4 : Int := v3.1
  some ((v4, ((0 : Int), ())))
def curve_At_r (fu : Nat) (a : (List ((Int) × (Int))) × ((Int) × (Unit))) : Option ((Int) × ((Int) × (Unit))) :=
  bindO (curve_Check_r fu ((a.1, ()))) fun v0 =>
  let v1 : Int := v0.1
  bif (decide (v1 ≠ (0 : Int))) then
    some (((0 : Int), (v1, ())))
  else
  joinF (curve_At_j1 fu a) fun j2 =>
  bif (decide (a.2.1 < (0 : Int))) then
    j2 (true)
  else
  j2 ((decide ((65280 : Int) < a.2.1)))
def curve_At_an : An := (.n none .z (.n none (.n none .z (.n none .z (.n none (.n none .z .z) .z))) (.n none (.n (some ⟨[2, 1], [0], [], [.reg 17 .bool], 0, []⟩) .z (.n none (.n none .z .z) .z)) (.n none .z .z))))
noncomputable def curve_At_dc : List (Nat × Ctr) := [(44, curve_Check_ctr), (67, curve_Raw_ctr)]
def curve_At_ctr : Ctr := ⟨(.pair (.agg (.list (.pair (.int .i64) (.int .i64)))) (.pair (.int .i64) .unit)), (.pair (.int .i64) (.pair (.int .i64) .unit)), curve_At_r, 43⟩
theorem curve_At_ok : CtrOk Try.prog 43 curve_At_ctr := ctr_ok (l := curve_At_dc) (f := 12) (an := curve_At_an) ⟨curve_Check_ok, ⟨curve_Raw_ok, trivial⟩⟩ fun fu x => by kernel_rfl
def law_curveWorks_r (fu : Nat) (a : Unit) : Option ((Bool) × (Unit)) :=
  bindO (law_bent_r fu (())) fun v0 =>
  bindO (curve_At_r fu ((v0.1, ((48960 : Int), ())))) fun v1 =>
  let v2 : Int := v1.1
  let v3 : Int := v1.2.1
  bindO (law_bent_r fu (())) fun v4 =>
  bindO (curve_Inverse_r fu ((v4.1, ((16321 : Int), ())))) fun v5 =>
  let v6 : Int := v5.1
  let v7 : Int := v5.2.1
  bindO (law_bent_r fu (())) fun v8 =>
  bindO (curve_Table_r fu ((v8.1, ()))) fun v9 =>
  let v10 : List (Int) := v9.1
  let v11 : Int := v9.2.1
  bindO (curve_Fit_r fu (((((0 : Int), (10 : Int)) :: (((100 : Int), (4 : Int)) :: (((200 : Int), (20 : Int)) :: ([] : List ((Int) × (Int)))))), ()))) fun v12 =>
  let v13 : Int := v12.2.1
  bif (decide (v3 = (0 : Int))) then
    bif (decide (v2 = (40800 : Int))) then
      bif (decide (v7 = (0 : Int))) then
        bif (decide (v6 = (32641 : Int))) then
          bif (decide (v11 = (0 : Int))) then
            bif (decide ((List.length v10 : Int) = (256 : Int))) then
              bif (decide ((128 : Int) < (List.length v10 : Int))) then
              let v14 : Int := (List.getD v10 (Int.toNat (128 : Int)) 0)
              bif (decide (v14 = (65 : Int))) then
                bif (decide (v13 = (0 : Int))) then
                  bif (decide ((List.length v12.1 : Int) = (4 : Int))) then
                    bif (decide ((1 : Int) < (List.length v12.1 : Int))) then
                    let v15 : (Int) × (Int) := (List.getD v12.1 (Int.toNat (1 : Int)) (0, 0))
                    let v16 : Bool := ((decide (v15.1 = (100 : Int))) && (decide (v15.2 = (7 : Int))))
                    some ((v16, ()))
                    else none
                  else
                  some ((false, ()))
                else
                some ((false, ()))
              else
              some ((false, ()))
              else none
            else
            some ((false, ()))
          else
          some ((false, ()))
        else
        some ((false, ()))
      else
      some ((false, ()))
    else
    some ((false, ()))
  else
  some ((false, ()))
def law_curveWorks_an : An := (.n none .z (.n none .z (.n none .z (.n none .z (.n none .z (.n none .z .z))))))
noncomputable def law_curveWorks_dc : List (Nat × Ctr) := [(43, curve_At_ctr), (45, curve_Inverse_ctr), (47, curve_Fit_ctr), (50, curve_Table_ctr), (66, law_bent_ctr)]
def law_curveWorks_ctr : Ctr := ⟨.unit, (.pair .bool .unit), law_curveWorks_r, 42⟩
theorem law_curveWorks_ok : CtrOk Try.prog 42 law_curveWorks_ctr := ctr_ok (l := law_curveWorks_dc) (f := 12) (an := law_curveWorks_an) ⟨curve_At_ok, ⟨curve_Inverse_ok, ⟨curve_Fit_ok, ⟨curve_Table_ok, ⟨law_bent_ok, trivial⟩⟩⟩⟩⟩ fun fu x => by kernel_rfl
def law_CurveFitIsotonic_j4 (fu : Nat) (j4 : ((Int) × (Int)) → Option ((Bool) × (Unit))) (v6 : (Int) × (Int)) : Option ((Bool) × (Unit)) :=
  let v7 : Int := (IntKind.i64.wrap (v6.1 + (1 : Int)))
  j4 ((v6.2, v7))
def law_CurveFitIsotonic_j6 (fu : Nat) (v4 : (Int) × (Int)) (j6 : ((Int) × (Int)) → Option ((Bool) × (Unit))) (v9 : (Bool) × (Int)) : Option ((Bool) × (Unit)) :=
  bif v9.1 then
    j6 ((v4.2, (18 : Int)))
  else
  j6 ((v4.2, v9.2))
def law_CurveFitIsotonic_j5 (fu : Nat) (a : (List ((Int) × (Int))) × (Unit)) (v4 : (Int) × (Int)) (v7 : (Int) × (Int)) (j6 : ((Int) × (Int)) → Option ((Bool) × (Unit))) (v8 : (Bool) × (Int)) : Option ((Bool) × (Unit)) :=
  bif v8.1 then
    j6 ((v4.2, (3 : Int)))
  else
  joinF (law_CurveFitIsotonic_j6 fu v4 j6) fun j9 =>
  bif (decide ((0 : Int) < v4.2)) then
    bif ((decide ((0 : Int) ≤ (IntKind.i64.wrap (v4.2 - (1 : Int))))) && (decide ((IntKind.i64.wrap (v4.2 - (1 : Int))) < (List.length a.1 : Int)))) then
    let v10 : (Int) × (Int) := (List.getD a.1 (Int.toNat (IntKind.i64.wrap (v4.2 - (1 : Int)))) (0, 0))
    j9 (((decide (v7.1 ≤ v10.1)), v8.2))
    else none
  else
  j9 ((false, v8.2))
def law_CurveFitIsotonic_j9 (fu : Nat) (v1 : (List ((Int) × (Int))) × ((Int) × (Unit))) (v2 : Int) (v9 : List ((Int) × (Int))) : Option ((Bool) × (Unit)) :=
  bif (decide (v2 = (0 : Int))) then
    bindO (R_SameCurves_r fu ((v1.1, (v9, ())))) fun v10 =>
    let v11 : Bool := v10.1
    some ((v11, ()))
  else
  some ((false, ()))
def law_CurveFitIsotonic_j8 (fu : Nat) (v1 : (List ((Int) × (Int))) × ((Int) × (Unit))) (v2 : Int) (v8 : List ((Int) × (Int))) : Option ((Bool) × (Unit)) :=
  joinF (law_CurveFitIsotonic_j9 fu v1 v2) fun j9 =>
  bif ((decide ((0 : Int) ≤ (IntKind.i64.wrap ((List.length v8 : Int) - (1 : Int))))) && (decide ((IntKind.i64.wrap ((List.length v8 : Int) - (1 : Int))) < (List.length v8 : Int)))) then
  bif (decide ((List.getD v8 (Int.toNat (IntKind.i64.wrap ((List.length v8 : Int) - (1 : Int)))) (0, 0)).1 < (65280 : Int))) then
    bif (decide ((((List.length v8 : Int) + (List.length (((65280 : Int), (List.getD v8 (Int.toNat (IntKind.i64.wrap ((List.length v8 : Int) - (1 : Int)))) (0, 0)).2) :: ([] : List ((Int) × (Int)))) : Int)) * (16 : Int)) ≤ (140737488355328 : Int))) then
    j9 ((v8 ++ (((65280 : Int), (List.getD v8 (Int.toNat (IntKind.i64.wrap ((List.length v8 : Int) - (1 : Int)))) (0, 0)).2) :: ([] : List ((Int) × (Int))))))
    else none
  else
  j9 (v8)
  else none
def law_CurveFitIsotonic_l7 (fu : Nat) (a : (List ((Int) × (Int))) × (Unit)) (v1 : (List ((Int) × (Int))) × ((Int) × (Unit))) (v2 : Int) (v6 : (List ((Int) × (Int))) × (Unit)) (j7 : ((Int) × (List ((Int) × (Int)))) → Option ((Bool) × (Unit))) (v7 : (Int) × (List ((Int) × (Int)))) : Option ((Bool) × (Unit)) :=
  bif (decide (v7.1 < (List.length v6.1 : Int))) then
    bif ((decide ((0 : Int) ≤ v7.1)) && (decide (v7.1 < (List.length v6.1 : Int)))) then
    let v8 : (Int) × (Int) := (List.getD v6.1 (Int.toNat v7.1) (0, 0))
    let v9 : Int := v7.1
    bif (decide ((List.length ((0 : Int) :: ((0 : Int) :: ([] : List (Int)))) : Int) = (2 : Int))) then
    bif ((decide ((0 : Int) ≤ v9)) && (decide (v9 < (List.length a.1 : Int)))) then
    let v10 : (Int) × (Int) := (List.getD a.1 (Int.toNat v9) (0, 0))
    bif (decide ((0 : Int) < (List.length (v8.1 :: (v8.2 :: ([] : List (Int)))) : Int))) then
    bif (decide ((1 : Int) < (List.length (v8.1 :: (v8.2 :: ([] : List (Int)))) : Int))) then
    bindO (R_Round_r fu (((List.getD (v8.1 :: (v8.2 :: ([] : List (Int)))) (Int.toNat (0 : Int)) 0), ((List.getD (v8.1 :: (v8.2 :: ([] : List (Int)))) (Int.toNat (1 : Int)) 0), ())))) fun v11 =>
    bif (decide ((((List.length v7.2 : Int) + (List.length ((v10.1, v11.1) :: ([] : List ((Int) × (Int)))) : Int)) * (16 : Int)) ≤ (140737488355328 : Int))) then
    j7 (((IntKind.i64.wrap (v7.1 + (1 : Int))), (v7.2 ++ ((v10.1, v11.1) :: ([] : List ((Int) × (Int)))))))
    else none
    else none
    else none
    else none
    else none
    else none
  else
  joinF (law_CurveFitIsotonic_j8 fu v1 v2) fun j8 =>
  bif (decide ((0 : Int) < (List.length v7.2 : Int))) then
  bif (decide ((0 : Int) < (List.getD v7.2 (Int.toNat (0 : Int)) (0, 0)).1)) then
    bif (decide ((0 : Int) < (List.length v7.2 : Int))) then
    bif (decide ((((List.length (((0 : Int), (List.getD v7.2 (Int.toNat (0 : Int)) (0, 0)).2) :: ([] : List ((Int) × (Int)))) : Int) + (List.length v7.2 : Int)) * (16 : Int)) ≤ (140737488355328 : Int))) then
    j8 (((((0 : Int), (List.getD v7.2 (Int.toNat (0 : Int)) (0, 0)).2) :: ([] : List ((Int) × (Int)))) ++ v7.2))
    else none
    else none
  else
  j8 (v7.2)
  else none
def law_CurveFitIsotonic_j3 (fu : Nat) (a : (List ((Int) × (Int))) × (Unit)) (v1 : (List ((Int) × (Int))) × ((Int) × (Unit))) (v2 : Int) (v4 : (Int) × (Int)) (j4 : ((Int) × (Int)) → Option ((Bool) × (Unit))) (v5 : Bool) : Option ((Bool) × (Unit)) :=
  bif v5 then
    joinF (law_CurveFitIsotonic_j4 fu j4) fun j6 =>
    bif ((decide ((0 : Int) ≤ v4.2)) && (decide (v4.2 < (List.length a.1 : Int)))) then
    let v7 : (Int) × (Int) := (List.getD a.1 (Int.toNat v4.2) (0, 0))
    joinF (law_CurveFitIsotonic_j5 fu a v4 v7 j6) fun j8 =>
    bindO (R_Within_r fu ((v7.1, ((0 : Int), ((65280 : Int), ()))))) fun v9 =>
    bif (!v9.1) then
      j8 ((true, v4.1))
    else
    bindO (R_Within_r fu ((v7.2, ((0 : Int), ((65280 : Int), ()))))) fun v10 =>
    j8 (((!v10.1), v4.1))
    else none
  else
  bif (decide (v4.1 ≠ (0 : Int))) then
    bindO (law_none_r fu (((decide ((List.length v1.1 : Int) = (0 : Int))), (v2, (v4.1, ()))))) fun v6 =>
    let v7 : Bool := v6.1
    some ((v7, ()))
  else
  bindO (R_Fitted_r fu ((a.1, ()))) fun v6 =>
  loopF (law_CurveFitIsotonic_l7 fu a v1 v2 v6) fu (((0 : Int), ([] : List ((Int) × (Int)))))
def law_CurveFitIsotonic_l2 (fu : Nat) (a : (List ((Int) × (Int))) × (Unit)) (v1 : (List ((Int) × (Int))) × ((Int) × (Unit))) (v2 : Int) (j4 : ((Int) × (Int)) → Option ((Bool) × (Unit))) (v4 : (Int) × (Int)) : Option ((Bool) × (Unit)) :=
  joinF (law_CurveFitIsotonic_j3 fu a v1 v2 v4 j4) fun j5 =>
  bif (decide (v4.2 < (List.length a.1 : Int))) then
    j5 ((decide (v4.1 = (0 : Int))))
  else
  j5 (false)
def law_CurveFitIsotonic_j1 (fu : Nat) (a : (List ((Int) × (Int))) × (Unit)) (v1 : (List ((Int) × (Int))) × ((Int) × (Unit))) (v2 : Int) (v3 : Int) : Option ((Bool) × (Unit)) :=
  loopF (law_CurveFitIsotonic_l2 fu a v1 v2) fu ((v3, (0 : Int)))
def law_CurveFitIsotonic_r (fu : Nat) (a : (List ((Int) × (Int))) × (Unit)) : Option ((Bool) × (Unit)) :=
  bindO (law_curveWorks_r fu (())) fun v0 =>
  bif (!v0.1) then
    some ((false, ()))
  else
  bindO (curve_Fit_r fu ((a.1, ()))) fun v1 =>
  let v2 : Int := v1.2.1
  joinF (law_CurveFitIsotonic_j1 fu a v1 v2) fun j3 =>
  let v4 : Bool := (decide ((31 : Int) < (List.length a.1 : Int)))
  bif v4 then
    j3 ((2 : Int))
  else
  let v5 : Bool := (decide ((List.length a.1 : Int) = (0 : Int)))
  bif v5 then
    j3 ((1 : Int))
  else
  j3 ((0 : Int))
def law_CurveFitIsotonic_an : An := (.n none .z (.n none (.n none .z (.n none (.n none .z .z) .z)) (.n none .z (.n none .z (.n (some ⟨[0, 4, 3], [0], [], [.reg 5 (.int .i64)], 0, []⟩) (.n none (.n none .z (.n none .z (.n none .z (.n none .z .z)))) .z) (.n none (.n none .z (.n none (.n (some ⟨[], [], [], [.reg 5 (.int .i64), .reg 6 (.int .i64)], 0, []⟩) (.n none (.n (some ⟨[6, 5], [], [], [.reg 34 .bool], 0, []⟩) .z .z) (.n (some ⟨[], [], [], [.reg 6 (.int .i64), .reg 5 (.int .i64)], 0, []⟩) (.n none (.n none .z (.n (some ⟨[7, 6], [1], [], [.reg 50 .bool, .reg 5 (.int .i64)], 0, []⟩) .z (.n none .z (.n (some ⟨[], [], [], [.reg 63 .bool, .reg 5 (.int .i64)], 0, []⟩) (.dr [] []) (.n none .z .z))))) .z) .z)) .z) .z)) (.n none (.n none .z (.n none (.n none .z .z) .z)) (.n none .z (.n none (.n none .z (.n none (.n (some ⟨[74, 75], [], [(8, (.osl 1 0))], [.reg 76 (.int .i64), .row 1 true (.pair (.int .i64) (.int .i64)) 66 0], 1, [(8, (.pair (.int .i64) (.int .i64)), 66)]⟩) (.n none .z (.n none .z (.n none (.n none (.n none .z (.dr [] [])) .z) .z))) .z) .z)) (.n (some ⟨[], [], [(8, (.osl 2 1))], [.row 2 true (.pair (.int .i64) (.int .i64)) 66 1], 1, []⟩) (.n none .z (.n none .z .z)) (.n (some ⟨[], [], [(8, (.osl 2 2))], [.row 2 true (.pair (.int .i64) (.int .i64)) 66 2], 0, []⟩) (.n none .z (.n none .z (.n none .z .z))) (.n none .z .z))))))))))))
noncomputable def law_CurveFitIsotonic_dc : List (Nat × Ctr) := [(16, R_Within_ctr), (17, law_none_ctr), (23, R_Round_ctr), (42, law_curveWorks_ctr), (47, curve_Fit_ctr), (48, R_Fitted_ctr), (49, R_SameCurves_ctr)]
def law_CurveFitIsotonic_ctr : Ctr := ⟨(.pair (.list (.pair (.int .i64) (.int .i64))) .unit), (.pair .bool .unit), law_CurveFitIsotonic_r, 11⟩
theorem law_CurveFitIsotonic_ok : CtrOk Try.prog 11 law_CurveFitIsotonic_ctr := ctr_ok (l := law_CurveFitIsotonic_dc) (f := 12) (an := law_CurveFitIsotonic_an) ⟨R_Within_ok, ⟨law_none_ok, ⟨R_Round_ok, ⟨law_curveWorks_ok, ⟨curve_Fit_ok, ⟨R_Fitted_ok, ⟨R_SameCurves_ok, trivial⟩⟩⟩⟩⟩⟩⟩ fun fu x => by kernel_rfl
end Go.Proofs.Ytlbnicapkfmdoaa
/- Numbers: what the small functions compute. -/
namespace Go.Proofs.Ytlbnicapkfmdoaa
open Go Go.RowKit
set_option linter.unusedSimpArgs false
set_option linter.unusedSectionVars false
set_option linter.unusedVariables false

theorem floor_s (fu : Nat) {n d : Int} (hd : 0 < d) (h1 : d ≤ 9223372036854775807) (h2 : -9223372036854775808 ≤ n) (h3 : n ≤ 9223372036854775807) : R_Floor_r fu (n, (d, ())) = some (n / d, ()) := by
  unfold R_Floor_r
  simp only [joinF_eq]
  rw [bif_pos (by omega)]
  have hm := Int.tmod_add_mul_tdiv n d
  have hm1 := Int.natAbs_tmod n d
  have h4 : n.tdiv d * d = n - n.tmod d := by rw [Int.mul_comm]; omega
  have h5 : (n.tmod d).natAbs ≤ n.natAbs := by rw [hm1]; exact Nat.mod_le _ _
  have hb : -9223372036854775808 ≤ n.tdiv d * d ∧ n.tdiv d * d ≤ 9223372036854775807 := by
    rcases Int.le_total 0 n with hn | hn
    · have := Int.tmod_nonneg d hn; omega
    · have := Int.tmod_nonneg (a := -n) d (by omega)
      rw [Int.neg_tmod] at this
      omega
  obtain ⟨b1, b2⟩ := hb
  have hq := Int.natAbs_tdiv n d
  have hq' : (n.tdiv d).natAbs ≤ n.natAbs := by rw [hq]; exact Nat.div_le_self _ _
  have hq3 : n.tdiv d ≤ 9223372036854775807 := by
    rcases Int.le_total 0 n with hn | hn
    · omega
    · have := Int.tdiv_nonneg (a := -n) (b := d) (by omega) (by omega)
      rw [Int.neg_tdiv] at this
      omega
  rw [wr64 (x := n.tdiv d) (by omega) hq3, wr64 (x := n.tdiv d * d) b1 b2]
  by_cases hc : n < n.tdiv d * d
  · have hlow : -9223372036854775807 ≤ n.tdiv d := by
      rcases Int.lt_or_le d 2 with g | g
      · obtain rfl : d = 1 := by omega
        rw [Int.tdiv_one] at hc
        omega
      · have h6 : (n.tdiv d).natAbs ≤ n.natAbs / 2 := by
          rw [hq]
          exact Nat.div_le_div_left (by omega) (by omega)
        omega
    rw [bif_pos hc, wr64 (x := n.tdiv d - 1) (by omega) (by omega), tdiv_over hd hc]; rfl
  · rw [bif_neg hc, tdiv_under hd (by omega)]; rfl
theorem floor_mul' {n d : Int} (hd : 0 < d) : n / d * d ≤ n ∧ n < n / d * d + d := by
  have h1 := Int.mul_ediv_add_emod n d
  have h2 := Int.emod_nonneg n (by omega : d ≠ 0)
  have h3 := Int.emod_lt_of_pos n hd
  rw [Int.mul_comm] at h1
  omega
theorem round_s (fu : Nat) {n d : Int} (hd : 0 < d) (h1 : d ≤ 1000000000000000) (h2 : -1000000000000000000 ≤ n) (h3 : n ≤ 1000000000000000000) : R_Round_r fu (n, (d, ())) = some (rnd n d, ()) := by
  unfold R_Round_r
  simp only
  rw [floor_s fu hd (by omega) (by omega) (by omega)]
  simp only [bindO_some, joinF_eq]
  obtain ⟨b1, b2⟩ := floor_mul' (n := n) hd
  have hq : -1000000000000000001 ≤ n / d ∧ n / d ≤ 1000000000000000000 := by
    constructor
    · rcases Int.lt_or_le (n / d) 0 with g | g
      · have : n / d * d ≤ n / d * 1 := Int.mul_le_mul_of_nonpos_left (by omega) (by omega)
        have h4 : n / d * d - n / d * 1 ≤ 0 := by omega
        have h5 : (n / d + 1) * d ≤ (n / d + 1) * 1 := Int.mul_le_mul_of_nonpos_left (by omega) (by omega)
        rw [Int.add_mul] at h5
        omega
      · omega
    · rcases Int.lt_or_le (n / d) 1 with g | g
      · omega
      · have : n / d * 1 ≤ n / d * d := Int.mul_le_mul_of_nonneg_left (by omega) (by omega)
        omega
  rw [wr64 (x := n / d * d) (by omega) (by omega), wr64 (x := n - n / d * d) (by omega) (by omega), wr64 (x := 2 * (n - n / d * d)) (by omega) (by omega)]
  by_cases hc : d ≤ 2 * (n - n / d * d)
  · rw [bif_pos hc, wr64 (x := n / d + 1) (by omega) (by omega), rnd_up hd hc]; rfl
  · rw [bif_neg hc, rnd_down hd (by omega)]; rfl
theorem nearest_s (fu : Nat) {n d : Int} (hd : 0 < d) (h1 : d ≤ 1000000000000000) (h2 : -1000000000000000000 ≤ n) (h3 : n ≤ 1000000000000000000) : curve_Nearest_r fu (n, (d, ())) = some (rnd n d, ()) := by
  obtain ⟨g1, g2⟩ := tdiv_abs (n := 2 * n + d) (m := 2002000000000000000) (2 * d) (by omega) (by omega)
  unfold curve_Nearest_r rnd
  simp only [joinF_eq]
  rw [wr64 (x := 2 * n) (by omega) (by omega), wr64 (x := 2 * n + d) (by omega) (by omega), wr64 (x := 2 * d) (by omega) (by omega), bif_pos (by omega), bif_pos (by omega), wr64 (x := (2 * n + d).tdiv (2 * d)) (by omega) (by omega)]
  by_cases hc : (2 * n + d).tmod (2 * d) < 0
  · rw [bif_pos hc, wr64 (x := (2 * n + d).tdiv (2 * d) - 1) (by omega) (by omega), tdiv_neg (by omega) hc]; rfl
  · rw [bif_neg hc, tdiv_pos (by omega) (by omega)]; rfl
end Go.Proofs.Ytlbnicapkfmdoaa
/- Isotonic regression: what the reference computes. -/
set_option maxRecDepth 100000
namespace Go.Proofs.Ytlbnicapkfmdoaa
open Go Go.RowKit
set_option linter.unusedSimpArgs false
set_option linter.unusedSectionVars false
set_option linter.unusedVariables false
theorem stL3 {X β : Type} {f : (X → Option β) → X → Option β} {n fu : Nat} (hn : n < fu) {st : Nat → X} {x0 : X} {fin : Option β} (h0 : st 0 = x0)
    (step : ∀ j (i : Nat), i < n → f j (st i) = j (st (i + 1))) (last : ∀ j, f j (st n) = fin) : loopF f fu x0 = fin := by
  have key := errGen (f := f) (n := n) (st := st) (E := fun _ => 0) (out := fun _ => none) (fin := fin) (fun j i hi _ => by rw [if_pos rfl]; exact step j i hi) (fun _ => last) fu 0 (by omega) (by omega) (by omega)
  rw [if_pos (firstE_all _ _ fun _ _ _ => rfl), h0] at key
  exact key
theorem prodI_bd {x y : Int} (h0 : -1 ≤ x) (h1 : x ≤ 2023680) (h2 : 0 ≤ y) (h3 : y ≤ 31) : -31 ≤ x * y ∧ x * y ≤ 62734080 := by
  have g1 := Int.mul_le_mul h1 h3 h2 (by omega : (0 : Int) ≤ 2023680)
  have g2 := Int.mul_le_mul_of_nonneg_right h0 h2
  omega
abbrev PtL := List (Int × Int)
def ptX (a : PtL) (i : Nat) : Int := (a.getD i (0, 0)).1
def ptY (a : PtL) (i : Nat) : Int := (a.getD i (0, 0)).2
/-- sums of values -/
def FY (a : PtL) : Nat → Int
  | 0 => 0
  | k + 1 => FY a k + ptY a k
/-- samples in their bounds -/
structure okS (a : PtL) : Prop where
  ne : 0 < a.length
  le : a.length ≤ 31
  bd : ∀ i, i < a.length → 0 ≤ ptY a i ∧ ptY a i ≤ 65280
section
variable {a : PtL} (h : okS a)
theorem ptY_out {i : Nat} (hi : a.length ≤ i) : ptY a i = 0 := by
  unfold ptY
  rw [List.getD_eq_getElem?_getD, List.getElem?_eq_none hi]; rfl
include h
theorem ptY_bd (i : Nat) : 0 ≤ ptY a i ∧ ptY a i ≤ 65280 := by
  by_cases hi : i < a.length
  · exact h.bd i hi
  · rw [ptY_out (by omega)]; omega
theorem FY_mono : ∀ {i j : Nat}, i ≤ j → FY a i ≤ FY a j
  | i, 0, hij => by rw [show i = 0 by omega]; exact Int.le_refl _
  | i, j + 1, hij => by
    have := ptY_bd h j
    by_cases e : i = j + 1
    · rw [e]; exact Int.le_refl _
    · have := FY_mono (i := i) (j := j) (by omega)
      rw [FY]; omega
theorem FY_dif {i j : Nat} (hij : i ≤ j) : 0 ≤ FY a j - FY a i ∧ FY a j - FY a i ≤ 65280 * ((j : Int) - i) := by
  obtain ⟨d, rfl⟩ : ∃ d, j = i + d := ⟨j - i, by omega⟩
  clear hij
  induction d with
  | zero => simp
  | succ d ih =>
    have := ptY_bd h (i + d)
    rw [← Nat.add_assoc, FY]
    omega
theorem low_bd {j i m : Nat} (hj : j ≤ i) (hm : i + m ≤ a.length) : 0 ≤ (lowF (FY a) j i m).1 ∧ (lowF (FY a) j i m).1 ≤ 2023680 ∧ 0 ≤ (lowF (FY a) j i m).2 ∧ (lowF (FY a) j i m).2 ≤ 31 := by
  have hl := h.le
  cases m with
  | zero => exact ⟨Int.le_refl _, by show (0 : Int) ≤ 2023680; omega, Int.le_refl _, by show (0 : Int) ≤ 31; omega⟩
  | succ m =>
    obtain ⟨k, h1, h2, h3, _⟩ := lowF_spec (F := FY a) hj m
    have := FY_dif h (i := j) (j := k + 1) (by omega)
    rw [h3]
    simp only
    omega
theorem best_bd {i : Nat} (hi : i < a.length) : ∀ J : Nat, J ≤ i + 1 → -1 ≤ (bestF (FY a) i a.length J).1 ∧ (bestF (FY a) i a.length J).1 ≤ 2023680 ∧ 0 < (bestF (FY a) i a.length J).2 ∧ (bestF (FY a) i a.length J).2 ≤ 31
  | 0, _ => by show (-1 : Int) ≤ -1 ∧ (-1 : Int) ≤ 2023680 ∧ (0 : Int) < 1 ∧ (1 : Int) ≤ 31; omega
  | J + 1, hJ => by
    obtain ⟨j, h1, h2, _⟩ := bestF_spec (F := FY a) (fun _ _ hh => FY_mono h hh) (N := a.length) hi J (by omega)
    have b := low_bd h (j := j) (i := i) (m := a.length - i) (by omega) (by omega)
    have p := lowF_pos (F := FY a) (j := j) (i := i) (m := a.length - i) (by omega) (by omega)
    rw [h2]
    omega
end
section
variable {fu : Nat} (hf : 18446744073709551616 ≤ fu) {a : PtL} (h : okS a)
include hf h
/-- the sum from j to k -/
theorem fsum {u : Unit} {j k : Nat} (hjk : j ≤ k) (hk : k < a.length) {c d : Int} {v4b : List Int} {bb : List Int} {j5 : Int × List Int → Option (List (Int × Int) × Unit)} :
    loopF (R_Fitted_l6 fu (a, u) ((j : Int), bb) ((k : Int), v4b) j5) fu (0, (j : Int)) = R_Fitted_l6 fu (a, u) ((j : Int), bb) ((k : Int), v4b) j5 (fun _ => none) (FY a (k + 1) - FY a j, ((k + 1 : Nat) : Int)) := by
  have hl := h.le
  refine stL3 (n := k + 1 - j) (by omega) (st := fun q : Nat => (FY a (j + q) - FY a j, ((j + q : Nat) : Int))) (by simp) (fun J q hq => ?_) (fun J => ?_)
  · unfold R_Fitted_l6
    have b := FY_dif h (i := j) (j := j + q) (by omega)
    have b2 := ptY_bd h (j + q)
    have e : (List.getD a (j + q) (0, 0)).2 = ptY a (j + q) := rfl
    simp only [Int.toNat_natCast, e]
    simp (disch := omega) only [joinF_eq, bindO_some, s_wr, s_td, s_tm, s_pos, s_neg, cond_true, cond_false, Bool.not_true, Bool.not_false, Bool.true_and, Bool.and_true, Bool.false_and, Bool.and_false, bne_self_eq_false, decide_true, decide_false, Int.toNat_natCast]
    congr 1
    refine Prod.ext ?_ ?_
    · show FY a (j + q) - FY a j + ptY a (j + q) = FY a (j + q + 1) - FY a j
      rw [FY]; omega
    · simp only; omega
  · rw [show j + (k + 1 - j) = k + 1 by omega]
    unfold R_Fitted_l6
    simp (disch := omega) only [joinF_eq, bindO_some, s_wr, s_td, s_tm, s_pos, s_neg, cond_true, cond_false, Bool.not_true, Bool.not_false, Bool.true_and, Bool.and_true, Bool.false_and, Bool.and_false, bne_self_eq_false, decide_true, decide_false, Int.toNat_natCast]
/-- the least mean from j on -/
theorem flow {u : Unit} {j i : Nat} (hji : j ≤ i) (hi : i < a.length) {bb : List Int} {j3 : Int × List Int → Option (List (Int × Int) × Unit)} :
    loopF (R_Fitted_l4 fu (a, u) ((j : Int), bb) j3) fu ((i : Int), [0, 0]) = R_Fitted_l4 fu (a, u) ((j : Int), bb) j3 (fun _ => none) ((a.length : Int), [(lowF (FY a) j i (a.length - i)).1, (lowF (FY a) j i (a.length - i)).2]) := by
  have hl := h.le
  refine stL3 (n := a.length - i) (by omega) (st := fun m : Nat => (((i + m : Nat) : Int), [(lowF (FY a) j i m).1, (lowF (FY a) j i m).2])) (by simp [lowF]) (fun J m hm => ?_) (fun J => ?_)
  · have b := low_bd h (j := j) (i := i) (m := m) hji (by omega)
    have bs := FY_dif h (i := j) (j := i + m + 1) (by omega)
    have bm1 := prodI_bd (x := FY a (i + m + 1) - FY a j) (y := (lowF (FY a) j i m).2) (by omega) (by omega) (by omega) (by omega)
    have bm2 := prodI_bd (x := (lowF (FY a) j i m).1) (y := ((i + m + 1 : Nat) : Int) - (j : Int)) (by omega) (by omega) (by omega) (by omega)
    have key := fsum hf h (u := u) (j := j) (k := i + m) (c := 0) (d := 0) (by omega) (by omega) (v4b := [(lowF (FY a) j i m).1, (lowF (FY a) j i m).2]) (bb := bb) (j5 := R_Fitted_j5 fu J)
    have hlow : lowF (FY a) j i (m + 1) = if (lowF (FY a) j i m).2 = 0 ∨ (FY a (i + m + 1) - FY a j) * (lowF (FY a) j i m).2 < (lowF (FY a) j i m).1 * ((i + m + 1 : Nat) - (j : Int)) then (FY a (i + m + 1) - FY a j, ((i + m + 1 : Nat) : Int) - j) else lowF (FY a) j i m := rfl
    generalize lowF (FY a) j i m = L at *
    obtain ⟨l0, l1⟩ := L
    unfold R_Fitted_l4
    simp only [joinF_eq] at *
    rw [bif_pos (by omega), key]
    unfold R_Fitted_l6 R_Fitted_j7 R_Fitted_j5
    generalize FY a (i + m + 1) - FY a j = S at *
    have eN : IntKind.i64.wrap (IntKind.i64.wrap (((i + m : Nat) : Int) - (j : Int)) + 1) = ((i + m + 1 : Nat) : Int) - j := by
      rw [s_wr (x := ((i + m : Nat) : Int) - (j : Int)) (by omega) (by omega), s_wr (by omega) (by omega)]; omega
    have z0 : Int.toNat (0 : Int) = 0 := rfl
    have z1 : Int.toNat (1 : Int) = 1 := rfl
    have g0 : List.getD [l0, l1] 0 0 = l0 := rfl
    have g1 : List.getD [l0, l1] 1 0 = l1 := rfl
    simp only [eN, z0, z1, g0, g1]
    rw [bif_neg (by omega)]
    simp (disch := omega) only [joinF_eq, bindO_some, s_wr, s_td, s_tm, s_pos, s_neg, cond_true, cond_false, Bool.not_true, Bool.not_false, Bool.true_and, Bool.and_true, Bool.false_and, Bool.and_false, bne_self_eq_false, decide_true, decide_false, Int.toNat_natCast, List.length_cons, List.length_nil]
    by_cases c1 : l1 = 0
    · rw [hlow, if_pos (.inl c1)]
      simp (disch := omega) only [joinF_eq, bindO_some, s_wr, s_td, s_tm, s_pos, s_neg, cond_true, cond_false, Bool.not_true, Bool.not_false, Bool.true_and, Bool.and_true, Bool.false_and, Bool.and_false, bne_self_eq_false, decide_true, decide_false, Int.toNat_natCast]
      rfl
    · by_cases c2 : S * l1 < l0 * (((i + m + 1 : Nat) : Int) - j)
      · rw [hlow, if_pos (.inr c2)]
        simp (disch := omega) only [joinF_eq, bindO_some, s_wr, s_td, s_tm, s_pos, s_neg, cond_true, cond_false, Bool.not_true, Bool.not_false, Bool.true_and, Bool.and_true, Bool.false_and, Bool.and_false, bne_self_eq_false, decide_true, decide_false, Int.toNat_natCast]
        rfl
      · rw [hlow, if_neg (fun hh => hh.elim c1 c2)]
        simp (disch := omega) only [joinF_eq, bindO_some, s_wr, s_td, s_tm, s_pos, s_neg, cond_true, cond_false, Bool.not_true, Bool.not_false, Bool.true_and, Bool.and_true, Bool.false_and, Bool.and_false, bne_self_eq_false, decide_true, decide_false, Int.toNat_natCast]
        rfl
  · rw [show i + (a.length - i) = a.length by omega]
    unfold R_Fitted_l4
    simp (disch := omega) only [joinF_eq, bindO_some, s_wr, s_td, s_tm, s_pos, s_neg, cond_true, cond_false, Bool.not_true, Bool.not_false, Bool.true_and, Bool.and_true, Bool.false_and, Bool.and_false, bne_self_eq_false, decide_true, decide_false, Int.toNat_natCast]
theorem fbest {u : Unit} {i : Nat} (hi : i < a.length) {v0 : Int × List (Int × Int)} {j0 : Int × List (Int × Int) → Option (List (Int × Int) × Unit)} :
    loopF (R_Fitted_l2 fu (a, u) v0 (i : Int) j0) fu (0, [-1, 1]) = R_Fitted_l2 fu (a, u) v0 (i : Int) j0 (fun _ => none) (((i + 1 : Nat) : Int), [(fitF (FY a) a.length i).1, (fitF (FY a) a.length i).2]) := by
  have hl := h.le
  refine stL3 (n := i + 1) (by omega) (st := fun J : Nat => ((J : Int), [(bestF (FY a) i a.length J).1, (bestF (FY a) i a.length J).2])) (by simp [bestF]) (fun J j hj => ?_) (fun J => ?_)
  · have b := best_bd h hi j (by omega)
    have bl := low_bd h (j := j) (i := i) (m := a.length - i) (by omega) (by omega)
    have bm1 := prodI_bd (x := (bestF (FY a) i a.length j).1) (y := (lowF (FY a) j i (a.length - i)).2) (by omega) (by omega) (by omega) (by omega)
    have bm2 := prodI_bd (x := (lowF (FY a) j i (a.length - i)).1) (y := (bestF (FY a) i a.length j).2) (by omega) (by omega) (by omega) (by omega)
    have key := flow hf h (u := u) (j := j) (i := i) (by omega) hi (bb := [(bestF (FY a) i a.length j).1, (bestF (FY a) i a.length j).2]) (j3 := R_Fitted_j3 fu J)
    have hbest : bestF (FY a) i a.length (j + 1) = if (bestF (FY a) i a.length j).1 * (lowF (FY a) j i (a.length - i)).2 < (lowF (FY a) j i (a.length - i)).1 * (bestF (FY a) i a.length j).2 then lowF (FY a) j i (a.length - i) else bestF (FY a) i a.length j := rfl
    generalize lowF (FY a) j i (a.length - i) = L at *
    generalize bestF (FY a) i a.length j = B at *
    obtain ⟨l0, l1⟩ := L
    obtain ⟨b0, b1⟩ := B
    simp only at *
    unfold R_Fitted_l2
    simp only [joinF_eq]
    rw [bif_pos (by omega), bif_pos (by rfl), key]
    unfold R_Fitted_l4 R_Fitted_j3
    have z0 : Int.toNat (0 : Int) = 0 := rfl
    have z1 : Int.toNat (1 : Int) = 1 := rfl
    have g0 : List.getD [l0, l1] 0 0 = l0 := rfl
    have g1 : List.getD [l0, l1] 1 0 = l1 := rfl
    have g2 : List.getD [b0, b1] 0 0 = b0 := rfl
    have g3 : List.getD [b0, b1] 1 0 = b1 := rfl
    simp only [z0, z1, g0, g1, g2, g3]
    rw [bif_neg (by omega)]
    simp (disch := omega) only [joinF_eq, bindO_some, s_wr, s_td, s_tm, s_pos, s_neg, cond_true, cond_false, Bool.not_true, Bool.not_false, Bool.true_and, Bool.and_true, Bool.false_and, Bool.and_false, bne_self_eq_false, decide_true, decide_false, Int.toNat_natCast, List.length_cons, List.length_nil]
    by_cases c2 : b0 * l1 < l0 * b1
    · rw [hbest, if_pos c2]
      simp (disch := omega) only [joinF_eq, bindO_some, s_wr, s_td, s_tm, s_pos, s_neg, cond_true, cond_false, Bool.not_true, Bool.not_false, Bool.true_and, Bool.and_true, Bool.false_and, Bool.and_false, bne_self_eq_false, decide_true, decide_false, Int.toNat_natCast]
      rfl
    · rw [hbest, if_neg c2]
      simp (disch := omega) only [joinF_eq, bindO_some, s_wr, s_td, s_tm, s_pos, s_neg, cond_true, cond_false, Bool.not_true, Bool.not_false, Bool.true_and, Bool.and_true, Bool.false_and, Bool.and_false, bne_self_eq_false, decide_true, decide_false, Int.toNat_natCast]
      rfl
  · unfold R_Fitted_l2
    simp (disch := omega) only [joinF_eq, bindO_some, s_wr, s_td, s_tm, s_pos, s_neg, cond_true, cond_false, Bool.not_true, Bool.not_false, Bool.true_and, Bool.and_true, Bool.false_and, Bool.and_false, bne_self_eq_false, decide_true, decide_false, Int.toNat_natCast]
    rfl
/-- the fitted values, as fractions -/
def fitL (a : PtL) : List (Int × Int) := tabL a.length fun i => fitF (FY a) a.length i.toNat
theorem fitted_s : R_Fitted_r fu (a, ()) = some (fitL a, ()) := by
  have hl := h.le
  unfold R_Fitted_r
  simp (disch := omega) only [joinF_eq, bindO_some, s_wr, s_td, s_tm, s_pos, s_neg, cond_true, cond_false, Bool.not_true, Bool.not_false, Bool.true_and, Bool.and_true, Bool.false_and, Bool.and_false, bne_self_eq_false, decide_true, decide_false, Int.toNat_natCast]
  refine stL3 (n := a.length) (by omega) (st := fun i : Nat => ((i : Int), tabL a.length fun q => if q < (i : Int) then fitF (FY a) a.length q.toNat else (0, 0))) ?_ (fun J i hi => ?_) (fun J => ?_)
  · refine Prod.ext rfl ?_
    show (tabL a.length fun q => if q < ((0 : Nat) : Int) then fitF (FY a) a.length q.toNat else (0, 0)) = List.replicate a.length ((0 : Int), (0 : Int))
    exact tabL_rep (fun q h0 h1 => by rw [if_neg (by omega)])
  · unfold R_Fitted_l1
    have key := fbest hf h (u := ()) (i := i) hi (v0 := ((i : Int), tabL a.length fun q => if q < (i : Int) then fitF (FY a) a.length q.toNat else (0, 0))) (j0 := J)
    simp only []
    rw [bif_pos (by omega), bif_pos (by rfl), key]
    unfold R_Fitted_l2
    have z0 : Int.toNat (0 : Int) = 0 := rfl
    have z1 : Int.toNat (1 : Int) = 1 := rfl
    simp only [joinF_eq, tabL_length]
    rw [bif_neg (by omega), bif_pos (by rfl), bif_and (by omega) (by omega), s_wr (by omega) (by omega)]
    congr 1
    refine Prod.ext (by simp) ?_
    show (tabL a.length fun q => if q < (i : Int) then fitF (FY a) a.length q.toNat else (0, 0)).set ((i : Int).toNat) ((fitF (FY a) a.length i).1, (fitF (FY a) a.length i).2) = tabL a.length fun q => if q < ((i + 1 : Nat) : Int) then fitF (FY a) a.length q.toNat else (0, 0)
    refine tabL_set (k := (i : Int)) (by omega) ?_ (fun q h0 h1 hne => ?_)
    · rw [if_pos (by omega)]; rfl
    · by_cases c : q < i
      · rw [if_pos c, if_pos (by omega)]
      · rw [if_neg c, if_neg (by omega)]
  · unfold R_Fitted_l1
    simp (disch := omega) only [joinF_eq, bindO_some, s_wr, s_td, s_tm, s_pos, s_neg, cond_true, cond_false, Bool.not_true, Bool.not_false, Bool.true_and, Bool.and_true, Bool.false_and, Bool.and_false, bne_self_eq_false, decide_true, decide_false, Int.toNat_natCast]
    congr 2
    exact tabL_congr fun q h0 h1 => by rw [if_pos h1]
end
end Go.Proofs.Ytlbnicapkfmdoaa
/- Isotonic regression: what the program computes. -/
set_option maxRecDepth 100000
namespace Go.Proofs.Ytlbnicapkfmdoaa
open Go Go.RowKit
set_option linter.unusedSimpArgs false
set_option linter.unusedSectionVars false
set_option linter.unusedVariables false
/-- a block inside of a list of blocks -/
theorem rok_split {F : Nat → Int} : ∀ {R2 : List (Int × Int)} {s n : Int} {R1 : List (Int × Int)} {e : Nat}, ROk F (R2 ++ (s, n) :: R1) e → ∃ k o : Nat, n = (k : Int) ∧ 1 ≤ k ∧ o + k ≤ e ∧ ROk F R1 o ∧ ROk F ((s, n) :: R1) (o + k) ∧ InB (R2 ++ (s, n) :: R1) e s k o
  | [], s, n, R1, e, h => by
    obtain ⟨k, o, hn, hk, he, hs, hp, hm, hR⟩ := h
    refine ⟨k, o, hn, hk, by omega, hR, ⟨k, o, hn, hk, rfl, by rw [← he]; exact hs, hp, hm, hR⟩, .inl ⟨rfl, hn.symm, he⟩⟩
  | (s', n') :: R2, s, n, R1, e, h => by
    obtain ⟨k', o', hn', hk', he, hs, hp, hm, hR⟩ := h
    obtain ⟨k, o, h1, h2, h3, h4, h5, h6⟩ := rok_split hR
    refine ⟨k, o, h1, h2, by omega, h4, h5, .inr ?_⟩
    rw [show e - n'.toNat = o' by omega]
    exact h6
theorem rok_last {F : Nat → Int} {R : List (Int × Int)} {e : Nat} (h : ROk F R e) : R.length ≤ e := by
  induction R generalizing e with
  | nil => exact Nat.zero_le _
  | cons b R ih =>
    obtain ⟨s, n⟩ := b
    obtain ⟨k, o, hn, hk, he, _, _, _, hR⟩ := h
    have := ih hR
    rw [List.length_cons]
    omega
/-- the fitted value, rounded -/
def yv (a : PtL) (i : Nat) : Int := rnd (fitF (FY a) a.length i).1 (fitF (FY a) a.length i).2
/-- the first fitted points -/
def ptsL (a : PtL) (n : Nat) : PtL := (List.range n).map fun i => (ptX a i, yv a i)
theorem ptsL_len (a : PtL) (n : Nat) : (ptsL a n).length = n := by simp [ptsL]
theorem ptsL_succ (a : PtL) (n : Nat) : ptsL a (n + 1) = ptsL a n ++ [(ptX a n, yv a n)] := by
  unfold ptsL
  rw [List.range_succ, List.map_append]; rfl
def preL (l : PtL) : PtL := if 0 < (l.getD 0 (0, 0)).1 then [(0, (l.getD 0 (0, 0)).2)] ++ l else l
def sufL (l : PtL) : PtL := if (l.getD (l.length - 1) (0, 0)).1 < 65280 then l ++ [(65280, (l.getD (l.length - 1) (0, 0)).2)] else l
theorem preL_len {l : PtL} : (preL l).length ≤ l.length + 1 ∧ l.length ≤ (preL l).length := by
  unfold preL
  split
  · rw [List.length_append]; simp only [List.length_cons, List.length_nil]; omega
  · omega
section
variable {fu : Nat} (hf : 18446744073709551616 ≤ fu) {a : PtL} (h : okS a)
include hf h
/-- one sample put into the pool -/
theorem pool_in {v1 : Int × List (Int × Int)} {i : Nat} (hi : i < a.length) {R : List (Int × Int)} (hR : ROk (FY a) R i) (j3 : List (Int × Int) × (Int × Int) → Option (List (Int × Int) × (Int × Unit))) (Q : Option (List (Int × Int) × (Int × Unit)) → Prop)
    (hQ : ∀ (R' : List (Int × Int)) (s n : Int), ROk (FY a) ((s, n) :: R') (i + 1) → Q (j3 (R'.reverse, (s, n)))) : Q (loopF (curve_Fit_l6 fu j3) fu (R.reverse, (ptY a i, 1))) := by
  have hl := h.le
  refine postLoop (f := curve_Fit_l6 fu j3) (fun x => x.1.length) (fun x => ∃ (R' : List (Int × Int)) (s : Int) (k o : Nat), x = (R'.reverse, (s, (k : Int))) ∧ ROk (FY a) R' o ∧ 1 ≤ k ∧ o + k = i + 1 ∧ s = FY a (o + k) - FY a o ∧ (∀ t : Nat, t ≤ k → s * (t : Int) ≤ (FY a (o + t) - FY a o) * (k : Int))) Q ?_ fu _ ?_ ?_
  · rintro j _ ⟨R', s, k, o, rfl, g1, g2, g3, g4, g5⟩
    have bs := FY_dif h (i := o) (j := o + k) (by omega)
    cases R' with
    | nil =>
      right
      have : curve_Fit_l6 fu j3 j (([] : List (Int × Int)).reverse, (s, (k : Int))) = j3 ([], (s, (k : Int))) := by
        unfold curve_Fit_l6
        rfl
      rw [this]
      refine hQ [] s k ?_
      rw [← g3]
      exact rok_push g1 g2 g4 g5 (fun s' n' R'' q => by cases q)
    | cons b R'' =>
      obtain ⟨s1, n1⟩ := b
      obtain ⟨k1, o1, hn1, hk1, he1, hs1, hp1, hm1, hR1⟩ := g1
      have bs1 := FY_dif h (i := o1) (j := o) (by omega)
      have e1 : ((s1, n1) :: R'').reverse = R''.reverse ++ [(s1, n1)] := List.reverse_cons
      have e2 : (R''.reverse ++ [(s1, n1)]).length = R''.length + 1 := by rw [List.length_append, List.length_reverse]; rfl
      have e3 : IntKind.i64.wrap (((R''.length + 1 : Nat) : Int) - 1) = (R''.length : Int) := by rw [s_wr (by have := rok_last hR1; omega) (by have := rok_last hR1; omega)]; omega
      have e4 : List.getD (R''.reverse ++ [(s1, n1)]) R''.length (0, 0) = (s1, n1) := by
        rw [List.getD_eq_getElem?_getD, List.getElem?_append_right (by rw [List.length_reverse]; omega), List.length_reverse, Nat.sub_self]; rfl
      have e5 : List.drop (Int.toNat (0 : Int)) (List.take R''.length (R''.reverse ++ [(s1, n1)])) = R''.reverse := by
        show List.take R''.length (R''.reverse ++ [(s1, n1)]) = _
        rw [List.take_append_of_le_length (by rw [List.length_reverse]; omega), List.take_of_length_le (by rw [List.length_reverse]; omega)]
      have bm1 := prodI_bd (x := s1) (y := (k : Int)) (by omega) (by omega) (by omega) (by omega)
      have bm2 := prodI_bd (x := s) (y := n1) (by omega) (by omega) (by omega) (by omega)
      have hlr := rok_last hR1
      by_cases c : s1 * (k : Int) ≤ s * n1
      · right
        have : curve_Fit_l6 fu j3 j (((s1, n1) :: R'').reverse, (s, (k : Int))) = j3 (((s1, n1) :: R'').reverse, (s, (k : Int))) := by
          unfold curve_Fit_l6
          simp only [e1, e2, e3, Int.toNat_natCast, e4]
          rw [bif_pos (by omega), bif_and (by omega) (by omega), s_wr (by omega) (by omega), s_wr (by omega) (by omega), bif_pos c]
        rw [this]
        refine hQ _ s k ?_
        rw [← g3]
        refine rok_push ⟨k1, o1, hn1, hk1, he1, hs1, hp1, hm1, hR1⟩ g2 g4 g5 (fun s' n' R3 q => ?_)
        injection q with q1 q2
        injection q1 with q1 q3
        rw [← q1, ← q3]
        exact c
      · left
        refine ⟨(R''.reverse, (s1 + s, ((k1 + k : Nat) : Int))), ⟨R'', s1 + s, k1 + k, o1, rfl, hR1, by omega, by omega, ?_, ?_⟩, ?_, ?_⟩
        · rw [hs1, g4, show o1 + (k1 + k) = o + k by omega]
          omega
        · have hs1' : s1 = FY a (o1 + k1) - FY a o1 := by rw [hs1, he1]
          have c' : s * (k1 : Int) ≤ s1 * (k : Int) := by rw [← hn1]; omega
          exact pre_merge hs1' hk1 g2 hp1 (by rw [← he1]; exact g5) c'
        · show R''.reverse.length < ((s1, n1) :: R'').reverse.length
          rw [List.length_reverse, List.length_reverse, List.length_cons]
          omega
        · unfold curve_Fit_l6
          simp only [e1, e2, e3, Int.toNat_natCast, e4, e5]
          rw [bif_pos (by omega), bif_and (by omega) (by omega), s_wr (x := s1 * (k : Int)) (by omega) (by omega), s_wr (x := s * n1) (by omega) (by omega), bif_neg c, bif_and (by omega) (by omega), s_wr (x := s1 + s) (by omega) (by omega), s_wr (x := n1 + (k : Int)) (by omega) (by omega), hn1]
          rfl
  · refine ⟨R, ptY a i, 1, i, rfl, hR, Nat.le_refl _, rfl, ?_, fun t ht => ?_⟩
    · show ptY a i = FY a (i + 1) - FY a i
      rw [FY]; omega
    · have : t = 0 ∨ t = 1 := by omega
      rcases this with rfl | rfl
      · simp
      · show ptY a i * 1 ≤ (FY a (i + 1) - FY a i) * 1
        rw [FY]; omega
  · show R.reverse.length < fu
    have := rok_last hR
    rw [List.length_reverse]
    omega
/-- the whole pool -/
theorem pool_all (Q : Option (List (Int × Int) × (Int × Unit)) → Prop) (hQ : ∀ R, ROk (FY a) R a.length → Q (loopF (curve_Fit_l7 fu (a, ()) ((a.length : Int), R.reverse)) fu (0, (0, [])))) : Q (loopF (curve_Fit_l4 fu (a, ())) fu (0, [])) := by
  have hl := h.le
  refine postLoop (f := curve_Fit_l4 fu (a, ())) (fun x => ((a.length : Int) - x.1).toNat) (fun x => ∃ (i : Nat) (R : List (Int × Int)), x = ((i : Int), R.reverse) ∧ i ≤ a.length ∧ ROk (FY a) R i) Q ?_ fu _ ⟨0, [], rfl, Nat.zero_le _, rfl⟩ (by show ((a.length : Int) - 0).toNat < fu; omega)
  rintro j _ ⟨i, R, rfl, g1, g2⟩
  by_cases hi : i < a.length
  · have key := pool_in hf h (v1 := ((i : Int), R.reverse)) hi g2 (curve_Fit_j5 fu ((i : Int), R.reverse) j) (fun r => (∃ x', (∃ (i : Nat) (R : List (Int × Int)), x' = ((i : Int), R.reverse) ∧ i ≤ a.length ∧ ROk (FY a) R i) ∧ ((a.length : Int) - x'.1).toNat < ((a.length : Int) - (i : Int)).toNat ∧ r = j x') ∨ Q r) (fun R' s n hR' => by
      refine .inl ⟨(((i + 1 : Nat) : Int), ((s, n) :: R').reverse), ⟨i + 1, (s, n) :: R', rfl, by omega, hR'⟩, by simp only; omega, ?_⟩
      have hlr := rok_last hR'
      rw [List.length_cons] at hlr
      unfold curve_Fit_j5
      simp only [List.length_reverse]
      simp (disch := omega) only [joinF_eq, bindO_some, s_wr, s_td, s_tm, s_pos, s_neg, cond_true, cond_false, Bool.not_true, Bool.not_false, Bool.true_and, Bool.and_true, Bool.false_and, Bool.and_false, bne_self_eq_false, decide_true, decide_false, Int.toNat_natCast, List.length_cons, List.length_nil]
      rw [List.reverse_cons]
      rfl)
    have e : curve_Fit_l4 fu (a, ()) j ((i : Int), R.reverse) = loopF (curve_Fit_l6 fu (curve_Fit_j5 fu ((i : Int), R.reverse) j)) fu (R.reverse, (ptY a i, 1)) := by
      unfold curve_Fit_l4
      simp only [joinF_eq, Int.toNat_natCast]
      rw [bif_pos (by omega), bif_and (by omega) (by omega)]
      rfl
    rw [e]
    exact key
  · have ei : i = a.length := by omega
    subst ei
    right
    have e : curve_Fit_l4 fu (a, ()) j ((a.length : Int), R.reverse) = loopF (curve_Fit_l7 fu (a, ()) ((a.length : Int), R.reverse)) fu (0, (0, [])) := by
      unfold curve_Fit_l4
      rw [bif_neg (by simp)]
    rw [e]
    exact hQ R g2
end
end Go.Proofs.Ytlbnicapkfmdoaa
/- Isotonic regression: the law. -/
set_option maxRecDepth 100000
namespace Go.Proofs.Ytlbnicapkfmdoaa
open Go Go.RowKit
set_option linter.unusedSimpArgs false
set_option linter.unusedSectionVars false
set_option linter.unusedVariables false
theorem rok_uniq {F : Nat → Int} : ∀ {R : List (Int × Int)} {e e' : Nat}, ROk F R e → ROk F R e' → e = e'
  | [], e, e', h, h' => by
    have h : e = 0 := h
    have h' : e' = 0 := h'
    omega
  | (s, n) :: R, e, e', ⟨k, o, hn, hk, he, _, _, _, hR⟩, ⟨k', o', hn', hk', he', _, _, _, hR'⟩ => by
    have := rok_uniq hR hR'
    omega
section
variable {fu : Nat} (hf : 18446744073709551616 ≤ fu) {a : PtL}
include hf
omit hf in
theorem fin_j9 {l : PtL} (h0 : 0 < l.length) (h1 : l.length ≤ 100) : curve_Fit_j9 fu l = some (sufL l, (0, ())) := by
  unfold curve_Fit_j9 curve_Fit_j10 sufL
  have e : (IntKind.i64.wrap ((l.length : Int) - 1)) = ((l.length - 1 : Nat) : Int) := by rw [s_wr (by omega) (by omega)]; omega
  simp only [joinF_eq, e, Int.toNat_natCast]
  rw [bif_and (by omega) (by omega)]
  by_cases c : (l.getD (l.length - 1) (0, 0)).1 < 65280
  · rw [bif_pos c, if_pos c]
    simp (disch := omega) only [joinF_eq, bindO_some, s_wr, s_td, s_tm, s_pos, s_neg, cond_true, cond_false, Bool.not_true, Bool.not_false, Bool.true_and, Bool.and_true, Bool.false_and, Bool.and_false, bne_self_eq_false, decide_true, decide_false, Int.toNat_natCast, List.length_cons, List.length_nil]
  · rw [bif_neg c, if_neg c]
section
variable (h : okS a)
include h
theorem yv_block {R : List (Int × Int)} (hR : ROk (FY a) R a.length) {s : Int} {k o i : Nat} (hb : InB R a.length s k o) (h1 : o ≤ i) (h2 : i < o + k) : yv a i = rnd s k := by
  obtain ⟨p1, p2⟩ := fit_eq (F := FY a) (fun _ _ hh => FY_mono h hh) hR hb h1 h2
  exact round_same p1 (by omega) p2
theorem out_s {R : List (Int × Int)} (hR : ROk (FY a) R a.length) : loopF (curve_Fit_l7 fu (a, ()) ((a.length : Int), R.reverse)) fu (0, (0, [])) = some (sufL (preL (ptsL a a.length)), (0, ())) := by
  have hl := h.le
  have hlr := rok_last hR
  refine postLoop (f := curve_Fit_l7 fu (a, ()) ((a.length : Int), R.reverse)) (fun x => ((R.length : Int) - x.1).toNat) (fun x => ∃ (R1 R2 : List (Int × Int)) (o : Nat), x = ((R1.length : Int), ((o : Int), ptsL a o)) ∧ R = R2 ++ R1 ∧ ROk (FY a) R1 o) (fun r => r = some (sufL (preL (ptsL a a.length)), (0, ()))) ?_ fu _ ⟨[], R, 0, rfl, (List.append_nil _).symm, rfl⟩ (by show ((R.length : Int) - 0).toNat < fu; omega)
  rintro j _ ⟨R1, R2, o, rfl, e1, g1⟩
  rcases List.eq_nil_or_concat R2 with rfl | ⟨R2', b, rfl⟩
  · right
    rw [List.nil_append] at e1
    subst e1
    have eo := rok_uniq g1 hR
    subst eo
    have hpl := ptsL_len a a.length
    have hne := h.ne
    unfold curve_Fit_l7
    simp only [joinF_eq, List.length_reverse]
    rw [bif_neg (by omega), bif_pos (by omega), ← fin_j9 (fu := fu) (l := preL (ptsL a a.length)) (by have := preL_len (l := ptsL a a.length); omega) (by have := preL_len (l := ptsL a a.length); omega)]
    have z0 : Int.toNat (0 : Int) = 0 := rfl
    simp only [z0]
    unfold preL
    by_cases c : 0 < ((ptsL a a.length).getD 0 (0, 0)).1
    · rw [bif_pos c, if_pos c]
      simp (disch := omega) only [joinF_eq, bindO_some, s_wr, s_td, s_tm, s_pos, s_neg, cond_true, cond_false, Bool.not_true, Bool.not_false, Bool.true_and, Bool.and_true, Bool.false_and, Bool.and_false, bne_self_eq_false, decide_true, decide_false, Int.toNat_natCast, List.length_cons, List.length_nil]
    · rw [bif_neg c, if_neg c]
  · left
    obtain ⟨s, n⟩ := b
    have e2 : R = R2' ++ (s, n) :: R1 := by rw [e1, List.concat_eq_append, List.append_assoc]; rfl
    rw [e2] at hR
    obtain ⟨k, o', hn, hk, hok, t1, t2, t3⟩ := rok_split hR
    have eo := rok_uniq g1 t1
    subst eo
    have hq : R1.length < R.length := by rw [e2, List.length_append, List.length_cons]; omega
    have hget : R.reverse.getD R1.length (0, 0) = (s, n) := by
      rw [e2, List.reverse_append, List.reverse_cons, List.append_assoc, List.getD_eq_getElem?_getD, List.getElem?_append_right (by rw [List.length_reverse]; omega), List.length_reverse, Nat.sub_self]; rfl
    have hs : s = FY a (o + k) - FY a o := by
      obtain ⟨k', o', q1, q2, q3, q4, _, _, q6⟩ := t2
      have := rok_uniq q6 t1
      rw [q4, this]
    have bs := FY_dif h (i := o) (j := o + k) (by omega)
    refine ⟨((R1.length : Int) + 1, (((o + k : Nat) : Int), ptsL a (o + k))), ⟨(s, n) :: R1, R2', o + k, by rw [List.length_cons]; rfl, e2, t2⟩, by simp only; omega, ?_⟩
    unfold curve_Fit_l7
    simp only [List.length_reverse, Int.toNat_natCast, hget, hn]
    rw [bif_pos (by omega), bif_and (by omega) (by omega), nearest_s fu (by omega) (by omega) (by omega) (by omega), bindO_some]
    refine stL3 (n := k) (by omega) (st := fun c : Nat => (((o + c : Nat) : Int), ((c : Int), ptsL a (o + c)))) rfl (fun J c hc => ?_) (fun J => ?_)
    · unfold curve_Fit_l8
      have hpl := ptsL_len a (o + c)
      have hy := yv_block hf h hR t3 (i := o + c) (by omega) (by omega)
      have ex : (List.getD a (o + c) (0, 0)).1 = ptX a (o + c) := rfl
      simp only [Int.toNat_natCast, hget, hn, ex, ← hy]
      simp (disch := omega) only [joinF_eq, bindO_some, s_wr, s_td, s_tm, s_pos, s_neg, cond_true, cond_false, Bool.not_true, Bool.not_false, Bool.true_and, Bool.and_true, Bool.false_and, Bool.and_false, bne_self_eq_false, decide_true, decide_false, Int.toNat_natCast, List.length_cons, List.length_nil]
      rw [show o + (c + 1) = o + c + 1 by omega, ptsL_succ]
      rfl
    · unfold curve_Fit_l8
      simp only [Int.toNat_natCast, hget, hn]
      rw [bif_neg (by omega), s_wr (by omega) (by omega)]
end
/-! ### errors -/
def EV (a : PtL) (i : Nat) : Int := if ¬ (0 ≤ ptX a i ∧ ptX a i ≤ 65280 ∧ 0 ≤ ptY a i ∧ ptY a i ≤ 65280) then 3 else if 0 < i ∧ ptX a i ≤ ptX a (i - 1) then 18 else 0
def wantF (a : PtL) : Int := if 31 < a.length then 2 else if a.length = 0 then 1 else firstE (EV a) a.length 0
omit hf in
theorem EV_ok {i : Nat} (h : EV a i = 0) : (0 ≤ ptX a i ∧ ptX a i ≤ 65280 ∧ 0 ≤ ptY a i ∧ ptY a i ≤ 65280) ∧ ¬ (0 < i ∧ ptX a i ≤ ptX a (i - 1)) := by
  unfold EV at h
  split at h
  · omega
  · rename_i c
    split at h
    · omega
    · rename_i d
      exact ⟨Classical.byContradiction c, d⟩
omit hf in
theorem wantF_ok (h : wantF a = 0) : okS a := by
  unfold wantF at h
  split at h
  · omega
  · split at h
    · omega
    · exact ⟨by omega, by omega, fun i hi => (EV_ok (firstE_ok _ 0 h i (by omega) (by omega))).1.2.2⟩
def fitV (a : PtL) : PtL × (Int × Unit) := if wantF a = 0 then (sufL (preL (ptsL a a.length)), (0, ())) else ([], (wantF a, ()))
theorem fit_s (a : PtL) : curve_Fit_r fu (a, ()) = some (fitV a) := by
  unfold curve_Fit_r fitV wantF
  simp only []
  by_cases c1 : 31 < a.length
  · rw [bif_pos (by omega), if_pos c1, if_neg (by omega)]
  · rw [bif_neg (by omega), if_neg c1]
    by_cases c2 : a.length = 0
    · rw [bif_pos (by omega), if_pos c2, if_neg (by omega)]
    · rw [bif_neg (by omega), if_neg c2]
      have key := errGen (f := curve_Fit_l1 fu (a, ())) (n := a.length) (st := fun i : Nat => ((i : Int), ())) (E := EV a) (out := fun e => some ([], (e, ()))) (fin := some (sufL (preL (ptsL a a.length)), (0, ()))) (fun j i hi _ => ?_) (fun hE j => ?_) fu 0 (by omega) (by omega) (by omega)
      · refine key.trans ?_
        rw [Nat.sub_zero]
        by_cases c3 : firstE (EV a) a.length 0 = 0
        · rw [if_pos c3, if_pos c3]
        · rw [if_neg c3, if_neg c3]
      · unfold curve_Fit_l1 curve_Fit_j2 curve_Fit_j3
        have ex : (List.getD a i (0, 0)).1 = ptX a i := rfl
        have ey : (List.getD a i (0, 0)).2 = ptY a i := rfl
        simp only [joinF_eq, Int.toNat_natCast, ex, ey]
        rw [bif_pos (by omega), bif_and (by omega) (by omega)]
        by_cases d1 : ptX a i < 0
        · have hE : EV a i = 3 := if_pos (by omega)
          rw [bif_pos d1, hE, if_neg (by decide)]; rfl
        · rw [bif_neg d1]
          by_cases d2 : 65280 < ptX a i
          · have hE : EV a i = 3 := if_pos (by omega)
            rw [bif_pos d2, hE, if_neg (by decide)]; rfl
          · rw [bif_neg d2]
            by_cases d3 : ptY a i < 0
            · have hE : EV a i = 3 := if_pos (by omega)
              rw [bif_pos d3, hE, if_neg (by decide)]; rfl
            · rw [bif_neg d3]
              by_cases d4 : 65280 < ptY a i
              · have hE : EV a i = 3 := if_pos (by omega)
                rw [decide_eq_true d4, cond_true, hE, if_neg (by decide)]
              · rw [decide_eq_false d4, cond_false]
                have hE1 : EV a i = if 0 < i ∧ ptX a i ≤ ptX a (i - 1) then 18 else 0 := if_neg (by omega)
                by_cases d5 : 0 < i
                · have e1 : IntKind.i64.wrap ((i : Int) - 1) = ((i - 1 : Nat) : Int) := by rw [s_wr (by omega) (by omega)]; omega
                  have ex1 : (List.getD a (i - 1) (0, 0)).1 = ptX a (i - 1) := rfl
                  simp only [e1, Int.toNat_natCast, ex1]
                  rw [bif_pos (by omega), bif_and (by omega) (by omega)]
                  by_cases d6 : ptX a i ≤ ptX a (i - 1)
                  · have hE : EV a i = 18 := hE1.trans (if_pos ⟨d5, d6⟩)
                    rw [decide_eq_true d6, cond_true, hE, if_neg (by decide)]
                  · have hE : EV a i = 0 := hE1.trans (if_neg fun hh => d6 hh.2)
                    rw [decide_eq_false d6, cond_false, hE, if_pos rfl, s_wr (by omega) (by omega)]
                    rfl
                · have hE : EV a i = 0 := hE1.trans (if_neg fun hh => d5 hh.1)
                  rw [bif_neg (by omega), cond_false, hE, if_pos rfl, s_wr (by omega) (by omega)]
                  rfl
      · have hok : okS a := ⟨by omega, by omega, fun i hi => (EV_ok (hE i hi)).1.2.2⟩
        unfold curve_Fit_l1
        simp only []
        rw [bif_neg (by omega)]
        exact pool_all hf hok (fun r => r = some (sufL (preL (ptsL a a.length)), (0, ()))) fun R hR => out_s hf hok hR
/-! ### the law -/
theorem same_s {l : PtL} (hl : l.length ≤ 100) : R_SameCurves_r fu (l, (l, ())) = some (true, ()) := by
  unfold R_SameCurves_r
  simp only []
  rw [bif_neg (by omega)]
  refine stL3 (n := l.length) (by omega) (st := fun i : Nat => (i : Int)) rfl (fun j i hi => ?_) (fun j => ?_)
  · unfold R_SameCurves_l1
    simp only [Int.toNat_natCast]
    rw [bif_pos (by omega), bif_and (by omega) (by omega), bif_and (by omega) (by omega)]
    simp only [decide_true, Bool.and_self, Bool.not_true, cond_false]
    rw [s_wr (by omega) (by omega)]
    rfl
  · unfold R_SameCurves_l1
    simp only []
    rw [bif_neg (by omega)]
omit hf in
theorem sufL_len {l : PtL} : (sufL l).length ≤ l.length + 1 := by
  unfold sufL
  split
  · rw [List.length_append]; simp only [List.length_cons, List.length_nil]; omega
  · omega
/-- the end of the law, without an error -/
theorem law_good (h : wantF a = 0) {w : Int × Int} (hw : w.1 = 0) (j4 : Int × Int → Option (Bool × Unit)) : law_CurveFitIsotonic_j3 fu (a, ()) (fitV a) (fitV a).2.1 w j4 false = some (true, ()) := by
  have hok := wantF_ok h
  have hl := hok.le
  have hne := hok.ne
  have hv : fitV a = (sufL (preL (ptsL a a.length)), (0, ())) := if_pos h
  unfold law_CurveFitIsotonic_j3
  rw [cond_false, bif_neg (by omega), fitted_s hf hok, bindO_some, hv]
  simp only []
  have hfl : (fitL a).length = a.length := tabL_length _ _
  refine stL3 (n := a.length) (by omega) (st := fun i : Nat => ((i : Int), ptsL a i)) rfl (fun j i hi => ?_) (fun j => ?_)
  · unfold law_CurveFitIsotonic_l7
    have hpl := ptsL_len a i
    have eg : List.getD (fitL a) i (0, 0) = fitF (FY a) a.length i := by
      unfold fitL
      rw [tabL_getDN hi, Int.toNat_natCast]
    have b := best_bd hok hi (i + 1) (Nat.le_refl _)
    have b' : -1 ≤ (fitF (FY a) a.length i).1 ∧ (fitF (FY a) a.length i).1 ≤ 2023680 ∧ 0 < (fitF (FY a) a.length i).2 ∧ (fitF (FY a) a.length i).2 ≤ 31 := b
    have z0 : Int.toNat (0 : Int) = 0 := rfl
    have z1 : Int.toNat (1 : Int) = 1 := rfl
    have g0 : List.getD [(fitF (FY a) a.length i).1, (fitF (FY a) a.length i).2] 0 0 = (fitF (FY a) a.length i).1 := rfl
    have g1 : List.getD [(fitF (FY a) a.length i).1, (fitF (FY a) a.length i).2] 1 0 = (fitF (FY a) a.length i).2 := rfl
    have ex : (List.getD a i (0, 0)).1 = ptX a i := rfl
    simp only [hfl, Int.toNat_natCast, eg, z0, z1, g0, g1, ex]
    rw [bif_pos (by omega), bif_and (by omega) (by omega), bif_pos (by rfl), bif_and (by omega) (by omega), bif_pos (by simp only [List.length_cons, List.length_nil]; omega), bif_pos (by simp only [List.length_cons, List.length_nil]; omega), round_s fu (by omega) (by omega) (by omega) (by omega), bindO_some]
    simp only [List.length_cons, List.length_nil]
    rw [bif_pos (by omega), s_wr (by omega) (by omega), ptsL_succ]
    rfl
  · unfold law_CurveFitIsotonic_l7
    have hpl := ptsL_len a a.length
    have hpp := preL_len (l := ptsL a a.length)
    have hss := sufL_len (l := preL (ptsL a a.length))
    have fin : law_CurveFitIsotonic_j8 fu (sufL (preL (ptsL a a.length)), (0, ())) 0 (preL (ptsL a a.length)) = some (true, ()) := by
      have f9 : law_CurveFitIsotonic_j9 fu (sufL (preL (ptsL a a.length)), (0, ())) 0 (sufL (preL (ptsL a a.length))) = some (true, ()) := by
        unfold law_CurveFitIsotonic_j9
        have hs := same_s hf (l := sufL (preL (ptsL a a.length))) (by omega)
        rw [bif_pos rfl]
        simp only []
        rw [hs, bindO_some]
      have e : (IntKind.i64.wrap (((preL (ptsL a a.length)).length : Int) - 1)) = (((preL (ptsL a a.length)).length - 1 : Nat) : Int) := by rw [s_wr (by omega) (by omega)]; omega
      unfold law_CurveFitIsotonic_j8
      simp only [joinF_eq, e, Int.toNat_natCast]
      rw [bif_and (by omega) (by omega)]
      rw [← f9]
      generalize law_CurveFitIsotonic_j9 fu (sufL (preL (ptsL a a.length)), (0, ())) 0 = J at *
      unfold sufL
      by_cases c : ((preL (ptsL a a.length)).getD ((preL (ptsL a a.length)).length - 1) (0, 0)).1 < 65280
      · rw [bif_pos c, if_pos c]
        simp (disch := omega) only [joinF_eq, bindO_some, s_wr, s_td, s_tm, s_pos, s_neg, cond_true, cond_false, Bool.not_true, Bool.not_false, Bool.true_and, Bool.and_true, Bool.false_and, Bool.and_false, bne_self_eq_false, decide_true, decide_false, Int.toNat_natCast, List.length_cons, List.length_nil]
      · rw [bif_neg c, if_neg c]
    simp only [hfl, joinF_eq]
    rw [bif_neg (by omega), bif_pos (by omega), ← fin]
    generalize law_CurveFitIsotonic_j8 fu (sufL (preL (ptsL a a.length)), (0, ())) 0 = J at *
    have z0 : Int.toNat (0 : Int) = 0 := rfl
    simp only [z0]
    unfold preL
    by_cases c : 0 < ((ptsL a a.length).getD 0 (0, 0)).1
    · rw [bif_pos c, if_pos c]
      simp (disch := omega) only [joinF_eq, bindO_some, s_wr, s_td, s_tm, s_pos, s_neg, cond_true, cond_false, Bool.not_true, Bool.not_false, Bool.true_and, Bool.and_true, Bool.false_and, Bool.and_false, bne_self_eq_false, decide_true, decide_false, Int.toNat_natCast, List.length_cons, List.length_nil]
    · rw [bif_neg c, if_neg c]
omit hf in
/-- the end of the law, with an error -/
theorem law_bad (h : wantF a ≠ 0) {w : Int × Int} (hw : w.1 = wantF a) (j4 : Int × Int → Option (Bool × Unit)) : law_CurveFitIsotonic_j3 fu (a, ()) (fitV a) (fitV a).2.1 w j4 false = some (true, ()) := by
  have hv : fitV a = ([], (wantF a, ())) := if_neg h
  unfold law_CurveFitIsotonic_j3
  rw [cond_false, hv, hw, bif_pos h]
  unfold law_none_r
  simp only [bindO_some, List.length_nil, decide_true]
  rfl
theorem law_end {w : Int × Int} (hw : w.1 = wantF a) (j4 : Int × Int → Option (Bool × Unit)) : law_CurveFitIsotonic_j3 fu (a, ()) (fitV a) (fitV a).2.1 w j4 false = some (true, ()) := by
  by_cases c : wantF a = 0
  · exact law_good hf c (hw.trans c) j4
  · exact law_bad c hw j4
theorem iso_s (hk : law_curveWorks_r fu () = some (true, ())) (a : PtL) : law_CurveFitIsotonic_r fu (a, ()) = some (true, ()) := by
  unfold law_CurveFitIsotonic_r
  rw [hk, bindO_some, fit_s hf]
  simp only [bindO_some, joinF_eq, Bool.not_true, cond_false]
  unfold law_CurveFitIsotonic_j1
  have stop : ∀ (w : Int × Int), w.1 = wantF a → (w.1 ≠ 0 ∨ (a.length : Int) ≤ w.2) → ∀ j4, law_CurveFitIsotonic_l2 fu (a, ()) (fitV a) (fitV a).2.1 j4 w = some (true, ()) := by
    intro w hw hc j4
    unfold law_CurveFitIsotonic_l2
    simp only [joinF_eq]
    by_cases c : w.2 < (a.length : Int)
    · rw [bif_pos c, decide_eq_false (show ¬ w.1 = 0 by omega)]
      exact law_end hf hw j4
    · rw [bif_neg c]
      exact law_end hf hw j4
  have once : ∀ (w : Int × Int), w.1 = wantF a → (w.1 ≠ 0 ∨ (a.length : Int) ≤ w.2) → loopF (law_CurveFitIsotonic_l2 fu (a, ()) (fitV a) (fitV a).2.1) fu w = some (true, ()) := by
    intro w hw hc
    obtain ⟨fu', rfl⟩ : ∃ q, fu = q + 1 := ⟨fu - 1, by omega⟩
    rw [loopF]
    exact stop w hw hc _
  by_cases c1 : 31 < a.length
  · have hw : wantF a = 2 := if_pos c1
    rw [bif_pos (by omega)]
    exact once (2, 0) hw.symm (.inl (by decide))
  · rw [bif_neg (by omega)]
    by_cases c2 : a.length = 0
    · have hw : wantF a = 1 := by unfold wantF; rw [if_neg c1, if_pos c2]
      rw [bif_pos (by omega)]
      exact once (1, 0) hw.symm (.inl (by decide))
    · have hw : wantF a = firstE (EV a) a.length 0 := by unfold wantF; rw [if_neg c1, if_neg c2]
      rw [bif_neg (by omega)]
      refine postLoop (f := law_CurveFitIsotonic_l2 fu (a, ()) (fitV a) (fitV a).2.1) (fun x => ((a.length : Int) + 1 - x.2).toNat) (fun x => (∃ i : Nat, x = (0, (i : Int)) ∧ i ≤ a.length ∧ ∀ k, k < i → EV a k = 0) ∨ (x.1 = wantF a ∧ x.1 ≠ 0 ∧ x.2 ≤ a.length)) (fun r => r = some (true, ())) ?_ fu (0, 0) (.inl ⟨0, rfl, by omega, fun k hk => absurd hk (Nat.not_lt_zero _)⟩) (by simp only; omega)
      rintro j x (⟨i, rfl, g1, g2⟩ | ⟨g1, g2, g3⟩)
      · by_cases hi : i < a.length
        · left
          have hE : EV a i ≠ 0 → wantF a = EV a i := fun hne => by
            rw [hw]
            exact firstE_at hne a.length 0 (by omega) (by omega) fun k _ hk => g2 k hk
          refine ⟨(EV a i, (i : Int) + 1), ?_, by simp only; omega, ?_⟩
          · by_cases c3 : EV a i = 0
            · refine .inl ⟨i + 1, by rw [c3]; rfl, by omega, fun k hk => ?_⟩
              by_cases e : k = i
              · rw [e]; exact c3
              · exact g2 k (by omega)
            · exact .inr ⟨(hE c3).symm, c3, by simp only; omega⟩
          · unfold law_CurveFitIsotonic_l2 law_CurveFitIsotonic_j3 law_CurveFitIsotonic_j4 law_CurveFitIsotonic_j5 law_CurveFitIsotonic_j6
            have ex : (List.getD a i (0, 0)).1 = ptX a i := rfl
            have ey : (List.getD a i (0, 0)).2 = ptY a i := rfl
            have wn : ∀ (x lo hi : Int), R_Within_r fu (x, (lo, (hi, ()))) = some (decide (lo ≤ x ∧ x ≤ hi), ()) := by
              intro x lo hi
              unfold R_Within_r
              by_cases h1 : lo ≤ x
              · rw [bif_pos h1]
                simp only [h1, true_and]
              · rw [bif_neg h1]
                simp [h1]
            simp only [joinF_eq, Int.toNat_natCast, ex, ey, wn, bindO_some]
            rw [bif_pos (by omega), show decide True = true from rfl, cond_true, bif_and (by omega) (by omega)]
            by_cases d1 : 0 ≤ ptX a i ∧ ptX a i ≤ 65280
            · rw [decide_eq_true d1, Bool.not_true, cond_false]
              by_cases d2 : 0 ≤ ptY a i ∧ ptY a i ≤ 65280
              · rw [decide_eq_true d2, Bool.not_true, cond_false]
                have hE1 : EV a i = if 0 < i ∧ ptX a i ≤ ptX a (i - 1) then 18 else 0 := if_neg (by omega)
                by_cases d5 : 0 < i
                · have e1 : IntKind.i64.wrap ((i : Int) - 1) = ((i - 1 : Nat) : Int) := by rw [s_wr (by omega) (by omega)]; omega
                  have ex1 : (List.getD a (i - 1) (0, 0)).1 = ptX a (i - 1) := rfl
                  simp only [e1, Int.toNat_natCast, ex1]
                  rw [bif_pos (by omega), bif_and (by omega) (by omega)]
                  by_cases d6 : ptX a i ≤ ptX a (i - 1)
                  · have hE : EV a i = 18 := hE1.trans (if_pos ⟨d5, d6⟩)
                    rw [decide_eq_true d6, cond_true, hE, s_wr (by omega) (by omega)]
                  · have hE : EV a i = 0 := hE1.trans (if_neg fun hh => d6 hh.2)
                    rw [decide_eq_false d6, cond_false, hE, s_wr (by omega) (by omega)]
                · have hE : EV a i = 0 := hE1.trans (if_neg fun hh => d5 hh.1)
                  rw [bif_neg (by omega), cond_false, hE, s_wr (by omega) (by omega)]
              · have hE : EV a i = 3 := if_pos (by omega)
                rw [decide_eq_false d2, Bool.not_false, cond_true, hE, s_wr (by omega) (by omega)]
            · have hE : EV a i = 3 := if_pos (by omega)
              rw [decide_eq_false d1, Bool.not_false, cond_true, cond_true, hE, s_wr (by omega) (by omega)]
        · right
          have ei : i = a.length := by omega
          subst ei
          have hw0 : wantF a = 0 := by rw [hw]; exact firstE_all a.length 0 fun k _ hk => g2 k (by omega)
          exact stop _ hw0.symm (.inr (by simp only; omega)) j
      · right
        exact stop _ g1 (.inl g2) j
end
theorem curveWorks_s : law_curveWorks_r FU () = some (true, ()) := by kernel_rfl
theorem isotonic_s (x : PtL × Unit) : law_CurveFitIsotonic_r FU x = some (true, ()) := by
  obtain ⟨a, _⟩ := x
  exact iso_s (Nat.le_of_eq FU_val.symm) curveWorks_s a
end Go.Proofs.Ytlbnicapkfmdoaa
/- The step from a walk to a law's row, once for all laws of the seat: a law that returns true and leaves all that was there as it was. -/
namespace Go.Proofs.Ytlbnicapkfmdoaa
open Go.ChangeShapes Go.WideShapes Go.ChangeAt Go.RowKit

theorem own : ownKnob Try.prog.godebug = none := by kernel_rfl
theorem laidOut : laidOutB Try.prog = true := by kernel_rfl
theorem boolT : Try.prog.underlying 4 = some .bool := Try.underlying4

theorem trodAll_stays {H : Type} {enc : TypeId × Value → H} {P : Program} (hl : laidOutB P = true) {W W' : World} (hb : Below W.heap.size W W') :
    ∀ {ts : List TypeId} {vs : List Value} {ds : List (DataW H)} {ps : List MemPlace}, (∀ t ∈ ts, P.readableRec t = true ∧ t < P.types.size) → DataW.TrodAll enc P W 0 (fun _ => true) true ts vs ds ps →
      (∀ x ∈ ps, x.block < W.heap.size) → DataW.TrodAll enc P W' 0 (fun b => decide (b < W.heap.size)) true ts vs ds ps
  | [], [], [], _, _, h, _ => h
  | t :: ts, v :: vs, d :: ds, _, hr, ⟨p, q, h1, h2, e⟩, hlt =>
    ⟨p, q, Below.trod hl (hr t (by simp)).1 (hr t (by simp)).2 h1 hb (fun x hx => hlt x (by rw [e]; simp [hx])),
      trodAll_stays hl hb (fun t' ht => hr t' (by simp [ht])) h2 (fun x hx => hlt x (by rw [e]; simp [hx])), e⟩
  | [], [], _ :: _, _, _, h, _ => h.elim
  | [], _ :: _, _, _, _, h, _ => h.elim
  | _ :: _, [], _, _, _, h, _ => h.elim
  | _ :: _, _ :: _, [], _, _, h, _ => h.elim

/-- what a law's row asks of the readable types among its parameters -/
def readsAll (P : Program) (ts : List TypeId) : Bool := ts.all fun t => P.readableRec t && decide (t < P.types.size)
theorem readsAll_all {P : Program} {ts : List TypeId} (h : readsAll P ts = true) : ∀ t ∈ ts, P.readableRec t = true ∧ t < P.types.size := by
  intro t ht
  have := List.all_eq_true.1 h t ht
  simpa using this

theorem trodAll_length {H : Type} {enc : TypeId × Value → H} {P : Program} {W : World} {base : Nat} {spare : Nat → Bool} {held : Bool} :
    ∀ {ts : List TypeId} {vs : List Value} {ds : List (DataW H)} {ps : List MemPlace}, DataW.TrodAll enc P W base spare held ts vs ds ps → ds.length = ts.length
  | [], [], [], _, _ => rfl
  | _ :: _, _ :: _, _ :: _, _, ⟨_, _, _, h2, _⟩ => by simp [trodAll_length h2]
  | [], [], _ :: _, _, h => h.elim
  | [], _ :: _, _, _, h => h.elim
  | _ :: _, [], _, _, h => h.elim
  | _ :: _, _ :: _, [], _, h => h.elim

set_option maxRecDepth 100000 in
theorem law_lifted {os : Os} (started : os.Started) {H : Type} {enc : TypeId × Value → H} {f : FuncId} {fn : Func} {s : ChangeSpec}
    (noInit : Try.checked.prog.inits.idxOf? f = none) (hfn : Try.checked.prog.funcs[f]? = some fn)
    (witness : ∃ (w : World) (tape : Tape) (i : Input), w.os = os ∧ (w.forCall tape i).Shaped Try.checked.prog ∧ i.vars = [] ∧ Input.okWide Try.checked.prog (w.forCall tape i) .any w.heap.size f i ∧
      s.pre6 enc Try.checked.prog fn [] false (w.forCall tape i).memory i.args ∧ ({} : Assume).holds Try.checked.prog (lone (Frame.enter Try.checked.prog f i.args .normal) [] (w.forCall tape i)))
    (hvars : s.vars = []) (hres : fn.resultTypes = #[4]) (hread : readsAll Try.prog fn.params.toList = true)
    (hspec : ∀ ds : List (DataW H), ds.length = fn.params.toList.length → s.fn H ds = { results := [.lit (.bool true)], args := ds })
    (walk : ∀ (W : World) (base : Nat) (args : List Value) (ds : List (DataW H)) (ps : List MemPlace),
      (∀ (j : Nat) t v, fn.params[j]? = some t → args[j]? = some v → Value.okWide Try.prog W .any base t v) → DataW.TrodAll enc Try.prog W 0 (fun _ => true) true fn.params.toList args ds ps →
      (DataW.weightsEach Try.prog fn.params.toList ds).all (· ≤ reachBytes) = true → (∀ x ∈ ps, x.block < W.heap.size) →
      Calls Try.prog f args.toArray W fun e W' => e = .returned (.bool true) ∧ Below W.heap.size W W') :
    ReturnsInHanded {} Try.checked os f .any (s.pre6 enc Try.checked.prog fn [] false) (s.post enc Try.checked.prog fn false true false false) := by
  refine returnsInHanded_of_change_sized (C := Try.checked) own started noInit hfn witness ?_
  intro W base args ds gs before hval hW _ hsz _
  have hW' := hW
  obtain ⟨p, q, hA0, hV, rfl, hfz, hnd⟩ := hW
  rw [hvars] at hV
  obtain ⟨rfl, rfl⟩ := trodVars_none hV
  have hA : DataW.TrodAll enc Try.prog W 0 (fun _ => true) true fn.params.toList args.toList ds p := hA0
  have hlen : ds.length = fn.params.toList.length := trodAll_length hA
  have hlt : ∀ x ∈ p, x.block < W.heap.size := fun x hx => hW'.lt x (by simpa using hx)
  have hargs : args.toList.toArray = args := by simp
  have hsz' : (DataW.weightsEach Try.prog fn.params.toList ds).all (· ≤ reachBytes) = true := by
    have h := hsz
    have hvt : s.plain.varTypes Try.checked.prog = [] := by simp [DataSpec.varTypes, ChangeSpec.plain, hvars]
    rw [hvt] at h
    simp only [List.append_nil] at h
    exact h
  have hw := walk W base args.toList ds p (fun j t v ht hv => hval j t v ht (by simpa using hv)) hA hsz' hlt
  rw [hargs] at hw
  refine hw.mono fun e W' ⟨he, hb⟩ => ⟨.bool true, he, ?_⟩
  have hsf : s.fn H (ds ++ []) = { results := [.lit (.bool true)], args := ds } := by rw [List.append_nil]; exact hspec ds hlen
  refine ⟨ds, [], p ++ [], [], p, [], hW', ?_, ?_, ?_, hb.frame _, fun h => by cases h⟩
  · rw [hsf, hres]
    exact trodAll_mk1 (shut_bool boolT true)
  · rw [hsf]
    exact trodAll_stays laidOut hb (readsAll_all hread) hA hlt
  · rw [hsf, hvars]
    rfl
end Go.Proofs.Ytlbnicapkfmdoaa
/- Arguments opened: what slices and structs of numbers read as. -/
set_option maxRecDepth 100000
namespace Go.Proofs.Ytlbnicapkfmdoaa
open Go.ChangeShapes Go.WideShapes Go.ChangeAt Go.RowKit Go.Deep

theorem choose_list {α : Type} {n : Nat} {Q : Nat → α → Prop} (h : ∀ i, i < n → ∃ p, Q i p) : ∃ l : List α, l.length = n ∧ ∀ i p, l[i]? = some p → Q i p := by
  induction n with
  | zero => exact ⟨[], rfl, by intro i p hi; simp at hi⟩
  | succ n ih =>
    obtain ⟨l, hl, hq⟩ := ih (fun i hi => h i (by omega))
    obtain ⟨p, hp⟩ := h n (by omega)
    refine ⟨l ++ [p], by simp [hl], fun i q hi => ?_⟩
    rcases Nat.lt_trichotomy i n with hlt | rfl | hgt
    · rw [List.getElem?_append_left (by omega)] at hi
      exact hq i q hi
    · rw [List.getElem?_append_right (by omega), hl] at hi
      simp at hi
      subst hi; exact hp
    · rw [List.getElem?_eq_none (by simp; omega)] at hi
      cases hi

section
variable {H : Type} {enc : TypeId × Value → H} {P : Program} {w : World} {base : Nat} {spare : Nat → Bool} {held : Bool}
/-- a slice, whatever its elements: of each element its cells and its reading -/
theorem rd_slice {t e : TypeId} {fuel : Nat} {v : Value} {x : DataW H × List MemPlace} (ht : P.underlying t = some (.slice e)) (hc : 0 < P.cellsOf e) (h : DataW.trod enc P w base spare held fuel t [v] = some x) :
    ∃ A n c, v = .slice A n c ∧ n ≤ c ∧ c ≤ maxLen ∧ ∀ i, i < n → ∃ b o cs n' x', A = some ⟨b, o, none⟩ ∧ cs.length = P.cellsOf e ∧ (∀ j u, cs[j]? = some u → w.cell? ⟨b, o + i * P.cellsOf e + j, none⟩ = some u) ∧
      DataW.trod enc P w base spare held n' e cs = some x' := by
  rcases open_slice ht h with ⟨h0, _⟩ | ⟨a, len, cap, m, n', D, Pl, hcs, _, hl, hm, hmm, _, hi⟩
  · simp at h0
    subst h0
    exact ⟨none, 0, 0, rfl, by omega, by unfold maxLen; omega, by intro i hi; omega⟩
  · simp at hcs
    subst hcs
    refine ⟨some a, len, cap, rfl, hl, hm, fun i hil => ?_⟩
    have hlm : len ≤ m := by rw [hmm]; split <;> omega
    obtain ⟨cs, h1, h2⟩ := hi i (by omega)
    obtain ⟨hb, hlen, hat⟩ := World.cells?_some h1
    obtain ⟨b, o, spot⟩ := a
    have h00 := hat 0 (by omega)
    have hsp : spot = none := by
      obtain ⟨cs0, g1, _⟩ := hi 0 (by omega)
      obtain ⟨_, gl, gat⟩ := World.cells?_some g1
      have hx := gat 0 (by omega)
      rw [List.getElem?_eq_getElem (by omega)] at hx
      simpa [Addr.add] using World.cell?_spot hx
    subst hsp
    refine ⟨b, o, cs, n', _, rfl, hlen, ?_, h2⟩
    intro j u hu
    have hjl : j < P.cellsOf e := by rw [← hlen]; exact (List.getElem?_eq_some_iff.1 hu).1
    have := hat j hjl
    rw [hu, Addr.add_lit, Addr.add_lit] at this
    exact this
end

end Go.Proofs.Ytlbnicapkfmdoaa
/- Arguments opened, as abstract values. -/
set_option maxRecDepth 100000
namespace Go.Proofs.Ytlbnicapkfmdoaa
open Go Go.ChangeShapes Go.WideShapes Go.ChangeAt Go.RowKit Go.Deep

section
variable {H : Type} {enc : TypeId × Value → H} {P : Program} {w : World} {base : Nat} {spare : Nat → Bool} {held : Bool}
/-- data of the caller's -/
abbrev RelC (w : World) : AV → Value → Prop := RelD w (fun _ => False) w.heap.size
/-- one element's cells, read as enc p -/
def Reads {α : Type} (w : World) (sz : Nat) (ec : α → List AV) (Q : α → Prop) (cs : List Value) : Prop :=
  ∃ p, Q p ∧ (ec p).length = sz ∧ ∀ (j : Nat) (a : AV) (u : Value), (ec p)[j]? = some a → cs[j]? = some u → RelC w a u
theorem ro_slice {α : Type} (ec : α → List AV) (Q : α → Prop) {t e : TypeId} {sz fuel : Nat} {v : Value} {x : DataW H × List MemPlace} (ht : P.underlying t = some (.slice e)) (hz : P.cellsOf e = sz) (hc : 0 < sz)
    (hel : ∀ (fuel : Nat) (cs : List Value) (x : DataW H × List MemPlace), cs.length = sz → DataW.trod enc P w base spare held fuel e cs = some x → Reads w sz ec Q cs) (h : DataW.trod enc P w base spare held fuel t [v] = some x) :
    ∃ xs : List α, (∀ p ∈ xs, Q p) ∧ RelC w (.ro false sz (xs.map ec)) v := by
  subst hz
  obtain ⟨A, n, c, rfl, hn, hm, hi⟩ := rd_slice ht hc h
  obtain ⟨xs, hl, hq⟩ := choose_list (Q := fun i (p : α) => Q p ∧ ∃ (b o : Nat) (cs : List Value), A = some ⟨b, o, none⟩ ∧ cs.length = P.cellsOf e ∧ (∀ (j : Nat) (u : Value), cs[j]? = some u → w.cell? ⟨b, o + i * P.cellsOf e + j, none⟩ = some u) ∧ (ec p).length = P.cellsOf e ∧ ∀ (j : Nat) (a : AV) (u : Value), (ec p)[j]? = some a → cs[j]? = some u → RelC w a u) (n := n) (by
    intro i hil
    obtain ⟨b, o, cs, n', x', hA, hlen, hat, htr⟩ := hi i hil
    obtain ⟨p, h1, h2, h3⟩ := hel n' cs x' hlen htr
    exact ⟨p, h1, b, o, cs, hA, hlen, hat, h2, h3⟩)
  subst hl
  refine ⟨xs, fun p hp => ?_, ?_⟩
  · obtain ⟨i, hi⟩ := List.mem_iff_getElem?.1 hp
    exact (hq i p hi).1
  have key : ∀ (i : Nat) (row : List AV) (j : Nat) (a : AV), (xs.map ec)[i]? = some row → row[j]? = some a → ∃ b o u, A = some ⟨b, o, none⟩ ∧ w.cell? ⟨b, o + i * P.cellsOf e + j, none⟩ = some u ∧ RelC w a u := by
    intro i row j a hr ha
    rw [List.getElem?_map] at hr
    obtain ⟨p, hp, rfl⟩ := Option.map_eq_some_iff.1 hr
    obtain ⟨_, b, o, cs, hA, hlen, hat, hel, hrel⟩ := hq i p hp
    have hj : j < cs.length := by rw [hlen, ← hel]; exact (List.getElem?_eq_some_iff.1 ha).1
    have hu : cs[j]? = some cs[j] := List.getElem?_eq_getElem hj
    exact ⟨b, o, cs[j], hA, hat j _ hu, hrel j a _ ha hu⟩
  have hcon := RelD.ro (w := w) (own := fun _ => False) (bs := w.heap.size) false (P.cellsOf e) (xs.map ec) A c (fun i j => match A with
    | some ⟨b, o, _⟩ => (w.cell? ⟨b, o + i * P.cellsOf e + j, none⟩).getD undef
    | none => undef) (by simpa using hn) hm (fun i hi hA => by
      have hi : i < xs.length := by simpa using hi
      obtain ⟨_, b, o, _, h1, _⟩ := hq i xs[i] (List.getElem?_eq_getElem hi)
      rw [hA] at h1; cases h1) (fun i row j a hr ha => by
      obtain ⟨b, o, u, hA, hu, _⟩ := key i row j a hr ha
      subst hA
      exact ⟨b, o, rfl, fun h => h.elim, (fun h => by cases h), by simp [hu]⟩) (fun i row j a hr ha => by
      obtain ⟨b, o, u, hA, hu, hr⟩ := key i row j a hr ha
      subst hA
      simpa [hu] using hr)
  rw [List.length_map] at hcon
  exact hcon
end
/-- a law that answers true -/
theorem AF.yes {P : Program} {F : FuncId} {xs : List AV} {vs : Array Value} {w : World} (h : AF P F xs (.bool true)) (ha : ArgsV w (Gh.none w.heap.size) xs vs) : Calls P F vs w fun e w' => e = .returned (.bool true) ∧ Below w.heap.size w w' :=
  (h.out w vs ha).mono fun e w' ⟨v, he, hb, hv⟩ => ⟨by rw [he, hv.bool'], hb⟩
end Go.Proofs.Ytlbnicapkfmdoaa
/- Arguments of any type, opened by one theorem; the last step of a law that a residual program answers. -/
set_option maxRecDepth 100000
namespace Go.Proofs.Ytlbnicapkfmdoaa
open Go Go.ChangeShapes Go.WideShapes Go.ChangeAt Go.RowKit Go.Deep

/-- what every argument of a type meets -/
def Ty.wf : (t : Ty) → t.den → Prop
  | .int k, n => (Lit.int k n).wf = true
  | .bool, _ => True
  | .str, s => List.length s ≤ maxLen
  | .list t, xs => List.length xs ≤ maxLen ∧ ∀ x ∈ (xs : List t.den), t.wf x
  | .unit, _ => True
  | .pair a b, x => a.wf x.1 ∧ b.wf x.2
  | .agg t, x => t.wf x
  | .ptr _, _ => False
def prB (t : Ty) (f : Ty → Ty → Bool) : Bool := match t with
  | .pair x y => f x y
  | _ => false
def unB (t : Ty) : Bool := match t with
  | .unit => true
  | _ => false
theorem prB_ok {t : Ty} {f : Ty → Ty → Bool} (h : prB t f = true) : ∃ x y, t = .pair x y ∧ f x y = true := by
  unfold prB at h
  split at h
  · exact ⟨_, _, rfl, h⟩
  · cases h
theorem unB_ok {t : Ty} (h : unB t = true) : t = .unit := by
  unfold unB at h
  split at h
  · rfl
  · cases h
def fsB (g : TypeId → Ty → Bool) : List Field → Nat → Ty → Bool
  | [], _, t => unB t
  | [a], o, t => Nat.beq a.offset o && g a.type t
  | a :: b :: l, o, t => prB t fun x y => Nat.beq a.offset o && g a.type x && fsB g (b :: l) (o + x.size) y
def arB (g : Ty → Bool) : Nat → Ty → Bool
  | 0, t => unB t
  | 1, t => g t
  | n + 2, t => prB t fun x y => g x && arB g (n + 1) y
def intB (k : IntKind) (t : Ty) : Bool := match t with
  | .int k' => decide (k' = k)
  | _ => false
def boolB (t : Ty) : Bool := match t with
  | .bool => true
  | _ => false
def strB (t : Ty) : Bool := match t with
  | .str => true
  | _ => false
def sliceB (g : Ty → Bool) (t : Ty) : Bool := match t with
  | .list t' => g t' && Nat.blt 0 t'.size
  | _ => false
/-- a type as the program has it -/
def tyB (P : Program) : Nat → TypeId → Ty → Bool
  | 0, _, _ => false
  | f + 1, tid, t => Nat.beq (P.cellsOf tid) t.size && (match P.underlying tid with
    | some (.int k) => intB k t
    | some .bool => boolB t
    | some .string => strB t
    | some (.slice e) => sliceB (tyB P f e) t
    | some (.struct ⟨fs⟩) => fsB (tyB P f) fs 0 t
    | some (.array n e) => arB (tyB P f e) n t
    | _ => false)
section
variable {H : Type} {enc : TypeId × Value → H} {P : Program} {w : World} {base : Nat} {spare : Nat → Bool} {held : Bool}
abbrev ReadsT (w : World) (t : Ty) (cs : List Value) : Prop := Reads w t.size (t.cells false) t.wf cs
theorem tyB_size {f : Nat} {tid : TypeId} {t : Ty} (h : tyB P f tid t = true) : P.cellsOf tid = t.size := by
  cases f with
  | zero => cases h
  | succ f => rw [tyB, Bool.and_eq_true] at h; exact Nat.eq_of_beq_eq_true h.1
theorem ReadsT.pair {a b : Ty} {c d : List Value} (h : ReadsT w a c) (k : ReadsT w b d) (hl : c.length = a.size) : ReadsT w (.pair a b) (c ++ d) := by
  obtain ⟨x, x1, x2, x3⟩ := h
  obtain ⟨y, y1, y2, y3⟩ := k
  refine ⟨(x, y), ⟨x1, y1⟩, Ty.cells_length _ _ _, fun j v u hv hu => ?_⟩
  rw [Ty.cells] at hv
  by_cases hj : j < a.size
  · rw [List.getElem?_append_left (by rw [x2]; exact hj)] at hv
    rw [List.getElem?_append_left (by omega)] at hu
    exact x3 j v u hv hu
  · rw [List.getElem?_append_right (by rw [x2]; omega), x2] at hv
    rw [List.getElem?_append_right (by omega), hl] at hu
    exact y3 _ v u hv hu
theorem ReadsT.unit : ReadsT w .unit [] := ⟨(), trivial, rfl, fun j a u h _ => by simp [Ty.cells] at h⟩
theorem fs_reads {g : TypeId → Ty → Bool} (hg : ∀ (tid : TypeId) (t : Ty) (n : Nat) (cs : List Value) (x : DataW H × List MemPlace), g tid t = true → cs.length = t.size → DataW.trod enc P w base spare held n tid cs = some x → ReadsT w t cs) (hsz : ∀ tid t, g tid t = true → P.cellsOf tid = t.size) {cs : List Value} :
    ∀ (l : List Field) (o : Nat) (t : Ty), fsB g l o t = true → (∀ a ∈ l, ∃ n y, DataW.trod enc P w base spare held n a.type ((cs.drop a.offset).take (P.cellsOf a.type)) = some y) → o + t.size ≤ cs.length → ReadsT w t ((cs.drop o).take t.size)
  | [], o, t, h, _, _ => by
    rw [unB_ok h, show Ty.unit.size = 0 from rfl, List.take_zero]; exact .unit
  | [a], o, t, h, hr, hl => by
    rw [fsB, Bool.and_eq_true] at h
    obtain ⟨n, y, hy⟩ := hr a (by simp)
    rw [Nat.eq_of_beq_eq_true h.1, hsz _ _ h.2] at hy
    exact hg _ _ n _ y h.2 (by rw [List.length_take, List.length_drop]; omega) hy
  | a :: b :: l, o, t, h, hr, hl => by
    obtain ⟨x, y, rfl, h'⟩ := prB_ok h
    clear h
    have h := h'
    clear h'
    rw [Bool.and_eq_true, Bool.and_eq_true] at h
    obtain ⟨n, z, hz⟩ := hr a (by simp)
    rw [Nat.eq_of_beq_eq_true h.1.1, hsz _ _ h.1.2] at hz
    have hs : (Ty.pair x y).size = x.size + y.size := rfl
    rw [hs] at hl
    have h1 := hg _ _ n _ z h.1.2 (by rw [List.length_take, List.length_drop]; omega) hz
    have h2 := fs_reads hg hsz (b :: l) (o + x.size) y h.2 (fun a ha => hr a (List.mem_cons_of_mem _ ha)) (by omega)
    rw [hs, List.take_add, List.drop_drop]
    exact h1.pair h2 (by rw [List.length_take, List.length_drop]; omega)
theorem ar_reads {g : Ty → Bool} {e : TypeId} (hg : ∀ (t : Ty) (n : Nat) (cs : List Value) (x : DataW H × List MemPlace), g t = true → cs.length = t.size → DataW.trod enc P w base spare held n e cs = some x → ReadsT w t cs) (hsz : ∀ t, g t = true → P.cellsOf e = t.size) {cs : List Value} :
    ∀ (k o : Nat) (t : Ty), arB g k t = true → (∀ i, i < k → ∃ n y, DataW.trod enc P w base spare held n e ((cs.drop (o + i * P.cellsOf e)).take (P.cellsOf e)) = some y) → o + t.size ≤ cs.length → ReadsT w t ((cs.drop o).take t.size)
  | 0, o, t, h, _, _ => by
    rw [unB_ok h, show Ty.unit.size = 0 from rfl, List.take_zero]; exact .unit
  | 1, o, t, h, hr, hl => by
    rw [arB] at h
    obtain ⟨n, y, hy⟩ := hr 0 (by omega)
    rw [hsz _ h, Nat.zero_mul, Nat.add_zero] at hy
    exact hg _ n _ y h (by rw [List.length_take, List.length_drop]; omega) hy
  | k + 2, o, t, h, hr, hl => by
    obtain ⟨x, y, rfl, h'⟩ := prB_ok h
    clear h
    have h := h'
    clear h'
    rw [Bool.and_eq_true] at h
    obtain ⟨n, z, hz⟩ := hr 0 (by omega)
    rw [hsz _ h.1, Nat.zero_mul, Nat.add_zero] at hz
    have hs : (Ty.pair x y).size = x.size + y.size := rfl
    rw [hs] at hl
    have h1 := hg _ n _ z h.1 (by rw [List.length_take, List.length_drop]; omega) hz
    have h2 := ar_reads hg hsz (k + 1) (o + x.size) y h.2 (fun i hi => by
      obtain ⟨n, z, hz⟩ := hr (i + 1) (by omega)
      refine ⟨n, z, ?_⟩
      rw [← hz, ← hsz _ h.1, Nat.add_mul, Nat.one_mul, Nat.add_assoc, Nat.add_comm (P.cellsOf e)]) (by omega)
    rw [hs, List.take_add, List.drop_drop]
    exact h1.pair h2 (by rw [List.length_take, List.length_drop]; omega)
theorem ro_len {own : Nat → Prop} {bs sz : Nat} {fr : Bool} {rows : List (List AV)} {v : Value} (h : RelD w own bs (.ro fr sz rows) v) : rows.length ≤ maxLen := by
  cases h with
  | ro fr sz rows A c f hc hm h0 h1 h2 => omega
theorem one_cell {cs : List Value} (h : cs.length = 1) : ∃ u, cs = [u] := by match cs, h with | [u], _ => exact ⟨u, rfl⟩
theorem reads_ty : ∀ (f : Nat) (tid : TypeId) (t : Ty) (n : Nat) (cs : List Value) (x : DataW H × List MemPlace), tyB P f tid t = true → cs.length = t.size → DataW.trod enc P w base spare held n tid cs = some x → ReadsT w t cs
  | 0, _, _, _, _, _, h, _, _ => by cases h
  | f + 1, tid, t, n, cs, x, h, hl, hx => by
    have hsize := tyB_size h
    rw [tyB, Bool.and_eq_true] at h
    obtain ⟨_, h⟩ := h
    split at h
    · rename_i k hu
      unfold intB at h
      split at h
      · have hk := of_decide_eq_true h
        subst hk
        obtain ⟨m, rfl, _, hwf⟩ := DataW.trod_int hu hx
        refine ⟨m, hwf, rfl, fun j a u ha hu => ?_⟩
        match j with
        | 0 => simp [Ty.cells] at ha hu; subst ha; subst hu; exact .int _ _
        | j + 1 => simp [Ty.cells] at ha
      · cases h
    · rename_i hu
      unfold boolB at h
      split at h
      · obtain ⟨m, rfl, _⟩ := DataW.trod_bool hu hx
        refine ⟨m, trivial, rfl, fun j a u ha hu => ?_⟩
        match j with
        | 0 => simp [Ty.cells] at ha hu; subst ha; subst hu; exact .bool _
        | j + 1 => simp [Ty.cells] at ha
      · cases h
    · rename_i hu
      unfold strB at h
      split at h
      · obtain ⟨s, rfl, _, hs⟩ := DataW.trod_string hu hx
        refine ⟨s.data.toList, by rw [Ty.wf, Array.length_toList]; exact hs, rfl, fun j a u ha hu => ?_⟩
        match j with
        | 0 => simp [Ty.cells] at ha hu; subst ha; subst hu; exact .str _
        | j + 1 => simp [Ty.cells] at ha
      · cases h
    · rename_i e hu
      unfold sliceB at h
      split at h
      · rename_i _ t' _
        rw [Bool.and_eq_true] at h
        have hpos : 0 < t'.size := Nat.le_of_ble_eq_true h.2
        obtain ⟨v, rfl⟩ := one_cell hl
        obtain ⟨xs, hw, hr⟩ := ro_slice (t'.cells false) t'.wf hu (tyB_size h.1) hpos (fun m cs x hl hx => reads_ty f e t' m cs x h.1 hl hx) hx
        refine ⟨xs, ⟨?_, hw⟩, rfl, fun j a u ha hu => ?_⟩
        · have := ro_len hr
          rw [List.length_map] at this
          exact this
        match j with
        | 0 => simp [Ty.cells] at ha hu; subst ha; subst hu; exact hr
        | j + 1 => simp [Ty.cells] at ha
      · cases h
    · rename_i fs hu
      obtain ⟨xs, m, _, _, _, hxl, hat⟩ := DataW.trod_struct hu hx
      have := fs_reads (cs := cs) (fun tid t n cs x h1 h2 h3 => reads_ty f tid t n cs x h1 h2 h3) (fun tid t h => tyB_size h) fs 0 t h (fun a ha => by
        obtain ⟨i, hi⟩ := List.mem_iff_getElem?.1 ha
        have hi' : i < xs.length := by rw [hxl]; exact (List.getElem?_eq_some_iff.1 hi).1
        exact ⟨m, _, by rw [hat i a (by simpa using hi), List.getElem?_eq_getElem hi']⟩) (by omega)
      rw [List.drop_zero, List.take_of_length_le (by omega)] at this
      exact this
    · rename_i k e hu
      obtain ⟨xs, m, _, _, _, hxl, hat⟩ := DataW.trod_array hu hx
      have := ar_reads (cs := cs) (e := e) (fun t n cs x h1 h2 h3 => reads_ty f e t n cs x h1 h2 h3) (fun t h => tyB_size h) k 0 t h (fun i hi => by
        have hi' : i < xs.length := by rw [hxl]; exact hi
        exact ⟨m, _, by rw [Nat.zero_add, hat i hi, List.getElem?_eq_getElem hi']⟩) (by omega)
      rw [List.drop_zero, List.take_of_length_le (by omega)] at this
      exact this
    · cases h
/-! ### Arguments -/
def aggP (P : Program) (tid : TypeId) : Bool := match P.underlying tid with
  | some (.struct _) => true
  | some (.array _ _) => true
  | _ => false
def cellP (P : Program) (tid : TypeId) : Bool := match P.underlying tid with
  | some (.int _) => true
  | some .bool => true
  | some .string => true
  | some (.slice _) => true
  | _ => false
def argB (P : Program) (tid : TypeId) (a : Ty) : Bool := match a with
  | .agg t => tyB P 9 tid t && aggP P tid
  | .int k => tyB P 9 tid (.int k) && cellP P tid
  | .bool => tyB P 9 tid .bool && cellP P tid
  | .str => tyB P 9 tid .str && cellP P tid
  | .list t => tyB P 9 tid (.list t) && cellP P tid
  | _ => false
def argsB (P : Program) : List TypeId → Ty → Bool
  | [], t => unB t
  | tid :: l, t => prB t fun a b => argB P tid a && argsB P l b
theorem okWide_arr {n b : Nat} {r : Go.Reach} {t e : TypeId} {v : Value} (ht : P.underlying t = some (.array n e)) (h : Value.okWide P w r b t v) : ∃ cs, v = .agg cs ∧ cs.size = P.cellsOf t := by
  simp only [Value.okWide, ht] at h
  obtain ⟨cs, h1, h2, _⟩ := h
  exact ⟨cs, h1, h2⟩
theorem arg_agg {tid : TypeId} {t : Ty} {v : Value} {d : DataW H} {p : List MemPlace} {b : Nat} (h : tyB P 9 tid t = true) (ha : aggP P tid = true) (hv : Value.okWide P w .any b tid v) (hd : DataW.Trod enc P w base spare held tid v d p) : ∃ x : t.den, t.wf x ∧ RelV w (Gh.none w.heap.size) (.agg (t.cells false x)) v := by
  obtain ⟨cs, rfl, hs⟩ : ∃ cs, v = .agg cs ∧ cs.size = P.cellsOf tid := by
    unfold aggP at ha
    split at ha
    · rename_i h1; exact okWide_struct h1 hv
    · rename_i h1; exact okWide_arr h1 hv
    · cases ha
  obtain ⟨n, hd⟩ := hd
  have hl : cs.toList.length = t.size := by rw [← tyB_size h, ← hs]; simp
  obtain ⟨x, x1, x2, x3⟩ := reads_ty 9 tid t n cs.toList _ h hl hd
  exact ⟨x, x1, .agg _ _ (by rw [x2, ← hl]; simp) fun i a u ha hu => .dat (x3 i a u ha (by simpa using hu))⟩
theorem arg_cell {tid : TypeId} {t : Ty} {v : Value} {d : DataW H} {p : List MemPlace} {b : Nat} (h : tyB P 9 tid t = true) (hc : cellP P tid = true) (h1 : t.size = 1) (hv : Value.okWide P w .any b tid v) (hd : DataW.Trod enc P w base spare held tid v d p) : ∃ x : t.den, t.wf x ∧ ∀ a, (t.cells false x)[0]? = some a → RelV w (Gh.none w.heap.size) a v := by
  have hd : ∃ n, DataW.trod enc P w base spare held n tid [v] = some (d, p) := by
    unfold cellP at hc
    split at hc
    · rename_i hu
      obtain ⟨m, rfl⟩ := okWide_int hu hv
      exact hd
    · rename_i hu
      obtain ⟨m, rfl⟩ := okWide_bool hu hv
      exact hd
    · rename_i hu
      obtain ⟨m, rfl⟩ := okWide_string hu hv
      exact hd
    · rename_i hu
      obtain ⟨a, n, c, rfl⟩ := okWide_slice hu hv
      exact hd
    · cases hc
  obtain ⟨n, hd⟩ := hd
  obtain ⟨x, x1, x2, x3⟩ := reads_ty 9 tid t n [v] _ h (by rw [h1]; rfl) hd
  exact ⟨x, x1, fun a ha => .dat (x3 0 a v ha rfl)⟩
theorem arg_ty {tid : TypeId} {v : Value} {d : DataW H} {p : List MemPlace} {b : Nat} : ∀ {a : Ty}, argB P tid a = true → Value.okWide P w .any b tid v → DataW.Trod enc P w base spare held tid v d p → ∃ x : a.den, a.wf x ∧ RelV w (Gh.none w.heap.size) (a.av false x) v
  | .agg t, h, hv, hd => by
    rw [argB, Bool.and_eq_true] at h
    obtain ⟨x, h1, h2⟩ := arg_agg h.1 h.2 hv hd
    exact ⟨x, h1, by rw [Ty.av]; exact h2⟩
  | .int k, h, hv, hd => by
    rw [argB, Bool.and_eq_true] at h
    obtain ⟨x, h1, h2⟩ := arg_cell h.1 h.2 rfl hv hd
    exact ⟨x, h1, h2 _ rfl⟩
  | .bool, h, hv, hd => by
    rw [argB, Bool.and_eq_true] at h
    obtain ⟨x, h1, h2⟩ := arg_cell h.1 h.2 rfl hv hd
    exact ⟨x, h1, h2 _ rfl⟩
  | .str, h, hv, hd => by
    rw [argB, Bool.and_eq_true] at h
    obtain ⟨x, h1, h2⟩ := arg_cell h.1 h.2 rfl hv hd
    exact ⟨x, h1, h2 _ rfl⟩
  | .list t, h, hv, hd => by
    rw [argB, Bool.and_eq_true] at h
    obtain ⟨x, h1, h2⟩ := arg_cell h.1 h.2 rfl hv hd
    exact ⟨x, h1, h2 _ rfl⟩
  | .unit, h, _, _ => by cases h
  | .pair _ _, h, _, _ => by cases h
  | .ptr _, h, _, _ => by cases h
/-- values one by one -/
inductive RelsV (w : World) (G : Gh) : List AV → List Value → Prop
  | nil : RelsV w G [] []
  | cons {a : AV} {v : Value} {l : List AV} {m : List Value} (h : RelV w G a v) (k : RelsV w G l m) : RelsV w G (a :: l) (v :: m)
theorem RelsV.args {G : Gh} {l : List AV} {m : List Value} (h : RelsV w G l m) : ArgsV w G l m.toArray := by
  induction h with
  | nil => exact ⟨rfl, fun i a v ha hv => by simp at ha⟩
  | cons h k ih =>
    refine ⟨by have := ih.size; simp at this ⊢; exact this, fun i a v ha hv => ?_⟩
    cases i with
    | zero => simp at ha hv; subst ha; subst hv; exact h
    | succ i => exact ih.rel i a v (by simpa using ha) (by simpa using hv)
theorem args_ty {b : Nat} : ∀ {ts : List TypeId} {σ : Ty} {vs : List Value} {ds : List (DataW H)} {ps : List MemPlace}, argsB P ts σ = true → (∀ (j : Nat) t v, ts[j]? = some t → vs[j]? = some v → Value.okWide P w .any b t v) → DataW.TrodAll enc P w base spare held ts vs ds ps → ∃ x : σ.den, σ.wf x ∧ RelsV w (Gh.none w.heap.size) (σ.avs false x) vs
  | [], σ, vs, ds, ps, h, _, hA => by
    obtain ⟨rfl, rfl, rfl⟩ := trodAll_nil hA
    have e := unB_ok h
    subst e
    exact ⟨(), trivial, .nil⟩
  | tid :: l, σ, vs, ds, ps, h, hv, hA => by
    obtain ⟨v, vs, d, ds, p, q, rfl, rfl, rfl, h0, r0⟩ := trodAll_cons hA
    obtain ⟨a, c, rfl, h'⟩ := prB_ok h
    clear h
    have h := h'
    clear h'
    rw [Bool.and_eq_true] at h
    obtain ⟨x, x1, x2⟩ := arg_ty h.1 (hv 0 tid v rfl rfl) h0
    obtain ⟨y, y1, y2⟩ := args_ty h.2 (fun j t u ht hu => hv (j + 1) t u (by simpa using ht) (by simpa using hu)) r0
    exact ⟨(x, y), ⟨x1, y1⟩, by rw [Ty.avs]; exact .cons x2 y2⟩
end
/-- a law whose residual program answers true at all data -/
theorem law_any {H : Type} {enc : TypeId × Value → H} {F : Nat} {ts : List TypeId} {σ : Ty} {f : Nat → σ.den → Option (Bool × Unit)} {nm : Nat} (hc : CtrOk Try.prog F ⟨σ, .pair .bool .unit, f, nm⟩) (hB : argsB Try.prog ts σ = true) (hp : ∀ x : σ.den, σ.wf x → f FU x = some (true, ())) {W : World} {b : Nat} {args : List Value} {ds : List (DataW H)} {ps : List MemPlace}
    (hv : ∀ (j : Nat) t v, ts[j]? = some t → args[j]? = some v → Value.okWide Try.prog W .any b t v) (hA : DataW.TrodAll enc Try.prog W 0 (fun _ => true) true ts args ds ps) :
    Calls Try.prog F args.toArray W fun e W' => e = .returned (.bool true) ∧ Below W.heap.size W W' := by
  obtain ⟨x, hx, hr⟩ := args_ty hB hv hA
  exact AF.yes (hc FU x (true, ()) (hp x hx)) hr.args
end Go.Proofs.Ytlbnicapkfmdoaa
/- CurveFitIsotonic: for every input this law returns true and leaves its arguments as they were. -/
namespace Go.Proofs.Ytlbnicapkfmdoaa
open Go.ChangeShapes Go.WideShapes Go.ChangeAt Go.RowKit

set_option maxRecDepth 100000 in
theorem curveFitIsotonic_lifted (os : Os) (started : os.Started) (H : Type) (enc : TypeId × Value → H) :
    ReturnsInHanded {} Try.checked os 11 .any (Rows.curveFitIsotonicSpec.pre6 enc Try.prog Try.f11 Rows.curveFitIsotonicRow.domain false) (Rows.curveFitIsotonicSpec.post enc Try.prog Try.f11 false true false false) := by
  refine law_lifted started (by kernel_rfl) Try.func11
    (ChangeSpec.witness6 (enc := enc) (C := Try.checked) false ⟨#[], #[.slice none 0 0], []⟩ 8 (by kernel_rfl) (by kernel_rfl) (by kernel_rfl) (by kernel_rfl)) rfl rfl (by kernel_rfl)
    (fun ds h => by rw [Try.params11] at h; match ds, h with | [_], _ => rfl) ?_
  intro W base args ds ps hval hA hsz hlt
  rw [Try.params11] at hA hval
  exact law_any law_CurveFitIsotonic_ok (by kernel_rfl) (fun x _ => isotonic_s x) (fun j t v ht hv => hval j t v (by simpa using ht) hv) hA

theorem curveFitIsotonic_holds : Rows.CurveFitIsotonicSaid :=
  OpenClaim.holds_of_wide 11 Try.f11 rfl rfl rfl rfl rfl rfl rfl ⟨rfl, rfl, rfl, rfl, rfl⟩ rfl rfl rfl rfl rfl (by kernel_rfl) Try.func11 (by kernel_rfl)
    (of_decide_eq_true (by kernel_rfl)) (by unfold Func.isWrapper; first | (rw [if_pos (by decide +kernel)]; kernel_rfl) | (rw [if_neg (by decide +kernel)]; exact ⟨rfl, rfl⟩))
    (fun os started H enc _ => curveFitIsotonic_lifted os started H enc)
end Go.Proofs.Ytlbnicapkfmdoaa
