/- Some calls of a recursive function, by runs. -/
import Derived.Test.YtedjnjgnadbkaaaZLW4
import Derived.Below
import Derived.WalkKit
import Derived.WalkSpells
/- Some calls of a recursive function, by runs. -/
namespace Go.Proofs.Ytedjnjgnadbkaaa
open Go Go.RowKit

def linear_patterns_1_f0 : Fact := ⟨108, [.int .i64 (1), .int .i64 (10), .box 1 0, .box 0 0, .box 2 0],
   [(0, .box [.nils] 126),
    (1, .box [.int .i64 (1), .int .i64 (0), .int .i64 (0), .int .i64 (0), .int .i64 (0), .int .i64 (0)] 130),
    (2, .box [.fn 108 [.box 1 0, .box 0 0, .box 2 0]] 167)],
   3, .tup [],
   [(0, .box [.osl 4 50] 126),
    (36, .row 6 [[.int .i64 (1), .int .i64 (2), .int .i64 (3), .int .i64 (1), .int .i64 (2), .int .i64 (2)]] 130),
    (46, .row 6 [[.int .i64 (1), .int .i64 (3), .int .i64 (2), .int .i64 (2), .int .i64 (1), .int .i64 (2)]] 130),
    (11, .row 6 [[.int .i64 (1), .int .i64 (1), .int .i64 (2), .int .i64 (2), .int .i64 (1), .int .i64 (4)]] 130),
    (27, .row 6 [[.int .i64 (1), .int .i64 (2), .int .i64 (1), .int .i64 (2), .int .i64 (4), .int .i64 (1)]] 130),
    (20, .row 6 [[.int .i64 (1), .int .i64 (1), .int .i64 (4), .int .i64 (1), .int .i64 (1), .int .i64 (3)]] 130),
    (47, .row 6 [[.int .i64 (1), .int .i64 (3), .int .i64 (2), .int .i64 (3), .int .i64 (1), .int .i64 (1)]] 130),
    (9, .row 6 [[.int .i64 (1), .int .i64 (1), .int .i64 (1), .int .i64 (4), .int .i64 (2), .int .i64 (2)]] 130),
    (37, .row 6 [[.int .i64 (1), .int .i64 (2), .int .i64 (3), .int .i64 (2), .int .i64 (2), .int .i64 (1)]] 130),
    (1, .box [.int .i64 (1), .int .i64 (4), .int .i64 (4), .int .i64 (1), .int .i64 (1), .int .i64 (1)] 130),
    (28, .row 6 [[.int .i64 (1), .int .i64 (2), .int .i64 (1), .int .i64 (3), .int .i64 (2), .int .i64 (2)]] 130),
    (21, .row 6 [[.int .i64 (1), .int .i64 (1), .int .i64 (4), .int .i64 (1), .int .i64 (3), .int .i64 (1)]] 130),
    (48, .row 6 [[.int .i64 (1), .int .i64 (3), .int .i64 (3), .int .i64 (1), .int .i64 (2), .int .i64 (1)]] 130),
    (16, .row 6 [[.int .i64 (1), .int .i64 (1), .int .i64 (3), .int .i64 (1), .int .i64 (2), .int .i64 (3)]] 130),
    (12, .row 6 [[.int .i64 (1), .int .i64 (1), .int .i64 (2), .int .i64 (2), .int .i64 (3), .int .i64 (2)]] 130),
    (22, .row 6 [[.int .i64 (1), .int .i64 (1), .int .i64 (4), .int .i64 (2), .int .i64 (1), .int .i64 (2)]] 130),
    (38, .row 6 [[.int .i64 (1), .int .i64 (2), .int .i64 (4), .int .i64 (1), .int .i64 (1), .int .i64 (2)]] 130),
    (29, .row 6 [[.int .i64 (1), .int .i64 (2), .int .i64 (1), .int .i64 (4), .int .i64 (2), .int .i64 (1)]] 130),
    (2, .box [.fn 108 [.box 1 0, .box 0 0, .box 2 0]] 167),
    (49, .row 6 [[.int .i64 (1), .int .i64 (3), .int .i64 (4), .int .i64 (1), .int .i64 (1), .int .i64 (1)]] 130),
    (17, .row 6 [[.int .i64 (1), .int .i64 (1), .int .i64 (3), .int .i64 (1), .int .i64 (4), .int .i64 (1)]] 130),
    (39, .row 6 [[.int .i64 (1), .int .i64 (2), .int .i64 (4), .int .i64 (2), .int .i64 (1), .int .i64 (1)]] 130),
    (7, .row 6 [[.int .i64 (1), .int .i64 (1), .int .i64 (1), .int .i64 (3), .int .i64 (2), .int .i64 (3)]] 130),
    (30, .row 6 [[.int .i64 (1), .int .i64 (2), .int .i64 (2), .int .i64 (1), .int .i64 (1), .int .i64 (4)]] 130),
    (23, .row 6 [[.int .i64 (1), .int .i64 (1), .int .i64 (4), .int .i64 (3), .int .i64 (1), .int .i64 (1)]] 130),
    (5, .row 6 [[.int .i64 (1), .int .i64 (1), .int .i64 (1), .int .i64 (2), .int .i64 (2), .int .i64 (4)]] 130),
    (50, .row 6 [[.int .i64 (1), .int .i64 (4), .int .i64 (1), .int .i64 (1), .int .i64 (2), .int .i64 (2)]] 130),
    (31, .row 6 [[.int .i64 (1), .int .i64 (2), .int .i64 (2), .int .i64 (1), .int .i64 (3), .int .i64 (2)]] 130),
    (13, .row 6 [[.int .i64 (1), .int .i64 (1), .int .i64 (2), .int .i64 (3), .int .i64 (1), .int .i64 (3)]] 130),
    (40, .row 6 [[.int .i64 (1), .int .i64 (3), .int .i64 (1), .int .i64 (1), .int .i64 (2), .int .i64 (3)]] 130),
    (18, .row 6 [[.int .i64 (1), .int .i64 (1), .int .i64 (3), .int .i64 (2), .int .i64 (2), .int .i64 (2)]] 130),
    (51, .row 6 [[.int .i64 (1), .int .i64 (4), .int .i64 (1), .int .i64 (2), .int .i64 (2), .int .i64 (1)]] 130),
    (3, .row 6 [[.int .i64 (1), .int .i64 (1), .int .i64 (1), .int .i64 (1), .int .i64 (4), .int .i64 (3)]] 130),
    (41, .row 6 [[.int .i64 (1), .int .i64 (3), .int .i64 (1), .int .i64 (1), .int .i64 (4), .int .i64 (1)]] 130),
    (32, .row 6 [[.int .i64 (1), .int .i64 (2), .int .i64 (2), .int .i64 (2), .int .i64 (1), .int .i64 (3)]] 130),
    (8, .row 6 [[.int .i64 (1), .int .i64 (1), .int .i64 (1), .int .i64 (3), .int .i64 (4), .int .i64 (1)]] 130),
    (14, .row 6 [[.int .i64 (1), .int .i64 (1), .int .i64 (2), .int .i64 (3), .int .i64 (3), .int .i64 (1)]] 130),
    (42, .row 6 [[.int .i64 (1), .int .i64 (3), .int .i64 (1), .int .i64 (2), .int .i64 (2), .int .i64 (2)]] 130),
    (52, .row 6 [[.int .i64 (1), .int .i64 (4), .int .i64 (2), .int .i64 (1), .int .i64 (1), .int .i64 (2)]] 130),
    (33, .row 6 [[.int .i64 (1), .int .i64 (2), .int .i64 (2), .int .i64 (2), .int .i64 (3), .int .i64 (1)]] 130),
    (24, .row 6 [[.int .i64 (1), .int .i64 (2), .int .i64 (1), .int .i64 (1), .int .i64 (2), .int .i64 (4)]] 130),
    (10, .row 6 [[.int .i64 (1), .int .i64 (1), .int .i64 (2), .int .i64 (1), .int .i64 (3), .int .i64 (3)]] 130),
    (53, .row 6 [[.int .i64 (1), .int .i64 (4), .int .i64 (2), .int .i64 (2), .int .i64 (1), .int .i64 (1)]] 130),
    (34, .row 6 [[.int .i64 (1), .int .i64 (2), .int .i64 (2), .int .i64 (3), .int .i64 (1), .int .i64 (2)]] 130),
    (43, .row 6 [[.int .i64 (1), .int .i64 (3), .int .i64 (1), .int .i64 (3), .int .i64 (2), .int .i64 (1)]] 130),
    (19, .row 6 [[.int .i64 (1), .int .i64 (1), .int .i64 (3), .int .i64 (3), .int .i64 (2), .int .i64 (1)]] 130),
    (25, .row 6 [[.int .i64 (1), .int .i64 (2), .int .i64 (1), .int .i64 (1), .int .i64 (4), .int .i64 (2)]] 130),
    (4, .row 6 [[.int .i64 (1), .int .i64 (1), .int .i64 (1), .int .i64 (1), .int .i64 (4), .int .i64 (3)], [.int .i64 (1), .int .i64 (1), .int .i64 (1), .int .i64 (2), .int .i64 (2), .int .i64 (4)], [.int .i64 (1), .int .i64 (1), .int .i64 (1), .int .i64 (2), .int .i64 (4), .int .i64 (2)], [.int .i64 (1), .int .i64 (1), .int .i64 (1), .int .i64 (3), .int .i64 (2), .int .i64 (3)], [.int .i64 (1), .int .i64 (1), .int .i64 (1), .int .i64 (3), .int .i64 (4), .int .i64 (1)], [.int .i64 (1), .int .i64 (1), .int .i64 (1), .int .i64 (4), .int .i64 (2), .int .i64 (2)], [.int .i64 (1), .int .i64 (1), .int .i64 (2), .int .i64 (1), .int .i64 (3), .int .i64 (3)], [.int .i64 (1), .int .i64 (1), .int .i64 (2), .int .i64 (2), .int .i64 (1), .int .i64 (4)], [.int .i64 (1), .int .i64 (1), .int .i64 (2), .int .i64 (2), .int .i64 (3), .int .i64 (2)], [.int .i64 (1), .int .i64 (1), .int .i64 (2), .int .i64 (3), .int .i64 (1), .int .i64 (3)], [.int .i64 (1), .int .i64 (1), .int .i64 (2), .int .i64 (3), .int .i64 (3), .int .i64 (1)], [.int .i64 (1), .int .i64 (1), .int .i64 (2), .int .i64 (4), .int .i64 (1), .int .i64 (2)], [.int .i64 (1), .int .i64 (1), .int .i64 (3), .int .i64 (1), .int .i64 (2), .int .i64 (3)], [.int .i64 (1), .int .i64 (1), .int .i64 (3), .int .i64 (1), .int .i64 (4), .int .i64 (1)], [.int .i64 (1), .int .i64 (1), .int .i64 (3), .int .i64 (2), .int .i64 (2), .int .i64 (2)], [.int .i64 (1), .int .i64 (1), .int .i64 (3), .int .i64 (3), .int .i64 (2), .int .i64 (1)], [.int .i64 (1), .int .i64 (1), .int .i64 (4), .int .i64 (1), .int .i64 (1), .int .i64 (3)], [.int .i64 (1), .int .i64 (1), .int .i64 (4), .int .i64 (1), .int .i64 (3), .int .i64 (1)], [.int .i64 (1), .int .i64 (1), .int .i64 (4), .int .i64 (2), .int .i64 (1), .int .i64 (2)], [.int .i64 (1), .int .i64 (1), .int .i64 (4), .int .i64 (3), .int .i64 (1), .int .i64 (1)], [.int .i64 (1), .int .i64 (2), .int .i64 (1), .int .i64 (1), .int .i64 (2), .int .i64 (4)], [.int .i64 (1), .int .i64 (2), .int .i64 (1), .int .i64 (1), .int .i64 (4), .int .i64 (2)], [.int .i64 (1), .int .i64 (2), .int .i64 (1), .int .i64 (2), .int .i64 (2), .int .i64 (3)], [.int .i64 (1), .int .i64 (2), .int .i64 (1), .int .i64 (2), .int .i64 (4), .int .i64 (1)], [.int .i64 (1), .int .i64 (2), .int .i64 (1), .int .i64 (3), .int .i64 (2), .int .i64 (2)], [.int .i64 (1), .int .i64 (2), .int .i64 (1), .int .i64 (4), .int .i64 (2), .int .i64 (1)], [.int .i64 (1), .int .i64 (2), .int .i64 (2), .int .i64 (1), .int .i64 (1), .int .i64 (4)], [.int .i64 (1), .int .i64 (2), .int .i64 (2), .int .i64 (1), .int .i64 (3), .int .i64 (2)], [.int .i64 (1), .int .i64 (2), .int .i64 (2), .int .i64 (2), .int .i64 (1), .int .i64 (3)], [.int .i64 (1), .int .i64 (2), .int .i64 (2), .int .i64 (2), .int .i64 (3), .int .i64 (1)], [.int .i64 (1), .int .i64 (2), .int .i64 (2), .int .i64 (3), .int .i64 (1), .int .i64 (2)], [.int .i64 (1), .int .i64 (2), .int .i64 (2), .int .i64 (4), .int .i64 (1), .int .i64 (1)], [.int .i64 (1), .int .i64 (2), .int .i64 (3), .int .i64 (1), .int .i64 (2), .int .i64 (2)], [.int .i64 (1), .int .i64 (2), .int .i64 (3), .int .i64 (2), .int .i64 (2), .int .i64 (1)], [.int .i64 (1), .int .i64 (2), .int .i64 (4), .int .i64 (1), .int .i64 (1), .int .i64 (2)], [.int .i64 (1), .int .i64 (2), .int .i64 (4), .int .i64 (2), .int .i64 (1), .int .i64 (1)], [.int .i64 (1), .int .i64 (3), .int .i64 (1), .int .i64 (1), .int .i64 (2), .int .i64 (3)], [.int .i64 (1), .int .i64 (3), .int .i64 (1), .int .i64 (1), .int .i64 (4), .int .i64 (1)], [.int .i64 (1), .int .i64 (3), .int .i64 (1), .int .i64 (2), .int .i64 (2), .int .i64 (2)], [.int .i64 (1), .int .i64 (3), .int .i64 (1), .int .i64 (3), .int .i64 (2), .int .i64 (1)], [.int .i64 (1), .int .i64 (3), .int .i64 (2), .int .i64 (1), .int .i64 (1), .int .i64 (3)], [.int .i64 (1), .int .i64 (3), .int .i64 (2), .int .i64 (1), .int .i64 (3), .int .i64 (1)], [.int .i64 (1), .int .i64 (3), .int .i64 (2), .int .i64 (2), .int .i64 (1), .int .i64 (2)], [.int .i64 (1), .int .i64 (3), .int .i64 (2), .int .i64 (3), .int .i64 (1), .int .i64 (1)], [.int .i64 (1), .int .i64 (3), .int .i64 (3), .int .i64 (1), .int .i64 (2), .int .i64 (1)], [.int .i64 (1), .int .i64 (3), .int .i64 (4), .int .i64 (1), .int .i64 (1), .int .i64 (1)], [.int .i64 (1), .int .i64 (4), .int .i64 (1), .int .i64 (1), .int .i64 (2), .int .i64 (2)], [.int .i64 (1), .int .i64 (4), .int .i64 (1), .int .i64 (2), .int .i64 (2), .int .i64 (1)], [.int .i64 (1), .int .i64 (4), .int .i64 (2), .int .i64 (1), .int .i64 (1), .int .i64 (2)], [.int .i64 (1), .int .i64 (4), .int .i64 (2), .int .i64 (2), .int .i64 (1), .int .i64 (1)]] 130),
    (35, .row 6 [[.int .i64 (1), .int .i64 (2), .int .i64 (2), .int .i64 (4), .int .i64 (1), .int .i64 (1)]] 130),
    (15, .row 6 [[.int .i64 (1), .int .i64 (1), .int .i64 (2), .int .i64 (4), .int .i64 (1), .int .i64 (2)]] 130),
    (44, .row 6 [[.int .i64 (1), .int .i64 (3), .int .i64 (2), .int .i64 (1), .int .i64 (1), .int .i64 (3)]] 130),
    (6, .row 6 [[.int .i64 (1), .int .i64 (1), .int .i64 (1), .int .i64 (2), .int .i64 (4), .int .i64 (2)]] 130),
    (26, .row 6 [[.int .i64 (1), .int .i64 (2), .int .i64 (1), .int .i64 (2), .int .i64 (2), .int .i64 (3)]] 130),
    (45, .row 6 [[.int .i64 (1), .int .i64 (3), .int .i64 (2), .int .i64 (1), .int .i64 (3), .int .i64 (1)]] 130)],
   54⟩
theorem linear_patterns_1_f0_ok : FactOk Try.prog linear_patterns_1_f0 := FactOk.run ctx_ok 3000 20 (by kernel_rfl)
def linear_patterns_1_f1 : Fact := ⟨108, [.int .i64 (1), .int .i64 (9), .box 1 0, .box 0 0, .box 2 0],
   [(36, .row 6 [[.int .i64 (1), .int .i64 (2), .int .i64 (3), .int .i64 (1), .int .i64 (2), .int .i64 (2)]] 130),
    (46, .row 6 [[.int .i64 (1), .int .i64 (3), .int .i64 (2), .int .i64 (2), .int .i64 (1), .int .i64 (2)]] 130),
    (11, .row 6 [[.int .i64 (1), .int .i64 (1), .int .i64 (2), .int .i64 (2), .int .i64 (1), .int .i64 (4)]] 130),
    (27, .row 6 [[.int .i64 (1), .int .i64 (2), .int .i64 (1), .int .i64 (2), .int .i64 (4), .int .i64 (1)]] 130),
    (20, .row 6 [[.int .i64 (1), .int .i64 (1), .int .i64 (4), .int .i64 (1), .int .i64 (1), .int .i64 (3)]] 130),
    (47, .row 6 [[.int .i64 (1), .int .i64 (3), .int .i64 (2), .int .i64 (3), .int .i64 (1), .int .i64 (1)]] 130),
    (9, .row 6 [[.int .i64 (1), .int .i64 (1), .int .i64 (1), .int .i64 (4), .int .i64 (2), .int .i64 (2)]] 130),
    (37, .row 6 [[.int .i64 (1), .int .i64 (2), .int .i64 (3), .int .i64 (2), .int .i64 (2), .int .i64 (1)]] 130),
    (1, .box [.int .i64 (2), .int .i64 (4), .int .i64 (4), .int .i64 (1), .int .i64 (1), .int .i64 (1)] 130),
    (28, .row 6 [[.int .i64 (1), .int .i64 (2), .int .i64 (1), .int .i64 (3), .int .i64 (2), .int .i64 (2)]] 130),
    (21, .row 6 [[.int .i64 (1), .int .i64 (1), .int .i64 (4), .int .i64 (1), .int .i64 (3), .int .i64 (1)]] 130),
    (48, .row 6 [[.int .i64 (1), .int .i64 (3), .int .i64 (3), .int .i64 (1), .int .i64 (2), .int .i64 (1)]] 130),
    (16, .row 6 [[.int .i64 (1), .int .i64 (1), .int .i64 (3), .int .i64 (1), .int .i64 (2), .int .i64 (3)]] 130),
    (12, .row 6 [[.int .i64 (1), .int .i64 (1), .int .i64 (2), .int .i64 (2), .int .i64 (3), .int .i64 (2)]] 130),
    (22, .row 6 [[.int .i64 (1), .int .i64 (1), .int .i64 (4), .int .i64 (2), .int .i64 (1), .int .i64 (2)]] 130),
    (38, .row 6 [[.int .i64 (1), .int .i64 (2), .int .i64 (4), .int .i64 (1), .int .i64 (1), .int .i64 (2)]] 130),
    (29, .row 6 [[.int .i64 (1), .int .i64 (2), .int .i64 (1), .int .i64 (4), .int .i64 (2), .int .i64 (1)]] 130),
    (2, .box [.fn 108 [.box 1 0, .box 0 0, .box 2 0]] 167),
    (49, .row 6 [[.int .i64 (1), .int .i64 (3), .int .i64 (4), .int .i64 (1), .int .i64 (1), .int .i64 (1)]] 130),
    (17, .row 6 [[.int .i64 (1), .int .i64 (1), .int .i64 (3), .int .i64 (1), .int .i64 (4), .int .i64 (1)]] 130),
    (39, .row 6 [[.int .i64 (1), .int .i64 (2), .int .i64 (4), .int .i64 (2), .int .i64 (1), .int .i64 (1)]] 130),
    (7, .row 6 [[.int .i64 (1), .int .i64 (1), .int .i64 (1), .int .i64 (3), .int .i64 (2), .int .i64 (3)]] 130),
    (30, .row 6 [[.int .i64 (1), .int .i64 (2), .int .i64 (2), .int .i64 (1), .int .i64 (1), .int .i64 (4)]] 130),
    (23, .row 6 [[.int .i64 (1), .int .i64 (1), .int .i64 (4), .int .i64 (3), .int .i64 (1), .int .i64 (1)]] 130),
    (5, .row 6 [[.int .i64 (1), .int .i64 (1), .int .i64 (1), .int .i64 (2), .int .i64 (2), .int .i64 (4)]] 130),
    (50, .row 6 [[.int .i64 (1), .int .i64 (4), .int .i64 (1), .int .i64 (1), .int .i64 (2), .int .i64 (2)]] 130),
    (31, .row 6 [[.int .i64 (1), .int .i64 (2), .int .i64 (2), .int .i64 (1), .int .i64 (3), .int .i64 (2)]] 130),
    (13, .row 6 [[.int .i64 (1), .int .i64 (1), .int .i64 (2), .int .i64 (3), .int .i64 (1), .int .i64 (3)]] 130),
    (40, .row 6 [[.int .i64 (1), .int .i64 (3), .int .i64 (1), .int .i64 (1), .int .i64 (2), .int .i64 (3)]] 130),
    (18, .row 6 [[.int .i64 (1), .int .i64 (1), .int .i64 (3), .int .i64 (2), .int .i64 (2), .int .i64 (2)]] 130),
    (51, .row 6 [[.int .i64 (1), .int .i64 (4), .int .i64 (1), .int .i64 (2), .int .i64 (2), .int .i64 (1)]] 130),
    (3, .row 6 [[.int .i64 (1), .int .i64 (1), .int .i64 (1), .int .i64 (1), .int .i64 (4), .int .i64 (3)]] 130),
    (41, .row 6 [[.int .i64 (1), .int .i64 (3), .int .i64 (1), .int .i64 (1), .int .i64 (4), .int .i64 (1)]] 130),
    (32, .row 6 [[.int .i64 (1), .int .i64 (2), .int .i64 (2), .int .i64 (2), .int .i64 (1), .int .i64 (3)]] 130),
    (8, .row 6 [[.int .i64 (1), .int .i64 (1), .int .i64 (1), .int .i64 (3), .int .i64 (4), .int .i64 (1)]] 130),
    (14, .row 6 [[.int .i64 (1), .int .i64 (1), .int .i64 (2), .int .i64 (3), .int .i64 (3), .int .i64 (1)]] 130),
    (42, .row 6 [[.int .i64 (1), .int .i64 (3), .int .i64 (1), .int .i64 (2), .int .i64 (2), .int .i64 (2)]] 130),
    (52, .row 6 [[.int .i64 (1), .int .i64 (4), .int .i64 (2), .int .i64 (1), .int .i64 (1), .int .i64 (2)]] 130),
    (33, .row 6 [[.int .i64 (1), .int .i64 (2), .int .i64 (2), .int .i64 (2), .int .i64 (3), .int .i64 (1)]] 130),
    (24, .row 6 [[.int .i64 (1), .int .i64 (2), .int .i64 (1), .int .i64 (1), .int .i64 (2), .int .i64 (4)]] 130),
    (10, .row 6 [[.int .i64 (1), .int .i64 (1), .int .i64 (2), .int .i64 (1), .int .i64 (3), .int .i64 (3)]] 130),
    (53, .row 6 [[.int .i64 (1), .int .i64 (4), .int .i64 (2), .int .i64 (2), .int .i64 (1), .int .i64 (1)]] 130),
    (34, .row 6 [[.int .i64 (1), .int .i64 (2), .int .i64 (2), .int .i64 (3), .int .i64 (1), .int .i64 (2)]] 130),
    (43, .row 6 [[.int .i64 (1), .int .i64 (3), .int .i64 (1), .int .i64 (3), .int .i64 (2), .int .i64 (1)]] 130),
    (19, .row 6 [[.int .i64 (1), .int .i64 (1), .int .i64 (3), .int .i64 (3), .int .i64 (2), .int .i64 (1)]] 130),
    (25, .row 6 [[.int .i64 (1), .int .i64 (2), .int .i64 (1), .int .i64 (1), .int .i64 (4), .int .i64 (2)]] 130),
    (4, .row 6 [[.int .i64 (1), .int .i64 (1), .int .i64 (1), .int .i64 (1), .int .i64 (4), .int .i64 (3)], [.int .i64 (1), .int .i64 (1), .int .i64 (1), .int .i64 (2), .int .i64 (2), .int .i64 (4)], [.int .i64 (1), .int .i64 (1), .int .i64 (1), .int .i64 (2), .int .i64 (4), .int .i64 (2)], [.int .i64 (1), .int .i64 (1), .int .i64 (1), .int .i64 (3), .int .i64 (2), .int .i64 (3)], [.int .i64 (1), .int .i64 (1), .int .i64 (1), .int .i64 (3), .int .i64 (4), .int .i64 (1)], [.int .i64 (1), .int .i64 (1), .int .i64 (1), .int .i64 (4), .int .i64 (2), .int .i64 (2)], [.int .i64 (1), .int .i64 (1), .int .i64 (2), .int .i64 (1), .int .i64 (3), .int .i64 (3)], [.int .i64 (1), .int .i64 (1), .int .i64 (2), .int .i64 (2), .int .i64 (1), .int .i64 (4)], [.int .i64 (1), .int .i64 (1), .int .i64 (2), .int .i64 (2), .int .i64 (3), .int .i64 (2)], [.int .i64 (1), .int .i64 (1), .int .i64 (2), .int .i64 (3), .int .i64 (1), .int .i64 (3)], [.int .i64 (1), .int .i64 (1), .int .i64 (2), .int .i64 (3), .int .i64 (3), .int .i64 (1)], [.int .i64 (1), .int .i64 (1), .int .i64 (2), .int .i64 (4), .int .i64 (1), .int .i64 (2)], [.int .i64 (1), .int .i64 (1), .int .i64 (3), .int .i64 (1), .int .i64 (2), .int .i64 (3)], [.int .i64 (1), .int .i64 (1), .int .i64 (3), .int .i64 (1), .int .i64 (4), .int .i64 (1)], [.int .i64 (1), .int .i64 (1), .int .i64 (3), .int .i64 (2), .int .i64 (2), .int .i64 (2)], [.int .i64 (1), .int .i64 (1), .int .i64 (3), .int .i64 (3), .int .i64 (2), .int .i64 (1)], [.int .i64 (1), .int .i64 (1), .int .i64 (4), .int .i64 (1), .int .i64 (1), .int .i64 (3)], [.int .i64 (1), .int .i64 (1), .int .i64 (4), .int .i64 (1), .int .i64 (3), .int .i64 (1)], [.int .i64 (1), .int .i64 (1), .int .i64 (4), .int .i64 (2), .int .i64 (1), .int .i64 (2)], [.int .i64 (1), .int .i64 (1), .int .i64 (4), .int .i64 (3), .int .i64 (1), .int .i64 (1)], [.int .i64 (1), .int .i64 (2), .int .i64 (1), .int .i64 (1), .int .i64 (2), .int .i64 (4)], [.int .i64 (1), .int .i64 (2), .int .i64 (1), .int .i64 (1), .int .i64 (4), .int .i64 (2)], [.int .i64 (1), .int .i64 (2), .int .i64 (1), .int .i64 (2), .int .i64 (2), .int .i64 (3)], [.int .i64 (1), .int .i64 (2), .int .i64 (1), .int .i64 (2), .int .i64 (4), .int .i64 (1)], [.int .i64 (1), .int .i64 (2), .int .i64 (1), .int .i64 (3), .int .i64 (2), .int .i64 (2)], [.int .i64 (1), .int .i64 (2), .int .i64 (1), .int .i64 (4), .int .i64 (2), .int .i64 (1)], [.int .i64 (1), .int .i64 (2), .int .i64 (2), .int .i64 (1), .int .i64 (1), .int .i64 (4)], [.int .i64 (1), .int .i64 (2), .int .i64 (2), .int .i64 (1), .int .i64 (3), .int .i64 (2)], [.int .i64 (1), .int .i64 (2), .int .i64 (2), .int .i64 (2), .int .i64 (1), .int .i64 (3)], [.int .i64 (1), .int .i64 (2), .int .i64 (2), .int .i64 (2), .int .i64 (3), .int .i64 (1)], [.int .i64 (1), .int .i64 (2), .int .i64 (2), .int .i64 (3), .int .i64 (1), .int .i64 (2)], [.int .i64 (1), .int .i64 (2), .int .i64 (2), .int .i64 (4), .int .i64 (1), .int .i64 (1)], [.int .i64 (1), .int .i64 (2), .int .i64 (3), .int .i64 (1), .int .i64 (2), .int .i64 (2)], [.int .i64 (1), .int .i64 (2), .int .i64 (3), .int .i64 (2), .int .i64 (2), .int .i64 (1)], [.int .i64 (1), .int .i64 (2), .int .i64 (4), .int .i64 (1), .int .i64 (1), .int .i64 (2)], [.int .i64 (1), .int .i64 (2), .int .i64 (4), .int .i64 (2), .int .i64 (1), .int .i64 (1)], [.int .i64 (1), .int .i64 (3), .int .i64 (1), .int .i64 (1), .int .i64 (2), .int .i64 (3)], [.int .i64 (1), .int .i64 (3), .int .i64 (1), .int .i64 (1), .int .i64 (4), .int .i64 (1)], [.int .i64 (1), .int .i64 (3), .int .i64 (1), .int .i64 (2), .int .i64 (2), .int .i64 (2)], [.int .i64 (1), .int .i64 (3), .int .i64 (1), .int .i64 (3), .int .i64 (2), .int .i64 (1)], [.int .i64 (1), .int .i64 (3), .int .i64 (2), .int .i64 (1), .int .i64 (1), .int .i64 (3)], [.int .i64 (1), .int .i64 (3), .int .i64 (2), .int .i64 (1), .int .i64 (3), .int .i64 (1)], [.int .i64 (1), .int .i64 (3), .int .i64 (2), .int .i64 (2), .int .i64 (1), .int .i64 (2)], [.int .i64 (1), .int .i64 (3), .int .i64 (2), .int .i64 (3), .int .i64 (1), .int .i64 (1)], [.int .i64 (1), .int .i64 (3), .int .i64 (3), .int .i64 (1), .int .i64 (2), .int .i64 (1)], [.int .i64 (1), .int .i64 (3), .int .i64 (4), .int .i64 (1), .int .i64 (1), .int .i64 (1)], [.int .i64 (1), .int .i64 (4), .int .i64 (1), .int .i64 (1), .int .i64 (2), .int .i64 (2)], [.int .i64 (1), .int .i64 (4), .int .i64 (1), .int .i64 (2), .int .i64 (2), .int .i64 (1)], [.int .i64 (1), .int .i64 (4), .int .i64 (2), .int .i64 (1), .int .i64 (1), .int .i64 (2)], [.int .i64 (1), .int .i64 (4), .int .i64 (2), .int .i64 (2), .int .i64 (1), .int .i64 (1)]] 130),
    (35, .row 6 [[.int .i64 (1), .int .i64 (2), .int .i64 (2), .int .i64 (4), .int .i64 (1), .int .i64 (1)]] 130),
    (15, .row 6 [[.int .i64 (1), .int .i64 (1), .int .i64 (2), .int .i64 (4), .int .i64 (1), .int .i64 (2)]] 130),
    (44, .row 6 [[.int .i64 (1), .int .i64 (3), .int .i64 (2), .int .i64 (1), .int .i64 (1), .int .i64 (3)]] 130),
    (6, .row 6 [[.int .i64 (1), .int .i64 (1), .int .i64 (1), .int .i64 (2), .int .i64 (4), .int .i64 (2)]] 130),
    (26, .row 6 [[.int .i64 (1), .int .i64 (2), .int .i64 (1), .int .i64 (2), .int .i64 (2), .int .i64 (3)]] 130),
    (45, .row 6 [[.int .i64 (1), .int .i64 (3), .int .i64 (2), .int .i64 (1), .int .i64 (3), .int .i64 (1)]] 130),
    (0, .box [.osl 4 50] 126)],
   54, .tup [],
   [(27, .row 6 [[.int .i64 (1), .int .i64 (2), .int .i64 (1), .int .i64 (2), .int .i64 (4), .int .i64 (1)]] 130),
    (72, .row 6 [[.int .i64 (2), .int .i64 (2), .int .i64 (1), .int .i64 (2), .int .i64 (3), .int .i64 (1)]] 130),
    (20, .row 6 [[.int .i64 (1), .int .i64 (1), .int .i64 (4), .int .i64 (1), .int .i64 (1), .int .i64 (3)]] 130),
    (55, .row 6 [[.int .i64 (2), .int .i64 (1), .int .i64 (1), .int .i64 (2), .int .i64 (1), .int .i64 (4)]] 130),
    (73, .row 6 [[.int .i64 (2), .int .i64 (2), .int .i64 (1), .int .i64 (3), .int .i64 (1), .int .i64 (2)]] 130),
    (47, .row 6 [[.int .i64 (1), .int .i64 (3), .int .i64 (2), .int .i64 (3), .int .i64 (1), .int .i64 (1)]] 130),
    (9, .row 6 [[.int .i64 (1), .int .i64 (1), .int .i64 (1), .int .i64 (4), .int .i64 (2), .int .i64 (2)]] 130),
    (56, .row 6 [[.int .i64 (2), .int .i64 (1), .int .i64 (1), .int .i64 (2), .int .i64 (3), .int .i64 (2)]] 130),
    (74, .row 6 [[.int .i64 (2), .int .i64 (2), .int .i64 (1), .int .i64 (4), .int .i64 (1), .int .i64 (1)]] 130),
    (37, .row 6 [[.int .i64 (1), .int .i64 (2), .int .i64 (3), .int .i64 (2), .int .i64 (2), .int .i64 (1)]] 130),
    (1, .box [.int .i64 (2), .int .i64 (4), .int .i64 (4), .int .i64 (1), .int .i64 (1), .int .i64 (1)] 130),
    (28, .row 6 [[.int .i64 (1), .int .i64 (2), .int .i64 (1), .int .i64 (3), .int .i64 (2), .int .i64 (2)]] 130),
    (57, .row 6 [[.int .i64 (2), .int .i64 (1), .int .i64 (1), .int .i64 (3), .int .i64 (1), .int .i64 (3)]] 130),
    (75, .row 6 [[.int .i64 (2), .int .i64 (2), .int .i64 (2), .int .i64 (1), .int .i64 (2), .int .i64 (2)]] 130),
    (21, .row 6 [[.int .i64 (1), .int .i64 (1), .int .i64 (4), .int .i64 (1), .int .i64 (3), .int .i64 (1)]] 130),
    (48, .row 6 [[.int .i64 (1), .int .i64 (3), .int .i64 (3), .int .i64 (1), .int .i64 (2), .int .i64 (1)]] 130),
    (58, .row 6 [[.int .i64 (2), .int .i64 (1), .int .i64 (1), .int .i64 (3), .int .i64 (3), .int .i64 (1)]] 130),
    (16, .row 6 [[.int .i64 (1), .int .i64 (1), .int .i64 (3), .int .i64 (1), .int .i64 (2), .int .i64 (3)]] 130),
    (76, .row 6 [[.int .i64 (2), .int .i64 (2), .int .i64 (2), .int .i64 (2), .int .i64 (2), .int .i64 (1)]] 130),
    (12, .row 6 [[.int .i64 (1), .int .i64 (1), .int .i64 (2), .int .i64 (2), .int .i64 (3), .int .i64 (2)]] 130),
    (59, .row 6 [[.int .i64 (2), .int .i64 (1), .int .i64 (1), .int .i64 (4), .int .i64 (1), .int .i64 (2)]] 130),
    (22, .row 6 [[.int .i64 (1), .int .i64 (1), .int .i64 (4), .int .i64 (2), .int .i64 (1), .int .i64 (2)]] 130),
    (38, .row 6 [[.int .i64 (1), .int .i64 (2), .int .i64 (4), .int .i64 (1), .int .i64 (1), .int .i64 (2)]] 130),
    (29, .row 6 [[.int .i64 (1), .int .i64 (2), .int .i64 (1), .int .i64 (4), .int .i64 (2), .int .i64 (1)]] 130),
    (2, .box [.fn 108 [.box 1 0, .box 0 0, .box 2 0]] 167),
    (77, .row 6 [[.int .i64 (2), .int .i64 (2), .int .i64 (3), .int .i64 (1), .int .i64 (1), .int .i64 (2)]] 130),
    (49, .row 6 [[.int .i64 (1), .int .i64 (3), .int .i64 (4), .int .i64 (1), .int .i64 (1), .int .i64 (1)]] 130),
    (60, .row 6 [[.int .i64 (2), .int .i64 (1), .int .i64 (2), .int .i64 (1), .int .i64 (2), .int .i64 (3)]] 130),
    (17, .row 6 [[.int .i64 (1), .int .i64 (1), .int .i64 (3), .int .i64 (1), .int .i64 (4), .int .i64 (1)]] 130),
    (78, .row 6 [[.int .i64 (2), .int .i64 (2), .int .i64 (3), .int .i64 (2), .int .i64 (1), .int .i64 (1)]] 130),
    (39, .row 6 [[.int .i64 (1), .int .i64 (2), .int .i64 (4), .int .i64 (2), .int .i64 (1), .int .i64 (1)]] 130),
    (61, .row 6 [[.int .i64 (2), .int .i64 (1), .int .i64 (2), .int .i64 (1), .int .i64 (4), .int .i64 (1)]] 130),
    (7, .row 6 [[.int .i64 (1), .int .i64 (1), .int .i64 (1), .int .i64 (3), .int .i64 (2), .int .i64 (3)]] 130),
    (30, .row 6 [[.int .i64 (1), .int .i64 (2), .int .i64 (2), .int .i64 (1), .int .i64 (1), .int .i64 (4)]] 130),
    (23, .row 6 [[.int .i64 (1), .int .i64 (1), .int .i64 (4), .int .i64 (3), .int .i64 (1), .int .i64 (1)]] 130),
    (62, .row 6 [[.int .i64 (2), .int .i64 (1), .int .i64 (2), .int .i64 (2), .int .i64 (2), .int .i64 (2)]] 130),
    (5, .row 6 [[.int .i64 (1), .int .i64 (1), .int .i64 (1), .int .i64 (2), .int .i64 (2), .int .i64 (4)]] 130),
    (50, .row 6 [[.int .i64 (1), .int .i64 (4), .int .i64 (1), .int .i64 (1), .int .i64 (2), .int .i64 (2)]] 130),
    (31, .row 6 [[.int .i64 (1), .int .i64 (2), .int .i64 (2), .int .i64 (1), .int .i64 (3), .int .i64 (2)]] 130),
    (79, .row 6 [[.int .i64 (2), .int .i64 (3), .int .i64 (1), .int .i64 (1), .int .i64 (1), .int .i64 (3)]] 130),
    (13, .row 6 [[.int .i64 (1), .int .i64 (1), .int .i64 (2), .int .i64 (3), .int .i64 (1), .int .i64 (3)]] 130),
    (63, .row 6 [[.int .i64 (2), .int .i64 (1), .int .i64 (2), .int .i64 (3), .int .i64 (2), .int .i64 (1)]] 130),
    (80, .row 6 [[.int .i64 (2), .int .i64 (3), .int .i64 (1), .int .i64 (1), .int .i64 (3), .int .i64 (1)]] 130),
    (40, .row 6 [[.int .i64 (1), .int .i64 (3), .int .i64 (1), .int .i64 (1), .int .i64 (2), .int .i64 (3)]] 130),
    (18, .row 6 [[.int .i64 (1), .int .i64 (1), .int .i64 (3), .int .i64 (2), .int .i64 (2), .int .i64 (2)]] 130),
    (81, .row 6 [[.int .i64 (2), .int .i64 (3), .int .i64 (1), .int .i64 (2), .int .i64 (1), .int .i64 (2)]] 130),
    (51, .row 6 [[.int .i64 (1), .int .i64 (4), .int .i64 (1), .int .i64 (2), .int .i64 (2), .int .i64 (1)]] 130),
    (3, .row 6 [[.int .i64 (1), .int .i64 (1), .int .i64 (1), .int .i64 (1), .int .i64 (4), .int .i64 (3)]] 130),
    (41, .row 6 [[.int .i64 (1), .int .i64 (3), .int .i64 (1), .int .i64 (1), .int .i64 (4), .int .i64 (1)]] 130),
    (82, .row 6 [[.int .i64 (2), .int .i64 (3), .int .i64 (1), .int .i64 (3), .int .i64 (1), .int .i64 (1)]] 130),
    (64, .row 6 [[.int .i64 (2), .int .i64 (1), .int .i64 (3), .int .i64 (1), .int .i64 (1), .int .i64 (3)]] 130),
    (32, .row 6 [[.int .i64 (1), .int .i64 (2), .int .i64 (2), .int .i64 (2), .int .i64 (1), .int .i64 (3)]] 130),
    (8, .row 6 [[.int .i64 (1), .int .i64 (1), .int .i64 (1), .int .i64 (3), .int .i64 (4), .int .i64 (1)]] 130),
    (65, .row 6 [[.int .i64 (2), .int .i64 (1), .int .i64 (3), .int .i64 (1), .int .i64 (3), .int .i64 (1)]] 130),
    (14, .row 6 [[.int .i64 (1), .int .i64 (1), .int .i64 (2), .int .i64 (3), .int .i64 (3), .int .i64 (1)]] 130),
    (83, .row 6 [[.int .i64 (2), .int .i64 (3), .int .i64 (2), .int .i64 (1), .int .i64 (2), .int .i64 (1)]] 130),
    (42, .row 6 [[.int .i64 (1), .int .i64 (3), .int .i64 (1), .int .i64 (2), .int .i64 (2), .int .i64 (2)]] 130),
    (66, .row 6 [[.int .i64 (2), .int .i64 (1), .int .i64 (3), .int .i64 (2), .int .i64 (1), .int .i64 (2)]] 130),
    (52, .row 6 [[.int .i64 (1), .int .i64 (4), .int .i64 (2), .int .i64 (1), .int .i64 (1), .int .i64 (2)]] 130),
    (33, .row 6 [[.int .i64 (1), .int .i64 (2), .int .i64 (2), .int .i64 (2), .int .i64 (3), .int .i64 (1)]] 130),
    (24, .row 6 [[.int .i64 (1), .int .i64 (2), .int .i64 (1), .int .i64 (1), .int .i64 (2), .int .i64 (4)]] 130),
    (67, .row 6 [[.int .i64 (2), .int .i64 (1), .int .i64 (3), .int .i64 (3), .int .i64 (1), .int .i64 (1)]] 130),
    (84, .row 6 [[.int .i64 (2), .int .i64 (3), .int .i64 (3), .int .i64 (1), .int .i64 (1), .int .i64 (1)]] 130),
    (10, .row 6 [[.int .i64 (1), .int .i64 (1), .int .i64 (2), .int .i64 (1), .int .i64 (3), .int .i64 (3)]] 130),
    (53, .row 6 [[.int .i64 (1), .int .i64 (4), .int .i64 (2), .int .i64 (2), .int .i64 (1), .int .i64 (1)]] 130),
    (34, .row 6 [[.int .i64 (1), .int .i64 (2), .int .i64 (2), .int .i64 (3), .int .i64 (1), .int .i64 (2)]] 130),
    (43, .row 6 [[.int .i64 (1), .int .i64 (3), .int .i64 (1), .int .i64 (3), .int .i64 (2), .int .i64 (1)]] 130),
    (19, .row 6 [[.int .i64 (1), .int .i64 (1), .int .i64 (3), .int .i64 (3), .int .i64 (2), .int .i64 (1)]] 130),
    (68, .row 6 [[.int .i64 (2), .int .i64 (1), .int .i64 (4), .int .i64 (1), .int .i64 (2), .int .i64 (1)]] 130),
    (25, .row 6 [[.int .i64 (1), .int .i64 (2), .int .i64 (1), .int .i64 (1), .int .i64 (4), .int .i64 (2)]] 130),
    (85, .row 6 [[.int .i64 (2), .int .i64 (4), .int .i64 (1), .int .i64 (1), .int .i64 (1), .int .i64 (2)]] 130),
    (4, .row 6 [[.int .i64 (1), .int .i64 (1), .int .i64 (1), .int .i64 (1), .int .i64 (4), .int .i64 (3)], [.int .i64 (1), .int .i64 (1), .int .i64 (1), .int .i64 (2), .int .i64 (2), .int .i64 (4)], [.int .i64 (1), .int .i64 (1), .int .i64 (1), .int .i64 (2), .int .i64 (4), .int .i64 (2)], [.int .i64 (1), .int .i64 (1), .int .i64 (1), .int .i64 (3), .int .i64 (2), .int .i64 (3)], [.int .i64 (1), .int .i64 (1), .int .i64 (1), .int .i64 (3), .int .i64 (4), .int .i64 (1)], [.int .i64 (1), .int .i64 (1), .int .i64 (1), .int .i64 (4), .int .i64 (2), .int .i64 (2)], [.int .i64 (1), .int .i64 (1), .int .i64 (2), .int .i64 (1), .int .i64 (3), .int .i64 (3)], [.int .i64 (1), .int .i64 (1), .int .i64 (2), .int .i64 (2), .int .i64 (1), .int .i64 (4)], [.int .i64 (1), .int .i64 (1), .int .i64 (2), .int .i64 (2), .int .i64 (3), .int .i64 (2)], [.int .i64 (1), .int .i64 (1), .int .i64 (2), .int .i64 (3), .int .i64 (1), .int .i64 (3)], [.int .i64 (1), .int .i64 (1), .int .i64 (2), .int .i64 (3), .int .i64 (3), .int .i64 (1)], [.int .i64 (1), .int .i64 (1), .int .i64 (2), .int .i64 (4), .int .i64 (1), .int .i64 (2)], [.int .i64 (1), .int .i64 (1), .int .i64 (3), .int .i64 (1), .int .i64 (2), .int .i64 (3)], [.int .i64 (1), .int .i64 (1), .int .i64 (3), .int .i64 (1), .int .i64 (4), .int .i64 (1)], [.int .i64 (1), .int .i64 (1), .int .i64 (3), .int .i64 (2), .int .i64 (2), .int .i64 (2)], [.int .i64 (1), .int .i64 (1), .int .i64 (3), .int .i64 (3), .int .i64 (2), .int .i64 (1)], [.int .i64 (1), .int .i64 (1), .int .i64 (4), .int .i64 (1), .int .i64 (1), .int .i64 (3)], [.int .i64 (1), .int .i64 (1), .int .i64 (4), .int .i64 (1), .int .i64 (3), .int .i64 (1)], [.int .i64 (1), .int .i64 (1), .int .i64 (4), .int .i64 (2), .int .i64 (1), .int .i64 (2)], [.int .i64 (1), .int .i64 (1), .int .i64 (4), .int .i64 (3), .int .i64 (1), .int .i64 (1)], [.int .i64 (1), .int .i64 (2), .int .i64 (1), .int .i64 (1), .int .i64 (2), .int .i64 (4)], [.int .i64 (1), .int .i64 (2), .int .i64 (1), .int .i64 (1), .int .i64 (4), .int .i64 (2)], [.int .i64 (1), .int .i64 (2), .int .i64 (1), .int .i64 (2), .int .i64 (2), .int .i64 (3)], [.int .i64 (1), .int .i64 (2), .int .i64 (1), .int .i64 (2), .int .i64 (4), .int .i64 (1)], [.int .i64 (1), .int .i64 (2), .int .i64 (1), .int .i64 (3), .int .i64 (2), .int .i64 (2)], [.int .i64 (1), .int .i64 (2), .int .i64 (1), .int .i64 (4), .int .i64 (2), .int .i64 (1)], [.int .i64 (1), .int .i64 (2), .int .i64 (2), .int .i64 (1), .int .i64 (1), .int .i64 (4)], [.int .i64 (1), .int .i64 (2), .int .i64 (2), .int .i64 (1), .int .i64 (3), .int .i64 (2)], [.int .i64 (1), .int .i64 (2), .int .i64 (2), .int .i64 (2), .int .i64 (1), .int .i64 (3)], [.int .i64 (1), .int .i64 (2), .int .i64 (2), .int .i64 (2), .int .i64 (3), .int .i64 (1)], [.int .i64 (1), .int .i64 (2), .int .i64 (2), .int .i64 (3), .int .i64 (1), .int .i64 (2)], [.int .i64 (1), .int .i64 (2), .int .i64 (2), .int .i64 (4), .int .i64 (1), .int .i64 (1)], [.int .i64 (1), .int .i64 (2), .int .i64 (3), .int .i64 (1), .int .i64 (2), .int .i64 (2)], [.int .i64 (1), .int .i64 (2), .int .i64 (3), .int .i64 (2), .int .i64 (2), .int .i64 (1)], [.int .i64 (1), .int .i64 (2), .int .i64 (4), .int .i64 (1), .int .i64 (1), .int .i64 (2)], [.int .i64 (1), .int .i64 (2), .int .i64 (4), .int .i64 (2), .int .i64 (1), .int .i64 (1)], [.int .i64 (1), .int .i64 (3), .int .i64 (1), .int .i64 (1), .int .i64 (2), .int .i64 (3)], [.int .i64 (1), .int .i64 (3), .int .i64 (1), .int .i64 (1), .int .i64 (4), .int .i64 (1)], [.int .i64 (1), .int .i64 (3), .int .i64 (1), .int .i64 (2), .int .i64 (2), .int .i64 (2)], [.int .i64 (1), .int .i64 (3), .int .i64 (1), .int .i64 (3), .int .i64 (2), .int .i64 (1)], [.int .i64 (1), .int .i64 (3), .int .i64 (2), .int .i64 (1), .int .i64 (1), .int .i64 (3)], [.int .i64 (1), .int .i64 (3), .int .i64 (2), .int .i64 (1), .int .i64 (3), .int .i64 (1)], [.int .i64 (1), .int .i64 (3), .int .i64 (2), .int .i64 (2), .int .i64 (1), .int .i64 (2)], [.int .i64 (1), .int .i64 (3), .int .i64 (2), .int .i64 (3), .int .i64 (1), .int .i64 (1)], [.int .i64 (1), .int .i64 (3), .int .i64 (3), .int .i64 (1), .int .i64 (2), .int .i64 (1)], [.int .i64 (1), .int .i64 (3), .int .i64 (4), .int .i64 (1), .int .i64 (1), .int .i64 (1)], [.int .i64 (1), .int .i64 (4), .int .i64 (1), .int .i64 (1), .int .i64 (2), .int .i64 (2)], [.int .i64 (1), .int .i64 (4), .int .i64 (1), .int .i64 (2), .int .i64 (2), .int .i64 (1)], [.int .i64 (1), .int .i64 (4), .int .i64 (2), .int .i64 (1), .int .i64 (1), .int .i64 (2)], [.int .i64 (1), .int .i64 (4), .int .i64 (2), .int .i64 (2), .int .i64 (1), .int .i64 (1)], [.int .i64 (2), .int .i64 (1), .int .i64 (1), .int .i64 (1), .int .i64 (3), .int .i64 (3)], [.int .i64 (2), .int .i64 (1), .int .i64 (1), .int .i64 (2), .int .i64 (1), .int .i64 (4)], [.int .i64 (2), .int .i64 (1), .int .i64 (1), .int .i64 (2), .int .i64 (3), .int .i64 (2)], [.int .i64 (2), .int .i64 (1), .int .i64 (1), .int .i64 (3), .int .i64 (1), .int .i64 (3)], [.int .i64 (2), .int .i64 (1), .int .i64 (1), .int .i64 (3), .int .i64 (3), .int .i64 (1)], [.int .i64 (2), .int .i64 (1), .int .i64 (1), .int .i64 (4), .int .i64 (1), .int .i64 (2)], [.int .i64 (2), .int .i64 (1), .int .i64 (2), .int .i64 (1), .int .i64 (2), .int .i64 (3)], [.int .i64 (2), .int .i64 (1), .int .i64 (2), .int .i64 (1), .int .i64 (4), .int .i64 (1)], [.int .i64 (2), .int .i64 (1), .int .i64 (2), .int .i64 (2), .int .i64 (2), .int .i64 (2)], [.int .i64 (2), .int .i64 (1), .int .i64 (2), .int .i64 (3), .int .i64 (2), .int .i64 (1)], [.int .i64 (2), .int .i64 (1), .int .i64 (3), .int .i64 (1), .int .i64 (1), .int .i64 (3)], [.int .i64 (2), .int .i64 (1), .int .i64 (3), .int .i64 (1), .int .i64 (3), .int .i64 (1)], [.int .i64 (2), .int .i64 (1), .int .i64 (3), .int .i64 (2), .int .i64 (1), .int .i64 (2)], [.int .i64 (2), .int .i64 (1), .int .i64 (3), .int .i64 (3), .int .i64 (1), .int .i64 (1)], [.int .i64 (2), .int .i64 (1), .int .i64 (4), .int .i64 (1), .int .i64 (2), .int .i64 (1)], [.int .i64 (2), .int .i64 (2), .int .i64 (1), .int .i64 (1), .int .i64 (1), .int .i64 (4)], [.int .i64 (2), .int .i64 (2), .int .i64 (1), .int .i64 (1), .int .i64 (3), .int .i64 (2)], [.int .i64 (2), .int .i64 (2), .int .i64 (1), .int .i64 (2), .int .i64 (1), .int .i64 (3)], [.int .i64 (2), .int .i64 (2), .int .i64 (1), .int .i64 (2), .int .i64 (3), .int .i64 (1)], [.int .i64 (2), .int .i64 (2), .int .i64 (1), .int .i64 (3), .int .i64 (1), .int .i64 (2)], [.int .i64 (2), .int .i64 (2), .int .i64 (1), .int .i64 (4), .int .i64 (1), .int .i64 (1)], [.int .i64 (2), .int .i64 (2), .int .i64 (2), .int .i64 (1), .int .i64 (2), .int .i64 (2)], [.int .i64 (2), .int .i64 (2), .int .i64 (2), .int .i64 (2), .int .i64 (2), .int .i64 (1)], [.int .i64 (2), .int .i64 (2), .int .i64 (3), .int .i64 (1), .int .i64 (1), .int .i64 (2)], [.int .i64 (2), .int .i64 (2), .int .i64 (3), .int .i64 (2), .int .i64 (1), .int .i64 (1)], [.int .i64 (2), .int .i64 (3), .int .i64 (1), .int .i64 (1), .int .i64 (1), .int .i64 (3)], [.int .i64 (2), .int .i64 (3), .int .i64 (1), .int .i64 (1), .int .i64 (3), .int .i64 (1)], [.int .i64 (2), .int .i64 (3), .int .i64 (1), .int .i64 (2), .int .i64 (1), .int .i64 (2)], [.int .i64 (2), .int .i64 (3), .int .i64 (1), .int .i64 (3), .int .i64 (1), .int .i64 (1)], [.int .i64 (2), .int .i64 (3), .int .i64 (2), .int .i64 (1), .int .i64 (2), .int .i64 (1)], [.int .i64 (2), .int .i64 (3), .int .i64 (3), .int .i64 (1), .int .i64 (1), .int .i64 (1)], [.int .i64 (2), .int .i64 (4), .int .i64 (1), .int .i64 (1), .int .i64 (1), .int .i64 (2)], [.int .i64 (2), .int .i64 (4), .int .i64 (1), .int .i64 (2), .int .i64 (1), .int .i64 (1)]] 130),
    (35, .row 6 [[.int .i64 (1), .int .i64 (2), .int .i64 (2), .int .i64 (4), .int .i64 (1), .int .i64 (1)]] 130),
    (15, .row 6 [[.int .i64 (1), .int .i64 (1), .int .i64 (2), .int .i64 (4), .int .i64 (1), .int .i64 (2)]] 130),
    (86, .row 6 [[.int .i64 (2), .int .i64 (4), .int .i64 (1), .int .i64 (2), .int .i64 (1), .int .i64 (1)]] 130),
    (44, .row 6 [[.int .i64 (1), .int .i64 (3), .int .i64 (2), .int .i64 (1), .int .i64 (1), .int .i64 (3)]] 130),
    (6, .row 6 [[.int .i64 (1), .int .i64 (1), .int .i64 (1), .int .i64 (2), .int .i64 (4), .int .i64 (2)]] 130),
    (26, .row 6 [[.int .i64 (1), .int .i64 (2), .int .i64 (1), .int .i64 (2), .int .i64 (2), .int .i64 (3)]] 130),
    (69, .row 6 [[.int .i64 (2), .int .i64 (2), .int .i64 (1), .int .i64 (1), .int .i64 (1), .int .i64 (4)]] 130),
    (45, .row 6 [[.int .i64 (1), .int .i64 (3), .int .i64 (2), .int .i64 (1), .int .i64 (3), .int .i64 (1)]] 130),
    (0, .box [.osl 4 83] 126),
    (70, .row 6 [[.int .i64 (2), .int .i64 (2), .int .i64 (1), .int .i64 (1), .int .i64 (3), .int .i64 (2)]] 130),
    (36, .row 6 [[.int .i64 (1), .int .i64 (2), .int .i64 (3), .int .i64 (1), .int .i64 (2), .int .i64 (2)]] 130),
    (46, .row 6 [[.int .i64 (1), .int .i64 (3), .int .i64 (2), .int .i64 (2), .int .i64 (1), .int .i64 (2)]] 130),
    (54, .row 6 [[.int .i64 (2), .int .i64 (1), .int .i64 (1), .int .i64 (1), .int .i64 (3), .int .i64 (3)]] 130),
    (71, .row 6 [[.int .i64 (2), .int .i64 (2), .int .i64 (1), .int .i64 (2), .int .i64 (1), .int .i64 (3)]] 130),
    (11, .row 6 [[.int .i64 (1), .int .i64 (1), .int .i64 (2), .int .i64 (2), .int .i64 (1), .int .i64 (4)]] 130)],
   87⟩
theorem linear_patterns_1_f1_ok : FactOk Try.prog linear_patterns_1_f1 := FactOk.run ctx_ok 3000 20 (by kernel_rfl)
end Go.Proofs.Ytedjnjgnadbkaaa
/- Some calls of a recursive function, by runs. -/
namespace Go.Proofs.Ytedjnjgnadbkaaa
open Go Go.RowKit

def linear_patterns_1_f2 : Fact := ⟨108, [.int .i64 (1), .int .i64 (8), .box 1 0, .box 0 0, .box 2 0],
   [(72, .row 6 [[.int .i64 (2), .int .i64 (2), .int .i64 (1), .int .i64 (2), .int .i64 (3), .int .i64 (1)]] 130),
    (20, .row 6 [[.int .i64 (1), .int .i64 (1), .int .i64 (4), .int .i64 (1), .int .i64 (1), .int .i64 (3)]] 130),
    (55, .row 6 [[.int .i64 (2), .int .i64 (1), .int .i64 (1), .int .i64 (2), .int .i64 (1), .int .i64 (4)]] 130),
    (73, .row 6 [[.int .i64 (2), .int .i64 (2), .int .i64 (1), .int .i64 (3), .int .i64 (1), .int .i64 (2)]] 130),
    (47, .row 6 [[.int .i64 (1), .int .i64 (3), .int .i64 (2), .int .i64 (3), .int .i64 (1), .int .i64 (1)]] 130),
    (9, .row 6 [[.int .i64 (1), .int .i64 (1), .int .i64 (1), .int .i64 (4), .int .i64 (2), .int .i64 (2)]] 130),
    (56, .row 6 [[.int .i64 (2), .int .i64 (1), .int .i64 (1), .int .i64 (2), .int .i64 (3), .int .i64 (2)]] 130),
    (74, .row 6 [[.int .i64 (2), .int .i64 (2), .int .i64 (1), .int .i64 (4), .int .i64 (1), .int .i64 (1)]] 130),
    (37, .row 6 [[.int .i64 (1), .int .i64 (2), .int .i64 (3), .int .i64 (2), .int .i64 (2), .int .i64 (1)]] 130),
    (1, .box [.int .i64 (3), .int .i64 (4), .int .i64 (4), .int .i64 (1), .int .i64 (1), .int .i64 (1)] 130),
    (28, .row 6 [[.int .i64 (1), .int .i64 (2), .int .i64 (1), .int .i64 (3), .int .i64 (2), .int .i64 (2)]] 130),
    (57, .row 6 [[.int .i64 (2), .int .i64 (1), .int .i64 (1), .int .i64 (3), .int .i64 (1), .int .i64 (3)]] 130),
    (75, .row 6 [[.int .i64 (2), .int .i64 (2), .int .i64 (2), .int .i64 (1), .int .i64 (2), .int .i64 (2)]] 130),
    (21, .row 6 [[.int .i64 (1), .int .i64 (1), .int .i64 (4), .int .i64 (1), .int .i64 (3), .int .i64 (1)]] 130),
    (48, .row 6 [[.int .i64 (1), .int .i64 (3), .int .i64 (3), .int .i64 (1), .int .i64 (2), .int .i64 (1)]] 130),
    (58, .row 6 [[.int .i64 (2), .int .i64 (1), .int .i64 (1), .int .i64 (3), .int .i64 (3), .int .i64 (1)]] 130),
    (16, .row 6 [[.int .i64 (1), .int .i64 (1), .int .i64 (3), .int .i64 (1), .int .i64 (2), .int .i64 (3)]] 130),
    (76, .row 6 [[.int .i64 (2), .int .i64 (2), .int .i64 (2), .int .i64 (2), .int .i64 (2), .int .i64 (1)]] 130),
    (12, .row 6 [[.int .i64 (1), .int .i64 (1), .int .i64 (2), .int .i64 (2), .int .i64 (3), .int .i64 (2)]] 130),
    (59, .row 6 [[.int .i64 (2), .int .i64 (1), .int .i64 (1), .int .i64 (4), .int .i64 (1), .int .i64 (2)]] 130),
    (22, .row 6 [[.int .i64 (1), .int .i64 (1), .int .i64 (4), .int .i64 (2), .int .i64 (1), .int .i64 (2)]] 130),
    (38, .row 6 [[.int .i64 (1), .int .i64 (2), .int .i64 (4), .int .i64 (1), .int .i64 (1), .int .i64 (2)]] 130),
    (29, .row 6 [[.int .i64 (1), .int .i64 (2), .int .i64 (1), .int .i64 (4), .int .i64 (2), .int .i64 (1)]] 130),
    (2, .box [.fn 108 [.box 1 0, .box 0 0, .box 2 0]] 167),
    (77, .row 6 [[.int .i64 (2), .int .i64 (2), .int .i64 (3), .int .i64 (1), .int .i64 (1), .int .i64 (2)]] 130),
    (49, .row 6 [[.int .i64 (1), .int .i64 (3), .int .i64 (4), .int .i64 (1), .int .i64 (1), .int .i64 (1)]] 130),
    (60, .row 6 [[.int .i64 (2), .int .i64 (1), .int .i64 (2), .int .i64 (1), .int .i64 (2), .int .i64 (3)]] 130),
    (17, .row 6 [[.int .i64 (1), .int .i64 (1), .int .i64 (3), .int .i64 (1), .int .i64 (4), .int .i64 (1)]] 130),
    (78, .row 6 [[.int .i64 (2), .int .i64 (2), .int .i64 (3), .int .i64 (2), .int .i64 (1), .int .i64 (1)]] 130),
    (39, .row 6 [[.int .i64 (1), .int .i64 (2), .int .i64 (4), .int .i64 (2), .int .i64 (1), .int .i64 (1)]] 130),
    (61, .row 6 [[.int .i64 (2), .int .i64 (1), .int .i64 (2), .int .i64 (1), .int .i64 (4), .int .i64 (1)]] 130),
    (7, .row 6 [[.int .i64 (1), .int .i64 (1), .int .i64 (1), .int .i64 (3), .int .i64 (2), .int .i64 (3)]] 130),
    (30, .row 6 [[.int .i64 (1), .int .i64 (2), .int .i64 (2), .int .i64 (1), .int .i64 (1), .int .i64 (4)]] 130),
    (23, .row 6 [[.int .i64 (1), .int .i64 (1), .int .i64 (4), .int .i64 (3), .int .i64 (1), .int .i64 (1)]] 130),
    (62, .row 6 [[.int .i64 (2), .int .i64 (1), .int .i64 (2), .int .i64 (2), .int .i64 (2), .int .i64 (2)]] 130),
    (5, .row 6 [[.int .i64 (1), .int .i64 (1), .int .i64 (1), .int .i64 (2), .int .i64 (2), .int .i64 (4)]] 130),
    (50, .row 6 [[.int .i64 (1), .int .i64 (4), .int .i64 (1), .int .i64 (1), .int .i64 (2), .int .i64 (2)]] 130),
    (31, .row 6 [[.int .i64 (1), .int .i64 (2), .int .i64 (2), .int .i64 (1), .int .i64 (3), .int .i64 (2)]] 130),
    (79, .row 6 [[.int .i64 (2), .int .i64 (3), .int .i64 (1), .int .i64 (1), .int .i64 (1), .int .i64 (3)]] 130),
    (13, .row 6 [[.int .i64 (1), .int .i64 (1), .int .i64 (2), .int .i64 (3), .int .i64 (1), .int .i64 (3)]] 130),
    (63, .row 6 [[.int .i64 (2), .int .i64 (1), .int .i64 (2), .int .i64 (3), .int .i64 (2), .int .i64 (1)]] 130),
    (80, .row 6 [[.int .i64 (2), .int .i64 (3), .int .i64 (1), .int .i64 (1), .int .i64 (3), .int .i64 (1)]] 130),
    (40, .row 6 [[.int .i64 (1), .int .i64 (3), .int .i64 (1), .int .i64 (1), .int .i64 (2), .int .i64 (3)]] 130),
    (18, .row 6 [[.int .i64 (1), .int .i64 (1), .int .i64 (3), .int .i64 (2), .int .i64 (2), .int .i64 (2)]] 130),
    (81, .row 6 [[.int .i64 (2), .int .i64 (3), .int .i64 (1), .int .i64 (2), .int .i64 (1), .int .i64 (2)]] 130),
    (51, .row 6 [[.int .i64 (1), .int .i64 (4), .int .i64 (1), .int .i64 (2), .int .i64 (2), .int .i64 (1)]] 130),
    (3, .row 6 [[.int .i64 (1), .int .i64 (1), .int .i64 (1), .int .i64 (1), .int .i64 (4), .int .i64 (3)]] 130),
    (41, .row 6 [[.int .i64 (1), .int .i64 (3), .int .i64 (1), .int .i64 (1), .int .i64 (4), .int .i64 (1)]] 130),
    (82, .row 6 [[.int .i64 (2), .int .i64 (3), .int .i64 (1), .int .i64 (3), .int .i64 (1), .int .i64 (1)]] 130),
    (64, .row 6 [[.int .i64 (2), .int .i64 (1), .int .i64 (3), .int .i64 (1), .int .i64 (1), .int .i64 (3)]] 130),
    (32, .row 6 [[.int .i64 (1), .int .i64 (2), .int .i64 (2), .int .i64 (2), .int .i64 (1), .int .i64 (3)]] 130),
    (8, .row 6 [[.int .i64 (1), .int .i64 (1), .int .i64 (1), .int .i64 (3), .int .i64 (4), .int .i64 (1)]] 130),
    (65, .row 6 [[.int .i64 (2), .int .i64 (1), .int .i64 (3), .int .i64 (1), .int .i64 (3), .int .i64 (1)]] 130),
    (14, .row 6 [[.int .i64 (1), .int .i64 (1), .int .i64 (2), .int .i64 (3), .int .i64 (3), .int .i64 (1)]] 130),
    (83, .row 6 [[.int .i64 (2), .int .i64 (3), .int .i64 (2), .int .i64 (1), .int .i64 (2), .int .i64 (1)]] 130),
    (42, .row 6 [[.int .i64 (1), .int .i64 (3), .int .i64 (1), .int .i64 (2), .int .i64 (2), .int .i64 (2)]] 130),
    (66, .row 6 [[.int .i64 (2), .int .i64 (1), .int .i64 (3), .int .i64 (2), .int .i64 (1), .int .i64 (2)]] 130),
    (52, .row 6 [[.int .i64 (1), .int .i64 (4), .int .i64 (2), .int .i64 (1), .int .i64 (1), .int .i64 (2)]] 130),
    (33, .row 6 [[.int .i64 (1), .int .i64 (2), .int .i64 (2), .int .i64 (2), .int .i64 (3), .int .i64 (1)]] 130),
    (24, .row 6 [[.int .i64 (1), .int .i64 (2), .int .i64 (1), .int .i64 (1), .int .i64 (2), .int .i64 (4)]] 130),
    (67, .row 6 [[.int .i64 (2), .int .i64 (1), .int .i64 (3), .int .i64 (3), .int .i64 (1), .int .i64 (1)]] 130),
    (84, .row 6 [[.int .i64 (2), .int .i64 (3), .int .i64 (3), .int .i64 (1), .int .i64 (1), .int .i64 (1)]] 130),
    (10, .row 6 [[.int .i64 (1), .int .i64 (1), .int .i64 (2), .int .i64 (1), .int .i64 (3), .int .i64 (3)]] 130),
    (53, .row 6 [[.int .i64 (1), .int .i64 (4), .int .i64 (2), .int .i64 (2), .int .i64 (1), .int .i64 (1)]] 130),
    (34, .row 6 [[.int .i64 (1), .int .i64 (2), .int .i64 (2), .int .i64 (3), .int .i64 (1), .int .i64 (2)]] 130),
    (43, .row 6 [[.int .i64 (1), .int .i64 (3), .int .i64 (1), .int .i64 (3), .int .i64 (2), .int .i64 (1)]] 130),
    (19, .row 6 [[.int .i64 (1), .int .i64 (1), .int .i64 (3), .int .i64 (3), .int .i64 (2), .int .i64 (1)]] 130),
    (68, .row 6 [[.int .i64 (2), .int .i64 (1), .int .i64 (4), .int .i64 (1), .int .i64 (2), .int .i64 (1)]] 130),
    (25, .row 6 [[.int .i64 (1), .int .i64 (2), .int .i64 (1), .int .i64 (1), .int .i64 (4), .int .i64 (2)]] 130),
    (85, .row 6 [[.int .i64 (2), .int .i64 (4), .int .i64 (1), .int .i64 (1), .int .i64 (1), .int .i64 (2)]] 130),
    (4, .row 6 [[.int .i64 (1), .int .i64 (1), .int .i64 (1), .int .i64 (1), .int .i64 (4), .int .i64 (3)], [.int .i64 (1), .int .i64 (1), .int .i64 (1), .int .i64 (2), .int .i64 (2), .int .i64 (4)], [.int .i64 (1), .int .i64 (1), .int .i64 (1), .int .i64 (2), .int .i64 (4), .int .i64 (2)], [.int .i64 (1), .int .i64 (1), .int .i64 (1), .int .i64 (3), .int .i64 (2), .int .i64 (3)], [.int .i64 (1), .int .i64 (1), .int .i64 (1), .int .i64 (3), .int .i64 (4), .int .i64 (1)], [.int .i64 (1), .int .i64 (1), .int .i64 (1), .int .i64 (4), .int .i64 (2), .int .i64 (2)], [.int .i64 (1), .int .i64 (1), .int .i64 (2), .int .i64 (1), .int .i64 (3), .int .i64 (3)], [.int .i64 (1), .int .i64 (1), .int .i64 (2), .int .i64 (2), .int .i64 (1), .int .i64 (4)], [.int .i64 (1), .int .i64 (1), .int .i64 (2), .int .i64 (2), .int .i64 (3), .int .i64 (2)], [.int .i64 (1), .int .i64 (1), .int .i64 (2), .int .i64 (3), .int .i64 (1), .int .i64 (3)], [.int .i64 (1), .int .i64 (1), .int .i64 (2), .int .i64 (3), .int .i64 (3), .int .i64 (1)], [.int .i64 (1), .int .i64 (1), .int .i64 (2), .int .i64 (4), .int .i64 (1), .int .i64 (2)], [.int .i64 (1), .int .i64 (1), .int .i64 (3), .int .i64 (1), .int .i64 (2), .int .i64 (3)], [.int .i64 (1), .int .i64 (1), .int .i64 (3), .int .i64 (1), .int .i64 (4), .int .i64 (1)], [.int .i64 (1), .int .i64 (1), .int .i64 (3), .int .i64 (2), .int .i64 (2), .int .i64 (2)], [.int .i64 (1), .int .i64 (1), .int .i64 (3), .int .i64 (3), .int .i64 (2), .int .i64 (1)], [.int .i64 (1), .int .i64 (1), .int .i64 (4), .int .i64 (1), .int .i64 (1), .int .i64 (3)], [.int .i64 (1), .int .i64 (1), .int .i64 (4), .int .i64 (1), .int .i64 (3), .int .i64 (1)], [.int .i64 (1), .int .i64 (1), .int .i64 (4), .int .i64 (2), .int .i64 (1), .int .i64 (2)], [.int .i64 (1), .int .i64 (1), .int .i64 (4), .int .i64 (3), .int .i64 (1), .int .i64 (1)], [.int .i64 (1), .int .i64 (2), .int .i64 (1), .int .i64 (1), .int .i64 (2), .int .i64 (4)], [.int .i64 (1), .int .i64 (2), .int .i64 (1), .int .i64 (1), .int .i64 (4), .int .i64 (2)], [.int .i64 (1), .int .i64 (2), .int .i64 (1), .int .i64 (2), .int .i64 (2), .int .i64 (3)], [.int .i64 (1), .int .i64 (2), .int .i64 (1), .int .i64 (2), .int .i64 (4), .int .i64 (1)], [.int .i64 (1), .int .i64 (2), .int .i64 (1), .int .i64 (3), .int .i64 (2), .int .i64 (2)], [.int .i64 (1), .int .i64 (2), .int .i64 (1), .int .i64 (4), .int .i64 (2), .int .i64 (1)], [.int .i64 (1), .int .i64 (2), .int .i64 (2), .int .i64 (1), .int .i64 (1), .int .i64 (4)], [.int .i64 (1), .int .i64 (2), .int .i64 (2), .int .i64 (1), .int .i64 (3), .int .i64 (2)], [.int .i64 (1), .int .i64 (2), .int .i64 (2), .int .i64 (2), .int .i64 (1), .int .i64 (3)], [.int .i64 (1), .int .i64 (2), .int .i64 (2), .int .i64 (2), .int .i64 (3), .int .i64 (1)], [.int .i64 (1), .int .i64 (2), .int .i64 (2), .int .i64 (3), .int .i64 (1), .int .i64 (2)], [.int .i64 (1), .int .i64 (2), .int .i64 (2), .int .i64 (4), .int .i64 (1), .int .i64 (1)], [.int .i64 (1), .int .i64 (2), .int .i64 (3), .int .i64 (1), .int .i64 (2), .int .i64 (2)], [.int .i64 (1), .int .i64 (2), .int .i64 (3), .int .i64 (2), .int .i64 (2), .int .i64 (1)], [.int .i64 (1), .int .i64 (2), .int .i64 (4), .int .i64 (1), .int .i64 (1), .int .i64 (2)], [.int .i64 (1), .int .i64 (2), .int .i64 (4), .int .i64 (2), .int .i64 (1), .int .i64 (1)], [.int .i64 (1), .int .i64 (3), .int .i64 (1), .int .i64 (1), .int .i64 (2), .int .i64 (3)], [.int .i64 (1), .int .i64 (3), .int .i64 (1), .int .i64 (1), .int .i64 (4), .int .i64 (1)], [.int .i64 (1), .int .i64 (3), .int .i64 (1), .int .i64 (2), .int .i64 (2), .int .i64 (2)], [.int .i64 (1), .int .i64 (3), .int .i64 (1), .int .i64 (3), .int .i64 (2), .int .i64 (1)], [.int .i64 (1), .int .i64 (3), .int .i64 (2), .int .i64 (1), .int .i64 (1), .int .i64 (3)], [.int .i64 (1), .int .i64 (3), .int .i64 (2), .int .i64 (1), .int .i64 (3), .int .i64 (1)], [.int .i64 (1), .int .i64 (3), .int .i64 (2), .int .i64 (2), .int .i64 (1), .int .i64 (2)], [.int .i64 (1), .int .i64 (3), .int .i64 (2), .int .i64 (3), .int .i64 (1), .int .i64 (1)], [.int .i64 (1), .int .i64 (3), .int .i64 (3), .int .i64 (1), .int .i64 (2), .int .i64 (1)], [.int .i64 (1), .int .i64 (3), .int .i64 (4), .int .i64 (1), .int .i64 (1), .int .i64 (1)], [.int .i64 (1), .int .i64 (4), .int .i64 (1), .int .i64 (1), .int .i64 (2), .int .i64 (2)], [.int .i64 (1), .int .i64 (4), .int .i64 (1), .int .i64 (2), .int .i64 (2), .int .i64 (1)], [.int .i64 (1), .int .i64 (4), .int .i64 (2), .int .i64 (1), .int .i64 (1), .int .i64 (2)], [.int .i64 (1), .int .i64 (4), .int .i64 (2), .int .i64 (2), .int .i64 (1), .int .i64 (1)], [.int .i64 (2), .int .i64 (1), .int .i64 (1), .int .i64 (1), .int .i64 (3), .int .i64 (3)], [.int .i64 (2), .int .i64 (1), .int .i64 (1), .int .i64 (2), .int .i64 (1), .int .i64 (4)], [.int .i64 (2), .int .i64 (1), .int .i64 (1), .int .i64 (2), .int .i64 (3), .int .i64 (2)], [.int .i64 (2), .int .i64 (1), .int .i64 (1), .int .i64 (3), .int .i64 (1), .int .i64 (3)], [.int .i64 (2), .int .i64 (1), .int .i64 (1), .int .i64 (3), .int .i64 (3), .int .i64 (1)], [.int .i64 (2), .int .i64 (1), .int .i64 (1), .int .i64 (4), .int .i64 (1), .int .i64 (2)], [.int .i64 (2), .int .i64 (1), .int .i64 (2), .int .i64 (1), .int .i64 (2), .int .i64 (3)], [.int .i64 (2), .int .i64 (1), .int .i64 (2), .int .i64 (1), .int .i64 (4), .int .i64 (1)], [.int .i64 (2), .int .i64 (1), .int .i64 (2), .int .i64 (2), .int .i64 (2), .int .i64 (2)], [.int .i64 (2), .int .i64 (1), .int .i64 (2), .int .i64 (3), .int .i64 (2), .int .i64 (1)], [.int .i64 (2), .int .i64 (1), .int .i64 (3), .int .i64 (1), .int .i64 (1), .int .i64 (3)], [.int .i64 (2), .int .i64 (1), .int .i64 (3), .int .i64 (1), .int .i64 (3), .int .i64 (1)], [.int .i64 (2), .int .i64 (1), .int .i64 (3), .int .i64 (2), .int .i64 (1), .int .i64 (2)], [.int .i64 (2), .int .i64 (1), .int .i64 (3), .int .i64 (3), .int .i64 (1), .int .i64 (1)], [.int .i64 (2), .int .i64 (1), .int .i64 (4), .int .i64 (1), .int .i64 (2), .int .i64 (1)], [.int .i64 (2), .int .i64 (2), .int .i64 (1), .int .i64 (1), .int .i64 (1), .int .i64 (4)], [.int .i64 (2), .int .i64 (2), .int .i64 (1), .int .i64 (1), .int .i64 (3), .int .i64 (2)], [.int .i64 (2), .int .i64 (2), .int .i64 (1), .int .i64 (2), .int .i64 (1), .int .i64 (3)], [.int .i64 (2), .int .i64 (2), .int .i64 (1), .int .i64 (2), .int .i64 (3), .int .i64 (1)], [.int .i64 (2), .int .i64 (2), .int .i64 (1), .int .i64 (3), .int .i64 (1), .int .i64 (2)], [.int .i64 (2), .int .i64 (2), .int .i64 (1), .int .i64 (4), .int .i64 (1), .int .i64 (1)], [.int .i64 (2), .int .i64 (2), .int .i64 (2), .int .i64 (1), .int .i64 (2), .int .i64 (2)], [.int .i64 (2), .int .i64 (2), .int .i64 (2), .int .i64 (2), .int .i64 (2), .int .i64 (1)], [.int .i64 (2), .int .i64 (2), .int .i64 (3), .int .i64 (1), .int .i64 (1), .int .i64 (2)], [.int .i64 (2), .int .i64 (2), .int .i64 (3), .int .i64 (2), .int .i64 (1), .int .i64 (1)], [.int .i64 (2), .int .i64 (3), .int .i64 (1), .int .i64 (1), .int .i64 (1), .int .i64 (3)], [.int .i64 (2), .int .i64 (3), .int .i64 (1), .int .i64 (1), .int .i64 (3), .int .i64 (1)], [.int .i64 (2), .int .i64 (3), .int .i64 (1), .int .i64 (2), .int .i64 (1), .int .i64 (2)], [.int .i64 (2), .int .i64 (3), .int .i64 (1), .int .i64 (3), .int .i64 (1), .int .i64 (1)], [.int .i64 (2), .int .i64 (3), .int .i64 (2), .int .i64 (1), .int .i64 (2), .int .i64 (1)], [.int .i64 (2), .int .i64 (3), .int .i64 (3), .int .i64 (1), .int .i64 (1), .int .i64 (1)], [.int .i64 (2), .int .i64 (4), .int .i64 (1), .int .i64 (1), .int .i64 (1), .int .i64 (2)], [.int .i64 (2), .int .i64 (4), .int .i64 (1), .int .i64 (2), .int .i64 (1), .int .i64 (1)]] 130),
    (35, .row 6 [[.int .i64 (1), .int .i64 (2), .int .i64 (2), .int .i64 (4), .int .i64 (1), .int .i64 (1)]] 130),
    (15, .row 6 [[.int .i64 (1), .int .i64 (1), .int .i64 (2), .int .i64 (4), .int .i64 (1), .int .i64 (2)]] 130),
    (86, .row 6 [[.int .i64 (2), .int .i64 (4), .int .i64 (1), .int .i64 (2), .int .i64 (1), .int .i64 (1)]] 130),
    (44, .row 6 [[.int .i64 (1), .int .i64 (3), .int .i64 (2), .int .i64 (1), .int .i64 (1), .int .i64 (3)]] 130),
    (6, .row 6 [[.int .i64 (1), .int .i64 (1), .int .i64 (1), .int .i64 (2), .int .i64 (4), .int .i64 (2)]] 130),
    (26, .row 6 [[.int .i64 (1), .int .i64 (2), .int .i64 (1), .int .i64 (2), .int .i64 (2), .int .i64 (3)]] 130),
    (69, .row 6 [[.int .i64 (2), .int .i64 (2), .int .i64 (1), .int .i64 (1), .int .i64 (1), .int .i64 (4)]] 130),
    (45, .row 6 [[.int .i64 (1), .int .i64 (3), .int .i64 (2), .int .i64 (1), .int .i64 (3), .int .i64 (1)]] 130),
    (0, .box [.osl 4 83] 126),
    (70, .row 6 [[.int .i64 (2), .int .i64 (2), .int .i64 (1), .int .i64 (1), .int .i64 (3), .int .i64 (2)]] 130),
    (36, .row 6 [[.int .i64 (1), .int .i64 (2), .int .i64 (3), .int .i64 (1), .int .i64 (2), .int .i64 (2)]] 130),
    (46, .row 6 [[.int .i64 (1), .int .i64 (3), .int .i64 (2), .int .i64 (2), .int .i64 (1), .int .i64 (2)]] 130),
    (54, .row 6 [[.int .i64 (2), .int .i64 (1), .int .i64 (1), .int .i64 (1), .int .i64 (3), .int .i64 (3)]] 130),
    (71, .row 6 [[.int .i64 (2), .int .i64 (2), .int .i64 (1), .int .i64 (2), .int .i64 (1), .int .i64 (3)]] 130),
    (11, .row 6 [[.int .i64 (1), .int .i64 (1), .int .i64 (2), .int .i64 (2), .int .i64 (1), .int .i64 (4)]] 130),
    (27, .row 6 [[.int .i64 (1), .int .i64 (2), .int .i64 (1), .int .i64 (2), .int .i64 (4), .int .i64 (1)]] 130)],
   87, .tup [],
   [(27, .row 6 [[.int .i64 (1), .int .i64 (2), .int .i64 (1), .int .i64 (2), .int .i64 (4), .int .i64 (1)]] 130),
    (72, .row 6 [[.int .i64 (2), .int .i64 (2), .int .i64 (1), .int .i64 (2), .int .i64 (3), .int .i64 (1)]] 130),
    (87, .row 6 [[.int .i64 (3), .int .i64 (1), .int .i64 (1), .int .i64 (1), .int .i64 (2), .int .i64 (3)]] 130),
    (20, .row 6 [[.int .i64 (1), .int .i64 (1), .int .i64 (4), .int .i64 (1), .int .i64 (1), .int .i64 (3)]] 130),
    (55, .row 6 [[.int .i64 (2), .int .i64 (1), .int .i64 (1), .int .i64 (2), .int .i64 (1), .int .i64 (4)]] 130),
    (88, .row 6 [[.int .i64 (3), .int .i64 (1), .int .i64 (1), .int .i64 (1), .int .i64 (4), .int .i64 (1)]] 130),
    (73, .row 6 [[.int .i64 (2), .int .i64 (2), .int .i64 (1), .int .i64 (3), .int .i64 (1), .int .i64 (2)]] 130),
    (47, .row 6 [[.int .i64 (1), .int .i64 (3), .int .i64 (2), .int .i64 (3), .int .i64 (1), .int .i64 (1)]] 130),
    (9, .row 6 [[.int .i64 (1), .int .i64 (1), .int .i64 (1), .int .i64 (4), .int .i64 (2), .int .i64 (2)]] 130),
    (89, .row 6 [[.int .i64 (3), .int .i64 (1), .int .i64 (1), .int .i64 (2), .int .i64 (2), .int .i64 (2)]] 130),
    (56, .row 6 [[.int .i64 (2), .int .i64 (1), .int .i64 (1), .int .i64 (2), .int .i64 (3), .int .i64 (2)]] 130),
    (74, .row 6 [[.int .i64 (2), .int .i64 (2), .int .i64 (1), .int .i64 (4), .int .i64 (1), .int .i64 (1)]] 130),
    (37, .row 6 [[.int .i64 (1), .int .i64 (2), .int .i64 (3), .int .i64 (2), .int .i64 (2), .int .i64 (1)]] 130),
    (1, .box [.int .i64 (3), .int .i64 (4), .int .i64 (3), .int .i64 (1), .int .i64 (1), .int .i64 (1)] 130),
    (90, .row 6 [[.int .i64 (3), .int .i64 (1), .int .i64 (1), .int .i64 (3), .int .i64 (2), .int .i64 (1)]] 130),
    (28, .row 6 [[.int .i64 (1), .int .i64 (2), .int .i64 (1), .int .i64 (3), .int .i64 (2), .int .i64 (2)]] 130),
    (57, .row 6 [[.int .i64 (2), .int .i64 (1), .int .i64 (1), .int .i64 (3), .int .i64 (1), .int .i64 (3)]] 130),
    (75, .row 6 [[.int .i64 (2), .int .i64 (2), .int .i64 (2), .int .i64 (1), .int .i64 (2), .int .i64 (2)]] 130),
    (21, .row 6 [[.int .i64 (1), .int .i64 (1), .int .i64 (4), .int .i64 (1), .int .i64 (3), .int .i64 (1)]] 130),
    (48, .row 6 [[.int .i64 (1), .int .i64 (3), .int .i64 (3), .int .i64 (1), .int .i64 (2), .int .i64 (1)]] 130),
    (91, .row 6 [[.int .i64 (3), .int .i64 (1), .int .i64 (2), .int .i64 (1), .int .i64 (1), .int .i64 (3)]] 130),
    (58, .row 6 [[.int .i64 (2), .int .i64 (1), .int .i64 (1), .int .i64 (3), .int .i64 (3), .int .i64 (1)]] 130),
    (16, .row 6 [[.int .i64 (1), .int .i64 (1), .int .i64 (3), .int .i64 (1), .int .i64 (2), .int .i64 (3)]] 130),
    (92, .row 6 [[.int .i64 (3), .int .i64 (1), .int .i64 (2), .int .i64 (1), .int .i64 (3), .int .i64 (1)]] 130),
    (76, .row 6 [[.int .i64 (2), .int .i64 (2), .int .i64 (2), .int .i64 (2), .int .i64 (2), .int .i64 (1)]] 130),
    (12, .row 6 [[.int .i64 (1), .int .i64 (1), .int .i64 (2), .int .i64 (2), .int .i64 (3), .int .i64 (2)]] 130),
    (93, .row 6 [[.int .i64 (3), .int .i64 (1), .int .i64 (2), .int .i64 (2), .int .i64 (1), .int .i64 (2)]] 130),
    (59, .row 6 [[.int .i64 (2), .int .i64 (1), .int .i64 (1), .int .i64 (4), .int .i64 (1), .int .i64 (2)]] 130),
    (22, .row 6 [[.int .i64 (1), .int .i64 (1), .int .i64 (4), .int .i64 (2), .int .i64 (1), .int .i64 (2)]] 130),
    (38, .row 6 [[.int .i64 (1), .int .i64 (2), .int .i64 (4), .int .i64 (1), .int .i64 (1), .int .i64 (2)]] 130),
    (94, .row 6 [[.int .i64 (3), .int .i64 (1), .int .i64 (2), .int .i64 (3), .int .i64 (1), .int .i64 (1)]] 130),
    (29, .row 6 [[.int .i64 (1), .int .i64 (2), .int .i64 (1), .int .i64 (4), .int .i64 (2), .int .i64 (1)]] 130),
    (2, .box [.fn 108 [.box 1 0, .box 0 0, .box 2 0]] 167),
    (77, .row 6 [[.int .i64 (2), .int .i64 (2), .int .i64 (3), .int .i64 (1), .int .i64 (1), .int .i64 (2)]] 130),
    (49, .row 6 [[.int .i64 (1), .int .i64 (3), .int .i64 (4), .int .i64 (1), .int .i64 (1), .int .i64 (1)]] 130),
    (60, .row 6 [[.int .i64 (2), .int .i64 (1), .int .i64 (2), .int .i64 (1), .int .i64 (2), .int .i64 (3)]] 130),
    (95, .row 6 [[.int .i64 (3), .int .i64 (1), .int .i64 (3), .int .i64 (1), .int .i64 (2), .int .i64 (1)]] 130),
    (17, .row 6 [[.int .i64 (1), .int .i64 (1), .int .i64 (3), .int .i64 (1), .int .i64 (4), .int .i64 (1)]] 130),
    (78, .row 6 [[.int .i64 (2), .int .i64 (2), .int .i64 (3), .int .i64 (2), .int .i64 (1), .int .i64 (1)]] 130),
    (39, .row 6 [[.int .i64 (1), .int .i64 (2), .int .i64 (4), .int .i64 (2), .int .i64 (1), .int .i64 (1)]] 130),
    (61, .row 6 [[.int .i64 (2), .int .i64 (1), .int .i64 (2), .int .i64 (1), .int .i64 (4), .int .i64 (1)]] 130),
    (7, .row 6 [[.int .i64 (1), .int .i64 (1), .int .i64 (1), .int .i64 (3), .int .i64 (2), .int .i64 (3)]] 130),
    (30, .row 6 [[.int .i64 (1), .int .i64 (2), .int .i64 (2), .int .i64 (1), .int .i64 (1), .int .i64 (4)]] 130),
    (96, .row 6 [[.int .i64 (3), .int .i64 (1), .int .i64 (4), .int .i64 (1), .int .i64 (1), .int .i64 (1)]] 130),
    (23, .row 6 [[.int .i64 (1), .int .i64 (1), .int .i64 (4), .int .i64 (3), .int .i64 (1), .int .i64 (1)]] 130),
    (62, .row 6 [[.int .i64 (2), .int .i64 (1), .int .i64 (2), .int .i64 (2), .int .i64 (2), .int .i64 (2)]] 130),
    (5, .row 6 [[.int .i64 (1), .int .i64 (1), .int .i64 (1), .int .i64 (2), .int .i64 (2), .int .i64 (4)]] 130),
    (50, .row 6 [[.int .i64 (1), .int .i64 (4), .int .i64 (1), .int .i64 (1), .int .i64 (2), .int .i64 (2)]] 130),
    (31, .row 6 [[.int .i64 (1), .int .i64 (2), .int .i64 (2), .int .i64 (1), .int .i64 (3), .int .i64 (2)]] 130),
    (79, .row 6 [[.int .i64 (2), .int .i64 (3), .int .i64 (1), .int .i64 (1), .int .i64 (1), .int .i64 (3)]] 130),
    (97, .row 6 [[.int .i64 (3), .int .i64 (2), .int .i64 (1), .int .i64 (1), .int .i64 (2), .int .i64 (2)]] 130),
    (13, .row 6 [[.int .i64 (1), .int .i64 (1), .int .i64 (2), .int .i64 (3), .int .i64 (1), .int .i64 (3)]] 130),
    (63, .row 6 [[.int .i64 (2), .int .i64 (1), .int .i64 (2), .int .i64 (3), .int .i64 (2), .int .i64 (1)]] 130),
    (80, .row 6 [[.int .i64 (2), .int .i64 (3), .int .i64 (1), .int .i64 (1), .int .i64 (3), .int .i64 (1)]] 130),
    (40, .row 6 [[.int .i64 (1), .int .i64 (3), .int .i64 (1), .int .i64 (1), .int .i64 (2), .int .i64 (3)]] 130),
    (98, .row 6 [[.int .i64 (3), .int .i64 (2), .int .i64 (1), .int .i64 (2), .int .i64 (2), .int .i64 (1)]] 130),
    (18, .row 6 [[.int .i64 (1), .int .i64 (1), .int .i64 (3), .int .i64 (2), .int .i64 (2), .int .i64 (2)]] 130),
    (81, .row 6 [[.int .i64 (2), .int .i64 (3), .int .i64 (1), .int .i64 (2), .int .i64 (1), .int .i64 (2)]] 130),
    (51, .row 6 [[.int .i64 (1), .int .i64 (4), .int .i64 (1), .int .i64 (2), .int .i64 (2), .int .i64 (1)]] 130),
    (3, .row 6 [[.int .i64 (1), .int .i64 (1), .int .i64 (1), .int .i64 (1), .int .i64 (4), .int .i64 (3)]] 130),
    (41, .row 6 [[.int .i64 (1), .int .i64 (3), .int .i64 (1), .int .i64 (1), .int .i64 (4), .int .i64 (1)]] 130),
    (82, .row 6 [[.int .i64 (2), .int .i64 (3), .int .i64 (1), .int .i64 (3), .int .i64 (1), .int .i64 (1)]] 130),
    (99, .row 6 [[.int .i64 (3), .int .i64 (2), .int .i64 (2), .int .i64 (1), .int .i64 (1), .int .i64 (2)]] 130),
    (64, .row 6 [[.int .i64 (2), .int .i64 (1), .int .i64 (3), .int .i64 (1), .int .i64 (1), .int .i64 (3)]] 130),
    (32, .row 6 [[.int .i64 (1), .int .i64 (2), .int .i64 (2), .int .i64 (2), .int .i64 (1), .int .i64 (3)]] 130),
    (8, .row 6 [[.int .i64 (1), .int .i64 (1), .int .i64 (1), .int .i64 (3), .int .i64 (4), .int .i64 (1)]] 130),
    (100, .row 6 [[.int .i64 (3), .int .i64 (2), .int .i64 (2), .int .i64 (2), .int .i64 (1), .int .i64 (1)]] 130),
    (65, .row 6 [[.int .i64 (2), .int .i64 (1), .int .i64 (3), .int .i64 (1), .int .i64 (3), .int .i64 (1)]] 130),
    (14, .row 6 [[.int .i64 (1), .int .i64 (1), .int .i64 (2), .int .i64 (3), .int .i64 (3), .int .i64 (1)]] 130),
    (83, .row 6 [[.int .i64 (2), .int .i64 (3), .int .i64 (2), .int .i64 (1), .int .i64 (2), .int .i64 (1)]] 130),
    (42, .row 6 [[.int .i64 (1), .int .i64 (3), .int .i64 (1), .int .i64 (2), .int .i64 (2), .int .i64 (2)]] 130),
    (66, .row 6 [[.int .i64 (2), .int .i64 (1), .int .i64 (3), .int .i64 (2), .int .i64 (1), .int .i64 (2)]] 130),
    (52, .row 6 [[.int .i64 (1), .int .i64 (4), .int .i64 (2), .int .i64 (1), .int .i64 (1), .int .i64 (2)]] 130),
    (33, .row 6 [[.int .i64 (1), .int .i64 (2), .int .i64 (2), .int .i64 (2), .int .i64 (3), .int .i64 (1)]] 130),
    (24, .row 6 [[.int .i64 (1), .int .i64 (2), .int .i64 (1), .int .i64 (1), .int .i64 (2), .int .i64 (4)]] 130),
    (67, .row 6 [[.int .i64 (2), .int .i64 (1), .int .i64 (3), .int .i64 (3), .int .i64 (1), .int .i64 (1)]] 130),
    (84, .row 6 [[.int .i64 (2), .int .i64 (3), .int .i64 (3), .int .i64 (1), .int .i64 (1), .int .i64 (1)]] 130),
    (10, .row 6 [[.int .i64 (1), .int .i64 (1), .int .i64 (2), .int .i64 (1), .int .i64 (3), .int .i64 (3)]] 130),
    (53, .row 6 [[.int .i64 (1), .int .i64 (4), .int .i64 (2), .int .i64 (2), .int .i64 (1), .int .i64 (1)]] 130),
    (101, .row 6 [[.int .i64 (3), .int .i64 (3), .int .i64 (1), .int .i64 (1), .int .i64 (2), .int .i64 (1)]] 130),
    (34, .row 6 [[.int .i64 (1), .int .i64 (2), .int .i64 (2), .int .i64 (3), .int .i64 (1), .int .i64 (2)]] 130),
    (43, .row 6 [[.int .i64 (1), .int .i64 (3), .int .i64 (1), .int .i64 (3), .int .i64 (2), .int .i64 (1)]] 130),
    (19, .row 6 [[.int .i64 (1), .int .i64 (1), .int .i64 (3), .int .i64 (3), .int .i64 (2), .int .i64 (1)]] 130),
    (68, .row 6 [[.int .i64 (2), .int .i64 (1), .int .i64 (4), .int .i64 (1), .int .i64 (2), .int .i64 (1)]] 130),
    (25, .row 6 [[.int .i64 (1), .int .i64 (2), .int .i64 (1), .int .i64 (1), .int .i64 (4), .int .i64 (2)]] 130),
    (85, .row 6 [[.int .i64 (2), .int .i64 (4), .int .i64 (1), .int .i64 (1), .int .i64 (1), .int .i64 (2)]] 130),
    (102, .row 6 [[.int .i64 (3), .int .i64 (3), .int .i64 (2), .int .i64 (1), .int .i64 (1), .int .i64 (1)]] 130),
    (4, .row 6 [[.int .i64 (1), .int .i64 (1), .int .i64 (1), .int .i64 (1), .int .i64 (4), .int .i64 (3)], [.int .i64 (1), .int .i64 (1), .int .i64 (1), .int .i64 (2), .int .i64 (2), .int .i64 (4)], [.int .i64 (1), .int .i64 (1), .int .i64 (1), .int .i64 (2), .int .i64 (4), .int .i64 (2)], [.int .i64 (1), .int .i64 (1), .int .i64 (1), .int .i64 (3), .int .i64 (2), .int .i64 (3)], [.int .i64 (1), .int .i64 (1), .int .i64 (1), .int .i64 (3), .int .i64 (4), .int .i64 (1)], [.int .i64 (1), .int .i64 (1), .int .i64 (1), .int .i64 (4), .int .i64 (2), .int .i64 (2)], [.int .i64 (1), .int .i64 (1), .int .i64 (2), .int .i64 (1), .int .i64 (3), .int .i64 (3)], [.int .i64 (1), .int .i64 (1), .int .i64 (2), .int .i64 (2), .int .i64 (1), .int .i64 (4)], [.int .i64 (1), .int .i64 (1), .int .i64 (2), .int .i64 (2), .int .i64 (3), .int .i64 (2)], [.int .i64 (1), .int .i64 (1), .int .i64 (2), .int .i64 (3), .int .i64 (1), .int .i64 (3)], [.int .i64 (1), .int .i64 (1), .int .i64 (2), .int .i64 (3), .int .i64 (3), .int .i64 (1)], [.int .i64 (1), .int .i64 (1), .int .i64 (2), .int .i64 (4), .int .i64 (1), .int .i64 (2)], [.int .i64 (1), .int .i64 (1), .int .i64 (3), .int .i64 (1), .int .i64 (2), .int .i64 (3)], [.int .i64 (1), .int .i64 (1), .int .i64 (3), .int .i64 (1), .int .i64 (4), .int .i64 (1)], [.int .i64 (1), .int .i64 (1), .int .i64 (3), .int .i64 (2), .int .i64 (2), .int .i64 (2)], [.int .i64 (1), .int .i64 (1), .int .i64 (3), .int .i64 (3), .int .i64 (2), .int .i64 (1)], [.int .i64 (1), .int .i64 (1), .int .i64 (4), .int .i64 (1), .int .i64 (1), .int .i64 (3)], [.int .i64 (1), .int .i64 (1), .int .i64 (4), .int .i64 (1), .int .i64 (3), .int .i64 (1)], [.int .i64 (1), .int .i64 (1), .int .i64 (4), .int .i64 (2), .int .i64 (1), .int .i64 (2)], [.int .i64 (1), .int .i64 (1), .int .i64 (4), .int .i64 (3), .int .i64 (1), .int .i64 (1)], [.int .i64 (1), .int .i64 (2), .int .i64 (1), .int .i64 (1), .int .i64 (2), .int .i64 (4)], [.int .i64 (1), .int .i64 (2), .int .i64 (1), .int .i64 (1), .int .i64 (4), .int .i64 (2)], [.int .i64 (1), .int .i64 (2), .int .i64 (1), .int .i64 (2), .int .i64 (2), .int .i64 (3)], [.int .i64 (1), .int .i64 (2), .int .i64 (1), .int .i64 (2), .int .i64 (4), .int .i64 (1)], [.int .i64 (1), .int .i64 (2), .int .i64 (1), .int .i64 (3), .int .i64 (2), .int .i64 (2)], [.int .i64 (1), .int .i64 (2), .int .i64 (1), .int .i64 (4), .int .i64 (2), .int .i64 (1)], [.int .i64 (1), .int .i64 (2), .int .i64 (2), .int .i64 (1), .int .i64 (1), .int .i64 (4)], [.int .i64 (1), .int .i64 (2), .int .i64 (2), .int .i64 (1), .int .i64 (3), .int .i64 (2)], [.int .i64 (1), .int .i64 (2), .int .i64 (2), .int .i64 (2), .int .i64 (1), .int .i64 (3)], [.int .i64 (1), .int .i64 (2), .int .i64 (2), .int .i64 (2), .int .i64 (3), .int .i64 (1)], [.int .i64 (1), .int .i64 (2), .int .i64 (2), .int .i64 (3), .int .i64 (1), .int .i64 (2)], [.int .i64 (1), .int .i64 (2), .int .i64 (2), .int .i64 (4), .int .i64 (1), .int .i64 (1)], [.int .i64 (1), .int .i64 (2), .int .i64 (3), .int .i64 (1), .int .i64 (2), .int .i64 (2)], [.int .i64 (1), .int .i64 (2), .int .i64 (3), .int .i64 (2), .int .i64 (2), .int .i64 (1)], [.int .i64 (1), .int .i64 (2), .int .i64 (4), .int .i64 (1), .int .i64 (1), .int .i64 (2)], [.int .i64 (1), .int .i64 (2), .int .i64 (4), .int .i64 (2), .int .i64 (1), .int .i64 (1)], [.int .i64 (1), .int .i64 (3), .int .i64 (1), .int .i64 (1), .int .i64 (2), .int .i64 (3)], [.int .i64 (1), .int .i64 (3), .int .i64 (1), .int .i64 (1), .int .i64 (4), .int .i64 (1)], [.int .i64 (1), .int .i64 (3), .int .i64 (1), .int .i64 (2), .int .i64 (2), .int .i64 (2)], [.int .i64 (1), .int .i64 (3), .int .i64 (1), .int .i64 (3), .int .i64 (2), .int .i64 (1)], [.int .i64 (1), .int .i64 (3), .int .i64 (2), .int .i64 (1), .int .i64 (1), .int .i64 (3)], [.int .i64 (1), .int .i64 (3), .int .i64 (2), .int .i64 (1), .int .i64 (3), .int .i64 (1)], [.int .i64 (1), .int .i64 (3), .int .i64 (2), .int .i64 (2), .int .i64 (1), .int .i64 (2)], [.int .i64 (1), .int .i64 (3), .int .i64 (2), .int .i64 (3), .int .i64 (1), .int .i64 (1)], [.int .i64 (1), .int .i64 (3), .int .i64 (3), .int .i64 (1), .int .i64 (2), .int .i64 (1)], [.int .i64 (1), .int .i64 (3), .int .i64 (4), .int .i64 (1), .int .i64 (1), .int .i64 (1)], [.int .i64 (1), .int .i64 (4), .int .i64 (1), .int .i64 (1), .int .i64 (2), .int .i64 (2)], [.int .i64 (1), .int .i64 (4), .int .i64 (1), .int .i64 (2), .int .i64 (2), .int .i64 (1)], [.int .i64 (1), .int .i64 (4), .int .i64 (2), .int .i64 (1), .int .i64 (1), .int .i64 (2)], [.int .i64 (1), .int .i64 (4), .int .i64 (2), .int .i64 (2), .int .i64 (1), .int .i64 (1)], [.int .i64 (2), .int .i64 (1), .int .i64 (1), .int .i64 (1), .int .i64 (3), .int .i64 (3)], [.int .i64 (2), .int .i64 (1), .int .i64 (1), .int .i64 (2), .int .i64 (1), .int .i64 (4)], [.int .i64 (2), .int .i64 (1), .int .i64 (1), .int .i64 (2), .int .i64 (3), .int .i64 (2)], [.int .i64 (2), .int .i64 (1), .int .i64 (1), .int .i64 (3), .int .i64 (1), .int .i64 (3)], [.int .i64 (2), .int .i64 (1), .int .i64 (1), .int .i64 (3), .int .i64 (3), .int .i64 (1)], [.int .i64 (2), .int .i64 (1), .int .i64 (1), .int .i64 (4), .int .i64 (1), .int .i64 (2)], [.int .i64 (2), .int .i64 (1), .int .i64 (2), .int .i64 (1), .int .i64 (2), .int .i64 (3)], [.int .i64 (2), .int .i64 (1), .int .i64 (2), .int .i64 (1), .int .i64 (4), .int .i64 (1)], [.int .i64 (2), .int .i64 (1), .int .i64 (2), .int .i64 (2), .int .i64 (2), .int .i64 (2)], [.int .i64 (2), .int .i64 (1), .int .i64 (2), .int .i64 (3), .int .i64 (2), .int .i64 (1)], [.int .i64 (2), .int .i64 (1), .int .i64 (3), .int .i64 (1), .int .i64 (1), .int .i64 (3)], [.int .i64 (2), .int .i64 (1), .int .i64 (3), .int .i64 (1), .int .i64 (3), .int .i64 (1)], [.int .i64 (2), .int .i64 (1), .int .i64 (3), .int .i64 (2), .int .i64 (1), .int .i64 (2)], [.int .i64 (2), .int .i64 (1), .int .i64 (3), .int .i64 (3), .int .i64 (1), .int .i64 (1)], [.int .i64 (2), .int .i64 (1), .int .i64 (4), .int .i64 (1), .int .i64 (2), .int .i64 (1)], [.int .i64 (2), .int .i64 (2), .int .i64 (1), .int .i64 (1), .int .i64 (1), .int .i64 (4)], [.int .i64 (2), .int .i64 (2), .int .i64 (1), .int .i64 (1), .int .i64 (3), .int .i64 (2)], [.int .i64 (2), .int .i64 (2), .int .i64 (1), .int .i64 (2), .int .i64 (1), .int .i64 (3)], [.int .i64 (2), .int .i64 (2), .int .i64 (1), .int .i64 (2), .int .i64 (3), .int .i64 (1)], [.int .i64 (2), .int .i64 (2), .int .i64 (1), .int .i64 (3), .int .i64 (1), .int .i64 (2)], [.int .i64 (2), .int .i64 (2), .int .i64 (1), .int .i64 (4), .int .i64 (1), .int .i64 (1)], [.int .i64 (2), .int .i64 (2), .int .i64 (2), .int .i64 (1), .int .i64 (2), .int .i64 (2)], [.int .i64 (2), .int .i64 (2), .int .i64 (2), .int .i64 (2), .int .i64 (2), .int .i64 (1)], [.int .i64 (2), .int .i64 (2), .int .i64 (3), .int .i64 (1), .int .i64 (1), .int .i64 (2)], [.int .i64 (2), .int .i64 (2), .int .i64 (3), .int .i64 (2), .int .i64 (1), .int .i64 (1)], [.int .i64 (2), .int .i64 (3), .int .i64 (1), .int .i64 (1), .int .i64 (1), .int .i64 (3)], [.int .i64 (2), .int .i64 (3), .int .i64 (1), .int .i64 (1), .int .i64 (3), .int .i64 (1)], [.int .i64 (2), .int .i64 (3), .int .i64 (1), .int .i64 (2), .int .i64 (1), .int .i64 (2)], [.int .i64 (2), .int .i64 (3), .int .i64 (1), .int .i64 (3), .int .i64 (1), .int .i64 (1)], [.int .i64 (2), .int .i64 (3), .int .i64 (2), .int .i64 (1), .int .i64 (2), .int .i64 (1)], [.int .i64 (2), .int .i64 (3), .int .i64 (3), .int .i64 (1), .int .i64 (1), .int .i64 (1)], [.int .i64 (2), .int .i64 (4), .int .i64 (1), .int .i64 (1), .int .i64 (1), .int .i64 (2)], [.int .i64 (2), .int .i64 (4), .int .i64 (1), .int .i64 (2), .int .i64 (1), .int .i64 (1)], [.int .i64 (3), .int .i64 (1), .int .i64 (1), .int .i64 (1), .int .i64 (2), .int .i64 (3)], [.int .i64 (3), .int .i64 (1), .int .i64 (1), .int .i64 (1), .int .i64 (4), .int .i64 (1)], [.int .i64 (3), .int .i64 (1), .int .i64 (1), .int .i64 (2), .int .i64 (2), .int .i64 (2)], [.int .i64 (3), .int .i64 (1), .int .i64 (1), .int .i64 (3), .int .i64 (2), .int .i64 (1)], [.int .i64 (3), .int .i64 (1), .int .i64 (2), .int .i64 (1), .int .i64 (1), .int .i64 (3)], [.int .i64 (3), .int .i64 (1), .int .i64 (2), .int .i64 (1), .int .i64 (3), .int .i64 (1)], [.int .i64 (3), .int .i64 (1), .int .i64 (2), .int .i64 (2), .int .i64 (1), .int .i64 (2)], [.int .i64 (3), .int .i64 (1), .int .i64 (2), .int .i64 (3), .int .i64 (1), .int .i64 (1)], [.int .i64 (3), .int .i64 (1), .int .i64 (3), .int .i64 (1), .int .i64 (2), .int .i64 (1)], [.int .i64 (3), .int .i64 (1), .int .i64 (4), .int .i64 (1), .int .i64 (1), .int .i64 (1)], [.int .i64 (3), .int .i64 (2), .int .i64 (1), .int .i64 (1), .int .i64 (2), .int .i64 (2)], [.int .i64 (3), .int .i64 (2), .int .i64 (1), .int .i64 (2), .int .i64 (2), .int .i64 (1)], [.int .i64 (3), .int .i64 (2), .int .i64 (2), .int .i64 (1), .int .i64 (1), .int .i64 (2)], [.int .i64 (3), .int .i64 (2), .int .i64 (2), .int .i64 (2), .int .i64 (1), .int .i64 (1)], [.int .i64 (3), .int .i64 (3), .int .i64 (1), .int .i64 (1), .int .i64 (2), .int .i64 (1)], [.int .i64 (3), .int .i64 (3), .int .i64 (2), .int .i64 (1), .int .i64 (1), .int .i64 (1)]] 130),
    (35, .row 6 [[.int .i64 (1), .int .i64 (2), .int .i64 (2), .int .i64 (4), .int .i64 (1), .int .i64 (1)]] 130),
    (15, .row 6 [[.int .i64 (1), .int .i64 (1), .int .i64 (2), .int .i64 (4), .int .i64 (1), .int .i64 (2)]] 130),
    (86, .row 6 [[.int .i64 (2), .int .i64 (4), .int .i64 (1), .int .i64 (2), .int .i64 (1), .int .i64 (1)]] 130),
    (44, .row 6 [[.int .i64 (1), .int .i64 (3), .int .i64 (2), .int .i64 (1), .int .i64 (1), .int .i64 (3)]] 130),
    (6, .row 6 [[.int .i64 (1), .int .i64 (1), .int .i64 (1), .int .i64 (2), .int .i64 (4), .int .i64 (2)]] 130),
    (26, .row 6 [[.int .i64 (1), .int .i64 (2), .int .i64 (1), .int .i64 (2), .int .i64 (2), .int .i64 (3)]] 130),
    (69, .row 6 [[.int .i64 (2), .int .i64 (2), .int .i64 (1), .int .i64 (1), .int .i64 (1), .int .i64 (4)]] 130),
    (45, .row 6 [[.int .i64 (1), .int .i64 (3), .int .i64 (2), .int .i64 (1), .int .i64 (3), .int .i64 (1)]] 130),
    (0, .box [.osl 4 99] 126),
    (70, .row 6 [[.int .i64 (2), .int .i64 (2), .int .i64 (1), .int .i64 (1), .int .i64 (3), .int .i64 (2)]] 130),
    (36, .row 6 [[.int .i64 (1), .int .i64 (2), .int .i64 (3), .int .i64 (1), .int .i64 (2), .int .i64 (2)]] 130),
    (46, .row 6 [[.int .i64 (1), .int .i64 (3), .int .i64 (2), .int .i64 (2), .int .i64 (1), .int .i64 (2)]] 130),
    (54, .row 6 [[.int .i64 (2), .int .i64 (1), .int .i64 (1), .int .i64 (1), .int .i64 (3), .int .i64 (3)]] 130),
    (71, .row 6 [[.int .i64 (2), .int .i64 (2), .int .i64 (1), .int .i64 (2), .int .i64 (1), .int .i64 (3)]] 130),
    (11, .row 6 [[.int .i64 (1), .int .i64 (1), .int .i64 (2), .int .i64 (2), .int .i64 (1), .int .i64 (4)]] 130)],
   103⟩
theorem linear_patterns_1_f2_ok : FactOk Try.prog linear_patterns_1_f2 := FactOk.run ctx_ok 3000 20 (by kernel_rfl)
def linear_patterns_1_f3 : Fact := ⟨108, [.int .i64 (1), .int .i64 (7), .box 1 0, .box 0 0, .box 2 0],
   [(72, .row 6 [[.int .i64 (2), .int .i64 (2), .int .i64 (1), .int .i64 (2), .int .i64 (3), .int .i64 (1)]] 130),
    (87, .row 6 [[.int .i64 (3), .int .i64 (1), .int .i64 (1), .int .i64 (1), .int .i64 (2), .int .i64 (3)]] 130),
    (20, .row 6 [[.int .i64 (1), .int .i64 (1), .int .i64 (4), .int .i64 (1), .int .i64 (1), .int .i64 (3)]] 130),
    (55, .row 6 [[.int .i64 (2), .int .i64 (1), .int .i64 (1), .int .i64 (2), .int .i64 (1), .int .i64 (4)]] 130),
    (88, .row 6 [[.int .i64 (3), .int .i64 (1), .int .i64 (1), .int .i64 (1), .int .i64 (4), .int .i64 (1)]] 130),
    (73, .row 6 [[.int .i64 (2), .int .i64 (2), .int .i64 (1), .int .i64 (3), .int .i64 (1), .int .i64 (2)]] 130),
    (47, .row 6 [[.int .i64 (1), .int .i64 (3), .int .i64 (2), .int .i64 (3), .int .i64 (1), .int .i64 (1)]] 130),
    (9, .row 6 [[.int .i64 (1), .int .i64 (1), .int .i64 (1), .int .i64 (4), .int .i64 (2), .int .i64 (2)]] 130),
    (89, .row 6 [[.int .i64 (3), .int .i64 (1), .int .i64 (1), .int .i64 (2), .int .i64 (2), .int .i64 (2)]] 130),
    (56, .row 6 [[.int .i64 (2), .int .i64 (1), .int .i64 (1), .int .i64 (2), .int .i64 (3), .int .i64 (2)]] 130),
    (74, .row 6 [[.int .i64 (2), .int .i64 (2), .int .i64 (1), .int .i64 (4), .int .i64 (1), .int .i64 (1)]] 130),
    (37, .row 6 [[.int .i64 (1), .int .i64 (2), .int .i64 (3), .int .i64 (2), .int .i64 (2), .int .i64 (1)]] 130),
    (1, .box [.int .i64 (4), .int .i64 (4), .int .i64 (3), .int .i64 (1), .int .i64 (1), .int .i64 (1)] 130),
    (90, .row 6 [[.int .i64 (3), .int .i64 (1), .int .i64 (1), .int .i64 (3), .int .i64 (2), .int .i64 (1)]] 130),
    (28, .row 6 [[.int .i64 (1), .int .i64 (2), .int .i64 (1), .int .i64 (3), .int .i64 (2), .int .i64 (2)]] 130),
    (57, .row 6 [[.int .i64 (2), .int .i64 (1), .int .i64 (1), .int .i64 (3), .int .i64 (1), .int .i64 (3)]] 130),
    (75, .row 6 [[.int .i64 (2), .int .i64 (2), .int .i64 (2), .int .i64 (1), .int .i64 (2), .int .i64 (2)]] 130),
    (21, .row 6 [[.int .i64 (1), .int .i64 (1), .int .i64 (4), .int .i64 (1), .int .i64 (3), .int .i64 (1)]] 130),
    (48, .row 6 [[.int .i64 (1), .int .i64 (3), .int .i64 (3), .int .i64 (1), .int .i64 (2), .int .i64 (1)]] 130),
    (91, .row 6 [[.int .i64 (3), .int .i64 (1), .int .i64 (2), .int .i64 (1), .int .i64 (1), .int .i64 (3)]] 130),
    (58, .row 6 [[.int .i64 (2), .int .i64 (1), .int .i64 (1), .int .i64 (3), .int .i64 (3), .int .i64 (1)]] 130),
    (16, .row 6 [[.int .i64 (1), .int .i64 (1), .int .i64 (3), .int .i64 (1), .int .i64 (2), .int .i64 (3)]] 130),
    (92, .row 6 [[.int .i64 (3), .int .i64 (1), .int .i64 (2), .int .i64 (1), .int .i64 (3), .int .i64 (1)]] 130),
    (76, .row 6 [[.int .i64 (2), .int .i64 (2), .int .i64 (2), .int .i64 (2), .int .i64 (2), .int .i64 (1)]] 130),
    (12, .row 6 [[.int .i64 (1), .int .i64 (1), .int .i64 (2), .int .i64 (2), .int .i64 (3), .int .i64 (2)]] 130),
    (93, .row 6 [[.int .i64 (3), .int .i64 (1), .int .i64 (2), .int .i64 (2), .int .i64 (1), .int .i64 (2)]] 130),
    (59, .row 6 [[.int .i64 (2), .int .i64 (1), .int .i64 (1), .int .i64 (4), .int .i64 (1), .int .i64 (2)]] 130),
    (22, .row 6 [[.int .i64 (1), .int .i64 (1), .int .i64 (4), .int .i64 (2), .int .i64 (1), .int .i64 (2)]] 130),
    (38, .row 6 [[.int .i64 (1), .int .i64 (2), .int .i64 (4), .int .i64 (1), .int .i64 (1), .int .i64 (2)]] 130),
    (94, .row 6 [[.int .i64 (3), .int .i64 (1), .int .i64 (2), .int .i64 (3), .int .i64 (1), .int .i64 (1)]] 130),
    (29, .row 6 [[.int .i64 (1), .int .i64 (2), .int .i64 (1), .int .i64 (4), .int .i64 (2), .int .i64 (1)]] 130),
    (2, .box [.fn 108 [.box 1 0, .box 0 0, .box 2 0]] 167),
    (77, .row 6 [[.int .i64 (2), .int .i64 (2), .int .i64 (3), .int .i64 (1), .int .i64 (1), .int .i64 (2)]] 130),
    (49, .row 6 [[.int .i64 (1), .int .i64 (3), .int .i64 (4), .int .i64 (1), .int .i64 (1), .int .i64 (1)]] 130),
    (60, .row 6 [[.int .i64 (2), .int .i64 (1), .int .i64 (2), .int .i64 (1), .int .i64 (2), .int .i64 (3)]] 130),
    (95, .row 6 [[.int .i64 (3), .int .i64 (1), .int .i64 (3), .int .i64 (1), .int .i64 (2), .int .i64 (1)]] 130),
    (17, .row 6 [[.int .i64 (1), .int .i64 (1), .int .i64 (3), .int .i64 (1), .int .i64 (4), .int .i64 (1)]] 130),
    (78, .row 6 [[.int .i64 (2), .int .i64 (2), .int .i64 (3), .int .i64 (2), .int .i64 (1), .int .i64 (1)]] 130),
    (39, .row 6 [[.int .i64 (1), .int .i64 (2), .int .i64 (4), .int .i64 (2), .int .i64 (1), .int .i64 (1)]] 130),
    (61, .row 6 [[.int .i64 (2), .int .i64 (1), .int .i64 (2), .int .i64 (1), .int .i64 (4), .int .i64 (1)]] 130),
    (7, .row 6 [[.int .i64 (1), .int .i64 (1), .int .i64 (1), .int .i64 (3), .int .i64 (2), .int .i64 (3)]] 130),
    (30, .row 6 [[.int .i64 (1), .int .i64 (2), .int .i64 (2), .int .i64 (1), .int .i64 (1), .int .i64 (4)]] 130),
    (96, .row 6 [[.int .i64 (3), .int .i64 (1), .int .i64 (4), .int .i64 (1), .int .i64 (1), .int .i64 (1)]] 130),
    (23, .row 6 [[.int .i64 (1), .int .i64 (1), .int .i64 (4), .int .i64 (3), .int .i64 (1), .int .i64 (1)]] 130),
    (62, .row 6 [[.int .i64 (2), .int .i64 (1), .int .i64 (2), .int .i64 (2), .int .i64 (2), .int .i64 (2)]] 130),
    (5, .row 6 [[.int .i64 (1), .int .i64 (1), .int .i64 (1), .int .i64 (2), .int .i64 (2), .int .i64 (4)]] 130),
    (50, .row 6 [[.int .i64 (1), .int .i64 (4), .int .i64 (1), .int .i64 (1), .int .i64 (2), .int .i64 (2)]] 130),
    (31, .row 6 [[.int .i64 (1), .int .i64 (2), .int .i64 (2), .int .i64 (1), .int .i64 (3), .int .i64 (2)]] 130),
    (79, .row 6 [[.int .i64 (2), .int .i64 (3), .int .i64 (1), .int .i64 (1), .int .i64 (1), .int .i64 (3)]] 130),
    (97, .row 6 [[.int .i64 (3), .int .i64 (2), .int .i64 (1), .int .i64 (1), .int .i64 (2), .int .i64 (2)]] 130),
    (13, .row 6 [[.int .i64 (1), .int .i64 (1), .int .i64 (2), .int .i64 (3), .int .i64 (1), .int .i64 (3)]] 130),
    (63, .row 6 [[.int .i64 (2), .int .i64 (1), .int .i64 (2), .int .i64 (3), .int .i64 (2), .int .i64 (1)]] 130),
    (80, .row 6 [[.int .i64 (2), .int .i64 (3), .int .i64 (1), .int .i64 (1), .int .i64 (3), .int .i64 (1)]] 130),
    (40, .row 6 [[.int .i64 (1), .int .i64 (3), .int .i64 (1), .int .i64 (1), .int .i64 (2), .int .i64 (3)]] 130),
    (98, .row 6 [[.int .i64 (3), .int .i64 (2), .int .i64 (1), .int .i64 (2), .int .i64 (2), .int .i64 (1)]] 130),
    (18, .row 6 [[.int .i64 (1), .int .i64 (1), .int .i64 (3), .int .i64 (2), .int .i64 (2), .int .i64 (2)]] 130),
    (81, .row 6 [[.int .i64 (2), .int .i64 (3), .int .i64 (1), .int .i64 (2), .int .i64 (1), .int .i64 (2)]] 130),
    (51, .row 6 [[.int .i64 (1), .int .i64 (4), .int .i64 (1), .int .i64 (2), .int .i64 (2), .int .i64 (1)]] 130),
    (3, .row 6 [[.int .i64 (1), .int .i64 (1), .int .i64 (1), .int .i64 (1), .int .i64 (4), .int .i64 (3)]] 130),
    (41, .row 6 [[.int .i64 (1), .int .i64 (3), .int .i64 (1), .int .i64 (1), .int .i64 (4), .int .i64 (1)]] 130),
    (82, .row 6 [[.int .i64 (2), .int .i64 (3), .int .i64 (1), .int .i64 (3), .int .i64 (1), .int .i64 (1)]] 130),
    (99, .row 6 [[.int .i64 (3), .int .i64 (2), .int .i64 (2), .int .i64 (1), .int .i64 (1), .int .i64 (2)]] 130),
    (64, .row 6 [[.int .i64 (2), .int .i64 (1), .int .i64 (3), .int .i64 (1), .int .i64 (1), .int .i64 (3)]] 130),
    (32, .row 6 [[.int .i64 (1), .int .i64 (2), .int .i64 (2), .int .i64 (2), .int .i64 (1), .int .i64 (3)]] 130),
    (8, .row 6 [[.int .i64 (1), .int .i64 (1), .int .i64 (1), .int .i64 (3), .int .i64 (4), .int .i64 (1)]] 130),
    (100, .row 6 [[.int .i64 (3), .int .i64 (2), .int .i64 (2), .int .i64 (2), .int .i64 (1), .int .i64 (1)]] 130),
    (65, .row 6 [[.int .i64 (2), .int .i64 (1), .int .i64 (3), .int .i64 (1), .int .i64 (3), .int .i64 (1)]] 130),
    (14, .row 6 [[.int .i64 (1), .int .i64 (1), .int .i64 (2), .int .i64 (3), .int .i64 (3), .int .i64 (1)]] 130),
    (83, .row 6 [[.int .i64 (2), .int .i64 (3), .int .i64 (2), .int .i64 (1), .int .i64 (2), .int .i64 (1)]] 130),
    (42, .row 6 [[.int .i64 (1), .int .i64 (3), .int .i64 (1), .int .i64 (2), .int .i64 (2), .int .i64 (2)]] 130),
    (66, .row 6 [[.int .i64 (2), .int .i64 (1), .int .i64 (3), .int .i64 (2), .int .i64 (1), .int .i64 (2)]] 130),
    (52, .row 6 [[.int .i64 (1), .int .i64 (4), .int .i64 (2), .int .i64 (1), .int .i64 (1), .int .i64 (2)]] 130),
    (33, .row 6 [[.int .i64 (1), .int .i64 (2), .int .i64 (2), .int .i64 (2), .int .i64 (3), .int .i64 (1)]] 130),
    (24, .row 6 [[.int .i64 (1), .int .i64 (2), .int .i64 (1), .int .i64 (1), .int .i64 (2), .int .i64 (4)]] 130),
    (67, .row 6 [[.int .i64 (2), .int .i64 (1), .int .i64 (3), .int .i64 (3), .int .i64 (1), .int .i64 (1)]] 130),
    (84, .row 6 [[.int .i64 (2), .int .i64 (3), .int .i64 (3), .int .i64 (1), .int .i64 (1), .int .i64 (1)]] 130),
    (10, .row 6 [[.int .i64 (1), .int .i64 (1), .int .i64 (2), .int .i64 (1), .int .i64 (3), .int .i64 (3)]] 130),
    (53, .row 6 [[.int .i64 (1), .int .i64 (4), .int .i64 (2), .int .i64 (2), .int .i64 (1), .int .i64 (1)]] 130),
    (101, .row 6 [[.int .i64 (3), .int .i64 (3), .int .i64 (1), .int .i64 (1), .int .i64 (2), .int .i64 (1)]] 130),
    (34, .row 6 [[.int .i64 (1), .int .i64 (2), .int .i64 (2), .int .i64 (3), .int .i64 (1), .int .i64 (2)]] 130),
    (43, .row 6 [[.int .i64 (1), .int .i64 (3), .int .i64 (1), .int .i64 (3), .int .i64 (2), .int .i64 (1)]] 130),
    (19, .row 6 [[.int .i64 (1), .int .i64 (1), .int .i64 (3), .int .i64 (3), .int .i64 (2), .int .i64 (1)]] 130),
    (68, .row 6 [[.int .i64 (2), .int .i64 (1), .int .i64 (4), .int .i64 (1), .int .i64 (2), .int .i64 (1)]] 130),
    (25, .row 6 [[.int .i64 (1), .int .i64 (2), .int .i64 (1), .int .i64 (1), .int .i64 (4), .int .i64 (2)]] 130),
    (85, .row 6 [[.int .i64 (2), .int .i64 (4), .int .i64 (1), .int .i64 (1), .int .i64 (1), .int .i64 (2)]] 130),
    (102, .row 6 [[.int .i64 (3), .int .i64 (3), .int .i64 (2), .int .i64 (1), .int .i64 (1), .int .i64 (1)]] 130),
    (4, .row 6 [[.int .i64 (1), .int .i64 (1), .int .i64 (1), .int .i64 (1), .int .i64 (4), .int .i64 (3)], [.int .i64 (1), .int .i64 (1), .int .i64 (1), .int .i64 (2), .int .i64 (2), .int .i64 (4)], [.int .i64 (1), .int .i64 (1), .int .i64 (1), .int .i64 (2), .int .i64 (4), .int .i64 (2)], [.int .i64 (1), .int .i64 (1), .int .i64 (1), .int .i64 (3), .int .i64 (2), .int .i64 (3)], [.int .i64 (1), .int .i64 (1), .int .i64 (1), .int .i64 (3), .int .i64 (4), .int .i64 (1)], [.int .i64 (1), .int .i64 (1), .int .i64 (1), .int .i64 (4), .int .i64 (2), .int .i64 (2)], [.int .i64 (1), .int .i64 (1), .int .i64 (2), .int .i64 (1), .int .i64 (3), .int .i64 (3)], [.int .i64 (1), .int .i64 (1), .int .i64 (2), .int .i64 (2), .int .i64 (1), .int .i64 (4)], [.int .i64 (1), .int .i64 (1), .int .i64 (2), .int .i64 (2), .int .i64 (3), .int .i64 (2)], [.int .i64 (1), .int .i64 (1), .int .i64 (2), .int .i64 (3), .int .i64 (1), .int .i64 (3)], [.int .i64 (1), .int .i64 (1), .int .i64 (2), .int .i64 (3), .int .i64 (3), .int .i64 (1)], [.int .i64 (1), .int .i64 (1), .int .i64 (2), .int .i64 (4), .int .i64 (1), .int .i64 (2)], [.int .i64 (1), .int .i64 (1), .int .i64 (3), .int .i64 (1), .int .i64 (2), .int .i64 (3)], [.int .i64 (1), .int .i64 (1), .int .i64 (3), .int .i64 (1), .int .i64 (4), .int .i64 (1)], [.int .i64 (1), .int .i64 (1), .int .i64 (3), .int .i64 (2), .int .i64 (2), .int .i64 (2)], [.int .i64 (1), .int .i64 (1), .int .i64 (3), .int .i64 (3), .int .i64 (2), .int .i64 (1)], [.int .i64 (1), .int .i64 (1), .int .i64 (4), .int .i64 (1), .int .i64 (1), .int .i64 (3)], [.int .i64 (1), .int .i64 (1), .int .i64 (4), .int .i64 (1), .int .i64 (3), .int .i64 (1)], [.int .i64 (1), .int .i64 (1), .int .i64 (4), .int .i64 (2), .int .i64 (1), .int .i64 (2)], [.int .i64 (1), .int .i64 (1), .int .i64 (4), .int .i64 (3), .int .i64 (1), .int .i64 (1)], [.int .i64 (1), .int .i64 (2), .int .i64 (1), .int .i64 (1), .int .i64 (2), .int .i64 (4)], [.int .i64 (1), .int .i64 (2), .int .i64 (1), .int .i64 (1), .int .i64 (4), .int .i64 (2)], [.int .i64 (1), .int .i64 (2), .int .i64 (1), .int .i64 (2), .int .i64 (2), .int .i64 (3)], [.int .i64 (1), .int .i64 (2), .int .i64 (1), .int .i64 (2), .int .i64 (4), .int .i64 (1)], [.int .i64 (1), .int .i64 (2), .int .i64 (1), .int .i64 (3), .int .i64 (2), .int .i64 (2)], [.int .i64 (1), .int .i64 (2), .int .i64 (1), .int .i64 (4), .int .i64 (2), .int .i64 (1)], [.int .i64 (1), .int .i64 (2), .int .i64 (2), .int .i64 (1), .int .i64 (1), .int .i64 (4)], [.int .i64 (1), .int .i64 (2), .int .i64 (2), .int .i64 (1), .int .i64 (3), .int .i64 (2)], [.int .i64 (1), .int .i64 (2), .int .i64 (2), .int .i64 (2), .int .i64 (1), .int .i64 (3)], [.int .i64 (1), .int .i64 (2), .int .i64 (2), .int .i64 (2), .int .i64 (3), .int .i64 (1)], [.int .i64 (1), .int .i64 (2), .int .i64 (2), .int .i64 (3), .int .i64 (1), .int .i64 (2)], [.int .i64 (1), .int .i64 (2), .int .i64 (2), .int .i64 (4), .int .i64 (1), .int .i64 (1)], [.int .i64 (1), .int .i64 (2), .int .i64 (3), .int .i64 (1), .int .i64 (2), .int .i64 (2)], [.int .i64 (1), .int .i64 (2), .int .i64 (3), .int .i64 (2), .int .i64 (2), .int .i64 (1)], [.int .i64 (1), .int .i64 (2), .int .i64 (4), .int .i64 (1), .int .i64 (1), .int .i64 (2)], [.int .i64 (1), .int .i64 (2), .int .i64 (4), .int .i64 (2), .int .i64 (1), .int .i64 (1)], [.int .i64 (1), .int .i64 (3), .int .i64 (1), .int .i64 (1), .int .i64 (2), .int .i64 (3)], [.int .i64 (1), .int .i64 (3), .int .i64 (1), .int .i64 (1), .int .i64 (4), .int .i64 (1)], [.int .i64 (1), .int .i64 (3), .int .i64 (1), .int .i64 (2), .int .i64 (2), .int .i64 (2)], [.int .i64 (1), .int .i64 (3), .int .i64 (1), .int .i64 (3), .int .i64 (2), .int .i64 (1)], [.int .i64 (1), .int .i64 (3), .int .i64 (2), .int .i64 (1), .int .i64 (1), .int .i64 (3)], [.int .i64 (1), .int .i64 (3), .int .i64 (2), .int .i64 (1), .int .i64 (3), .int .i64 (1)], [.int .i64 (1), .int .i64 (3), .int .i64 (2), .int .i64 (2), .int .i64 (1), .int .i64 (2)], [.int .i64 (1), .int .i64 (3), .int .i64 (2), .int .i64 (3), .int .i64 (1), .int .i64 (1)], [.int .i64 (1), .int .i64 (3), .int .i64 (3), .int .i64 (1), .int .i64 (2), .int .i64 (1)], [.int .i64 (1), .int .i64 (3), .int .i64 (4), .int .i64 (1), .int .i64 (1), .int .i64 (1)], [.int .i64 (1), .int .i64 (4), .int .i64 (1), .int .i64 (1), .int .i64 (2), .int .i64 (2)], [.int .i64 (1), .int .i64 (4), .int .i64 (1), .int .i64 (2), .int .i64 (2), .int .i64 (1)], [.int .i64 (1), .int .i64 (4), .int .i64 (2), .int .i64 (1), .int .i64 (1), .int .i64 (2)], [.int .i64 (1), .int .i64 (4), .int .i64 (2), .int .i64 (2), .int .i64 (1), .int .i64 (1)], [.int .i64 (2), .int .i64 (1), .int .i64 (1), .int .i64 (1), .int .i64 (3), .int .i64 (3)], [.int .i64 (2), .int .i64 (1), .int .i64 (1), .int .i64 (2), .int .i64 (1), .int .i64 (4)], [.int .i64 (2), .int .i64 (1), .int .i64 (1), .int .i64 (2), .int .i64 (3), .int .i64 (2)], [.int .i64 (2), .int .i64 (1), .int .i64 (1), .int .i64 (3), .int .i64 (1), .int .i64 (3)], [.int .i64 (2), .int .i64 (1), .int .i64 (1), .int .i64 (3), .int .i64 (3), .int .i64 (1)], [.int .i64 (2), .int .i64 (1), .int .i64 (1), .int .i64 (4), .int .i64 (1), .int .i64 (2)], [.int .i64 (2), .int .i64 (1), .int .i64 (2), .int .i64 (1), .int .i64 (2), .int .i64 (3)], [.int .i64 (2), .int .i64 (1), .int .i64 (2), .int .i64 (1), .int .i64 (4), .int .i64 (1)], [.int .i64 (2), .int .i64 (1), .int .i64 (2), .int .i64 (2), .int .i64 (2), .int .i64 (2)], [.int .i64 (2), .int .i64 (1), .int .i64 (2), .int .i64 (3), .int .i64 (2), .int .i64 (1)], [.int .i64 (2), .int .i64 (1), .int .i64 (3), .int .i64 (1), .int .i64 (1), .int .i64 (3)], [.int .i64 (2), .int .i64 (1), .int .i64 (3), .int .i64 (1), .int .i64 (3), .int .i64 (1)], [.int .i64 (2), .int .i64 (1), .int .i64 (3), .int .i64 (2), .int .i64 (1), .int .i64 (2)], [.int .i64 (2), .int .i64 (1), .int .i64 (3), .int .i64 (3), .int .i64 (1), .int .i64 (1)], [.int .i64 (2), .int .i64 (1), .int .i64 (4), .int .i64 (1), .int .i64 (2), .int .i64 (1)], [.int .i64 (2), .int .i64 (2), .int .i64 (1), .int .i64 (1), .int .i64 (1), .int .i64 (4)], [.int .i64 (2), .int .i64 (2), .int .i64 (1), .int .i64 (1), .int .i64 (3), .int .i64 (2)], [.int .i64 (2), .int .i64 (2), .int .i64 (1), .int .i64 (2), .int .i64 (1), .int .i64 (3)], [.int .i64 (2), .int .i64 (2), .int .i64 (1), .int .i64 (2), .int .i64 (3), .int .i64 (1)], [.int .i64 (2), .int .i64 (2), .int .i64 (1), .int .i64 (3), .int .i64 (1), .int .i64 (2)], [.int .i64 (2), .int .i64 (2), .int .i64 (1), .int .i64 (4), .int .i64 (1), .int .i64 (1)], [.int .i64 (2), .int .i64 (2), .int .i64 (2), .int .i64 (1), .int .i64 (2), .int .i64 (2)], [.int .i64 (2), .int .i64 (2), .int .i64 (2), .int .i64 (2), .int .i64 (2), .int .i64 (1)], [.int .i64 (2), .int .i64 (2), .int .i64 (3), .int .i64 (1), .int .i64 (1), .int .i64 (2)], [.int .i64 (2), .int .i64 (2), .int .i64 (3), .int .i64 (2), .int .i64 (1), .int .i64 (1)], [.int .i64 (2), .int .i64 (3), .int .i64 (1), .int .i64 (1), .int .i64 (1), .int .i64 (3)], [.int .i64 (2), .int .i64 (3), .int .i64 (1), .int .i64 (1), .int .i64 (3), .int .i64 (1)], [.int .i64 (2), .int .i64 (3), .int .i64 (1), .int .i64 (2), .int .i64 (1), .int .i64 (2)], [.int .i64 (2), .int .i64 (3), .int .i64 (1), .int .i64 (3), .int .i64 (1), .int .i64 (1)], [.int .i64 (2), .int .i64 (3), .int .i64 (2), .int .i64 (1), .int .i64 (2), .int .i64 (1)], [.int .i64 (2), .int .i64 (3), .int .i64 (3), .int .i64 (1), .int .i64 (1), .int .i64 (1)], [.int .i64 (2), .int .i64 (4), .int .i64 (1), .int .i64 (1), .int .i64 (1), .int .i64 (2)], [.int .i64 (2), .int .i64 (4), .int .i64 (1), .int .i64 (2), .int .i64 (1), .int .i64 (1)], [.int .i64 (3), .int .i64 (1), .int .i64 (1), .int .i64 (1), .int .i64 (2), .int .i64 (3)], [.int .i64 (3), .int .i64 (1), .int .i64 (1), .int .i64 (1), .int .i64 (4), .int .i64 (1)], [.int .i64 (3), .int .i64 (1), .int .i64 (1), .int .i64 (2), .int .i64 (2), .int .i64 (2)], [.int .i64 (3), .int .i64 (1), .int .i64 (1), .int .i64 (3), .int .i64 (2), .int .i64 (1)], [.int .i64 (3), .int .i64 (1), .int .i64 (2), .int .i64 (1), .int .i64 (1), .int .i64 (3)], [.int .i64 (3), .int .i64 (1), .int .i64 (2), .int .i64 (1), .int .i64 (3), .int .i64 (1)], [.int .i64 (3), .int .i64 (1), .int .i64 (2), .int .i64 (2), .int .i64 (1), .int .i64 (2)], [.int .i64 (3), .int .i64 (1), .int .i64 (2), .int .i64 (3), .int .i64 (1), .int .i64 (1)], [.int .i64 (3), .int .i64 (1), .int .i64 (3), .int .i64 (1), .int .i64 (2), .int .i64 (1)], [.int .i64 (3), .int .i64 (1), .int .i64 (4), .int .i64 (1), .int .i64 (1), .int .i64 (1)], [.int .i64 (3), .int .i64 (2), .int .i64 (1), .int .i64 (1), .int .i64 (2), .int .i64 (2)], [.int .i64 (3), .int .i64 (2), .int .i64 (1), .int .i64 (2), .int .i64 (2), .int .i64 (1)], [.int .i64 (3), .int .i64 (2), .int .i64 (2), .int .i64 (1), .int .i64 (1), .int .i64 (2)], [.int .i64 (3), .int .i64 (2), .int .i64 (2), .int .i64 (2), .int .i64 (1), .int .i64 (1)], [.int .i64 (3), .int .i64 (3), .int .i64 (1), .int .i64 (1), .int .i64 (2), .int .i64 (1)], [.int .i64 (3), .int .i64 (3), .int .i64 (2), .int .i64 (1), .int .i64 (1), .int .i64 (1)]] 130),
    (35, .row 6 [[.int .i64 (1), .int .i64 (2), .int .i64 (2), .int .i64 (4), .int .i64 (1), .int .i64 (1)]] 130),
    (15, .row 6 [[.int .i64 (1), .int .i64 (1), .int .i64 (2), .int .i64 (4), .int .i64 (1), .int .i64 (2)]] 130),
    (86, .row 6 [[.int .i64 (2), .int .i64 (4), .int .i64 (1), .int .i64 (2), .int .i64 (1), .int .i64 (1)]] 130),
    (44, .row 6 [[.int .i64 (1), .int .i64 (3), .int .i64 (2), .int .i64 (1), .int .i64 (1), .int .i64 (3)]] 130),
    (6, .row 6 [[.int .i64 (1), .int .i64 (1), .int .i64 (1), .int .i64 (2), .int .i64 (4), .int .i64 (2)]] 130),
    (26, .row 6 [[.int .i64 (1), .int .i64 (2), .int .i64 (1), .int .i64 (2), .int .i64 (2), .int .i64 (3)]] 130),
    (69, .row 6 [[.int .i64 (2), .int .i64 (2), .int .i64 (1), .int .i64 (1), .int .i64 (1), .int .i64 (4)]] 130),
    (45, .row 6 [[.int .i64 (1), .int .i64 (3), .int .i64 (2), .int .i64 (1), .int .i64 (3), .int .i64 (1)]] 130),
    (0, .box [.osl 4 99] 126),
    (70, .row 6 [[.int .i64 (2), .int .i64 (2), .int .i64 (1), .int .i64 (1), .int .i64 (3), .int .i64 (2)]] 130),
    (36, .row 6 [[.int .i64 (1), .int .i64 (2), .int .i64 (3), .int .i64 (1), .int .i64 (2), .int .i64 (2)]] 130),
    (46, .row 6 [[.int .i64 (1), .int .i64 (3), .int .i64 (2), .int .i64 (2), .int .i64 (1), .int .i64 (2)]] 130),
    (54, .row 6 [[.int .i64 (2), .int .i64 (1), .int .i64 (1), .int .i64 (1), .int .i64 (3), .int .i64 (3)]] 130),
    (71, .row 6 [[.int .i64 (2), .int .i64 (2), .int .i64 (1), .int .i64 (2), .int .i64 (1), .int .i64 (3)]] 130),
    (11, .row 6 [[.int .i64 (1), .int .i64 (1), .int .i64 (2), .int .i64 (2), .int .i64 (1), .int .i64 (4)]] 130),
    (27, .row 6 [[.int .i64 (1), .int .i64 (2), .int .i64 (1), .int .i64 (2), .int .i64 (4), .int .i64 (1)]] 130)],
   103, .tup [],
   [(80, .row 6 [[.int .i64 (2), .int .i64 (3), .int .i64 (1), .int .i64 (1), .int .i64 (3), .int .i64 (1)]] 130),
    (40, .row 6 [[.int .i64 (1), .int .i64 (3), .int .i64 (1), .int .i64 (1), .int .i64 (2), .int .i64 (3)]] 130),
    (98, .row 6 [[.int .i64 (3), .int .i64 (2), .int .i64 (1), .int .i64 (2), .int .i64 (2), .int .i64 (1)]] 130),
    (18, .row 6 [[.int .i64 (1), .int .i64 (1), .int .i64 (3), .int .i64 (2), .int .i64 (2), .int .i64 (2)]] 130),
    (81, .row 6 [[.int .i64 (2), .int .i64 (3), .int .i64 (1), .int .i64 (2), .int .i64 (1), .int .i64 (2)]] 130),
    (51, .row 6 [[.int .i64 (1), .int .i64 (4), .int .i64 (1), .int .i64 (2), .int .i64 (2), .int .i64 (1)]] 130),
    (3, .row 6 [[.int .i64 (1), .int .i64 (1), .int .i64 (1), .int .i64 (1), .int .i64 (4), .int .i64 (3)]] 130),
    (41, .row 6 [[.int .i64 (1), .int .i64 (3), .int .i64 (1), .int .i64 (1), .int .i64 (4), .int .i64 (1)]] 130),
    (82, .row 6 [[.int .i64 (2), .int .i64 (3), .int .i64 (1), .int .i64 (3), .int .i64 (1), .int .i64 (1)]] 130),
    (99, .row 6 [[.int .i64 (3), .int .i64 (2), .int .i64 (2), .int .i64 (1), .int .i64 (1), .int .i64 (2)]] 130),
    (64, .row 6 [[.int .i64 (2), .int .i64 (1), .int .i64 (3), .int .i64 (1), .int .i64 (1), .int .i64 (3)]] 130),
    (32, .row 6 [[.int .i64 (1), .int .i64 (2), .int .i64 (2), .int .i64 (2), .int .i64 (1), .int .i64 (3)]] 130),
    (8, .row 6 [[.int .i64 (1), .int .i64 (1), .int .i64 (1), .int .i64 (3), .int .i64 (4), .int .i64 (1)]] 130),
    (100, .row 6 [[.int .i64 (3), .int .i64 (2), .int .i64 (2), .int .i64 (2), .int .i64 (1), .int .i64 (1)]] 130),
    (65, .row 6 [[.int .i64 (2), .int .i64 (1), .int .i64 (3), .int .i64 (1), .int .i64 (3), .int .i64 (1)]] 130),
    (14, .row 6 [[.int .i64 (1), .int .i64 (1), .int .i64 (2), .int .i64 (3), .int .i64 (3), .int .i64 (1)]] 130),
    (83, .row 6 [[.int .i64 (2), .int .i64 (3), .int .i64 (2), .int .i64 (1), .int .i64 (2), .int .i64 (1)]] 130),
    (42, .row 6 [[.int .i64 (1), .int .i64 (3), .int .i64 (1), .int .i64 (2), .int .i64 (2), .int .i64 (2)]] 130),
    (66, .row 6 [[.int .i64 (2), .int .i64 (1), .int .i64 (3), .int .i64 (2), .int .i64 (1), .int .i64 (2)]] 130),
    (52, .row 6 [[.int .i64 (1), .int .i64 (4), .int .i64 (2), .int .i64 (1), .int .i64 (1), .int .i64 (2)]] 130),
    (33, .row 6 [[.int .i64 (1), .int .i64 (2), .int .i64 (2), .int .i64 (2), .int .i64 (3), .int .i64 (1)]] 130),
    (24, .row 6 [[.int .i64 (1), .int .i64 (2), .int .i64 (1), .int .i64 (1), .int .i64 (2), .int .i64 (4)]] 130),
    (67, .row 6 [[.int .i64 (2), .int .i64 (1), .int .i64 (3), .int .i64 (3), .int .i64 (1), .int .i64 (1)]] 130),
    (84, .row 6 [[.int .i64 (2), .int .i64 (3), .int .i64 (3), .int .i64 (1), .int .i64 (1), .int .i64 (1)]] 130),
    (10, .row 6 [[.int .i64 (1), .int .i64 (1), .int .i64 (2), .int .i64 (1), .int .i64 (3), .int .i64 (3)]] 130),
    (53, .row 6 [[.int .i64 (1), .int .i64 (4), .int .i64 (2), .int .i64 (2), .int .i64 (1), .int .i64 (1)]] 130),
    (101, .row 6 [[.int .i64 (3), .int .i64 (3), .int .i64 (1), .int .i64 (1), .int .i64 (2), .int .i64 (1)]] 130),
    (34, .row 6 [[.int .i64 (1), .int .i64 (2), .int .i64 (2), .int .i64 (3), .int .i64 (1), .int .i64 (2)]] 130),
    (43, .row 6 [[.int .i64 (1), .int .i64 (3), .int .i64 (1), .int .i64 (3), .int .i64 (2), .int .i64 (1)]] 130),
    (19, .row 6 [[.int .i64 (1), .int .i64 (1), .int .i64 (3), .int .i64 (3), .int .i64 (2), .int .i64 (1)]] 130),
    (68, .row 6 [[.int .i64 (2), .int .i64 (1), .int .i64 (4), .int .i64 (1), .int .i64 (2), .int .i64 (1)]] 130),
    (25, .row 6 [[.int .i64 (1), .int .i64 (2), .int .i64 (1), .int .i64 (1), .int .i64 (4), .int .i64 (2)]] 130),
    (85, .row 6 [[.int .i64 (2), .int .i64 (4), .int .i64 (1), .int .i64 (1), .int .i64 (1), .int .i64 (2)]] 130),
    (102, .row 6 [[.int .i64 (3), .int .i64 (3), .int .i64 (2), .int .i64 (1), .int .i64 (1), .int .i64 (1)]] 130),
    (4, .row 6 [[.int .i64 (1), .int .i64 (1), .int .i64 (1), .int .i64 (1), .int .i64 (4), .int .i64 (3)], [.int .i64 (1), .int .i64 (1), .int .i64 (1), .int .i64 (2), .int .i64 (2), .int .i64 (4)], [.int .i64 (1), .int .i64 (1), .int .i64 (1), .int .i64 (2), .int .i64 (4), .int .i64 (2)], [.int .i64 (1), .int .i64 (1), .int .i64 (1), .int .i64 (3), .int .i64 (2), .int .i64 (3)], [.int .i64 (1), .int .i64 (1), .int .i64 (1), .int .i64 (3), .int .i64 (4), .int .i64 (1)], [.int .i64 (1), .int .i64 (1), .int .i64 (1), .int .i64 (4), .int .i64 (2), .int .i64 (2)], [.int .i64 (1), .int .i64 (1), .int .i64 (2), .int .i64 (1), .int .i64 (3), .int .i64 (3)], [.int .i64 (1), .int .i64 (1), .int .i64 (2), .int .i64 (2), .int .i64 (1), .int .i64 (4)], [.int .i64 (1), .int .i64 (1), .int .i64 (2), .int .i64 (2), .int .i64 (3), .int .i64 (2)], [.int .i64 (1), .int .i64 (1), .int .i64 (2), .int .i64 (3), .int .i64 (1), .int .i64 (3)], [.int .i64 (1), .int .i64 (1), .int .i64 (2), .int .i64 (3), .int .i64 (3), .int .i64 (1)], [.int .i64 (1), .int .i64 (1), .int .i64 (2), .int .i64 (4), .int .i64 (1), .int .i64 (2)], [.int .i64 (1), .int .i64 (1), .int .i64 (3), .int .i64 (1), .int .i64 (2), .int .i64 (3)], [.int .i64 (1), .int .i64 (1), .int .i64 (3), .int .i64 (1), .int .i64 (4), .int .i64 (1)], [.int .i64 (1), .int .i64 (1), .int .i64 (3), .int .i64 (2), .int .i64 (2), .int .i64 (2)], [.int .i64 (1), .int .i64 (1), .int .i64 (3), .int .i64 (3), .int .i64 (2), .int .i64 (1)], [.int .i64 (1), .int .i64 (1), .int .i64 (4), .int .i64 (1), .int .i64 (1), .int .i64 (3)], [.int .i64 (1), .int .i64 (1), .int .i64 (4), .int .i64 (1), .int .i64 (3), .int .i64 (1)], [.int .i64 (1), .int .i64 (1), .int .i64 (4), .int .i64 (2), .int .i64 (1), .int .i64 (2)], [.int .i64 (1), .int .i64 (1), .int .i64 (4), .int .i64 (3), .int .i64 (1), .int .i64 (1)], [.int .i64 (1), .int .i64 (2), .int .i64 (1), .int .i64 (1), .int .i64 (2), .int .i64 (4)], [.int .i64 (1), .int .i64 (2), .int .i64 (1), .int .i64 (1), .int .i64 (4), .int .i64 (2)], [.int .i64 (1), .int .i64 (2), .int .i64 (1), .int .i64 (2), .int .i64 (2), .int .i64 (3)], [.int .i64 (1), .int .i64 (2), .int .i64 (1), .int .i64 (2), .int .i64 (4), .int .i64 (1)], [.int .i64 (1), .int .i64 (2), .int .i64 (1), .int .i64 (3), .int .i64 (2), .int .i64 (2)], [.int .i64 (1), .int .i64 (2), .int .i64 (1), .int .i64 (4), .int .i64 (2), .int .i64 (1)], [.int .i64 (1), .int .i64 (2), .int .i64 (2), .int .i64 (1), .int .i64 (1), .int .i64 (4)], [.int .i64 (1), .int .i64 (2), .int .i64 (2), .int .i64 (1), .int .i64 (3), .int .i64 (2)], [.int .i64 (1), .int .i64 (2), .int .i64 (2), .int .i64 (2), .int .i64 (1), .int .i64 (3)], [.int .i64 (1), .int .i64 (2), .int .i64 (2), .int .i64 (2), .int .i64 (3), .int .i64 (1)], [.int .i64 (1), .int .i64 (2), .int .i64 (2), .int .i64 (3), .int .i64 (1), .int .i64 (2)], [.int .i64 (1), .int .i64 (2), .int .i64 (2), .int .i64 (4), .int .i64 (1), .int .i64 (1)], [.int .i64 (1), .int .i64 (2), .int .i64 (3), .int .i64 (1), .int .i64 (2), .int .i64 (2)], [.int .i64 (1), .int .i64 (2), .int .i64 (3), .int .i64 (2), .int .i64 (2), .int .i64 (1)], [.int .i64 (1), .int .i64 (2), .int .i64 (4), .int .i64 (1), .int .i64 (1), .int .i64 (2)], [.int .i64 (1), .int .i64 (2), .int .i64 (4), .int .i64 (2), .int .i64 (1), .int .i64 (1)], [.int .i64 (1), .int .i64 (3), .int .i64 (1), .int .i64 (1), .int .i64 (2), .int .i64 (3)], [.int .i64 (1), .int .i64 (3), .int .i64 (1), .int .i64 (1), .int .i64 (4), .int .i64 (1)], [.int .i64 (1), .int .i64 (3), .int .i64 (1), .int .i64 (2), .int .i64 (2), .int .i64 (2)], [.int .i64 (1), .int .i64 (3), .int .i64 (1), .int .i64 (3), .int .i64 (2), .int .i64 (1)], [.int .i64 (1), .int .i64 (3), .int .i64 (2), .int .i64 (1), .int .i64 (1), .int .i64 (3)], [.int .i64 (1), .int .i64 (3), .int .i64 (2), .int .i64 (1), .int .i64 (3), .int .i64 (1)], [.int .i64 (1), .int .i64 (3), .int .i64 (2), .int .i64 (2), .int .i64 (1), .int .i64 (2)], [.int .i64 (1), .int .i64 (3), .int .i64 (2), .int .i64 (3), .int .i64 (1), .int .i64 (1)], [.int .i64 (1), .int .i64 (3), .int .i64 (3), .int .i64 (1), .int .i64 (2), .int .i64 (1)], [.int .i64 (1), .int .i64 (3), .int .i64 (4), .int .i64 (1), .int .i64 (1), .int .i64 (1)], [.int .i64 (1), .int .i64 (4), .int .i64 (1), .int .i64 (1), .int .i64 (2), .int .i64 (2)], [.int .i64 (1), .int .i64 (4), .int .i64 (1), .int .i64 (2), .int .i64 (2), .int .i64 (1)], [.int .i64 (1), .int .i64 (4), .int .i64 (2), .int .i64 (1), .int .i64 (1), .int .i64 (2)], [.int .i64 (1), .int .i64 (4), .int .i64 (2), .int .i64 (2), .int .i64 (1), .int .i64 (1)], [.int .i64 (2), .int .i64 (1), .int .i64 (1), .int .i64 (1), .int .i64 (3), .int .i64 (3)], [.int .i64 (2), .int .i64 (1), .int .i64 (1), .int .i64 (2), .int .i64 (1), .int .i64 (4)], [.int .i64 (2), .int .i64 (1), .int .i64 (1), .int .i64 (2), .int .i64 (3), .int .i64 (2)], [.int .i64 (2), .int .i64 (1), .int .i64 (1), .int .i64 (3), .int .i64 (1), .int .i64 (3)], [.int .i64 (2), .int .i64 (1), .int .i64 (1), .int .i64 (3), .int .i64 (3), .int .i64 (1)], [.int .i64 (2), .int .i64 (1), .int .i64 (1), .int .i64 (4), .int .i64 (1), .int .i64 (2)], [.int .i64 (2), .int .i64 (1), .int .i64 (2), .int .i64 (1), .int .i64 (2), .int .i64 (3)], [.int .i64 (2), .int .i64 (1), .int .i64 (2), .int .i64 (1), .int .i64 (4), .int .i64 (1)], [.int .i64 (2), .int .i64 (1), .int .i64 (2), .int .i64 (2), .int .i64 (2), .int .i64 (2)], [.int .i64 (2), .int .i64 (1), .int .i64 (2), .int .i64 (3), .int .i64 (2), .int .i64 (1)], [.int .i64 (2), .int .i64 (1), .int .i64 (3), .int .i64 (1), .int .i64 (1), .int .i64 (3)], [.int .i64 (2), .int .i64 (1), .int .i64 (3), .int .i64 (1), .int .i64 (3), .int .i64 (1)], [.int .i64 (2), .int .i64 (1), .int .i64 (3), .int .i64 (2), .int .i64 (1), .int .i64 (2)], [.int .i64 (2), .int .i64 (1), .int .i64 (3), .int .i64 (3), .int .i64 (1), .int .i64 (1)], [.int .i64 (2), .int .i64 (1), .int .i64 (4), .int .i64 (1), .int .i64 (2), .int .i64 (1)], [.int .i64 (2), .int .i64 (2), .int .i64 (1), .int .i64 (1), .int .i64 (1), .int .i64 (4)], [.int .i64 (2), .int .i64 (2), .int .i64 (1), .int .i64 (1), .int .i64 (3), .int .i64 (2)], [.int .i64 (2), .int .i64 (2), .int .i64 (1), .int .i64 (2), .int .i64 (1), .int .i64 (3)], [.int .i64 (2), .int .i64 (2), .int .i64 (1), .int .i64 (2), .int .i64 (3), .int .i64 (1)], [.int .i64 (2), .int .i64 (2), .int .i64 (1), .int .i64 (3), .int .i64 (1), .int .i64 (2)], [.int .i64 (2), .int .i64 (2), .int .i64 (1), .int .i64 (4), .int .i64 (1), .int .i64 (1)], [.int .i64 (2), .int .i64 (2), .int .i64 (2), .int .i64 (1), .int .i64 (2), .int .i64 (2)], [.int .i64 (2), .int .i64 (2), .int .i64 (2), .int .i64 (2), .int .i64 (2), .int .i64 (1)], [.int .i64 (2), .int .i64 (2), .int .i64 (3), .int .i64 (1), .int .i64 (1), .int .i64 (2)], [.int .i64 (2), .int .i64 (2), .int .i64 (3), .int .i64 (2), .int .i64 (1), .int .i64 (1)], [.int .i64 (2), .int .i64 (3), .int .i64 (1), .int .i64 (1), .int .i64 (1), .int .i64 (3)], [.int .i64 (2), .int .i64 (3), .int .i64 (1), .int .i64 (1), .int .i64 (3), .int .i64 (1)], [.int .i64 (2), .int .i64 (3), .int .i64 (1), .int .i64 (2), .int .i64 (1), .int .i64 (2)], [.int .i64 (2), .int .i64 (3), .int .i64 (1), .int .i64 (3), .int .i64 (1), .int .i64 (1)], [.int .i64 (2), .int .i64 (3), .int .i64 (2), .int .i64 (1), .int .i64 (2), .int .i64 (1)], [.int .i64 (2), .int .i64 (3), .int .i64 (3), .int .i64 (1), .int .i64 (1), .int .i64 (1)], [.int .i64 (2), .int .i64 (4), .int .i64 (1), .int .i64 (1), .int .i64 (1), .int .i64 (2)], [.int .i64 (2), .int .i64 (4), .int .i64 (1), .int .i64 (2), .int .i64 (1), .int .i64 (1)], [.int .i64 (3), .int .i64 (1), .int .i64 (1), .int .i64 (1), .int .i64 (2), .int .i64 (3)], [.int .i64 (3), .int .i64 (1), .int .i64 (1), .int .i64 (1), .int .i64 (4), .int .i64 (1)], [.int .i64 (3), .int .i64 (1), .int .i64 (1), .int .i64 (2), .int .i64 (2), .int .i64 (2)], [.int .i64 (3), .int .i64 (1), .int .i64 (1), .int .i64 (3), .int .i64 (2), .int .i64 (1)], [.int .i64 (3), .int .i64 (1), .int .i64 (2), .int .i64 (1), .int .i64 (1), .int .i64 (3)], [.int .i64 (3), .int .i64 (1), .int .i64 (2), .int .i64 (1), .int .i64 (3), .int .i64 (1)], [.int .i64 (3), .int .i64 (1), .int .i64 (2), .int .i64 (2), .int .i64 (1), .int .i64 (2)], [.int .i64 (3), .int .i64 (1), .int .i64 (2), .int .i64 (3), .int .i64 (1), .int .i64 (1)], [.int .i64 (3), .int .i64 (1), .int .i64 (3), .int .i64 (1), .int .i64 (2), .int .i64 (1)], [.int .i64 (3), .int .i64 (1), .int .i64 (4), .int .i64 (1), .int .i64 (1), .int .i64 (1)], [.int .i64 (3), .int .i64 (2), .int .i64 (1), .int .i64 (1), .int .i64 (2), .int .i64 (2)], [.int .i64 (3), .int .i64 (2), .int .i64 (1), .int .i64 (2), .int .i64 (2), .int .i64 (1)], [.int .i64 (3), .int .i64 (2), .int .i64 (2), .int .i64 (1), .int .i64 (1), .int .i64 (2)], [.int .i64 (3), .int .i64 (2), .int .i64 (2), .int .i64 (2), .int .i64 (1), .int .i64 (1)], [.int .i64 (3), .int .i64 (3), .int .i64 (1), .int .i64 (1), .int .i64 (2), .int .i64 (1)], [.int .i64 (3), .int .i64 (3), .int .i64 (2), .int .i64 (1), .int .i64 (1), .int .i64 (1)], [.int .i64 (4), .int .i64 (1), .int .i64 (1), .int .i64 (1), .int .i64 (1), .int .i64 (3)], [.int .i64 (4), .int .i64 (1), .int .i64 (1), .int .i64 (1), .int .i64 (3), .int .i64 (1)], [.int .i64 (4), .int .i64 (1), .int .i64 (1), .int .i64 (2), .int .i64 (1), .int .i64 (2)], [.int .i64 (4), .int .i64 (1), .int .i64 (1), .int .i64 (3), .int .i64 (1), .int .i64 (1)], [.int .i64 (4), .int .i64 (1), .int .i64 (2), .int .i64 (1), .int .i64 (2), .int .i64 (1)], [.int .i64 (4), .int .i64 (1), .int .i64 (3), .int .i64 (1), .int .i64 (1), .int .i64 (1)], [.int .i64 (4), .int .i64 (2), .int .i64 (1), .int .i64 (1), .int .i64 (1), .int .i64 (2)], [.int .i64 (4), .int .i64 (2), .int .i64 (1), .int .i64 (2), .int .i64 (1), .int .i64 (1)], [.int .i64 (4), .int .i64 (3), .int .i64 (1), .int .i64 (1), .int .i64 (1), .int .i64 (1)]] 130),
    (35, .row 6 [[.int .i64 (1), .int .i64 (2), .int .i64 (2), .int .i64 (4), .int .i64 (1), .int .i64 (1)]] 130),
    (15, .row 6 [[.int .i64 (1), .int .i64 (1), .int .i64 (2), .int .i64 (4), .int .i64 (1), .int .i64 (2)]] 130),
    (86, .row 6 [[.int .i64 (2), .int .i64 (4), .int .i64 (1), .int .i64 (2), .int .i64 (1), .int .i64 (1)]] 130),
    (44, .row 6 [[.int .i64 (1), .int .i64 (3), .int .i64 (2), .int .i64 (1), .int .i64 (1), .int .i64 (3)]] 130),
    (6, .row 6 [[.int .i64 (1), .int .i64 (1), .int .i64 (1), .int .i64 (2), .int .i64 (4), .int .i64 (2)]] 130),
    (26, .row 6 [[.int .i64 (1), .int .i64 (2), .int .i64 (1), .int .i64 (2), .int .i64 (2), .int .i64 (3)]] 130),
    (69, .row 6 [[.int .i64 (2), .int .i64 (2), .int .i64 (1), .int .i64 (1), .int .i64 (1), .int .i64 (4)]] 130),
    (45, .row 6 [[.int .i64 (1), .int .i64 (3), .int .i64 (2), .int .i64 (1), .int .i64 (3), .int .i64 (1)]] 130),
    (0, .box [.osl 4 108] 126),
    (70, .row 6 [[.int .i64 (2), .int .i64 (2), .int .i64 (1), .int .i64 (1), .int .i64 (3), .int .i64 (2)]] 130),
    (36, .row 6 [[.int .i64 (1), .int .i64 (2), .int .i64 (3), .int .i64 (1), .int .i64 (2), .int .i64 (2)]] 130),
    (46, .row 6 [[.int .i64 (1), .int .i64 (3), .int .i64 (2), .int .i64 (2), .int .i64 (1), .int .i64 (2)]] 130),
    (54, .row 6 [[.int .i64 (2), .int .i64 (1), .int .i64 (1), .int .i64 (1), .int .i64 (3), .int .i64 (3)]] 130),
    (71, .row 6 [[.int .i64 (2), .int .i64 (2), .int .i64 (1), .int .i64 (2), .int .i64 (1), .int .i64 (3)]] 130),
    (11, .row 6 [[.int .i64 (1), .int .i64 (1), .int .i64 (2), .int .i64 (2), .int .i64 (1), .int .i64 (4)]] 130),
    (27, .row 6 [[.int .i64 (1), .int .i64 (2), .int .i64 (1), .int .i64 (2), .int .i64 (4), .int .i64 (1)]] 130),
    (103, .row 6 [[.int .i64 (4), .int .i64 (1), .int .i64 (1), .int .i64 (1), .int .i64 (1), .int .i64 (3)]] 130),
    (72, .row 6 [[.int .i64 (2), .int .i64 (2), .int .i64 (1), .int .i64 (2), .int .i64 (3), .int .i64 (1)]] 130),
    (87, .row 6 [[.int .i64 (3), .int .i64 (1), .int .i64 (1), .int .i64 (1), .int .i64 (2), .int .i64 (3)]] 130),
    (104, .row 6 [[.int .i64 (4), .int .i64 (1), .int .i64 (1), .int .i64 (1), .int .i64 (3), .int .i64 (1)]] 130),
    (20, .row 6 [[.int .i64 (1), .int .i64 (1), .int .i64 (4), .int .i64 (1), .int .i64 (1), .int .i64 (3)]] 130),
    (55, .row 6 [[.int .i64 (2), .int .i64 (1), .int .i64 (1), .int .i64 (2), .int .i64 (1), .int .i64 (4)]] 130),
    (105, .row 6 [[.int .i64 (4), .int .i64 (1), .int .i64 (1), .int .i64 (2), .int .i64 (1), .int .i64 (2)]] 130),
    (88, .row 6 [[.int .i64 (3), .int .i64 (1), .int .i64 (1), .int .i64 (1), .int .i64 (4), .int .i64 (1)]] 130),
    (73, .row 6 [[.int .i64 (2), .int .i64 (2), .int .i64 (1), .int .i64 (3), .int .i64 (1), .int .i64 (2)]] 130),
    (47, .row 6 [[.int .i64 (1), .int .i64 (3), .int .i64 (2), .int .i64 (3), .int .i64 (1), .int .i64 (1)]] 130),
    (106, .row 6 [[.int .i64 (4), .int .i64 (1), .int .i64 (1), .int .i64 (3), .int .i64 (1), .int .i64 (1)]] 130),
    (9, .row 6 [[.int .i64 (1), .int .i64 (1), .int .i64 (1), .int .i64 (4), .int .i64 (2), .int .i64 (2)]] 130),
    (89, .row 6 [[.int .i64 (3), .int .i64 (1), .int .i64 (1), .int .i64 (2), .int .i64 (2), .int .i64 (2)]] 130),
    (56, .row 6 [[.int .i64 (2), .int .i64 (1), .int .i64 (1), .int .i64 (2), .int .i64 (3), .int .i64 (2)]] 130),
    (74, .row 6 [[.int .i64 (2), .int .i64 (2), .int .i64 (1), .int .i64 (4), .int .i64 (1), .int .i64 (1)]] 130),
    (37, .row 6 [[.int .i64 (1), .int .i64 (2), .int .i64 (3), .int .i64 (2), .int .i64 (2), .int .i64 (1)]] 130),
    (107, .row 6 [[.int .i64 (4), .int .i64 (1), .int .i64 (2), .int .i64 (1), .int .i64 (2), .int .i64 (1)]] 130),
    (1, .box [.int .i64 (4), .int .i64 (4), .int .i64 (2), .int .i64 (1), .int .i64 (1), .int .i64 (1)] 130),
    (90, .row 6 [[.int .i64 (3), .int .i64 (1), .int .i64 (1), .int .i64 (3), .int .i64 (2), .int .i64 (1)]] 130),
    (28, .row 6 [[.int .i64 (1), .int .i64 (2), .int .i64 (1), .int .i64 (3), .int .i64 (2), .int .i64 (2)]] 130),
    (57, .row 6 [[.int .i64 (2), .int .i64 (1), .int .i64 (1), .int .i64 (3), .int .i64 (1), .int .i64 (3)]] 130),
    (75, .row 6 [[.int .i64 (2), .int .i64 (2), .int .i64 (2), .int .i64 (1), .int .i64 (2), .int .i64 (2)]] 130),
    (21, .row 6 [[.int .i64 (1), .int .i64 (1), .int .i64 (4), .int .i64 (1), .int .i64 (3), .int .i64 (1)]] 130),
    (108, .row 6 [[.int .i64 (4), .int .i64 (1), .int .i64 (3), .int .i64 (1), .int .i64 (1), .int .i64 (1)]] 130),
    (48, .row 6 [[.int .i64 (1), .int .i64 (3), .int .i64 (3), .int .i64 (1), .int .i64 (2), .int .i64 (1)]] 130),
    (91, .row 6 [[.int .i64 (3), .int .i64 (1), .int .i64 (2), .int .i64 (1), .int .i64 (1), .int .i64 (3)]] 130),
    (58, .row 6 [[.int .i64 (2), .int .i64 (1), .int .i64 (1), .int .i64 (3), .int .i64 (3), .int .i64 (1)]] 130),
    (16, .row 6 [[.int .i64 (1), .int .i64 (1), .int .i64 (3), .int .i64 (1), .int .i64 (2), .int .i64 (3)]] 130),
    (92, .row 6 [[.int .i64 (3), .int .i64 (1), .int .i64 (2), .int .i64 (1), .int .i64 (3), .int .i64 (1)]] 130),
    (76, .row 6 [[.int .i64 (2), .int .i64 (2), .int .i64 (2), .int .i64 (2), .int .i64 (2), .int .i64 (1)]] 130),
    (12, .row 6 [[.int .i64 (1), .int .i64 (1), .int .i64 (2), .int .i64 (2), .int .i64 (3), .int .i64 (2)]] 130),
    (109, .row 6 [[.int .i64 (4), .int .i64 (2), .int .i64 (1), .int .i64 (1), .int .i64 (1), .int .i64 (2)]] 130),
    (93, .row 6 [[.int .i64 (3), .int .i64 (1), .int .i64 (2), .int .i64 (2), .int .i64 (1), .int .i64 (2)]] 130),
    (59, .row 6 [[.int .i64 (2), .int .i64 (1), .int .i64 (1), .int .i64 (4), .int .i64 (1), .int .i64 (2)]] 130),
    (22, .row 6 [[.int .i64 (1), .int .i64 (1), .int .i64 (4), .int .i64 (2), .int .i64 (1), .int .i64 (2)]] 130),
    (110, .row 6 [[.int .i64 (4), .int .i64 (2), .int .i64 (1), .int .i64 (2), .int .i64 (1), .int .i64 (1)]] 130),
    (38, .row 6 [[.int .i64 (1), .int .i64 (2), .int .i64 (4), .int .i64 (1), .int .i64 (1), .int .i64 (2)]] 130),
    (94, .row 6 [[.int .i64 (3), .int .i64 (1), .int .i64 (2), .int .i64 (3), .int .i64 (1), .int .i64 (1)]] 130),
    (29, .row 6 [[.int .i64 (1), .int .i64 (2), .int .i64 (1), .int .i64 (4), .int .i64 (2), .int .i64 (1)]] 130),
    (2, .box [.fn 108 [.box 1 0, .box 0 0, .box 2 0]] 167),
    (77, .row 6 [[.int .i64 (2), .int .i64 (2), .int .i64 (3), .int .i64 (1), .int .i64 (1), .int .i64 (2)]] 130),
    (49, .row 6 [[.int .i64 (1), .int .i64 (3), .int .i64 (4), .int .i64 (1), .int .i64 (1), .int .i64 (1)]] 130),
    (60, .row 6 [[.int .i64 (2), .int .i64 (1), .int .i64 (2), .int .i64 (1), .int .i64 (2), .int .i64 (3)]] 130),
    (95, .row 6 [[.int .i64 (3), .int .i64 (1), .int .i64 (3), .int .i64 (1), .int .i64 (2), .int .i64 (1)]] 130),
    (17, .row 6 [[.int .i64 (1), .int .i64 (1), .int .i64 (3), .int .i64 (1), .int .i64 (4), .int .i64 (1)]] 130),
    (78, .row 6 [[.int .i64 (2), .int .i64 (2), .int .i64 (3), .int .i64 (2), .int .i64 (1), .int .i64 (1)]] 130),
    (39, .row 6 [[.int .i64 (1), .int .i64 (2), .int .i64 (4), .int .i64 (2), .int .i64 (1), .int .i64 (1)]] 130),
    (61, .row 6 [[.int .i64 (2), .int .i64 (1), .int .i64 (2), .int .i64 (1), .int .i64 (4), .int .i64 (1)]] 130),
    (111, .row 6 [[.int .i64 (4), .int .i64 (3), .int .i64 (1), .int .i64 (1), .int .i64 (1), .int .i64 (1)]] 130),
    (7, .row 6 [[.int .i64 (1), .int .i64 (1), .int .i64 (1), .int .i64 (3), .int .i64 (2), .int .i64 (3)]] 130),
    (30, .row 6 [[.int .i64 (1), .int .i64 (2), .int .i64 (2), .int .i64 (1), .int .i64 (1), .int .i64 (4)]] 130),
    (96, .row 6 [[.int .i64 (3), .int .i64 (1), .int .i64 (4), .int .i64 (1), .int .i64 (1), .int .i64 (1)]] 130),
    (23, .row 6 [[.int .i64 (1), .int .i64 (1), .int .i64 (4), .int .i64 (3), .int .i64 (1), .int .i64 (1)]] 130),
    (62, .row 6 [[.int .i64 (2), .int .i64 (1), .int .i64 (2), .int .i64 (2), .int .i64 (2), .int .i64 (2)]] 130),
    (5, .row 6 [[.int .i64 (1), .int .i64 (1), .int .i64 (1), .int .i64 (2), .int .i64 (2), .int .i64 (4)]] 130),
    (50, .row 6 [[.int .i64 (1), .int .i64 (4), .int .i64 (1), .int .i64 (1), .int .i64 (2), .int .i64 (2)]] 130),
    (31, .row 6 [[.int .i64 (1), .int .i64 (2), .int .i64 (2), .int .i64 (1), .int .i64 (3), .int .i64 (2)]] 130),
    (79, .row 6 [[.int .i64 (2), .int .i64 (3), .int .i64 (1), .int .i64 (1), .int .i64 (1), .int .i64 (3)]] 130),
    (97, .row 6 [[.int .i64 (3), .int .i64 (2), .int .i64 (1), .int .i64 (1), .int .i64 (2), .int .i64 (2)]] 130),
    (13, .row 6 [[.int .i64 (1), .int .i64 (1), .int .i64 (2), .int .i64 (3), .int .i64 (1), .int .i64 (3)]] 130),
    (63, .row 6 [[.int .i64 (2), .int .i64 (1), .int .i64 (2), .int .i64 (3), .int .i64 (2), .int .i64 (1)]] 130)],
   112⟩
theorem linear_patterns_1_f3_ok : FactOk Try.prog linear_patterns_1_f3 := FactOk.run ctx_ok 3000 20 (by kernel_rfl)
end Go.Proofs.Ytedjnjgnadbkaaa
/- The patterns of bars, by a run. -/
namespace Go.Proofs.Ytedjnjgnadbkaaa
open Go Go.RowKit

def pats : List (Int × Int × Int × Int × Int × Int) :=
  [(1, 1, 1, 1, 4, 3), (1, 1, 1, 2, 2, 4), (1, 1, 1, 2, 4, 2), (1, 1, 1, 3, 2, 3), (1, 1, 1, 3, 4, 1), (1, 1, 1, 4, 2, 2),
   (1, 1, 2, 1, 3, 3), (1, 1, 2, 2, 1, 4), (1, 1, 2, 2, 3, 2), (1, 1, 2, 3, 1, 3), (1, 1, 2, 3, 3, 1), (1, 1, 2, 4, 1, 2),
   (1, 1, 3, 1, 2, 3), (1, 1, 3, 1, 4, 1), (1, 1, 3, 2, 2, 2), (1, 1, 3, 3, 2, 1), (1, 1, 4, 1, 1, 3), (1, 1, 4, 1, 3, 1),
   (1, 1, 4, 2, 1, 2), (1, 1, 4, 3, 1, 1), (1, 2, 1, 1, 2, 4), (1, 2, 1, 1, 4, 2), (1, 2, 1, 2, 2, 3), (1, 2, 1, 2, 4, 1),
   (1, 2, 1, 3, 2, 2), (1, 2, 1, 4, 2, 1), (1, 2, 2, 1, 1, 4), (1, 2, 2, 1, 3, 2), (1, 2, 2, 2, 1, 3), (1, 2, 2, 2, 3, 1),
   (1, 2, 2, 3, 1, 2), (1, 2, 2, 4, 1, 1), (1, 2, 3, 1, 2, 2), (1, 2, 3, 2, 2, 1), (1, 2, 4, 1, 1, 2), (1, 2, 4, 2, 1, 1),
   (1, 3, 1, 1, 2, 3), (1, 3, 1, 1, 4, 1), (1, 3, 1, 2, 2, 2), (1, 3, 1, 3, 2, 1), (1, 3, 2, 1, 1, 3), (1, 3, 2, 1, 3, 1),
   (1, 3, 2, 2, 1, 2), (1, 3, 2, 3, 1, 1), (1, 3, 3, 1, 2, 1), (1, 3, 4, 1, 1, 1), (1, 4, 1, 1, 2, 2), (1, 4, 1, 2, 2, 1),
   (1, 4, 2, 1, 1, 2), (1, 4, 2, 2, 1, 1), (2, 1, 1, 1, 3, 3), (2, 1, 1, 2, 1, 4), (2, 1, 1, 2, 3, 2), (2, 1, 1, 3, 1, 3),
   (2, 1, 1, 3, 3, 1), (2, 1, 1, 4, 1, 2), (2, 1, 2, 1, 2, 3), (2, 1, 2, 1, 4, 1), (2, 1, 2, 2, 2, 2), (2, 1, 2, 3, 2, 1),
   (2, 1, 3, 1, 1, 3), (2, 1, 3, 1, 3, 1), (2, 1, 3, 2, 1, 2), (2, 1, 3, 3, 1, 1), (2, 1, 4, 1, 2, 1), (2, 2, 1, 1, 1, 4),
   (2, 2, 1, 1, 3, 2), (2, 2, 1, 2, 1, 3), (2, 2, 1, 2, 3, 1), (2, 2, 1, 3, 1, 2), (2, 2, 1, 4, 1, 1), (2, 2, 2, 1, 2, 2),
   (2, 2, 2, 2, 2, 1), (2, 2, 3, 1, 1, 2), (2, 2, 3, 2, 1, 1), (2, 3, 1, 1, 1, 3), (2, 3, 1, 1, 3, 1), (2, 3, 1, 2, 1, 2),
   (2, 3, 1, 3, 1, 1), (2, 3, 2, 1, 2, 1), (2, 3, 3, 1, 1, 1), (2, 4, 1, 1, 1, 2), (2, 4, 1, 2, 1, 1), (3, 1, 1, 1, 2, 3),
   (3, 1, 1, 1, 4, 1), (3, 1, 1, 2, 2, 2), (3, 1, 1, 3, 2, 1), (3, 1, 2, 1, 1, 3), (3, 1, 2, 1, 3, 1), (3, 1, 2, 2, 1, 2),
   (3, 1, 2, 3, 1, 1), (3, 1, 3, 1, 2, 1), (3, 1, 4, 1, 1, 1), (3, 2, 1, 1, 2, 2), (3, 2, 1, 2, 2, 1), (3, 2, 2, 1, 1, 2),
   (3, 2, 2, 2, 1, 1), (3, 3, 1, 1, 2, 1), (3, 3, 2, 1, 1, 1), (4, 1, 1, 1, 1, 3), (4, 1, 1, 1, 3, 1), (4, 1, 1, 2, 1, 2),
   (4, 1, 1, 3, 1, 1)]

abbrev patT : Ty := .pair (.int .i64) (.pair (.int .i64) (.pair (.int .i64) (.pair (.int .i64) (.pair (.int .i64) (.int .i64)))))
theorem linear_patterns_f : AF Try.prog 79 [] (.ro true 6 (pats.map fun p => Ty.cells true patT p)) := AF.runO ctx_ok 3000 20 [linear_patterns_1_f0, linear_patterns_1_f1, linear_patterns_1_f2, linear_patterns_1_f3] (by
  intro t ht
  simp only [List.mem_cons, List.not_mem_nil, or_false] at ht
  rcases ht with rfl | rfl | rfl | rfl
  · exact linear_patterns_1_f0_ok
  · exact linear_patterns_1_f1_ok
  · exact linear_patterns_1_f2_ok
  · exact linear_patterns_1_f3_ok) (by kernel_rfl)
def linear_patterns_r (_ : Nat) (_ : Unit) : Option (List (Int × Int × Int × Int × Int × Int) × Unit) := some (pats, ())
def linear_patterns_ctr : Ctr := ⟨.unit, .pair (.list patT) .unit, linear_patterns_r, 79⟩
theorem linear_patterns_ok : CtrOk Try.prog 79 linear_patterns_ctr := fun _ _ y h => by
  have h : some (pats, ()) = some y := h
  injection h with h
  subst h
  exact linear_patterns_f
end Go.Proofs.Ytedjnjgnadbkaaa
/- Residual programs of functions (printed by a program out of the code), checked by the kernel, and the contracts that follow. -/
namespace Go.Proofs.Ytedjnjgnadbkaaa
open Go Go.RowKit
set_option linter.unusedVariables false
def R_Total_l1 (fu : Nat) (a : (List (Int)) × (Unit)) (j0 : ((Int) × (Int)) → Option ((Int) × (Unit))) (v0 : (Int) × (Int)) : Option ((Int) × (Unit)) :=
  bif (decide (v0.2 < (List.length a.1 : Int))) then
    bif ((decide ((0 : Int) ≤ v0.2)) && (decide (v0.2 < (List.length a.1 : Int)))) then
    let v1 : Int := (List.getD a.1 (Int.toNat v0.2) 0)
    let v2 : Int := (IntKind.i64.wrap (v0.1 + v1))
    j0 ((v2, (IntKind.i64.wrap (v0.2 + (1 : Int)))))
    else none
  else
  let v1 : Int := v0.1
  some ((v1, ()))
def R_Total_r (fu : Nat) (a : (List (Int)) × (Unit)) : Option ((Int) × (Unit)) :=
  loopF (R_Total_l1 fu a) fu (((0 : Int), (0 : Int)))
def R_Total_an : An := (.n none .z (.n none .z (.n none (.n none .z (.n none (.n (some ⟨[6, 7, 2], [], [], [.reg 3 (.int .i64), .reg 8 (.int .i64)], 0, []⟩) (.n none .z (.n none .z (.n none (.n none (.n none .z .z) .z) .z))) .z) .z)) (.n none .z .z))))
noncomputable def R_Total_dc : List (Nat × Ctr) := []
def R_Total_ctr : Ctr := ⟨(.pair (.list (.int .i64)) .unit), (.pair (.int .i64) .unit), R_Total_r, 39⟩
theorem R_Total_ok : CtrOk Try.prog 39 R_Total_ctr := ctr_ok (l := R_Total_dc) (f := 12) (an := R_Total_an) trivial fun fu x => by kernel_rfl
def R_Patterns_j2 (fu : Nat) (j0 : ((Int) × (List (List (Int)))) → Option ((List (List (Int))) × (Unit))) (v1 : (Int) × (List (List (Int)))) : Option ((List (List (Int))) × (Unit)) :=
  j0 (((IntKind.i64.wrap (v1.1 + (1 : Int))), v1.2))
def R_Patterns_j4 (fu : Nat) (v0 : (Int) × (List (List (Int)))) (j1 : ((Int) × (List (List (Int)))) → Option ((List (List (Int))) × (Unit))) (v4 : (Bool) × ((List (List (Int))) × (List (Int)))) : Option ((List (List (Int))) × (Unit)) :=
  bif v4.1 then
    let v5 : List (Int) := v4.2.2
    bif (decide ((((List.length v4.2.1 : Int) + (List.length (v5 :: ([] : List (List (Int)))) : Int)) * (24 : Int)) ≤ (140737488355328 : Int))) then
    j1 ((v0.1, (v4.2.1 ++ (v5 :: ([] : List (List (Int)))))))
    else none
  else
  j1 ((v0.1, v4.2.1))
def R_Patterns_l3 (fu : Nat) (v0 : (Int) × (List (List (Int)))) (v2 : Int) (j1 : ((Int) × (List (List (Int)))) → Option ((List (List (Int))) × (Unit))) (j3 : ((Int) × ((Int) × ((List (List (Int))) × (List (Int))))) → Option ((List (List (Int))) × (Unit))) (v3 : (Int) × ((Int) × ((List (List (Int))) × (List (Int))))) : Option ((List (List (Int))) × (Unit)) :=
  bif (decide ((0 : Int) ≤ v3.2.1)) then
    bif ((decide ((0 : Int) ≤ (IntKind.i64.wrap ((2 : Int) * v3.2.1)))) && (decide ((IntKind.i64.wrap ((2 : Int) * v3.2.1)) ≤ (64 : Int)))) then
    bif (decide ((((List.length v3.2.2.2 : Int) + (List.length ((IntKind.i64.wrap ((1 : Int) + (bits BinOp.and IntKind.i64 (v2 / 2 ^ (Int.toNat (IntKind.i64.wrap ((2 : Int) * v3.2.1)))) (3 : Int)))) :: ([] : List (Int))) : Int)) * (8 : Int)) ≤ (140737488355328 : Int))) then
    bif ((decide ((0 : Int) ≤ (IntKind.i64.wrap ((5 : Int) - v3.2.1)))) && (decide ((IntKind.i64.wrap ((5 : Int) - v3.2.1)) < (List.length (v3.2.2.2 ++ ((IntKind.i64.wrap ((1 : Int) + (bits BinOp.and IntKind.i64 (v2 / 2 ^ (Int.toNat (IntKind.i64.wrap ((2 : Int) * v3.2.1)))) (3 : Int)))) :: ([] : List (Int)))) : Int)))) then
    let v4 : Int := (IntKind.i64.wrap (v3.1 + (List.getD (v3.2.2.2 ++ ((IntKind.i64.wrap ((1 : Int) + (bits BinOp.and IntKind.i64 (v2 / 2 ^ (Int.toNat (IntKind.i64.wrap ((2 : Int) * v3.2.1)))) (3 : Int)))) :: ([] : List (Int)))) (Int.toNat (IntKind.i64.wrap ((5 : Int) - v3.2.1))) 0)))
    let v5 : Int := (IntKind.i64.wrap (v3.2.1 - (1 : Int)))
    j3 ((v4, (v5, (v3.2.2.1, (v3.2.2.2 ++ ((IntKind.i64.wrap ((1 : Int) + (bits BinOp.and IntKind.i64 (v2 / 2 ^ (Int.toNat (IntKind.i64.wrap ((2 : Int) * v3.2.1)))) (3 : Int)))) :: ([] : List (Int))))))))
    else none
    else none
    else none
  else
  joinF (R_Patterns_j4 fu v0 j1) fun j4 =>
  bif (decide (v3.1 = (11 : Int))) then
    bif (decide ((0 : Int) < (List.length v3.2.2.2 : Int))) then
    bif (decide ((2 : Int) < (List.length v3.2.2.2 : Int))) then
    bif (decide ((4 : Int) < (List.length v3.2.2.2 : Int))) then
    j4 (((decide ((Int.tmod (IntKind.i64.wrap ((IntKind.i64.wrap ((List.getD v3.2.2.2 (Int.toNat (0 : Int)) 0) + (List.getD v3.2.2.2 (Int.toNat (2 : Int)) 0))) + (List.getD v3.2.2.2 (Int.toNat (4 : Int)) 0))) (2 : Int)) = (0 : Int))), (v3.2.2.1, v3.2.2.2)))
    else none
    else none
    else none
  else
  j4 ((false, (v3.2.2.1, v3.2.2.2)))
def R_Patterns_l1 (fu : Nat) (j0 : ((Int) × (List (List (Int)))) → Option ((List (List (Int))) × (Unit))) (v0 : (Int) × (List (List (Int)))) : Option ((List (List (Int))) × (Unit)) :=
  bif (decide (v0.1 < (4096 : Int))) then
    joinF (R_Patterns_j2 fu j0) fun j1 =>
    let v2 : Int := v0.1
    loopF (R_Patterns_l3 fu v0 v2 j1) fu (((0 : Int), ((5 : Int), (v0.2, ([] : List (Int))))))
  else
  some ((v0.2, ()))
def R_Patterns_r (fu : Nat) (a : Unit) : Option ((List (List (Int))) × (Unit)) :=
  loopF (R_Patterns_l1 fu) fu (((0 : Int), ([] : List (List (Int)))))
def R_Patterns_an : An := (.n none .z (.n none .z (.n none (.n none .z (.n none (.n (some ⟨[0], [], [(1, (.osl 0 0))], [.reg 6 (.int .i64), .row 0 true (.list (.int .i64)) 29 0], 1, [(1, (.list (.int .i64)), 29)]⟩) (.n none .z (.n none .z (.n (some ⟨[], [], [(1, (.osl 0 1))], [.reg 6 (.int .i64), .row 0 true (.list (.int .i64)) 29 1], 0, []⟩) (.n none (.n none .z (.n none .z (.n none .z (.n none (.n none .z (.n none (.n (some ⟨[1, 6, 2], [], [(3, (.osl 1 0))], [.reg 4 (.int .i64), .reg 5 (.int .i64), .row 0 true (.list (.int .i64)) 29 0, .row 1 true (.int .i64) 3 0], 1, [(3, (.int .i64), 3)]⟩) (.n none (.n none .z .z) (.n none (.n none (.n none .z .z) .z) .z)) .z) .z)) (.n (some ⟨[3, 6], [], [(1, (.osl 0 0))], [.reg 45 .bool, .row 0 true (.list (.int .i64)) 29 0, .row 1 true (.int .i64) 3 0], 0, []⟩) (.dr [] []) (.n none .z .z)))))) .z) .z))) .z) .z)) (.n none .z .z))))
noncomputable def R_Patterns_dc : List (Nat × Ctr) := []
def R_Patterns_ctr : Ctr := ⟨.unit, (.pair (.list (.list (.int .i64))) .unit), R_Patterns_r, 33⟩
theorem R_Patterns_ok : CtrOk Try.prog 33 R_Patterns_ctr := ctr_ok (l := R_Patterns_dc) (f := 12) (an := R_Patterns_an) trivial fun fu x => by kernel_rfl
def R_Within_r (fu : Nat) (a : (Int) × ((Int) × ((Int) × (Unit)))) : Option ((Bool) × (Unit)) :=
  bif (decide (a.2.1 ≤ a.1)) then
    let v0 : Bool := (decide (a.1 ≤ a.2.2.1))
    some ((v0, ()))
  else
  some ((false, ()))
def R_Within_an : An := (.n none .z (.n none .z .z))
noncomputable def R_Within_dc : List (Nat × Ctr) := []
def R_Within_ctr : Ctr := ⟨(.pair (.int .i64) (.pair (.int .i64) (.pair (.int .i64) .unit))), (.pair .bool .unit), R_Within_r, 20⟩
theorem R_Within_ok : CtrOk Try.prog 20 R_Within_ctr := ctr_ok (l := R_Within_dc) (f := 12) (an := R_Within_an) trivial fun fu x => by kernel_rfl
def linear_digits_j3 (fu : Nat) (v0 : (List (Int)) × (Int)) (v1 : (Int) × (List (Int))) (v2 : Bool) : Option ((List UInt8) × ((Int) × (Unit))) :=
  bif v2 then
    some ((([] : List UInt8), ((4 : Int), ())))
  else
  bif ((decide ((0 : Int) ≤ v0.2)) && (decide (v0.2 ≤ (List.length v1.2 : Int)))) then
  let v3 : List UInt8 := (bytesOf (List.drop (Int.toNat v0.2) (List.take (Int.toNat (List.length v1.2 : Int)) v1.2)))
  some ((v3, ((0 : Int), ())))
  else none
def linear_digits_l2 (fu : Nat) (v0 : (List (Int)) × (Int)) (j1 : ((Int) × (List (Int))) → Option ((List UInt8) × ((Int) × (Unit)))) (v1 : (Int) × (List (Int))) : Option ((List UInt8) × ((Int) × (Unit))) :=
  bif (decide (v1.1 < (List.length v0.1 : Int))) then
    bif ((decide ((0 : Int) ≤ v1.1)) && (decide (v1.1 < (List.length v0.1 : Int)))) then
    let v2 : Int := (List.getD v0.1 (Int.toNat v1.1) 0)
    bif (decide ((100 : Int) ≤ v2)) then
      some ((([] : List UInt8), ((4 : Int), ())))
    else
    bif (decide ((((List.length v1.2 : Int) + (List.length ((IntKind.u8.wrap (IntKind.i64.wrap ((48 : Int) + (IntKind.i64.wrap (Int.tdiv v2 (10 : Int)))))) :: ((IntKind.u8.wrap (IntKind.i64.wrap ((48 : Int) + (Int.tmod v2 (10 : Int))))) :: ([] : List (Int)))) : Int)) * (1 : Int)) ≤ (140737488355328 : Int))) then
    j1 (((IntKind.i64.wrap (v1.1 + (1 : Int))), (v1.2 ++ ((IntKind.u8.wrap (IntKind.i64.wrap ((48 : Int) + (IntKind.i64.wrap (Int.tdiv v2 (10 : Int)))))) :: ((IntKind.u8.wrap (IntKind.i64.wrap ((48 : Int) + (Int.tmod v2 (10 : Int))))) :: ([] : List (Int)))))))
    else none
    else none
  else
  joinF (linear_digits_j3 fu v0 v1) fun j2 =>
  bif (decide ((List.length v1.2 : Int) ≤ v0.2)) then
    j2 (true)
  else
  bif (decide (v0.2 = (1 : Int))) then
    bif (decide ((0 : Int) < (List.length v1.2 : Int))) then
    j2 ((decide ((List.getD v1.2 (Int.toNat (0 : Int)) 0) ≠ (48 : Int))))
    else none
  else
  j2 (false)
def linear_digits_j1 (fu : Nat) (v0 : (List (Int)) × (Int)) : Option ((List UInt8) × ((Int) × (Unit))) :=
  loopF (linear_digits_l2 fu v0) fu (((0 : Int), ([] : List (Int))))
def linear_digits_r (fu : Nat) (a : (List (Int)) × (Unit)) : Option ((List UInt8) × ((Int) × (Unit))) :=
  joinF (linear_digits_j1 fu) fun j0 =>
  bif (decide ((0 : Int) < (List.length a.1 : Int))) then
  let v1 : Int := (List.getD a.1 (Int.toNat (0 : Int)) 0)
  bif (decide (v1 = (100 : Int))) then
    bif (decide ((1 : Int) ≤ (List.length a.1 : Int))) then
    let v2 : List (Int) := (List.drop (Int.toNat (1 : Int)) (List.take (Int.toNat (List.length a.1 : Int)) a.1))
    j0 ((v2, (1 : Int)))
    else none
  else
  j0 ((a.1, (0 : Int)))
  else none
def linear_digits_an : An := (.n none .z (.n none .z (.n (some ⟨[], [], [], [.reg 0 (.ro false (.int .i64)), .reg 4 (.int .i64)], 0, []⟩) (.n none .z (.n none .z .z)) (.n none .z (.n none (.n none .z (.n none (.n (some ⟨[4, 14, 15], [], [(5, (.osl 0 0))], [.reg 16 (.int .i64), .row 0 true (.int .u8) 5 0], 1, [(5, (.int .u8), 5)]⟩) (.n none .z (.n none .z (.n none (.n none (.n none .z (.n none (.n none .z (.n none (.n none .z .z) .z)) .z)) .z) .z))) .z) .z)) (.n none (.n (some ⟨[5, 4], [0], [], [.reg 47 .bool], 0, []⟩) .z (.n none (.n none .z .z) .z)) (.n none .z .z)))))))
noncomputable def linear_digits_dc : List (Nat × Ctr) := []
def linear_digits_ctr : Ctr := ⟨(.pair (.list (.int .i64)) .unit), (.pair .str (.pair (.int .i64) .unit)), linear_digits_r, 82⟩
theorem linear_digits_ok : CtrOk Try.prog 82 linear_digits_ctr := ctr_ok (l := linear_digits_dc) (f := 12) (an := linear_digits_an) trivial fun fu x => by kernel_rfl
def linear_sum_l1 (fu : Nat) (a : (List (Int)) × (Unit)) (j0 : ((Int) × (Int)) → Option ((Int) × (Unit))) (v0 : (Int) × (Int)) : Option ((Int) × (Unit)) :=
  bif (decide (v0.2 < (List.length a.1 : Int))) then
    bif ((decide ((0 : Int) ≤ v0.2)) && (decide (v0.2 < (List.length a.1 : Int)))) then
    let v1 : Int := (List.getD a.1 (Int.toNat v0.2) 0)
    let v2 : Int := v0.2
    let v3 : Int := (IntKind.i64.wrap (v0.1 + (IntKind.i64.wrap ((IntKind.i64.wrap (v2 + (1 : Int))) * v1))))
    j0 ((v3, (IntKind.i64.wrap (v0.2 + (1 : Int)))))
    else none
  else
  let v1 : Int := (Int.tmod v0.1 (101 : Int))
  some ((v1, ()))
def linear_sum_r (fu : Nat) (a : (List (Int)) × (Unit)) : Option ((Int) × (Unit)) :=
  loopF (linear_sum_l1 fu a) fu (((0 : Int), (0 : Int)))
def linear_sum_an : An := (.n none .z (.n none .z (.n none (.n none .z (.n none (.n (some ⟨[6, 7, 2], [], [], [.reg 3 (.int .i64), .reg 8 (.int .i64)], 0, []⟩) (.n none .z (.n none .z (.n none (.n none (.n none .z .z) .z) .z))) .z) .z)) (.n none .z .z))))
noncomputable def linear_sum_dc : List (Nat × Ctr) := []
def linear_sum_ctr : Ctr := ⟨(.pair (.list (.int .i64)) .unit), (.pair (.int .i64) .unit), linear_sum_r, 81⟩
theorem linear_sum_ok : CtrOk Try.prog 81 linear_sum_ctr := ctr_ok (l := linear_sum_dc) (f := 12) (an := linear_sum_an) trivial fun fu x => by kernel_rfl
def curve_Nearest_j1 (fu : Nat) (v3 : Int) : Option ((Int) × (Unit)) :=
  some ((v3, ()))
def curve_Nearest_r (fu : Nat) (a : (Int) × ((Int) × (Unit))) : Option ((Int) × (Unit)) :=
  let v0 : Int := (IntKind.i64.wrap ((IntKind.i64.wrap ((2 : Int) * a.1)) + a.2.1))
  let v1 : Int := (IntKind.i64.wrap ((2 : Int) * a.2.1))
  bif (decide (v1 ≠ (0 : Int))) then
  let v2 : Int := (IntKind.i64.wrap (Int.tdiv v0 v1))
  joinF (curve_Nearest_j1 fu) fun j3 =>
  bif (decide (v1 ≠ (0 : Int))) then
  bif (decide ((Int.tmod v0 v1) < (0 : Int))) then
    let v4 : Int := (IntKind.i64.wrap (v2 - (1 : Int)))
    j3 (v4)
  else
  j3 (v2)
  else none
  else none
def curve_Nearest_an : An := (.n none .z (.n none .z (.n none .z (.n (some ⟨[], [], [], [.reg 5 (.int .i64)], 0, []⟩) (.n none .z (.n none .z .z)) (.n none .z .z)))))
noncomputable def curve_Nearest_dc : List (Nat × Ctr) := []
def curve_Nearest_ctr : Ctr := ⟨(.pair (.int .i64) (.pair (.int .i64) .unit)), (.pair (.int .i64) .unit), curve_Nearest_r, 97⟩
theorem curve_Nearest_ok : CtrOk Try.prog 97 curve_Nearest_ctr := ctr_ok (l := curve_Nearest_dc) (f := 12) (an := curve_Nearest_an) trivial fun fu x => by kernel_rfl
def linear_value_l3 (fu : Nat) (v7 : (Int) × (List (Int))) (v8 : Int) (v9 : (Int) × ((Int) × ((Int) × ((Int) × ((Int) × (Int)))))) (j8 : (Int) → Option ((Int) × (Unit))) (j10 : (Int) → Option ((Int) × (Unit))) (v10 : Int) : Option ((Int) × (Unit)) :=
  bif (decide (v10 < (4 : Int))) then
    bif ((decide ((0 : Int) ≤ v10)) && (decide (v10 < (4 : Int)))) then
    let v11 : Int := (List.getD ((List.getD v7.2 (Int.toNat (0 : Int)) 0) :: ((List.getD v7.2 (Int.toNat (1 : Int)) 0) :: ((List.getD v7.2 (Int.toNat (2 : Int)) 0) :: ((List.getD v7.2 (Int.toNat (3 : Int)) 0) :: ([] : List (Int)))))) (Int.toNat v10) 0)
    bif (((decide ((0 : Int) ≤ v10)) && (decide (v10 < (List.length (v9.1 :: (v9.2.1 :: (v9.2.2.1 :: (v9.2.2.2.1 :: (v9.2.2.2.2.1 :: (v9.2.2.2.2.2 :: ([] : List (Int)))))))) : Int)))) && (decide (v10 < (6 : Int)))) then
    bif (((decide ((0 : Int) ≤ (IntKind.i64.wrap (v10 + (1 : Int))))) && (decide ((IntKind.i64.wrap (v10 + (1 : Int))) < (List.length (v9.1 :: (v9.2.1 :: (v9.2.2.1 :: (v9.2.2.2.1 :: (v9.2.2.2.2.1 :: (v9.2.2.2.2.2 :: ([] : List (Int)))))))) : Int)))) && (decide ((IntKind.i64.wrap (v10 + (1 : Int))) < (6 : Int)))) then
    bif (decide ((IntKind.i64.wrap ((List.getD (v9.1 :: (v9.2.1 :: (v9.2.2.1 :: (v9.2.2.2.1 :: (v9.2.2.2.2.1 :: (v9.2.2.2.2.2 :: ([] : List (Int)))))))) (Int.toNat v10) 0) + (List.getD (v9.1 :: (v9.2.1 :: (v9.2.2.1 :: (v9.2.2.2.1 :: (v9.2.2.2.2.1 :: (v9.2.2.2.2.2 :: ([] : List (Int)))))))) (Int.toNat (IntKind.i64.wrap (v10 + (1 : Int)))) 0))) ≠ v11)) then
      j8 ((IntKind.i64.wrap (v8 + (1 : Int))))
    else
    j10 ((IntKind.i64.wrap (v10 + (1 : Int))))
    else none
    else none
    else none
  else
  some ((v8, ()))
def linear_value_l2 (fu : Nat) (a : (List ((Int) × ((Int) × ((Int) × ((Int) × ((Int) × (Int))))))) × ((List (Int)) × (Unit))) (v7 : (Int) × (List (Int))) (j8 : (Int) → Option ((Int) × (Unit))) (v8 : Int) : Option ((Int) × (Unit)) :=
  bif (decide (v8 < (List.length a.1 : Int))) then
    bif ((decide ((0 : Int) ≤ v8)) && (decide (v8 < (List.length a.1 : Int)))) then
    let v9 : (Int) × ((Int) × ((Int) × ((Int) × ((Int) × (Int))))) := (List.getD a.1 (Int.toNat v8) (0, (0, (0, (0, (0, 0))))))
    bif (decide ((List.length ((0 : Int) :: ((0 : Int) :: ((0 : Int) :: ((0 : Int) :: ((0 : Int) :: ((0 : Int) :: ([] : List (Int)))))))) : Int) = (6 : Int))) then
    bif (decide ((List.length v7.2 : Int) = (4 : Int))) then
    loopF (linear_value_l3 fu v7 v8 v9 j8) fu ((0 : Int))
    else none
    else none
    else none
  else
  some (((-1 : Int), ()))
def linear_value_l1 (fu : Nat) (a : (List ((Int) × ((Int) × ((Int) × ((Int) × ((Int) × (Int))))))) × ((List (Int)) × (Unit))) (v6 : Int) (j7 : ((Int) × (List (Int))) → Option ((Int) × (Unit))) (v7 : (Int) × (List (Int))) : Option ((Int) × (Unit)) :=
  bif (decide (v7.1 < (4 : Int))) then
    let v8 : Int := v7.1
    bif ((decide ((0 : Int) ≤ v8)) && (decide (v8 < (List.length a.2.1 : Int)))) then
    let v9 : Int := (List.getD a.2.1 (Int.toNat v8) 0)
    bif ((decide ((0 : Int) ≤ (IntKind.i64.wrap (v8 + (1 : Int))))) && (decide ((IntKind.i64.wrap (v8 + (1 : Int))) < (List.length a.2.1 : Int)))) then
    let v10 : Int := (List.getD a.2.1 (Int.toNat (IntKind.i64.wrap (v8 + (1 : Int)))) 0)
    bindO (curve_Nearest_r fu (((IntKind.i64.wrap ((11 : Int) * (IntKind.i64.wrap (v9 + v10)))), (v6, ())))) fun v11 =>
    bif (((decide ((0 : Int) ≤ v8)) && (decide (v8 < (List.length v7.2 : Int)))) && (decide (v8 < (4 : Int)))) then
    j7 (((IntKind.i64.wrap (v7.1 + (1 : Int))), (List.set v7.2 (Int.toNat v8) v11.1)))
    else none
    else none
    else none
  else
  loopF (linear_value_l2 fu a v7) fu ((0 : Int))
def linear_value_r (fu : Nat) (a : (List ((Int) × ((Int) × ((Int) × ((Int) × ((Int) × (Int))))))) × ((List (Int)) × (Unit))) : Option ((Int) × (Unit)) :=
  bif (decide ((0 : Int) < (List.length a.2.1 : Int))) then
  let v0 : Int := (List.getD a.2.1 (Int.toNat (0 : Int)) 0)
  bif (decide ((1 : Int) < (List.length a.2.1 : Int))) then
  let v1 : Int := (List.getD a.2.1 (Int.toNat (1 : Int)) 0)
  bif (decide ((2 : Int) < (List.length a.2.1 : Int))) then
  let v2 : Int := (List.getD a.2.1 (Int.toNat (2 : Int)) 0)
  bif (decide ((3 : Int) < (List.length a.2.1 : Int))) then
  let v3 : Int := (List.getD a.2.1 (Int.toNat (3 : Int)) 0)
  bif (decide ((4 : Int) < (List.length a.2.1 : Int))) then
  let v4 : Int := (List.getD a.2.1 (Int.toNat (4 : Int)) 0)
  bif (decide ((5 : Int) < (List.length a.2.1 : Int))) then
  let v5 : Int := (List.getD a.2.1 (Int.toNat (5 : Int)) 0)
  let v6 : Int := (IntKind.i64.wrap ((IntKind.i64.wrap ((IntKind.i64.wrap ((IntKind.i64.wrap ((IntKind.i64.wrap (v0 + v1)) + v2)) + v3)) + v4)) + v5))
  loopF (linear_value_l1 fu a v6) fu (((0 : Int), ((0 : Int) :: ((0 : Int) :: ((0 : Int) :: ((0 : Int) :: ([] : List (Int))))))))
  else none
  else none
  else none
  else none
  else none
  else none
def linear_value_an : An := (.n none .z (.n none (.n none (.dr [] []) (.n none .z (.n none (.n none .z (.n none (.n (some ⟨[6, 0, 1, 5, 4], [], [], [.reg 35 (.int .i64), .row 0 true (.int .i64) 156 0], 0, []⟩) (.n none .z (.n none .z (.n none (.n none (.n none .z (.dr [] [])) .z) .z))) .z) .z)) (.n none .z (.n none (.n none .z (.n none (.n (some ⟨[54, 6, 55], [0], [], [.reg 56 (.int .i64)], 0, []⟩) (.n none .z (.n none .z (.n none (.n none (.n none .z (.n none (.n none .z (.n none (.n (some ⟨[8, 61, 9, 56], [1], [], [.reg 62 (.int .i64)], 0, []⟩) (.n none .z (.n none .z (.n none (.n none (.n none .z (.n none (.dr [] []) .z)) .z) .z))) .z) .z)) (.n none .z .z))) .z) .z))) .z) .z)) (.n none .z .z)))))) .z))
noncomputable def linear_value_dc : List (Nat × Ctr) := [(97, curve_Nearest_ctr)]
def linear_value_ctr : Ctr := ⟨(.pair (.list (.pair (.int .i64) (.pair (.int .i64) (.pair (.int .i64) (.pair (.int .i64) (.pair (.int .i64) (.int .i64))))))) (.pair (.list (.int .i64)) .unit)), (.pair (.int .i64) .unit), linear_value_r, 80⟩
theorem linear_value_ok : CtrOk Try.prog 80 linear_value_ctr := ctr_ok (l := linear_value_dc) (f := 12) (an := linear_value_an) ⟨curve_Nearest_ok, trivial⟩ fun fu x => by kernel_rfl
def linear_Decode_j2 (fu : Nat) (v1 : Int) (j1 : (Int) → Option ((List UInt8) × ((Int) × (Unit)))) (v3 : Bool) : Option ((List UInt8) × ((Int) × (Unit))) :=
  bif v3 then
    some ((([] : List UInt8), ((3 : Int), ())))
  else
  j1 ((IntKind.i64.wrap (v1 + (1 : Int))))
def linear_Decode_j5 (fu : Nat) (v5 : (List (Int)) × (List (Int))) (v6 : Bool) : Option ((List UInt8) × ((Int) × (Unit))) :=
  bif v6 then
    some ((([] : List UInt8), ((4 : Int), ())))
  else
  bif ((decide ((0 : Int) ≤ (IntKind.i64.wrap ((List.length v5.2 : Int) - (2 : Int))))) && (decide ((IntKind.i64.wrap ((List.length v5.2 : Int) - (2 : Int))) < (List.length v5.2 : Int)))) then
  let v7 : Int := (List.getD v5.2 (Int.toNat (IntKind.i64.wrap ((List.length v5.2 : Int) - (2 : Int)))) 0)
  bif ((decide ((1 : Int) ≤ (IntKind.i64.wrap ((List.length v5.2 : Int) - (2 : Int))))) && (decide ((IntKind.i64.wrap ((List.length v5.2 : Int) - (2 : Int))) ≤ (List.length v5.2 : Int)))) then
  bindO (linear_sum_r fu (((List.drop (Int.toNat (1 : Int)) (List.take (Int.toNat (IntKind.i64.wrap ((List.length v5.2 : Int) - (2 : Int)))) v5.2)), ()))) fun v8 =>
  bif (decide (v8.1 ≠ v7)) then
    some ((([] : List UInt8), ((11 : Int), ())))
  else
  bindO (linear_digits_r fu (((List.drop (Int.toNat (1 : Int)) (List.take (Int.toNat (IntKind.i64.wrap ((List.length v5.2 : Int) - (2 : Int)))) v5.2)), ()))) fun v9 =>
  let v10 : List UInt8 := v9.1
  let v11 : Int := v9.2.1
  some ((v10, (v11, ())))
  else none
  else none
def linear_Decode_l4 (fu : Nat) (v3 : List ((Int) × ((Int) × ((Int) × ((Int) × ((Int) × (Int))))))) (j5 : ((List (Int)) × (List (Int))) → Option ((List UInt8) × ((Int) × (Unit)))) (v5 : (List (Int)) × (List (Int))) : Option ((List UInt8) × ((Int) × (Unit))) :=
  bif (decide ((1 : Int) < (List.length v5.1 : Int))) then
    bindO (linear_value_r fu ((v3, (v5.1, ())))) fun v6 =>
    let v7 : Int := v6.1
    bif (decide (v7 < (0 : Int))) then
      some ((([] : List UInt8), ((4 : Int), ())))
    else
    bif (decide ((((List.length v5.2 : Int) + (List.length (v7 :: ([] : List (Int))) : Int)) * (8 : Int)) ≤ (140737488355328 : Int))) then
    bif (decide ((6 : Int) ≤ (List.length v5.1 : Int))) then
    let v8 : List (Int) := (List.drop (Int.toNat (6 : Int)) (List.take (Int.toNat (List.length v5.1 : Int)) v5.1))
    j5 ((v8, (v5.2 ++ (v7 :: ([] : List (Int))))))
    else none
    else none
  else
  joinF (linear_Decode_j5 fu v5) fun j6 =>
  bif (decide ((0 : Int) < (List.length v5.2 : Int))) then
  bif (decide ((List.getD v5.2 (Int.toNat (0 : Int)) 0) ≠ (101 : Int))) then
    j6 (true)
  else
  bif ((decide ((0 : Int) ≤ (IntKind.i64.wrap ((List.length v5.2 : Int) - (1 : Int))))) && (decide ((IntKind.i64.wrap ((List.length v5.2 : Int) - (1 : Int))) < (List.length v5.2 : Int)))) then
  j6 ((decide ((List.getD v5.2 (Int.toNat (IntKind.i64.wrap ((List.length v5.2 : Int) - (1 : Int)))) 0) ≠ (102 : Int))))
  else none
  else none
def linear_Decode_j3 (fu : Nat) (v3 : List ((Int) × ((Int) × ((Int) × ((Int) × ((Int) × (Int))))))) (v4 : List (Int)) : Option ((List UInt8) × ((Int) × (Unit))) :=
  loopF (linear_Decode_l4 fu v3) fu ((v4, ([] : List (Int))))
def linear_Decode_l6 (fu : Nat) (a : (List (Int)) × (Unit)) (v0 : Int) (j4 : (List (Int)) → Option ((List UInt8) × ((Int) × (Unit)))) (j6 : ((Int) × (List (Int))) → Option ((List UInt8) × ((Int) × (Unit)))) (v6 : (Int) × (List (Int))) : Option ((List UInt8) × ((Int) × (Unit))) :=
  bif (decide (v6.1 < (List.length a.1 : Int))) then
    bif ((decide ((0 : Int) ≤ v6.1)) && (decide (v6.1 < (List.length a.1 : Int)))) then
    let v7 : Int := (List.getD a.1 (Int.toNat v6.1) 0)
    let v8 : Int := v6.1
    bif ((decide ((0 : Int) ≤ (IntKind.i64.wrap ((IntKind.i64.wrap (v0 - (1 : Int))) - v8)))) && (decide ((IntKind.i64.wrap ((IntKind.i64.wrap (v0 - (1 : Int))) - v8)) < (List.length v6.2 : Int)))) then
    j6 (((IntKind.i64.wrap (v6.1 + (1 : Int))), (List.set v6.2 (Int.toNat (IntKind.i64.wrap ((IntKind.i64.wrap (v0 - (1 : Int))) - v8))) v7)))
    else none
    else none
  else
  j4 (v6.2)
def linear_Decode_l1 (fu : Nat) (a : (List (Int)) × (Unit)) (v0 : Int) (j1 : (Int) → Option ((List UInt8) × ((Int) × (Unit)))) (v1 : Int) : Option ((List UInt8) × ((Int) × (Unit))) :=
  bif (decide (v1 < (List.length a.1 : Int))) then
    bif ((decide ((0 : Int) ≤ v1)) && (decide (v1 < (List.length a.1 : Int)))) then
    let v2 : Int := (List.getD a.1 (Int.toNat v1) 0)
    joinF (linear_Decode_j2 fu v1 j1) fun j3 =>
    bif (decide (v2 < (1 : Int))) then
      j3 (true)
    else
    j3 ((decide ((1024 : Int) < v2)))
    else none
  else
  bindO (linear_patterns_r fu (())) fun v2 =>
  let v3 : List ((Int) × ((Int) × ((Int) × ((Int) × ((Int) × (Int)))))) := v2.1
  joinF (linear_Decode_j3 fu v3) fun j4 =>
  bindO (linear_value_r fu ((v3, (a.1, ())))) fun v5 =>
  bif (decide (v5.1 ≠ (101 : Int))) then
    bif ((decide ((0 : Int) ≤ v0)) && (decide (((8 : Int) * v0) ≤ (281474976710656 : Int)))) then
    loopF (linear_Decode_l6 fu a v0 j4) fu (((0 : Int), (List.replicate (Int.toNat v0) (0 : Int))))
    else none
  else
  j4 (a.1)
def linear_Decode_r (fu : Nat) (a : (List (Int)) × (Unit)) : Option ((List UInt8) × ((Int) × (Unit))) :=
  let v0 : Int := (List.length a.1 : Int)
  bif (decide ((85 : Int) < v0)) then
    some ((([] : List UInt8), ((2 : Int), ())))
  else
  bif (decide (v0 < (25 : Int))) then
    some ((([] : List UInt8), ((12 : Int), ())))
  else
  bif (decide ((Int.tmod v0 (6 : Int)) ≠ (1 : Int))) then
    some ((([] : List UInt8), ((4 : Int), ())))
  else
  loopF (linear_Decode_l1 fu a v0) fu ((0 : Int))
def linear_Decode_an : An := (.n none .z (.n none .z (.n none (.n none .z (.n none (.n none .z .z) .z)) (.n none (.n none .z (.n none (.n none .z .z) .z)) (.n none (.n none .z (.n none (.n none .z .z) .z)) (.n none (.n none .z (.n none (.n (some ⟨[0, 4, 23, 24], [], [], [.reg 25 (.int .i64)], 0, []⟩) (.n none .z (.n none .z (.n none (.n none (.n none .z (.n (some ⟨[25], [], [], [.reg 34 .bool], 0, []⟩) .z (.n none (.n none .z .z) .z))) .z) .z))) .z) .z)) (.n none .z (.n (some ⟨[7], [], [], [.reg 0 (.ro false (.int .i64))], 0, []⟩) (.n none .z (.n none (.n none .z (.n none (.n none .z (.n none (.n (some ⟨[8, 43, 4, 44], [], [], [.reg 45 (.int .i64), .row 0 true (.int .i64) 3 0], 0, []⟩) (.n none .z (.n none .z (.n none (.n none (.n none .z .z) .z) .z))) .z) .z)) .z)) .z)) (.n none .z (.n none (.n none (.n (some ⟨[], [], [(11, (.osl 0 0))], [.reg 0 (.ro false (.int .i64)), .row 0 true (.int .i64) 3 0], 1, [(11, (.int .i64), 3)]⟩) (.n none (.n none .z .z) (.n none (.n none (.n none .z (.n none (.n none .z (.n none (.n none .z .z) .z)) .z)) .z) .z)) .z) .z) (.n none (.n (some ⟨[11], [0], [], [.reg 85 .bool], 0, []⟩) .z (.n none (.n none .z .z) .z)) (.n none .z (.n none (.n none .z (.n none .z (.n none (.n none .z .z) .z))) (.n none .z .z))))))))))))))
noncomputable def linear_Decode_dc : List (Nat × Ctr) := [(79, linear_patterns_ctr), (80, linear_value_ctr), (81, linear_sum_ctr), (82, linear_digits_ctr)]
def linear_Decode_ctr : Ctr := ⟨(.pair (.list (.int .i64)) .unit), (.pair .str (.pair (.int .i64) .unit)), linear_Decode_r, 29⟩
theorem linear_Decode_ok : CtrOk Try.prog 29 linear_Decode_ctr := ctr_ok (l := linear_Decode_dc) (f := 12) (an := linear_Decode_an) ⟨linear_patterns_ok, ⟨linear_value_ok, ⟨linear_sum_ok, ⟨linear_digits_ok, trivial⟩⟩⟩⟩ fun fu x => by kernel_rfl
def R_SameInts_l1 (fu : Nat) (a : (List (Int)) × ((List (Int)) × (Unit))) (j0 : (Int) → Option ((Bool) × (Unit))) (v0 : Int) : Option ((Bool) × (Unit)) :=
  bif (decide (v0 < (List.length a.1 : Int))) then
    bif ((decide ((0 : Int) ≤ v0)) && (decide (v0 < (List.length a.1 : Int)))) then
    let v1 : Int := (List.getD a.1 (Int.toNat v0) 0)
    bif ((decide ((0 : Int) ≤ v0)) && (decide (v0 < (List.length a.2.1 : Int)))) then
    let v2 : Int := (List.getD a.2.1 (Int.toNat v0) 0)
    bif (decide (v1 ≠ v2)) then
      some ((false, ()))
    else
    j0 ((IntKind.i64.wrap (v0 + (1 : Int))))
    else none
    else none
  else
  some ((true, ()))
def R_SameInts_r (fu : Nat) (a : (List (Int)) × ((List (Int)) × (Unit))) : Option ((Bool) × (Unit)) :=
  bif (decide ((List.length a.1 : Int) ≠ (List.length a.2.1 : Int))) then
    some ((false, ()))
  else
  loopF (R_SameInts_l1 fu a) fu ((0 : Int))
def R_SameInts_an : An := (.n none .z (.n none (.n none .z (.n none (.n none .z .z) .z)) (.n none (.n none .z (.n none (.n (some ⟨[0, 1, 12], [], [], [.reg 13 (.int .i64)], 0, []⟩) (.n none .z (.n none .z (.n none (.n none (.n none .z (.n none (.dr [] []) (.n none (.n none .z .z) .z))) .z) .z))) .z) .z)) (.n none .z .z))))
noncomputable def R_SameInts_dc : List (Nat × Ctr) := []
def R_SameInts_ctr : Ctr := ⟨(.pair (.list (.int .i64)) (.pair (.list (.int .i64)) .unit)), (.pair .bool .unit), R_SameInts_r, 32⟩
theorem R_SameInts_ok : CtrOk Try.prog 32 R_SameInts_ctr := ctr_ok (l := R_SameInts_dc) (f := 12) (an := R_SameInts_an) trivial fun fu x => by kernel_rfl
def linear_Pattern_j1 (fu : Nat) (a : (Int) × (Unit)) (v0 : Bool) : Option ((List (Int)) × ((Int) × (Unit))) :=
  bif v0 then
    some ((([] : List (Int)), ((3 : Int), ())))
  else
  bindO (linear_patterns_r fu (())) fun v1 =>
  bif ((decide ((0 : Int) ≤ a.1)) && (decide (a.1 < (List.length v1.1 : Int)))) then
  let v2 : (Int) × ((Int) × ((Int) × ((Int) × ((Int) × (Int))))) := (List.getD v1.1 (Int.toNat a.1) (0, (0, (0, (0, (0, 0))))))
  bif (decide (((List.length (v2.1 :: (v2.2.1 :: (v2.2.2.1 :: (v2.2.2.2.1 :: (v2.2.2.2.2.1 :: (v2.2.2.2.2.2 :: ([] : List (Int)))))))) : Int) * (8 : Int)) ≤ (140737488355328 : Int))) then
  some (((v2.1 :: (v2.2.1 :: (v2.2.2.1 :: (v2.2.2.2.1 :: (v2.2.2.2.2.1 :: (v2.2.2.2.2.2 :: ([] : List (Int)))))))), ((0 : Int), ())))
  else none
  else none
def linear_Pattern_r (fu : Nat) (a : (Int) × (Unit)) : Option ((List (Int)) × ((Int) × (Unit))) :=
  joinF (linear_Pattern_j1 fu a) fun j0 =>
  bif (decide (a.1 < (0 : Int))) then
    j0 (true)
  else
  j0 ((decide ((103 : Int) ≤ a.1)))
def linear_Pattern_an : An := (.n none .z (.n none (.n (some ⟨[0], [], [], [.reg 9 .bool], 0, []⟩) .z (.n none (.n none .z .z) .z)) (.n none .z .z)))
noncomputable def linear_Pattern_dc : List (Nat × Ctr) := [(79, linear_patterns_ctr)]
def linear_Pattern_ctr : Ctr := ⟨(.pair (.int .i64) .unit), (.pair (.list (.int .i64)) (.pair (.int .i64) .unit)), linear_Pattern_r, 31⟩
theorem linear_Pattern_ok : CtrOk Try.prog 31 linear_Pattern_ctr := ctr_ok (l := linear_Pattern_dc) (f := 12) (an := linear_Pattern_an) ⟨linear_patterns_ok, trivial⟩ fun fu x => by kernel_rfl
def linear_Encode_l2 (fu : Nat) (v0 : (Int) × (List (Int))) (v2 : List ((Int) × ((Int) × ((Int) × ((Int) × ((Int) × (Int))))))) (j4 : ((Int) × (List (Int))) → Option ((List (Int)) × ((Int) × (Unit)))) (v4 : (Int) × (List (Int))) : Option ((List (Int)) × ((Int) × (Unit))) :=
  bif (decide (v4.1 < (List.length (v0.2 ++ ((102 : Int) :: ([] : List (Int)))) : Int))) then
    bif ((decide ((0 : Int) ≤ v4.1)) && (decide (v4.1 < (List.length (v0.2 ++ ((102 : Int) :: ([] : List (Int)))) : Int)))) then
    let v5 : Int := (List.getD (v0.2 ++ ((102 : Int) :: ([] : List (Int)))) (Int.toNat v4.1) 0)
    bif ((decide ((0 : Int) ≤ v5)) && (decide (v5 < (List.length v2 : Int)))) then
    let v6 : (Int) × ((Int) × ((Int) × ((Int) × ((Int) × (Int))))) := (List.getD v2 (Int.toNat v5) (0, (0, (0, (0, (0, 0))))))
    bif (decide ((((List.length v4.2 : Int) + (List.length (v6.1 :: (v6.2.1 :: (v6.2.2.1 :: (v6.2.2.2.1 :: (v6.2.2.2.2.1 :: (v6.2.2.2.2.2 :: ([] : List (Int)))))))) : Int)) * (8 : Int)) ≤ (140737488355328 : Int))) then
    j4 (((IntKind.i64.wrap (v4.1 + (1 : Int))), (v4.2 ++ (v6.1 :: (v6.2.1 :: (v6.2.2.1 :: (v6.2.2.2.1 :: (v6.2.2.2.2.1 :: (v6.2.2.2.2.2 :: ([] : List (Int)))))))))))
    else none
    else none
    else none
  else
  bif (decide ((((List.length v4.2 : Int) + (List.length ((2 : Int) :: ([] : List (Int))) : Int)) * (8 : Int)) ≤ (140737488355328 : Int))) then
  some (((v4.2 ++ ((2 : Int) :: ([] : List (Int)))), ((0 : Int), ())))
  else none
def linear_Encode_j1 (fu : Nat) (v0 : (Int) × (List (Int))) : Option ((List (Int)) × ((Int) × (Unit))) :=
  bif (decide (v0.1 ≠ (0 : Int))) then
    let v1 : Int := v0.1
    some ((([] : List (Int)), (v1, ())))
  else
  bindO (linear_patterns_r fu (())) fun v1 =>
  let v2 : List ((Int) × ((Int) × ((Int) × ((Int) × ((Int) × (Int)))))) := v1.1
  bif (decide ((101 : Int) < (List.length v2 : Int))) then
  let v3 : (Int) × ((Int) × ((Int) × ((Int) × ((Int) × (Int))))) := (List.getD v2 (Int.toNat (101 : Int)) (0, (0, (0, (0, (0, 0))))))
  bif (decide (((List.length (v3.1 :: (v3.2.1 :: (v3.2.2.1 :: (v3.2.2.2.1 :: (v3.2.2.2.2.1 :: (v3.2.2.2.2.2 :: ([] : List (Int)))))))) : Int) * (8 : Int)) ≤ (140737488355328 : Int))) then
  bif (decide ((((List.length v0.2 : Int) + (List.length ((102 : Int) :: ([] : List (Int))) : Int)) * (8 : Int)) ≤ (140737488355328 : Int))) then
  loopF (linear_Encode_l2 fu v0 v2) fu (((0 : Int), (v3.1 :: (v3.2.1 :: (v3.2.2.1 :: (v3.2.2.2.1 :: (v3.2.2.2.2.1 :: (v3.2.2.2.2.2 :: ([] : List (Int))))))))))
  else none
  else none
  else none
def linear_Encode_j4 (fu : Nat) (v4 : Int) (j0 : ((Int) × (List (Int))) → Option ((List (Int)) × ((Int) × (Unit)))) (j4 : (Int) → Option ((List (Int)) × ((Int) × (Unit)))) (v5 : Bool) : Option ((List (Int)) × ((Int) × (Unit))) :=
  bif v5 then
    j0 (((5 : Int), ([] : List (Int))))
  else
  j4 ((IntKind.i64.wrap (v4 + (1 : Int))))
def linear_Encode_l6 (fu : Nat) (j0 : ((Int) × (List (Int))) → Option ((List (Int)) × ((Int) × (Unit)))) (j6 : ((List UInt8) × (List (Int))) → Option ((List (Int)) × ((Int) × (Unit)))) (v6 : (List UInt8) × (List (Int))) : Option ((List (Int)) × ((Int) × (Unit))) :=
  bif (decide ((0 : Int) < (List.length v6.1 : Int))) then
    bif (decide ((0 : Int) < (List.length v6.1 : Int))) then
    bif (decide ((1 : Int) < (List.length v6.1 : Int))) then
    bif (decide ((((List.length v6.2 : Int) + (List.length ((IntKind.i64.wrap ((IntKind.i64.wrap ((10 : Int) * (IntKind.i64.wrap (IntKind.u8.wrap (((List.getD v6.1 (Int.toNat (0 : Int)) 0).toNat : Int) - (48 : Int)))))) + (IntKind.i64.wrap (IntKind.u8.wrap (((List.getD v6.1 (Int.toNat (1 : Int)) 0).toNat : Int) - (48 : Int)))))) :: ([] : List (Int))) : Int)) * (8 : Int)) ≤ (140737488355328 : Int))) then
    bif (decide ((2 : Int) ≤ (List.length v6.1 : Int))) then
    let v7 : List UInt8 := (List.drop (Int.toNat (2 : Int)) (List.take (Int.toNat (List.length v6.1 : Int)) v6.1))
    j6 ((v7, (v6.2 ++ ((IntKind.i64.wrap ((IntKind.i64.wrap ((10 : Int) * (IntKind.i64.wrap (IntKind.u8.wrap (((List.getD v6.1 (Int.toNat (0 : Int)) 0).toNat : Int) - (48 : Int)))))) + (IntKind.i64.wrap (IntKind.u8.wrap (((List.getD v6.1 (Int.toNat (1 : Int)) 0).toNat : Int) - (48 : Int)))))) :: ([] : List (Int))))))
    else none
    else none
    else none
    else none
  else
  bindO (linear_sum_r fu ((v6.2, ()))) fun v7 =>
  bif (decide ((((List.length v6.2 : Int) + (List.length (v7.1 :: ([] : List (Int))) : Int)) * (8 : Int)) ≤ (140737488355328 : Int))) then
  j0 (((0 : Int), (v6.2 ++ (v7.1 :: ([] : List (Int))))))
  else none
def linear_Encode_j5 (fu : Nat) (j0 : ((Int) × (List (Int))) → Option ((List (Int)) × ((Int) × (Unit)))) (v5 : (List UInt8) × (List (Int))) : Option ((List (Int)) × ((Int) × (Unit))) :=
  loopF (linear_Encode_l6 fu j0) fu ((v5.1, v5.2))
def linear_Encode_l3 (fu : Nat) (a : (List UInt8) × (Unit)) (j0 : ((Int) × (List (Int))) → Option ((List (Int)) × ((Int) × (Unit)))) (j4 : (Int) → Option ((List (Int)) × ((Int) × (Unit)))) (v4 : Int) : Option ((List (Int)) × ((Int) × (Unit))) :=
  bif (decide (v4 < (List.length a.1 : Int))) then
    joinF (linear_Encode_j4 fu v4 j0 j4) fun j5 =>
    bif ((decide ((0 : Int) ≤ v4)) && (decide (v4 < (List.length a.1 : Int)))) then
    bif (decide (((List.getD a.1 (Int.toNat v4) 0).toNat : Int) < (48 : Int))) then
      j5 (true)
    else
    bif ((decide ((0 : Int) ≤ v4)) && (decide (v4 < (List.length a.1 : Int)))) then
    j5 ((decide ((57 : Int) < ((List.getD a.1 (Int.toNat v4) 0).toNat : Int))))
    else none
    else none
  else
  joinF (linear_Encode_j5 fu j0) fun j5 =>
  bif (decide ((Int.tmod (List.length a.1 : Int) (2 : Int)) = (1 : Int))) then
    bif (decide (((List.length ((100 : Int) :: ([] : List (Int))) : Int) * (8 : Int)) ≤ (140737488355328 : Int))) then
    bif (decide (((List.length ([48] : List UInt8) : Int) + (List.length a.1 : Int)) ≤ (9223372036854775807 : Int))) then
    let v6 : List UInt8 := (([48] : List UInt8) ++ a.1)
    j5 ((v6, ((100 : Int) :: ([] : List (Int)))))
    else none
    else none
  else
  j5 ((a.1, ([] : List (Int))))
def linear_Encode_r (fu : Nat) (a : (List UInt8) × (Unit)) : Option ((List (Int)) × ((Int) × (Unit))) :=
  joinF (linear_Encode_j1 fu) fun j0 =>
  let v1 : Int := (List.length a.1 : Int)
  let v2 : Bool := (decide (v1 = (0 : Int)))
  bif v2 then
    j0 (((1 : Int), ([] : List (Int))))
  else
  let v3 : Bool := (decide ((20 : Int) < v1))
  bif v3 then
    j0 (((2 : Int), ([] : List (Int))))
  else
  loopF (linear_Encode_l3 fu a j0) fu ((0 : Int))
def linear_Encode_an : An := (.n none .z (.n (some ⟨[], [], [(4, (.osl 0 0))], [.reg 5 (.int .i64), .row 0 true (.int .i64) 3 0], 1, [(4, (.int .i64), 3)]⟩) (.ops [(1, (.n none (.n none .z (.n none (.n none .z (.n none (.n none .z (.n none (.n none .z .z) (.n none .z (.n none (.n none .z .z) .z)))) .z)) (.n none (.n none .z (.n none (.n (some ⟨[0, 16], [], [], [.reg 17 (.int .i64)], 0, []⟩) (.n none .z (.n none .z (.n none (.n none (.n none .z (.n (some ⟨[17], [], [], [.reg 29 .bool], 0, []⟩) .z (.n none (.n none .z .z) .z))) .z) .z))) .z) .z)) (.n none .z (.n (some ⟨[], [], [(6, (.osl 0 0))], [.reg 0 .str, .row 0 true (.int .i64) 3 0], 1, [(6, (.int .i64), 3)]⟩) (.n none .z (.n none .z .z)) (.n none (.n none (.n (some ⟨[], [], [(6, (.osl 0 0))], [.reg 0 .str, .row 0 true (.int .i64) 3 0], 0, []⟩) (.n none (.n none .z .z) (.n none (.n none (.dr [] []) .z) .z)) .z) .z) (.n none .z .z))))))) .z))]) (.n none (.n none .z (.n none (.n none .z .z) .z)) (.n none .z (.n none .z (.n none (.n none .z (.n none (.n (some ⟨[25, 6, 26], [2, 0], [(7, (.osl 1 0))], [.reg 27 (.int .i64), .row 1 false (.int .i64) 3 0], 0, []⟩) (.n none .z (.n none .z (.n none (.n none (.n none .z .z) .z) .z))) .z) .z)) (.n none .z .z)))))))
noncomputable def linear_Encode_dc : List (Nat × Ctr) := [(79, linear_patterns_ctr), (81, linear_sum_ctr)]
def linear_Encode_ctr : Ctr := ⟨(.pair .str .unit), (.pair (.list (.int .i64)) (.pair (.int .i64) .unit)), linear_Encode_r, 34⟩
theorem linear_Encode_ok : CtrOk Try.prog 34 linear_Encode_ctr := ctr_ok (l := linear_Encode_dc) (f := 12) (an := linear_Encode_an) ⟨linear_patterns_ok, ⟨linear_sum_ok, trivial⟩⟩ fun fu x => by kernel_rfl
def law_linearWorks_r (fu : Nat) (a : Unit) : Option ((Bool) × (Unit)) :=
  bindO (linear_Encode_r fu ((([48, 48] : List UInt8), ()))) fun v0 =>
  let v1 : List (Int) := v0.1
  let v2 : Int := v0.2.1
  bindO (linear_Decode_r fu ((v1, ()))) fun v3 =>
  let v4 : List UInt8 := v3.1
  let v5 : Int := v3.2.1
  bindO (linear_Pattern_r fu (((1 : Int), ()))) fun v6 =>
  let v7 : List (Int) := v6.1
  let v8 : Int := v6.2.1
  bif (decide (v2 = (0 : Int))) then
    bindO (R_SameInts_r fu ((v1, (((4 : Int) :: ((1 : Int) :: ((1 : Int) :: ((2 : Int) :: ((1 : Int) :: ((2 : Int) :: ((1 : Int) :: ((1 : Int) :: ((1 : Int) :: ((1 : Int) :: ((4 : Int) :: ((3 : Int) :: ((1 : Int) :: ((1 : Int) :: ((1 : Int) :: ((1 : Int) :: ((4 : Int) :: ((3 : Int) :: ((4 : Int) :: ((1 : Int) :: ((1 : Int) :: ((3 : Int) :: ((1 : Int) :: ((1 : Int) :: ((2 : Int) :: ([] : List (Int))))))))))))))))))))))))))), ())))) fun v9 =>
    bif v9.1 then
      bif (decide (v5 = (0 : Int))) then
        bif (decide (v4 = ([48, 48] : List UInt8))) then
          bif (decide (v8 = (0 : Int))) then
            bindO (R_SameInts_r fu ((v7, (((1 : Int) :: ((1 : Int) :: ((1 : Int) :: ((2 : Int) :: ((2 : Int) :: ((4 : Int) :: ([] : List (Int)))))))), ())))) fun v10 =>
            let v11 : Bool := v10.1
            some ((v11, ()))
          else
          some ((false, ()))
        else
        some ((false, ()))
      else
      some ((false, ()))
    else
    some ((false, ()))
  else
  some ((false, ()))
def law_linearWorks_an : An := (.n none .z (.n none .z (.n none .z (.n none .z (.n none .z .z)))))
noncomputable def law_linearWorks_dc : List (Nat × Ctr) := [(29, linear_Decode_ctr), (31, linear_Pattern_ctr), (32, R_SameInts_ctr), (34, linear_Encode_ctr)]
def law_linearWorks_ctr : Ctr := ⟨.unit, (.pair .bool .unit), law_linearWorks_r, 28⟩
theorem law_linearWorks_ok : CtrOk Try.prog 28 law_linearWorks_ctr := ctr_ok (l := law_linearWorks_dc) (f := 12) (an := law_linearWorks_an) ⟨linear_Decode_ok, ⟨linear_Pattern_ok, ⟨R_SameInts_ok, ⟨linear_Encode_ok, trivial⟩⟩⟩⟩ fun fu x => by kernel_rfl
end Go.Proofs.Ytedjnjgnadbkaaa
/- Plain facts for residual programs. No program in sight. -/
namespace Go.Proofs.Ytedjnjgnadbkaaa
open Go Go.RowKit
theorem loopF_spec {α β : Type} {f : (α → Option β) → α → Option β} (μ : α → Nat) (I : α → Prop) (S : α → Option β) (h : ∀ j x, I x → (∀ x', I x' → μ x' < μ x → j x' = S x') → f j x = S x) : ∀ (fu : Nat) (x : α), I x → μ x < fu → loopF f fu x = S x
  | 0, _, _, h0 => absurd h0 (Nat.not_lt_zero _)
  | fu + 1, x, hI, hm => by
    rw [loopF]
    exact h _ x hI fun x' h1 h2 => loopF_spec μ I S h fu x' h1 (by omega)
theorem bif_pos {α : Type} {p : Prop} [Decidable p] {a b : α} (h : p) : (bif decide p then a else b) = a := by rw [decide_eq_true h]; rfl
theorem bif_neg {α : Type} {p : Prop} [Decidable p] {a b : α} (h : ¬ p) : (bif decide p then a else b) = b := by rw [decide_eq_false h]; rfl
theorem bif_and {α : Type} {p q : Prop} [Decidable p] [Decidable q] {a b : α} (h : p) (k : q) : (bif decide p && decide q then a else b) = a := by rw [decide_eq_true h, decide_eq_true k]; rfl
theorem joinF_eq {α β : Type} (J : α → Option β) (b : (α → Option β) → Option β) : joinF J b = b J := rfl
theorem bindO_some {α β : Type} (x : α) (k : α → Option β) : bindO (some x) k = k x := rfl
/-- the fuel -/
def FU : Nat := 18446744073709551616
theorem FU_val : FU = 18446744073709551616 := rfl
/-! ### What is left of a loop -/
end Go.Proofs.Ytedjnjgnadbkaaa
/- Plain facts on whole numbers: rounding, floor division. No program in sight. -/
namespace Go.Proofs.Ytedjnjgnadbkaaa

/-- n/d rounded half up -/
def rnd (n d : Int) : Int := (2 * n + d) / (2 * d)

end Go.Proofs.Ytedjnjgnadbkaaa
/- Rewriting of residual programs by facts of arithmetic. No program in sight. -/
namespace Go.Proofs.Ytedjnjgnadbkaaa
open Go Go.RowKit
theorem s_pos {p : Prop} [Decidable p] (h : p) : decide p = true := decide_eq_true h
theorem s_neg {p : Prop} [Decidable p] (h : ¬ p) : decide p = false := decide_eq_false h
theorem s_wr {x : Int} (h0 : -9223372036854775808 ≤ x) (h1 : x ≤ 9223372036854775807) : IntKind.i64.wrap x = x := wr64 h0 h1
theorem s_td {a b : Int} (h : 0 ≤ a) : Int.tdiv a b = a / b := Int.tdiv_eq_ediv_of_nonneg h
theorem s_tm {a b : Int} (h : 0 ≤ a) : Int.tmod a b = a % b := Int.tmod_eq_emod_of_nonneg h
/-- the first error of n steps from step i on -/
def firstE (E : Nat → Int) : Nat → Nat → Int
  | 0, _ => 0
  | n + 1, i => if E i = 0 then firstE E n (i + 1) else E i
theorem firstE_step {E : Nat → Int} {i m : Nat} (hi : i < m) : firstE E (m - i) i = if E i = 0 then firstE E (m - (i + 1)) (i + 1) else E i := by
  rw [show m - i = (m - (i + 1)) + 1 by omega, firstE]
section
variable {α : Type} {n : Nat} {G G' : Int → α}
end
theorem and_false_iff {p q : Prop} [Decidable p] [Decidable q] (h : ¬ (p ∧ q)) : (decide p && decide q) = false := by
  rw [← Bool.not_eq_true, Bool.and_eq_true, decide_eq_true_eq, decide_eq_true_eq]; exact h
theorem and_true_iff {p q : Prop} [Decidable p] [Decidable q] (h : p ∧ q) : (decide p && decide q) = true := by
  rw [decide_eq_true h.1, decide_eq_true h.2]; rfl
end Go.Proofs.Ytedjnjgnadbkaaa
/- Loops by their first error, by what is found, by a postcondition. No program in sight. -/
namespace Go.Proofs.Ytedjnjgnadbkaaa
open Go Go.RowKit
set_option linter.unusedSimpArgs false
set_option linter.unusedSectionVars false
set_option linter.unusedVariables false
/-- a loop by an invariant and a postcondition of its result -/
theorem postLoop {X β : Type} {f : (X → Option β) → X → Option β} (μ : X → Nat) (I : X → Prop) (Q : Option β → Prop)
    (h : ∀ j x, I x → (∃ x', I x' ∧ μ x' < μ x ∧ f j x = j x') ∨ Q (f j x)) : ∀ (fu : Nat) (x : X), I x → μ x < fu → Q (loopF f fu x)
  | 0, _, _, h0 => absurd h0 (Nat.not_lt_zero _)
  | fu + 1, x, hI, hm => by
    rw [loopF]
    rcases h (loopF f fu) x hI with ⟨x', h1, h2, h3⟩ | h3
    · rw [h3]
      exact postLoop μ I Q h fu x' h1 (by omega)
    · exact h3
section
variable {β : Type} {f : (Int → Option β) → Int → Option β} {n fu : Nat} (hn : n < fu)
include hn
theorem findLoop {p : Nat → Prop} {hit : Nat → Option β} {miss : Option β} (hit' : ∀ j (i : Nat), i < n → p i → f j i = hit i) (next : ∀ j (i : Nat), i < n → ¬ p i → f j i = j ((i : Int) + 1)) (last : ∀ j, f j n = miss) :
    (∃ k, k < n ∧ p k ∧ (∀ l, l < k → ¬ p l) ∧ loopF f fu 0 = hit k) ∨ ((∀ l, l < n → ¬ p l) ∧ loopF f fu 0 = miss) := by
  refine postLoop (f := f) (fun i : Int => ((n : Int) - i).toNat) (fun i => ∃ k : Nat, i = k ∧ k ≤ n ∧ ∀ l, l < k → ¬ p l) (fun r => (∃ k, k < n ∧ p k ∧ (∀ l, l < k → ¬ p l) ∧ r = hit k) ∨ ((∀ l, l < n → ¬ p l) ∧ r = miss)) ?_ fu 0 ⟨0, rfl, by omega, by omega⟩ (by omega)
  rintro j _ ⟨i, rfl, k1, k2⟩
  by_cases hi : i < n
  · by_cases hp : p i
    · exact .inr (.inl ⟨i, hi, hp, k2, hit' j i hi hp⟩)
    · refine .inl ⟨(i : Int) + 1, ⟨i + 1, by omega, by omega, fun l hl => ?_⟩, by omega, next j i hi hp⟩
      by_cases e : l = i
      · rw [e]; exact hp
      · exact k2 l (by omega)
  · have e : i = n := by omega
    subst e
    exact .inr (.inr ⟨k2, last j⟩)
end
theorem firstE_all {E : Nat → Int} : ∀ (m i0 : Nat), (∀ k, i0 ≤ k → k < i0 + m → E k = 0) → firstE E m i0 = 0
  | 0, _, _ => rfl
  | m + 1, i0, h => by
    rw [firstE, if_pos (h i0 (Nat.le_refl _) (by omega))]
    exact firstE_all m (i0 + 1) fun k g1 g2 => h k (by omega) (by omega)
/-- a loop through the states st 0, st 1, .. that is left at the first error -/
theorem errGen {X β : Type} {f : (X → Option β) → X → Option β} {n : Nat} {st : Nat → X} {E : Nat → Int} {out : Int → Option β} {fin : Option β}
    (step : ∀ j (i : Nat), i < n → (∀ k, k < i → E k = 0) → f j (st i) = if E i = 0 then j (st (i + 1)) else out (E i)) (last : (∀ k, k < n → E k = 0) → ∀ j, f j (st n) = fin) :
    ∀ (fu i : Nat), i ≤ n → n - i < fu → (∀ k, k < i → E k = 0) → loopF f fu (st i) = if firstE E (n - i) i = 0 then fin else out (firstE E (n - i) i)
  | 0, i, _, h, _ => by omega
  | fu + 1, i, h0, h1, hE => by
    rw [loopF]
    by_cases hi : i < n
    · rw [step _ i hi hE, firstE_step hi]
      by_cases e : E i = 0
      · rw [if_pos e]
        simp only [if_pos e]
        exact errGen step last fu (i + 1) (by omega) (by omega) fun k hk => by
          by_cases q : k = i
          · rw [q]; exact e
          · exact hE k (by omega)
      · rw [if_neg e]
        simp only [if_neg e]
    · have e : i = n := by omega
      subst e
      rw [last hE, Nat.sub_self]; rfl
end Go.Proofs.Ytedjnjgnadbkaaa
/- The reference's patterns of bars. -/
set_option maxRecDepth 100000
namespace Go.Proofs.Ytedjnjgnadbkaaa
open Go Go.RowKit
set_option linter.unusedSimpArgs false
set_option linter.unusedSectionVars false
set_option linter.unusedVariables false
theorem stL3 {X β : Type} {f : (X → Option β) → X → Option β} {n fu : Nat} (hn : n < fu) {st : Nat → X} {x0 : X} {fin : Option β} (h0 : st 0 = x0)
    (step : ∀ j (i : Nat), i < n → f j (st i) = j (st (i + 1))) (last : ∀ j, f j (st n) = fin) : loopF f fu x0 = fin := by
  have key := errGen (f := f) (n := n) (st := st) (E := fun _ => 0) (out := fun _ => none) (fin := fin) (fun j i hi _ => by rw [if_pos rfl]; exact step j i hi) (fun _ => last) fu 0 (by omega) (by omega) (by omega)
  rw [if_pos (firstE_all _ _ fun _ _ _ => rfl), h0] at key
  exact key
def rpats : List (List Int) :=
  [[1, 1, 1, 1, 4, 3], [1, 1, 1, 2, 2, 4], [1, 1, 1, 2, 4, 2], [1, 1, 1, 3, 2, 3], [1, 1, 1, 3, 4, 1], [1, 1, 1, 4, 2, 2],
   [1, 1, 2, 1, 3, 3], [1, 1, 2, 2, 1, 4], [1, 1, 2, 2, 3, 2], [1, 1, 2, 3, 1, 3], [1, 1, 2, 3, 3, 1], [1, 1, 2, 4, 1, 2],
   [1, 1, 3, 1, 2, 3], [1, 1, 3, 1, 4, 1], [1, 1, 3, 2, 2, 2], [1, 1, 3, 3, 2, 1], [1, 1, 4, 1, 1, 3], [1, 1, 4, 1, 3, 1],
   [1, 1, 4, 2, 1, 2], [1, 1, 4, 3, 1, 1], [1, 2, 1, 1, 2, 4], [1, 2, 1, 1, 4, 2], [1, 2, 1, 2, 2, 3], [1, 2, 1, 2, 4, 1],
   [1, 2, 1, 3, 2, 2], [1, 2, 1, 4, 2, 1], [1, 2, 2, 1, 1, 4], [1, 2, 2, 1, 3, 2], [1, 2, 2, 2, 1, 3], [1, 2, 2, 2, 3, 1],
   [1, 2, 2, 3, 1, 2], [1, 2, 2, 4, 1, 1], [1, 2, 3, 1, 2, 2], [1, 2, 3, 2, 2, 1], [1, 2, 4, 1, 1, 2], [1, 2, 4, 2, 1, 1],
   [1, 3, 1, 1, 2, 3], [1, 3, 1, 1, 4, 1], [1, 3, 1, 2, 2, 2], [1, 3, 1, 3, 2, 1], [1, 3, 2, 1, 1, 3], [1, 3, 2, 1, 3, 1],
   [1, 3, 2, 2, 1, 2], [1, 3, 2, 3, 1, 1], [1, 3, 3, 1, 2, 1], [1, 3, 4, 1, 1, 1], [1, 4, 1, 1, 2, 2], [1, 4, 1, 2, 2, 1],
   [1, 4, 2, 1, 1, 2], [1, 4, 2, 2, 1, 1], [2, 1, 1, 1, 3, 3], [2, 1, 1, 2, 1, 4], [2, 1, 1, 2, 3, 2], [2, 1, 1, 3, 1, 3],
   [2, 1, 1, 3, 3, 1], [2, 1, 1, 4, 1, 2], [2, 1, 2, 1, 2, 3], [2, 1, 2, 1, 4, 1], [2, 1, 2, 2, 2, 2], [2, 1, 2, 3, 2, 1],
   [2, 1, 3, 1, 1, 3], [2, 1, 3, 1, 3, 1], [2, 1, 3, 2, 1, 2], [2, 1, 3, 3, 1, 1], [2, 1, 4, 1, 2, 1], [2, 2, 1, 1, 1, 4],
   [2, 2, 1, 1, 3, 2], [2, 2, 1, 2, 1, 3], [2, 2, 1, 2, 3, 1], [2, 2, 1, 3, 1, 2], [2, 2, 1, 4, 1, 1], [2, 2, 2, 1, 2, 2],
   [2, 2, 2, 2, 2, 1], [2, 2, 3, 1, 1, 2], [2, 2, 3, 2, 1, 1], [2, 3, 1, 1, 1, 3], [2, 3, 1, 1, 3, 1], [2, 3, 1, 2, 1, 2],
   [2, 3, 1, 3, 1, 1], [2, 3, 2, 1, 2, 1], [2, 3, 3, 1, 1, 1], [2, 4, 1, 1, 1, 2], [2, 4, 1, 2, 1, 1], [3, 1, 1, 1, 2, 3],
   [3, 1, 1, 1, 4, 1], [3, 1, 1, 2, 2, 2], [3, 1, 1, 3, 2, 1], [3, 1, 2, 1, 1, 3], [3, 1, 2, 1, 3, 1], [3, 1, 2, 2, 1, 2],
   [3, 1, 2, 3, 1, 1], [3, 1, 3, 1, 2, 1], [3, 1, 4, 1, 1, 1], [3, 2, 1, 1, 2, 2], [3, 2, 1, 2, 2, 1], [3, 2, 2, 1, 1, 2],
   [3, 2, 2, 2, 1, 1], [3, 3, 1, 1, 2, 1], [3, 3, 2, 1, 1, 1], [4, 1, 1, 1, 1, 3], [4, 1, 1, 1, 3, 1], [4, 1, 1, 2, 1, 2],
   [4, 1, 1, 3, 1, 1], [4, 1, 2, 1, 2, 1], [4, 1, 3, 1, 1, 1], [4, 2, 1, 1, 1, 2], [4, 2, 1, 2, 1, 1], [4, 3, 1, 1, 1, 1]]
theorem bits_and3 (a : Nat) (ha : a < 4096) : bits BinOp.and IntKind.i64 (a : Int) (3 : Int) = ((a % 4 : Nat) : Int) := by
  have h1 : (BitVec.ofInt 64 (a : Int)).toNat = a := by
    rw [BitVec.ofInt_natCast, BitVec.toNat_ofNat]; exact Nat.mod_eq_of_lt (by omega)
  show IntKind.i64.wrap ((BitVec.ofInt 64 (a : Int) &&& BitVec.ofInt 64 3).toNat : Int) = _
  rw [BitVec.toNat_and, h1, show (BitVec.ofInt 64 3).toNat = 2 ^ 2 - 1 from rfl, Nat.and_two_pow_sub_one_eq_mod]
  exact wr64 (by omega) (by omega)
def dg (n k : Nat) : Nat := 1 + n / 4 ^ (5 - k) % 4
def dgl (n : Nat) : List Int := (List.range 6).map fun k => ((dg n k : Nat) : Int)
def sumD (n k : Nat) : Nat := ((List.range k).map (dg n)).sum
def goodN (n : Nat) : Bool := Nat.beq (sumD n 6) 11 && Nat.beq ((dg n 0 + dg n 2 + dg n 4) % 2) 0
def RU (n : Nat) : List (List Int) := ((List.range n).filter goodN).map dgl
theorem RU_succ (n : Nat) : RU (n + 1) = RU n ++ (if goodN n = true then [dgl n] else []) := by
  unfold RU
  rw [List.range_succ, List.filter_append, List.map_append]
  cases h : goodN n <;> simp [h]
theorem RU_len (n : Nat) : (RU n).length ≤ n := by
  unfold RU
  rw [List.length_map]
  exact Nat.le_trans (List.length_filter_le _ _) (by rw [List.length_range]; exact Nat.le_refl _)
theorem RU_all : RU 4096 = rpats := by decide +kernel
theorem dg_bd (n k : Nat) : 1 ≤ dg n k ∧ dg n k ≤ 4 := by unfold dg; have := Nat.mod_lt (n / 4 ^ (5 - k)) (show 4 > 0 by omega); omega
theorem sumD_succ (n k : Nat) : sumD n (k + 1) = sumD n k + dg n k := by
  unfold sumD
  rw [List.range_succ, List.map_append, List.sum_append]; simp
theorem sumD_bd (n : Nat) : ∀ k, sumD n k ≤ 4 * k
  | 0 => by simp [sumD]
  | k + 1 => by have := sumD_bd n k; have := dg_bd n k; rw [sumD_succ]; omega
theorem dgl_get (n k : Nat) (hk : k < 6) : (dgl n).getD k 0 = ((dg n k : Nat) : Int) := by
  unfold dgl
  rw [List.getD_eq_getElem?_getD, List.getElem?_map, List.getElem?_range hk]; rfl
theorem pw4 (k : Nat) : (2 : Int) ^ (2 * k) = ((4 ^ k : Nat) : Int) := by
  rw [Int.natCast_pow, Int.pow_mul]; rfl
theorem pats_in (n : Nat) (hn : n < 4096) (j1 : Int × List (List Int) → Option (List (List Int) × Unit)) :
    loopF (R_Patterns_l3 FU ((n : Int), RU n) (n : Int) j1) FU (0, (5, (RU n, []))) = j1 ((n : Int), RU (n + 1)) := by
  refine stL3 (n := 6) (by rw [FU_val]; omega) (st := fun i : Nat => (((sumD n i : Nat) : Int), (5 - (i : Int), (RU n, (List.range i).map fun k => ((dg n k : Nat) : Int))))) (by rfl) (fun j i hi => ?_) (fun j => ?_)
  · unfold R_Patterns_l3
    have b1 := sumD_bd n i
    have b2 := dg_bd n i
    have hv : bits BinOp.and IntKind.i64 ((n : Int) / 2 ^ (Int.toNat (IntKind.i64.wrap (2 * (5 - (i : Int)))))) 3 = ((n / 4 ^ (5 - i) % 4 : Nat) : Int) := by
      rw [s_wr (by omega) (by omega), show Int.toNat (2 * (5 - (i : Int))) = 2 * (5 - i) by omega, pw4, ← Int.natCast_ediv]
      exact bits_and3 _ (Nat.lt_of_le_of_lt (Nat.div_le_self _ _) hn)
    have hd : IntKind.i64.wrap (1 + ((n / 4 ^ (5 - i) % 4 : Nat) : Int)) = ((dg n i : Nat) : Int) := by
      have := Nat.mod_lt (n / 4 ^ (5 - i)) (show 4 > 0 by omega)
      rw [s_wr (by omega) (by omega)]
      unfold dg
      omega
    simp only [hv, hd]
    have hl : ((List.range i).map fun k => ((dg n k : Nat) : Int)) ++ ((dg n i : Nat) : Int) :: [] = (List.range (i + 1)).map fun k => ((dg n k : Nat) : Int) := by
      rw [List.range_succ, List.map_append]; rfl
    simp only [hl]
    simp (disch := omega) only [joinF_eq, bindO_some, s_wr, s_td, s_tm, s_pos, s_neg, cond_true, cond_false, Bool.not_true, Bool.not_false, Bool.true_and, Bool.and_true, Bool.false_and, Bool.and_false, bne_self_eq_false, decide_true, decide_false, Int.toNat_natCast, List.length_map, List.length_range, List.length_cons, List.length_nil]
    rw [show Int.toNat (5 - (5 - (i : Int))) = i by omega, List.getD_eq_getElem?_getD, List.getElem?_map, List.getElem?_range (by omega : i < i + 1), Option.map_some, Option.getD_some, s_wr (by omega) (by omega), sumD_succ]
    congr 2
    refine Prod.ext ?_ rfl
    simp only
    omega
  · unfold R_Patterns_l3 R_Patterns_j4
    have b1 := sumD_bd n 6
    have d0 := dg_bd n 0
    have d2 := dg_bd n 2
    have d4 := dg_bd n 4
    have hL : ((List.range 6).map fun k => ((dg n k : Nat) : Int)) = dgl n := rfl
    have hlen : (dgl n).length = 6 := by simp [dgl]
    have g0 := dgl_get n 0 (by omega)
    have g2 := dgl_get n 2 (by omega)
    have g4 := dgl_get n 4 (by omega)
    have hR := RU_len n
    simp only [hL]
    simp (disch := omega) only [joinF_eq, bindO_some, s_wr, s_td, s_tm, s_pos, s_neg, cond_true, cond_false, Bool.not_true, Bool.not_false, Bool.true_and, Bool.and_true, Bool.false_and, Bool.and_false, bne_self_eq_false, decide_true, decide_false, Int.toNat_natCast, List.length_cons, List.length_nil]
    rw [RU_succ]
    have hgood : goodN n = decide (sumD n 6 = 11 ∧ (dg n 0 + dg n 2 + dg n 4) % 2 = 0) := by
      unfold goodN
      rw [Bool.eq_iff_iff]
      simp [Nat.beq_eq]
    by_cases hs : sumD n 6 = 11
    · have z0 : Int.toNat (0 : Int) = 0 := rfl
      have z2 : Int.toNat (2 : Int) = 2 := rfl
      have z4 : Int.toNat (4 : Int) = 4 := rfl
      simp only [z0, z2, z4, g0, g2, g4, hlen]
      simp (disch := omega) only [joinF_eq, bindO_some, s_wr, s_td, s_tm, s_pos, s_neg, cond_true, cond_false, Bool.not_true, Bool.not_false, Bool.true_and, Bool.and_true, Bool.false_and, Bool.and_false, bne_self_eq_false, decide_true, decide_false, Int.toNat_natCast]
      by_cases he : (dg n 0 + dg n 2 + dg n 4) % 2 = 0
      · have hg : goodN n = true := by rw [hgood]; exact decide_eq_true ⟨hs, he⟩
        rw [if_pos hg]
        simp (disch := omega) only [joinF_eq, bindO_some, s_wr, s_td, s_tm, s_pos, s_neg, cond_true, cond_false, Bool.not_true, Bool.not_false, Bool.true_and, Bool.and_true, Bool.false_and, Bool.and_false, bne_self_eq_false, decide_true, decide_false, Int.toNat_natCast]
      · have hg : ¬ goodN n = true := by rw [hgood]; exact fun h => he (of_decide_eq_true h).2
        rw [if_neg hg, List.append_nil]
        simp (disch := omega) only [joinF_eq, bindO_some, s_wr, s_td, s_tm, s_pos, s_neg, cond_true, cond_false, Bool.not_true, Bool.not_false, Bool.true_and, Bool.and_true, Bool.false_and, Bool.and_false, bne_self_eq_false, decide_true, decide_false, Int.toNat_natCast]
    · have hg : ¬ goodN n = true := by rw [hgood]; exact fun h => hs (of_decide_eq_true h).1
      rw [if_neg hg, List.append_nil]
      simp (disch := omega) only [joinF_eq, bindO_some, s_wr, s_td, s_tm, s_pos, s_neg, cond_true, cond_false, Bool.not_true, Bool.not_false, Bool.true_and, Bool.and_true, Bool.false_and, Bool.and_false, bne_self_eq_false, decide_true, decide_false, Int.toNat_natCast]
theorem rpats_ok : R_Patterns_r FU () = some (rpats, ()) := by
  unfold R_Patterns_r
  rw [← RU_all]
  refine stL3 (n := 4096) (by rw [FU_val]; omega) (st := fun i : Nat => ((i : Int), RU i)) rfl (fun j i hi => ?_) (fun j => ?_)
  · unfold R_Patterns_l1 R_Patterns_j2
    simp (disch := omega) only [joinF_eq, bindO_some, s_wr, s_td, s_tm, s_pos, s_neg, cond_true, cond_false, Bool.not_true, Bool.not_false, Bool.true_and, Bool.and_true, Bool.false_and, Bool.and_false, bne_self_eq_false, decide_true, decide_false, Int.toNat_natCast]
    rw [pats_in i hi, s_wr (by omega) (by omega)]
    congr 2
  · unfold R_Patterns_l1
    simp (disch := omega) only [joinF_eq, bindO_some, s_wr, s_td, s_tm, s_pos, s_neg, cond_true, cond_false, Bool.not_true, Bool.not_false, Bool.true_and, Bool.and_true, Bool.false_and, Bool.and_false, bne_self_eq_false, decide_true, decide_false, Int.toNat_natCast]
end Go.Proofs.Ytedjnjgnadbkaaa
/- Numbers: what the small functions compute. -/
namespace Go.Proofs.Ytedjnjgnadbkaaa
open Go Go.RowKit
set_option linter.unusedSimpArgs false
set_option linter.unusedSectionVars false
set_option linter.unusedVariables false

end Go.Proofs.Ytedjnjgnadbkaaa
/- Bar codes: the value of six widths. -/
set_option maxRecDepth 100000
namespace Go.Proofs.Ytedjnjgnadbkaaa
open Go Go.RowKit
set_option linter.unusedSimpArgs false
set_option linter.unusedSectionVars false
set_option linter.unusedVariables false

abbrev P6 := Int × (Int × (Int × (Int × (Int × Int))))
def tl6 (p : P6) : List Int := [p.1, p.2.1, p.2.2.1, p.2.2.2.1, p.2.2.2.2.1, p.2.2.2.2.2]
theorem pats_eq : ∀ v : Nat, v < 103 → tl6 (pats.getD v (0, (0, (0, (0, (0, 0)))))) = rpats.getD v [] := by decide +kernel
theorem pats_len : pats.length = 103 := by decide +kernel
theorem rpats_len : rpats.length = 108 := by decide +kernel
theorem rpats_six : ∀ v : Nat, v < 108 → (rpats.getD v []).length = 6 := by decide +kernel
def tot6 (w : List Int) : Int := w.getD 0 0 + w.getD 1 0 + w.getD 2 0 + w.getD 3 0 + w.getD 4 0 + w.getD 5 0
def ed (w : List Int) (i : Nat) : Int := rnd (11 * (w.getD i 0 + w.getD (i + 1) 0)) (tot6 w)
def pr (v i : Nat) : Int := (rpats.getD v []).getD i 0 + (rpats.getD v []).getD (i + 1) 0
def hitV (w : List Int) (v : Nat) : Prop := ∀ i, i < 4 → pr v i = ed w i
instance (w : List Int) (v : Nat) : Decidable (hitV w v) := by unfold hitV; infer_instance
/-- six widths at least, each of them in its bounds -/
def okW (w : List Int) : Prop := 6 ≤ w.length ∧ ∀ i, i < w.length → 1 ≤ w.getD i 0 ∧ w.getD i 0 ≤ 1024
/-! ### the program -/
/-! ### the reference -/
end Go.Proofs.Ytedjnjgnadbkaaa
/- Bar codes: what is read. -/
set_option maxRecDepth 100000
namespace Go.Proofs.Ytedjnjgnadbkaaa
open Go Go.RowKit
set_option linter.unusedSimpArgs false
set_option linter.unusedSectionVars false
set_option linter.unusedVariables false

theorem s_w8 {x : Int} (h0 : 0 ≤ x) (h1 : x ≤ 255) : IntKind.u8.wrap x = x := by
  simp [IntKind.wrap, IntKind.bits, IntKind.signed]
  omega
abbrev RdT := (List UInt8) × (Int × Unit)
def bad : Option RdT := some (([] : List UInt8), ((4 : Int), ()))
/-! ### digits -/
theorem take_snoc {l : List Int} {i : Nat} (h : i < l.length) : l.take (i + 1) = l.take i ++ [l.getD i 0] := by
  rw [List.take_succ_eq_append_getElem h, List.getD_eq_getElem?_getD, List.getElem?_eq_getElem h]; rfl
def okV (l : List Int) : Prop := l.length ≤ 20 ∧ ∀ i, i < l.length → 0 ≤ l.getD i 0 ∧ l.getD i 0 ≤ 102
/-! ### the sum -/
def sumW (l : List Int) (k : Nat) : Int := ((List.range k).map fun i : Nat => ((i : Int) + 1) * l.getD i 0).sum
theorem sumW_succ (l : List Int) (k : Nat) : sumW l (k + 1) = sumW l k + ((k : Int) + 1) * l.getD k 0 := by
  unfold sumW
  rw [List.range_succ, List.map_append, List.sum_append]; simp
theorem mulW_bd {k : Nat} {v : Int} (hk : k ≤ 20) (h0 : 0 ≤ v) (h1 : v ≤ 102) : 0 ≤ ((k : Int) + 1) * v ∧ ((k : Int) + 1) * v ≤ 21 * 102 :=
  ⟨Int.mul_nonneg (by omega) h0, Int.mul_le_mul (by omega) h1 h0 (by omega)⟩
theorem sumW_bd {l : List Int} (hl : okV l) : ∀ k, k ≤ l.length → 0 ≤ sumW l k ∧ sumW l k ≤ 2142 * k
  | 0, _ => ⟨Int.le_refl _, Int.le_refl _⟩
  | k + 1, hk => by
    have ih := sumW_bd hl k (by omega)
    have hb := hl.2 k (by omega)
    have := mulW_bd (k := k) (by have := hl.1; omega) hb.1 hb.2
    rw [sumW_succ]
    omega
theorem sum_s {l : List Int} (hl : okV l) : linear_sum_r FU (l, ()) = some (sumW l l.length % 101, ()) := by
  unfold linear_sum_r
  have hn := hl.1
  refine stL3 (n := l.length) (by rw [FU_val]; omega) (st := fun i : Nat => (sumW l i, (i : Int))) rfl (fun j i hi => ?_) (fun j => ?_)
  · unfold linear_sum_l1
    have ih := sumW_bd hl i (by omega)
    have hb := hl.2 i hi
    have hm := mulW_bd (k := i) (by omega) hb.1 hb.2
    simp (disch := omega) only [joinF_eq, bindO_some, s_wr, s_td, s_tm, s_pos, s_neg, cond_true, cond_false, Bool.not_true, Bool.not_false, Bool.true_and, Bool.and_true, Bool.false_and, Bool.and_false, bne_self_eq_false, decide_true, decide_false, Int.toNat_natCast]
    rw [sumW_succ]
    rfl
  · unfold linear_sum_l1
    have ih := sumW_bd hl l.length (by omega)
    simp (disch := omega) only [joinF_eq, bindO_some, s_wr, s_td, s_tm, s_pos, s_neg, cond_true, cond_false, Bool.not_true, Bool.not_false, Bool.true_and, Bool.and_true, Bool.false_and, Bool.and_false, bne_self_eq_false, decide_true, decide_false, Int.toNat_natCast]
end Go.Proofs.Ytedjnjgnadbkaaa
/- Residual programs of functions (printed by a program out of the code), checked by the kernel, and the contracts that follow. -/
namespace Go.Proofs.Ytedjnjgnadbkaaa
open Go Go.RowKit
set_option linter.unusedVariables false
def R_SameBytes_r (fu : Nat) (a : (List (Int)) × ((List (Int)) × (Unit))) : Option ((Bool) × (Unit)) :=
  let v0 : Bool := (decide ((bytesOf a.1) = (bytesOf a.2.1)))
  some ((v0, ()))
def R_SameBytes_an : An := (.n none .z (.n none .z .z))
noncomputable def R_SameBytes_dc : List (Nat × Ctr) := []
def R_SameBytes_ctr : Ctr := ⟨(.pair (.list (.int .u8)) (.pair (.list (.int .u8)) .unit)), (.pair .bool .unit), R_SameBytes_r, 23⟩
theorem R_SameBytes_ok : CtrOk Try.prog 23 R_SameBytes_ctr := ctr_ok (l := R_SameBytes_dc) (f := 12) (an := R_SameBytes_an) trivial fun fu x => by kernel_rfl
def R_SameBits_r (fu : Nat) (a : ((Int) × ((Int) × (List (Int)))) × (((Int) × ((Int) × (List (Int)))) × (Unit))) : Option ((Bool) × (Unit)) :=
  bif (decide (a.1.1 = a.2.1.1)) then
    bif (decide (a.1.2.1 = a.2.1.2.1)) then
      bindO (R_SameBytes_r fu ((a.1.2.2, (a.2.1.2.2, ())))) fun v0 =>
      let v1 : Bool := v0.1
      some ((v1, ()))
    else
    some ((false, ()))
  else
  some ((false, ()))
def R_SameBits_an : An := (.n none .z (.n none .z .z))
noncomputable def R_SameBits_dc : List (Nat × Ctr) := [(23, R_SameBytes_ctr)]
def R_SameBits_ctr : Ctr := ⟨(.pair (.agg (.pair (.int .i64) (.pair (.int .i64) (.list (.int .u8))))) (.pair (.agg (.pair (.int .i64) (.pair (.int .i64) (.list (.int .u8))))) .unit)), (.pair .bool .unit), R_SameBits_r, 40⟩
theorem R_SameBits_ok : CtrOk Try.prog 40 R_SameBits_ctr := ctr_ok (l := R_SameBits_dc) (f := 12) (an := R_SameBits_an) ⟨R_SameBytes_ok, trivial⟩ fun fu x => by kernel_rfl
def R_Drawn_j2 (fu : Nat) (j1 : ((Int) × (List (Int))) → Option (((Int) × ((Int) × (List (Int)))) × (Unit))) (v2 : (Int) × (List (Int))) : Option (((Int) × ((Int) × (List (Int)))) × (Unit)) :=
  j1 (((IntKind.i64.wrap (v2.1 + (1 : Int))), v2.2))
def R_Drawn_l1 (fu : Nat) (a : (Int) × ((Int) × ((List (Bool)) × (Unit)))) (v0 : Int) (j1 : ((Int) × (List (Int))) → Option (((Int) × ((Int) × (List (Int)))) × (Unit))) (v1 : (Int) × (List (Int))) : Option (((Int) × ((Int) × (List (Int)))) × (Unit)) :=
  bif (decide (v1.1 < (List.length a.2.2.1 : Int))) then
    joinF (R_Drawn_j2 fu j1) fun j2 =>
    bif ((decide ((0 : Int) ≤ v1.1)) && (decide (v1.1 < (List.length a.2.2.1 : Int)))) then
    let v3 : Bool := (List.getD a.2.2.1 (Int.toNat v1.1) false)
    let v4 : Int := v1.1
    bif v3 then
      bif (decide (a.1 ≠ (0 : Int))) then
      bif (decide (a.1 ≠ (0 : Int))) then
      bif ((decide ((0 : Int) ≤ (IntKind.i64.wrap ((IntKind.i64.wrap ((IntKind.i64.wrap (Int.tdiv v4 a.1)) * v0)) + (IntKind.i64.wrap (Int.tdiv (Int.tmod v4 a.1) (8 : Int))))))) && (decide ((IntKind.i64.wrap ((IntKind.i64.wrap ((IntKind.i64.wrap (Int.tdiv v4 a.1)) * v0)) + (IntKind.i64.wrap (Int.tdiv (Int.tmod v4 a.1) (8 : Int))))) < (List.length v1.2 : Int)))) then
      bif (decide (a.1 ≠ (0 : Int))) then
      bif ((decide ((0 : Int) ≤ (Int.tmod (Int.tmod v4 a.1) (8 : Int)))) && (decide ((Int.tmod (Int.tmod v4 a.1) (8 : Int)) ≤ (8 : Int)))) then
      bif ((decide ((0 : Int) ≤ (IntKind.i64.wrap ((IntKind.i64.wrap ((IntKind.i64.wrap (Int.tdiv v4 a.1)) * v0)) + (IntKind.i64.wrap (Int.tdiv (Int.tmod v4 a.1) (8 : Int))))))) && (decide ((IntKind.i64.wrap ((IntKind.i64.wrap ((IntKind.i64.wrap (Int.tdiv v4 a.1)) * v0)) + (IntKind.i64.wrap (Int.tdiv (Int.tmod v4 a.1) (8 : Int))))) < (List.length v1.2 : Int)))) then
      j2 ((v1.1, (List.set v1.2 (Int.toNat (IntKind.i64.wrap ((IntKind.i64.wrap ((IntKind.i64.wrap (Int.tdiv v4 a.1)) * v0)) + (IntKind.i64.wrap (Int.tdiv (Int.tmod v4 a.1) (8 : Int)))))) (bits BinOp.or IntKind.u8 (List.getD v1.2 (Int.toNat (IntKind.i64.wrap ((IntKind.i64.wrap ((IntKind.i64.wrap (Int.tdiv v4 a.1)) * v0)) + (IntKind.i64.wrap (Int.tdiv (Int.tmod v4 a.1) (8 : Int)))))) 0) ((128 : Int) / 2 ^ (Int.toNat (Int.tmod (Int.tmod v4 a.1) (8 : Int))))))))
      else none
      else none
      else none
      else none
      else none
      else none
    else
    j2 ((v1.1, v1.2))
    else none
  else
  some (((a.1, (a.2.1, v1.2)), ()))
def R_Drawn_r (fu : Nat) (a : (Int) × ((Int) × ((List (Bool)) × (Unit)))) : Option (((Int) × ((Int) × (List (Int)))) × (Unit)) :=
  let v0 : Int := (IntKind.i64.wrap (Int.tdiv (IntKind.i64.wrap (a.1 + (7 : Int))) (8 : Int)))
  bif ((decide ((0 : Int) ≤ (IntKind.i64.wrap (v0 * a.2.1)))) && (decide (((1 : Int) * (IntKind.i64.wrap (v0 * a.2.1))) ≤ (281474976710656 : Int)))) then
  loopF (R_Drawn_l1 fu a v0) fu (((0 : Int), (List.replicate (Int.toNat (IntKind.i64.wrap (v0 * a.2.1))) (0 : Int))))
  else none
def R_Drawn_an : An := (.n none .z (.n none .z (.n none .z (.n none (.n none .z (.n none (.n (some ⟨[6, 8, 21, 0, 7, 22], [0, 2], [], [.reg 23 (.int .i64), .row 1 true (.int .u8) 5 0], 0, []⟩) (.n none .z (.n none .z (.n (some ⟨[], [], [], [.reg 23 (.int .i64), .row 1 true (.int .u8) 5 0], 0, []⟩) (.n none (.n none .z (.n none .z (.n none (.dr [] []) .z))) .z) .z))) .z) .z)) (.n none .z .z)))))
noncomputable def R_Drawn_dc : List (Nat × Ctr) := []
def R_Drawn_ctr : Ctr := ⟨(.pair (.int .i64) (.pair (.int .i64) (.pair (.list .bool) .unit))), (.pair (.agg (.pair (.int .i64) (.pair (.int .i64) (.list (.int .u8))))) .unit), R_Drawn_r, 41⟩
theorem R_Drawn_ok : CtrOk Try.prog 41 R_Drawn_ctr := ctr_ok (l := R_Drawn_dc) (f := 12) (an := R_Drawn_an) trivial fun fu x => by kernel_rfl
def R_NoBits_r (fu : Nat) (a : ((Int) × ((Int) × (List (Int)))) × (Unit)) : Option ((Bool) × (Unit)) :=
  bif (decide (a.1.1 = (0 : Int))) then
    bif (decide (a.1.2.1 = (0 : Int))) then
      let v0 : Bool := (decide ((List.length a.1.2.2 : Int) = (0 : Int)))
      some ((v0, ()))
    else
    some ((false, ()))
  else
  some ((false, ()))
def R_NoBits_an : An := (.n none .z (.n none .z .z))
noncomputable def R_NoBits_dc : List (Nat × Ctr) := []
def R_NoBits_ctr : Ctr := ⟨(.pair (.agg (.pair (.int .i64) (.pair (.int .i64) (.list (.int .u8))))) .unit), (.pair .bool .unit), R_NoBits_r, 87⟩
theorem R_NoBits_ok : CtrOk Try.prog 87 R_NoBits_ctr := ctr_ok (l := R_NoBits_dc) (f := 12) (an := R_NoBits_an) trivial fun fu x => by kernel_rfl
def law_refused_r (fu : Nat) (a : ((Int) × ((Int) × (List (Int)))) × ((Int) × ((Int) × (Unit)))) : Option ((Bool) × (Unit)) :=
  bindO (R_NoBits_r fu (((a.1.1, (a.1.2.1, a.1.2.2)), ()))) fun v0 =>
  bif v0.1 then
    let v1 : Bool := (decide (a.2.1 = a.2.2.1))
    some ((v1, ()))
  else
  some ((false, ()))
def law_refused_an : An := (.n none .z (.n none .z .z))
noncomputable def law_refused_dc : List (Nat × Ctr) := [(87, R_NoBits_ctr)]
def law_refused_ctr : Ctr := ⟨(.pair (.agg (.pair (.int .i64) (.pair (.int .i64) (.list (.int .u8))))) (.pair (.int .i64) (.pair (.int .i64) .unit))), (.pair .bool .unit), law_refused_r, 36⟩
theorem law_refused_ok : CtrOk Try.prog 36 law_refused_ctr := ctr_ok (l := law_refused_dc) (f := 12) (an := law_refused_an) ⟨R_NoBits_ok, trivial⟩ fun fu x => by kernel_rfl
def R_Bars_l1 (fu : Nat) (a : (List (Int)) × (Unit)) (v1 : List (List (Int))) (j3 : ((Int) × (List (Int))) → Option ((List (Int)) × (Unit))) (v3 : (Int) × (List (Int))) : Option ((List (Int)) × (Unit)) :=
  bif (decide (v3.1 < (List.length a.1 : Int))) then
    bif ((decide ((0 : Int) ≤ v3.1)) && (decide (v3.1 < (List.length a.1 : Int)))) then
    let v4 : Int := (List.getD a.1 (Int.toNat v3.1) 0)
    bif ((decide ((0 : Int) ≤ v4)) && (decide (v4 < (List.length v1 : Int)))) then
    let v5 : List (Int) := (List.getD v1 (Int.toNat v4) [])
    bif (decide ((((List.length v3.2 : Int) + (List.length v5 : Int)) * (8 : Int)) ≤ (140737488355328 : Int))) then
    j3 (((IntKind.i64.wrap (v3.1 + (1 : Int))), (v3.2 ++ v5)))
    else none
    else none
    else none
  else
  bif (decide ((102 : Int) < (List.length v1 : Int))) then
  let v4 : List (Int) := (List.getD v1 (Int.toNat (102 : Int)) [])
  bif (decide ((((List.length v3.2 : Int) + (List.length v4 : Int)) * (8 : Int)) ≤ (140737488355328 : Int))) then
  bif (decide ((((List.length (v3.2 ++ v4) : Int) + (List.length ((2 : Int) :: ([] : List (Int))) : Int)) * (8 : Int)) ≤ (140737488355328 : Int))) then
  some ((((v3.2 ++ v4) ++ ((2 : Int) :: ([] : List (Int)))), ()))
  else none
  else none
  else none
def R_Bars_r (fu : Nat) (a : (List (Int)) × (Unit)) : Option ((List (Int)) × (Unit)) :=
  bindO (R_Patterns_r fu (())) fun v0 =>
  let v1 : List (List (Int)) := v0.1
  bif (decide ((101 : Int) < (List.length v1 : Int))) then
  let v2 : List (Int) := (List.getD v1 (Int.toNat (101 : Int)) [])
  bif (decide ((((List.length ([] : List (Int)) : Int) + (List.length v2 : Int)) * (8 : Int)) ≤ (140737488355328 : Int))) then
  loopF (R_Bars_l1 fu a v1) fu (((0 : Int), (([] : List (Int)) ++ v2)))
  else none
  else none
def R_Bars_an : An := (.n none .z (.n none .z (.n none .z (.n none (.n none .z (.n none (.n (some ⟨[3, 13, 14, 2], [], [(4, (.osl 0 1))], [.reg 15 (.int .i64), .row 0 true (.int .i64) 3 1], 0, []⟩) (.n none .z (.n none .z (.n none (.n none (.n none .z .z) .z) .z))) .z) .z)) (.n none .z .z)))))
noncomputable def R_Bars_dc : List (Nat × Ctr) := [(33, R_Patterns_ctr)]
def R_Bars_ctr : Ctr := ⟨(.pair (.list (.int .i64)) .unit), (.pair (.list (.int .i64)) .unit), R_Bars_r, 37⟩
theorem R_Bars_ok : CtrOk Try.prog 37 R_Bars_ctr := ctr_ok (l := R_Bars_dc) (f := 12) (an := R_Bars_an) ⟨R_Patterns_ok, trivial⟩ fun fu x => by kernel_rfl
def R_Values_l3 (fu : Nat) (v1 : (Int) × (List (Int))) (j2 : ((Int) × (Int)) → Option ((List (Int)) × (Unit))) (v2 : (Int) × (Int)) : Option ((List (Int)) × (Unit)) :=
  bif (decide (v2.2 < (List.length v1.2 : Int))) then
    bif ((decide ((0 : Int) ≤ v2.2)) && (decide (v2.2 < (List.length v1.2 : Int)))) then
    let v3 : Int := v2.2
    let v4 : Int := (List.getD v1.2 (Int.toNat v2.2) 0)
    let v5 : Int := (IntKind.i64.wrap (v2.1 + (IntKind.i64.wrap ((IntKind.i64.wrap (v3 + (1 : Int))) * v4))))
    j2 ((v5, (IntKind.i64.wrap (v2.2 + (1 : Int)))))
    else none
  else
  bif (decide ((((List.length v1.2 : Int) + (List.length ((Int.tmod v2.1 (101 : Int)) :: ([] : List (Int))) : Int)) * (8 : Int)) ≤ (140737488355328 : Int))) then
  some (((v1.2 ++ ((Int.tmod v2.1 (101 : Int)) :: ([] : List (Int)))), ()))
  else none
def R_Values_l2 (fu : Nat) (v0 : (List UInt8) × (List (Int))) (j1 : ((Int) × (List (Int))) → Option ((List (Int)) × (Unit))) (v1 : (Int) × (List (Int))) : Option ((List (Int)) × (Unit)) :=
  bif (decide (v1.1 < (List.length v0.1 : Int))) then
    bif ((decide ((0 : Int) ≤ v1.1)) && (decide (v1.1 < (List.length v0.1 : Int)))) then
    bif ((decide ((0 : Int) ≤ (IntKind.i64.wrap (v1.1 + (1 : Int))))) && (decide ((IntKind.i64.wrap (v1.1 + (1 : Int))) < (List.length v0.1 : Int)))) then
    bif (decide ((((List.length v1.2 : Int) + (List.length ((IntKind.i64.wrap ((IntKind.i64.wrap ((IntKind.i64.wrap (IntKind.u8.wrap (((List.getD v0.1 (Int.toNat v1.1) 0).toNat : Int) - (48 : Int)))) * (10 : Int))) + (IntKind.i64.wrap (IntKind.u8.wrap (((List.getD v0.1 (Int.toNat (IntKind.i64.wrap (v1.1 + (1 : Int)))) 0).toNat : Int) - (48 : Int)))))) :: ([] : List (Int))) : Int)) * (8 : Int)) ≤ (140737488355328 : Int))) then
    let v2 : Int := (IntKind.i64.wrap (v1.1 + (2 : Int)))
    j1 ((v2, (v1.2 ++ ((IntKind.i64.wrap ((IntKind.i64.wrap ((IntKind.i64.wrap (IntKind.u8.wrap (((List.getD v0.1 (Int.toNat v1.1) 0).toNat : Int) - (48 : Int)))) * (10 : Int))) + (IntKind.i64.wrap (IntKind.u8.wrap (((List.getD v0.1 (Int.toNat (IntKind.i64.wrap (v1.1 + (1 : Int)))) 0).toNat : Int) - (48 : Int)))))) :: ([] : List (Int))))))
    else none
    else none
    else none
  else
  loopF (R_Values_l3 fu v1) fu (((0 : Int), (0 : Int)))
def R_Values_j1 (fu : Nat) (v0 : (List UInt8) × (List (Int))) : Option ((List (Int)) × (Unit)) :=
  loopF (R_Values_l2 fu v0) fu (((0 : Int), v0.2))
def R_Values_r (fu : Nat) (a : (List UInt8) × (Unit)) : Option ((List (Int)) × (Unit)) :=
  joinF (R_Values_j1 fu) fun j0 =>
  bif (decide ((Int.tmod (List.length a.1 : Int) (2 : Int)) = (1 : Int))) then
    bif (decide (((List.length ((100 : Int) :: ([] : List (Int))) : Int) * (8 : Int)) ≤ (140737488355328 : Int))) then
    bif (decide (((List.length ([48] : List UInt8) : Int) + (List.length a.1 : Int)) ≤ (9223372036854775807 : Int))) then
    let v1 : List UInt8 := (([48] : List UInt8) ++ a.1)
    j0 ((v1, ((100 : Int) :: ([] : List (Int)))))
    else none
    else none
  else
  j0 ((a.1, ([] : List (Int))))
def R_Values_an : An := (.n none .z (.n none .z (.n (some ⟨[], [], [(3, (.osl 0 0))], [.reg 0 .str, .row 0 true (.int .i64) 3 0], 1, [(3, (.int .i64), 3)]⟩) (.n none .z (.n none (.n none .z .z) .z)) (.n none (.n none .z (.n none (.n (some ⟨[0], [], [(3, (.osl 0 0))], [.reg 4 (.int .i64), .row 0 true (.int .i64) 3 0], 0, []⟩) (.n none (.n none .z .z) (.n none (.n none (.dr [] []) .z) .z)) .z) .z)) (.n none .z (.n none (.n none .z (.n none (.n (some ⟨[3, 39, 40], [0], [], [.reg 5 (.int .i64), .reg 41 (.int .i64)], 0, []⟩) (.n none .z (.n none .z (.n none (.n none (.n none .z .z) .z) .z))) .z) .z)) (.n none .z .z)))))))
noncomputable def R_Values_dc : List (Nat × Ctr) := []
def R_Values_ctr : Ctr := ⟨(.pair .str .unit), (.pair (.list (.int .i64)) .unit), R_Values_r, 38⟩
theorem R_Values_ok : CtrOk Try.prog 38 R_Values_ctr := ctr_ok (l := R_Values_dc) (f := 12) (an := R_Values_an) trivial fun fu x => by kernel_rfl
def law_none_r (fu : Nat) (a : (Bool) × ((Int) × ((Int) × (Unit)))) : Option ((Bool) × (Unit)) :=
  bif a.1 then
    let v0 : Bool := (decide (a.2.1 = a.2.2.1))
    some ((v0, ()))
  else
  some ((false, ()))
def law_none_an : An := (.n none .z (.n none .z .z))
noncomputable def law_none_dc : List (Nat × Ctr) := []
def law_none_ctr : Ctr := ⟨(.pair .bool (.pair (.int .i64) (.pair (.int .i64) .unit))), (.pair .bool .unit), law_none_r, 21⟩
theorem law_none_ok : CtrOk Try.prog 21 law_none_ctr := ctr_ok (l := law_none_dc) (f := 12) (an := law_none_an) trivial fun fu x => by kernel_rfl
def bitmap_stride_r (fu : Nat) (a : (Int) × (Unit)) : Option ((Int) × (Unit)) :=
  let v0 : Int := (IntKind.i64.wrap (Int.tdiv (IntKind.i64.wrap (a.1 + (7 : Int))) (8 : Int)))
  some ((v0, ()))
def bitmap_stride_an : An := (.n none .z (.n none .z .z))
noncomputable def bitmap_stride_dc : List (Nat × Ctr) := []
def bitmap_stride_ctr : Ctr := ⟨(.pair (.int .i64) .unit), (.pair (.int .i64) .unit), bitmap_stride_r, 109⟩
theorem bitmap_stride_ok : CtrOk Try.prog 109 bitmap_stride_ctr := ctr_ok (l := bitmap_stride_dc) (f := 12) (an := bitmap_stride_an) trivial fun fu x => by kernel_rfl
def linear_Bits_j6 (fu : Nat) (v4 : (Int) × (Int)) (v9 : (Int) × ((Int) × (List (Int)))) (v10 : (Int) × (List (Int))) (j9 : ((Int) × ((Int) × (List (Int)))) → Option (((Int) × ((Int) × (List (Int)))) × ((Int) × (Unit)))) (j10 : ((Int) × (List (Int))) → Option (((Int) × ((Int) × (List (Int)))) × ((Int) × (Unit)))) (v11 : Bool) : Option (((Int) × ((Int) × (List (Int)))) × ((Int) × (Unit))) :=
  bif v11 then
    bindO (bitmap_stride_r fu ((v4.1, ()))) fun v12 =>
    bif ((decide ((0 : Int) ≤ (IntKind.i64.wrap ((IntKind.i64.wrap (v10.1 * v12.1)) + (IntKind.i64.wrap (Int.tdiv v9.1 (8 : Int))))))) && (decide ((IntKind.i64.wrap ((IntKind.i64.wrap (v10.1 * v12.1)) + (IntKind.i64.wrap (Int.tdiv v9.1 (8 : Int))))) < (List.length v10.2 : Int)))) then
    bif ((decide ((0 : Int) ≤ (Int.tmod v9.1 (8 : Int)))) && (decide ((Int.tmod v9.1 (8 : Int)) ≤ (8 : Int)))) then
    bif ((decide ((0 : Int) ≤ (IntKind.i64.wrap ((IntKind.i64.wrap (v10.1 * v12.1)) + (IntKind.i64.wrap (Int.tdiv v9.1 (8 : Int))))))) && (decide ((IntKind.i64.wrap ((IntKind.i64.wrap (v10.1 * v12.1)) + (IntKind.i64.wrap (Int.tdiv v9.1 (8 : Int))))) < (List.length v10.2 : Int)))) then
    let v13 : Int := (IntKind.i64.wrap (v10.1 + (1 : Int)))
    j10 ((v13, (List.set v10.2 (Int.toNat (IntKind.i64.wrap ((IntKind.i64.wrap (v10.1 * v12.1)) + (IntKind.i64.wrap (Int.tdiv v9.1 (8 : Int)))))) (bits BinOp.or IntKind.u8 (List.getD v10.2 (Int.toNat (IntKind.i64.wrap ((IntKind.i64.wrap (v10.1 * v12.1)) + (IntKind.i64.wrap (Int.tdiv v9.1 (8 : Int)))))) 0) ((128 : Int) / 2 ^ (Int.toNat (Int.tmod v9.1 (8 : Int))))))))
    else none
    else none
    else none
  else
  let v12 : Int := (IntKind.i64.wrap (v9.1 + (1 : Int)))
  j9 ((v12, ((IntKind.i64.wrap (v9.2.1 + (1 : Int))), v10.2)))
def linear_Bits_l5 (fu : Nat) (a : (List UInt8) × ((Int) × ((Int) × (Unit)))) (v4 : (Int) × (Int)) (v8 : Int) (v9 : (Int) × ((Int) × (List (Int)))) (j9 : ((Int) × ((Int) × (List (Int)))) → Option (((Int) × ((Int) × (List (Int)))) × ((Int) × (Unit)))) (j10 : ((Int) × (List (Int))) → Option (((Int) × ((Int) × (List (Int)))) × ((Int) × (Unit)))) (v10 : (Int) × (List (Int))) : Option (((Int) × ((Int) × (List (Int)))) × ((Int) × (Unit))) :=
  joinF (linear_Bits_j6 fu v4 v9 v10 j9 j10) fun j11 =>
  bif (decide ((Int.tmod v8 (2 : Int)) = (0 : Int))) then
    j11 ((decide (v10.1 < a.2.2.1)))
  else
  j11 (false)
def linear_Bits_l4 (fu : Nat) (a : (List UInt8) × ((Int) × ((Int) × (Unit)))) (v4 : (Int) × (Int)) (v6 : (Int) × ((Int) × (List (Int)))) (v7 : Int) (v8 : Int) (j6 : ((Int) × ((Int) × (List (Int)))) → Option (((Int) × ((Int) × (List (Int)))) × ((Int) × (Unit)))) (j9 : ((Int) × ((Int) × (List (Int)))) → Option (((Int) × ((Int) × (List (Int)))) × ((Int) × (Unit)))) (v9 : (Int) × ((Int) × (List (Int)))) : Option (((Int) × ((Int) × (List (Int)))) × ((Int) × (Unit))) :=
  bif (decide (v9.2.1 < (IntKind.i64.wrap (v7 * a.2.1)))) then
    loopF (linear_Bits_l5 fu a v4 v8 v9 j9) fu (((0 : Int), v9.2.2))
  else
  j6 (((IntKind.i64.wrap (v6.1 + (1 : Int))), (v9.1, v9.2.2)))
def linear_Bits_l3 (fu : Nat) (a : (List UInt8) × ((Int) × ((Int) × (Unit)))) (v1 : List (Int)) (v4 : (Int) × (Int)) (j6 : ((Int) × ((Int) × (List (Int)))) → Option (((Int) × ((Int) × (List (Int)))) × ((Int) × (Unit)))) (v6 : (Int) × ((Int) × (List (Int)))) : Option (((Int) × ((Int) × (List (Int)))) × ((Int) × (Unit))) :=
  bif (decide (v6.1 < (List.length v1 : Int))) then
    bif ((decide ((0 : Int) ≤ v6.1)) && (decide (v6.1 < (List.length v1 : Int)))) then
    let v7 : Int := (List.getD v1 (Int.toNat v6.1) 0)
    let v8 : Int := v6.1
    loopF (linear_Bits_l4 fu a v4 v6 v7 v8 j6) fu ((v6.2.1, ((0 : Int), v6.2.2)))
    else none
  else
  some (((v4.1, (a.2.2.1, v6.2.2)), ((0 : Int), ())))
def linear_Bits_l2 (fu : Nat) (a : (List UInt8) × ((Int) × ((Int) × (Unit)))) (v1 : List (Int)) (j4 : ((Int) × (Int)) → Option (((Int) × ((Int) × (List (Int)))) × ((Int) × (Unit)))) (v4 : (Int) × (Int)) : Option (((Int) × ((Int) × (List (Int)))) × ((Int) × (Unit))) :=
  bif (decide (v4.2 < (List.length v1 : Int))) then
    bif ((decide ((0 : Int) ≤ v4.2)) && (decide (v4.2 < (List.length v1 : Int)))) then
    let v5 : Int := (List.getD v1 (Int.toNat v4.2) 0)
    let v6 : Int := (IntKind.i64.wrap (v4.1 + (IntKind.i64.wrap (v5 * a.2.1))))
    j4 ((v6, (IntKind.i64.wrap (v4.2 + (1 : Int)))))
    else none
  else
  bif (decide ((1024 : Int) < v4.1)) then
    some ((((0 : Int), ((0 : Int), ([] : List (Int)))), ((19 : Int), ())))
  else
  bindO (bitmap_stride_r fu ((v4.1, ()))) fun v5 =>
  bif ((decide ((0 : Int) ≤ (IntKind.i64.wrap (v5.1 * a.2.2.1)))) && (decide (((1 : Int) * (IntKind.i64.wrap (v5.1 * a.2.2.1))) ≤ (281474976710656 : Int)))) then
  loopF (linear_Bits_l3 fu a v1 v4) fu (((0 : Int), ((0 : Int), (List.replicate (Int.toNat (IntKind.i64.wrap (v5.1 * a.2.2.1))) (0 : Int)))))
  else none
def linear_Bits_j1 (fu : Nat) (a : (List UInt8) × ((Int) × ((Int) × (Unit)))) (v1 : List (Int)) (v3 : Bool) : Option (((Int) × ((Int) × (List (Int)))) × ((Int) × (Unit))) :=
  bif v3 then
    some ((((0 : Int), ((0 : Int), ([] : List (Int)))), ((3 : Int), ())))
  else
  loopF (linear_Bits_l2 fu a v1) fu (((0 : Int), (0 : Int)))
def linear_Bits_r (fu : Nat) (a : (List UInt8) × ((Int) × ((Int) × (Unit)))) : Option (((Int) × ((Int) × (List (Int)))) × ((Int) × (Unit))) :=
  bindO (linear_Encode_r fu ((a.1, ()))) fun v0 =>
  let v1 : List (Int) := v0.1
  let v2 : Int := v0.2.1
  bif (decide (v2 ≠ (0 : Int))) then
    some ((((0 : Int), ((0 : Int), ([] : List (Int)))), (v2, ())))
  else
  joinF (linear_Bits_j1 fu a v1) fun j3 =>
  bif (decide (a.2.1 < (1 : Int))) then
    j3 (true)
  else
  bif (decide ((8 : Int) < a.2.1)) then
    j3 (true)
  else
  bif (decide (a.2.2.1 < (1 : Int))) then
    j3 (true)
  else
  j3 ((decide ((1024 : Int) < a.2.2.1)))
def linear_Bits_an : An := (.n none .z (.n none .z (.n none (.n none .z (.n none (.n none .z .z) .z)) (.n none (.n (some ⟨[2, 1, 6, 8], [0], [], [.reg 40 .bool], 0, []⟩) .z (.n none (.n none .z .z) .z)) (.n none .z (.n none (.n none .z (.n none (.n (some ⟨[2, 1, 6, 8, 42, 43], [0], [], [.reg 10 (.int .i64), .reg 44 (.int .i64)], 0, []⟩) (.n none .z (.n none .z (.n none (.n none (.n none .z .z) .z) .z))) .z) .z)) (.n none (.n none .z (.n none (.n none .z .z) .z)) (.n none (.ops [(2, (.n none (.n none .z (.n none .z .z)) .z))]) (.n none .z (.n none (.n none .z (.n none (.n (some ⟨[6, 13, 60, 1, 2, 61], [0, 3], [], [.reg 62 (.int .i64), .reg 14 (.int .i64), .row 2 true (.int .u8) 5 0], 0, []⟩) (.n none .z (.n none .z (.n none (.n none (.n none .z (.n none .z (.n none (.n (some ⟨[62, 15, 69], [], [], [.reg 14 (.int .i64), .reg 70 (.int .i64), .row 2 true (.int .u8) 5 0], 0, []⟩) (.n none .z (.n none .z (.n none (.n none (.n none (.n none .z (.n none (.n (some ⟨[70, 14], [], [], [.reg 17 (.int .i64), .row 2 true (.int .u8) 5 0], 0, []⟩) (.n none (.n (some ⟨[17], [2], [], [.reg 79 .bool], 0, []⟩) .z .z) (.n none (.n none (.ops [(2, (.n none (.dr [] []) .z))]) .z) .z)) .z) .z)) .z) .z) .z))) .z) .z))) .z) .z))) .z) .z)) (.n none .z .z)))))))))))
noncomputable def linear_Bits_dc : List (Nat × Ctr) := [(34, linear_Encode_ctr), (109, bitmap_stride_ctr)]
def linear_Bits_ctr : Ctr := ⟨(.pair .str (.pair (.int .i64) (.pair (.int .i64) .unit))), (.pair (.agg (.pair (.int .i64) (.pair (.int .i64) (.list (.int .u8))))) (.pair (.int .i64) .unit)), linear_Bits_r, 35⟩
theorem linear_Bits_ok : CtrOk Try.prog 35 linear_Bits_ctr := ctr_ok (l := linear_Bits_dc) (f := 12) (an := linear_Bits_an) ⟨linear_Encode_ok, ⟨bitmap_stride_ok, trivial⟩⟩ fun fu x => by kernel_rfl
def law_LinearWidths_l7 (fu : Nat) (a : (List UInt8) × ((Int) × ((Int) × ((Int) × (Unit))))) (v19 : (Int) × (List (Bool))) (v20 : Int) (v21 : Int) (j19 : ((Int) × (List (Bool))) → Option ((Bool) × (Unit))) (j22 : ((Int) × (List (Bool))) → Option ((Bool) × (Unit))) (v22 : (Int) × (List (Bool))) : Option ((Bool) × (Unit)) :=
  bif (decide (v22.1 < (IntKind.i64.wrap (v20 * a.2.2.1)))) then
    bif (decide ((((List.length v22.2 : Int) + (List.length ((decide ((Int.tmod v21 (2 : Int)) = (0 : Int))) :: ([] : List (Bool))) : Int)) * (1 : Int)) ≤ (140737488355328 : Int))) then
    j22 (((IntKind.i64.wrap (v22.1 + (1 : Int))), (v22.2 ++ ((decide ((Int.tmod v21 (2 : Int)) = (0 : Int))) :: ([] : List (Bool))))))
    else none
  else
  j19 (((IntKind.i64.wrap (v19.1 + (1 : Int))), v22.2))
def law_LinearWidths_l6 (fu : Nat) (a : (List UInt8) × ((Int) × ((Int) × ((Int) × (Unit))))) (v13 : List (Int)) (v18 : (Int) × (List (Bool))) (j18 : ((Int) × (List (Bool))) → Option ((Bool) × (Unit))) (j19 : ((Int) × (List (Bool))) → Option ((Bool) × (Unit))) (v19 : (Int) × (List (Bool))) : Option ((Bool) × (Unit)) :=
  bif (decide (v19.1 < (List.length v13 : Int))) then
    bif ((decide ((0 : Int) ≤ v19.1)) && (decide (v19.1 < (List.length v13 : Int)))) then
    let v20 : Int := (List.getD v13 (Int.toNat v19.1) 0)
    let v21 : Int := v19.1
    loopF (law_LinearWidths_l7 fu a v19 v20 v21 j19) fu (((0 : Int), v19.2))
    else none
  else
  j18 (((IntKind.i64.wrap (v18.1 + (1 : Int))), v19.2))
def law_LinearWidths_l5 (fu : Nat) (a : (List UInt8) × ((Int) × ((Int) × ((Int) × (Unit))))) (v8 : ((Int) × ((Int) × (List (Int)))) × ((Int) × (Unit))) (v9 : Int) (v13 : List (Int)) (v17 : Int) (j18 : ((Int) × (List (Bool))) → Option ((Bool) × (Unit))) (v18 : (Int) × (List (Bool))) : Option ((Bool) × (Unit)) :=
  bif (decide (v18.1 < a.2.2.2.1)) then
    loopF (law_LinearWidths_l6 fu a v13 v18 j18) fu (((0 : Int), v18.2))
  else
  bif (decide (v9 = (0 : Int))) then
    bindO (R_Drawn_r fu ((v17, (a.2.2.2.1, (v18.2, ()))))) fun v19 =>
    bindO (R_SameBits_r fu (((v8.1.1, (v8.1.2.1, v8.1.2.2)), ((v19.1.1, (v19.1.2.1, v19.1.2.2)), ())))) fun v20 =>
    let v21 : Bool := v20.1
    some ((v21, ()))
  else
  some ((false, ()))
def law_LinearWidths_j4 (fu : Nat) (a : (List UInt8) × ((Int) × ((Int) × ((Int) × (Unit))))) (v8 : ((Int) × ((Int) × (List (Int)))) × ((Int) × (Unit))) (v9 : Int) (v13 : List (Int)) (v15 : Bool) : Option ((Bool) × (Unit)) :=
  bif v15 then
    bindO (law_refused_r fu (((v8.1.1, (v8.1.2.1, v8.1.2.2)), (v9, ((3 : Int), ()))))) fun v16 =>
    let v17 : Bool := v16.1
    some ((v17, ()))
  else
  bindO (R_Total_r fu ((v13, ()))) fun v16 =>
  let v17 : Int := (IntKind.i64.wrap (a.2.2.1 * v16.1))
  bif (decide ((1024 : Int) < v17)) then
    bindO (law_refused_r fu (((v8.1.1, (v8.1.2.1, v8.1.2.2)), (v9, ((19 : Int), ()))))) fun v18 =>
    let v19 : Bool := v18.1
    some ((v19, ()))
  else
  bif (decide ((3 : Int) < a.2.2.2.1)) then
    bif (decide (v9 = (0 : Int))) then
      bif (decide (v8.1.1 = v17)) then
        let v18 : Bool := (decide (v8.1.2.1 = a.2.2.2.1))
        some ((v18, ()))
      else
      some ((false, ()))
    else
    some ((false, ()))
  else
  loopF (law_LinearWidths_l5 fu a v8 v9 v13 v17) fu (((0 : Int), ([] : List (Bool))))
def law_LinearWidths_j3 (fu : Nat) (a : (List UInt8) × ((Int) × ((Int) × ((Int) × (Unit))))) (v8 : ((Int) × ((Int) × (List (Int)))) × ((Int) × (Unit))) (v9 : Int) (v13 : List (Int)) (v14 : Bool) : Option ((Bool) × (Unit)) :=
  bif v14 then
    some ((false, ()))
  else
  joinF (law_LinearWidths_j4 fu a v8 v9 v13) fun j15 =>
  bindO (R_Within_r fu ((a.2.2.1, ((1 : Int), ((8 : Int), ()))))) fun v16 =>
  bif (!v16.1) then
    j15 (true)
  else
  bindO (R_Within_r fu ((a.2.2.2.1, ((1 : Int), ((1024 : Int), ()))))) fun v17 =>
  j15 ((!v17.1))
def law_LinearWidths_j2 (fu : Nat) (a : (List UInt8) × ((Int) × ((Int) × ((Int) × (Unit))))) (v6 : List (Int)) (v7 : Int) (v8 : ((Int) × ((Int) × (List (Int)))) × ((Int) × (Unit))) (v9 : Int) (v10 : Int) : Option ((Bool) × (Unit)) :=
  bif (decide (v10 ≠ (0 : Int))) then
    bindO (law_none_r fu (((decide ((List.length v6 : Int) = (0 : Int))), (v7, (v10, ()))))) fun v11 =>
    bif v11.1 then
      bindO (law_refused_r fu (((v8.1.1, (v8.1.2.1, v8.1.2.2)), (v9, (v10, ()))))) fun v12 =>
      let v13 : Bool := v12.1
      some ((v13, ()))
    else
    some ((false, ()))
  else
  bindO (R_Values_r fu ((a.1, ()))) fun v11 =>
  bindO (R_Bars_r fu ((v11.1, ()))) fun v12 =>
  let v13 : List (Int) := v12.1
  joinF (law_LinearWidths_j3 fu a v8 v9 v13) fun j14 =>
  bif (decide (v7 ≠ (0 : Int))) then
    j14 (true)
  else
  bindO (R_SameInts_r fu ((v6, (v13, ())))) fun v15 =>
  j14 ((!v15.1))
def law_LinearWidths_j9 (fu : Nat) (j13 : ((Int) × (Int)) → Option ((Bool) × (Unit))) (v14 : (Int) × (Int)) : Option ((Bool) × (Unit)) :=
  j13 ((v14.2, (IntKind.i64.wrap (v14.1 + (1 : Int)))))
def law_LinearWidths_j10 (fu : Nat) (v13 : (Int) × (Int)) (j14 : ((Int) × (Int)) → Option ((Bool) × (Unit))) (v16 : (Bool) × (Int)) : Option ((Bool) × (Unit)) :=
  bif v16.1 then
    j14 ((v13.2, (5 : Int)))
  else
  j14 ((v13.2, v16.2))
def law_LinearWidths_l8 (fu : Nat) (a : (List UInt8) × ((Int) × ((Int) × ((Int) × (Unit))))) (j10 : (Int) → Option ((Bool) × (Unit))) (j13 : ((Int) × (Int)) → Option ((Bool) × (Unit))) (v13 : (Int) × (Int)) : Option ((Bool) × (Unit)) :=
  bif (decide (v13.2 < (List.length a.1 : Int))) then
    joinF (law_LinearWidths_j9 fu j13) fun j14 =>
    let v15 : Int := v13.2
    joinF (law_LinearWidths_j10 fu v13 j14) fun j16 =>
    bif ((decide ((0 : Int) ≤ v15)) && (decide (v15 < (List.length a.1 : Int)))) then
    bif (decide (((List.getD a.1 (Int.toNat v15) 0).toNat : Int) < (48 : Int))) then
      j16 ((true, v13.1))
    else
    bif ((decide ((0 : Int) ≤ v15)) && (decide (v15 < (List.length a.1 : Int)))) then
    j16 (((decide ((57 : Int) < ((List.getD a.1 (Int.toNat v15) 0).toNat : Int))), v13.1))
    else none
    else none
  else
  j10 (v13.1)
def law_LinearWidths_j1 (fu : Nat) (a : (List UInt8) × ((Int) × ((Int) × ((Int) × (Unit))))) (v4 : Unit) : Option ((Bool) × (Unit)) :=
  bindO (linear_Encode_r fu ((a.1, ()))) fun v5 =>
  let v6 : List (Int) := v5.1
  let v7 : Int := v5.2.1
  bindO (linear_Bits_r fu ((a.1, (a.2.2.1, (a.2.2.2.1, ()))))) fun v8 =>
  let v9 : Int := v8.2.1
  joinF (law_LinearWidths_j2 fu a v6 v7 v8 v9) fun j10 =>
  let v11 : Bool := (decide ((List.length a.1 : Int) = (0 : Int)))
  bif v11 then
    j10 ((1 : Int))
  else
  let v12 : Bool := (decide ((20 : Int) < (List.length a.1 : Int)))
  bif v12 then
    j10 ((2 : Int))
  else
  loopF (law_LinearWidths_l8 fu a j10) fu (((0 : Int), (0 : Int)))
def law_LinearWidths_j11 (fu : Nat) (j4 : (Unit) → Option ((Bool) × (Unit))) (v6 : Bool) : Option ((Bool) × (Unit)) :=
  bif v6 then
    some ((false, ()))
  else
  j4 (())
def law_LinearWidths_r (fu : Nat) (a : (List UInt8) × ((Int) × ((Int) × ((Int) × (Unit))))) : Option ((Bool) × (Unit)) :=
  bindO (law_linearWorks_r fu (())) fun v0 =>
  bif (!v0.1) then
    some ((false, ()))
  else
  bindO (linear_Pattern_r fu ((a.2.1, ()))) fun v1 =>
  let v2 : List (Int) := v1.1
  let v3 : Int := v1.2.1
  joinF (law_LinearWidths_j1 fu a) fun j4 =>
  bindO (R_Within_r fu ((a.2.1, ((0 : Int), ((102 : Int), ()))))) fun v5 =>
  bif (!v5.1) then
    bindO (law_none_r fu (((decide ((List.length v2 : Int) = (0 : Int))), (v3, ((3 : Int), ()))))) fun v6 =>
    bif (!v6.1) then
      some ((false, ()))
    else
    j4 (())
  else
  joinF (law_LinearWidths_j11 fu j4) fun j6 =>
  bif (decide (v3 ≠ (0 : Int))) then
    j6 (true)
  else
  bindO (R_Patterns_r fu (())) fun v7 =>
  bif ((decide ((0 : Int) ≤ a.2.1)) && (decide (a.2.1 < (List.length v7.1 : Int)))) then
  let v8 : List (Int) := (List.getD v7.1 (Int.toNat a.2.1) [])
  bindO (R_SameInts_r fu ((v2, (v8, ())))) fun v9 =>
  j6 ((!v9.1))
  else none
def law_LinearWidths_an : An := (.n none .z (.n none (.n none .z (.n none (.n none .z .z) .z)) (.n none .z (.n (some ⟨[2, 3, 0], [], [], [], 0, []⟩) (.n none .z (.n none (.n none .z (.n none (.n none .z .z) .z)) (.n (some ⟨[], [], [], [.reg 48 .bool], 0, []⟩) .z (.n none (.n none .z .z) .z)))) (.n none .z (.n none .z (.n none .z (.n (some ⟨[12, 11, 13, 14], [0], [], [.reg 15 (.int .i64)], 0, []⟩) (.n none (.n none .z (.n none .z (.n none .z (.n none .z (.n none .z (.n none (.n (some ⟨[62], [], [], [.reg 15 (.int .i64), .reg 63 (.int .i64)], 0, []⟩) (.n none .z (.n none .z (.n (some ⟨[], [], [], [.reg 63 (.int .i64), .reg 15 (.int .i64)], 0, []⟩) (.n none (.n none .z (.n (some ⟨[63], [], [], [.reg 75 .bool, .reg 15 (.int .i64)], 0, []⟩) .z (.n none .z .z))) .z) .z))) .z) .z)))))) .z) (.n none (.n none .z (.n none (.n none .z .z) .z)) (.n none .z (.n none (.n (some ⟨[17], [], [], [.reg 109 .bool], 0, []⟩) .z (.n none (.n none .z .z) .z)) (.n none (.n (some ⟨[17], [], [], [.reg 117 .bool], 0, []⟩) .z (.n none (.n none .z .z) .z)) (.n none .z (.n none (.n none .z (.n none (.n none .z .z) .z)) (.n none (.n none .z (.n none (.n none .z .z) .z)) (.n none .z (.n none (.n none .z (.n none (.n (some ⟨[18, 17, 146], [], [(19, (.osl 1 0))], [.reg 147 (.int .i64), .row 1 true .bool 4 0], 1, [(19, .bool, 4)]⟩) (.n none .z (.n none .z (.n none (.n none (.n none .z (.n none (.n (some ⟨[147, 149, 150], [], [(19, (.osl 1 0))], [.reg 151 (.int .i64), .row 1 true .bool 4 0], 0, []⟩) (.n none .z (.n none .z (.n none (.n none (.n none .z (.n none .z (.n none (.n (some ⟨[151, 20, 158], [], [(19, (.osl 1 0))], [.reg 159 (.int .i64), .row 1 true .bool 4 0], 0, []⟩) (.n none .z (.n none .z (.n none (.n none .z .z) .z))) .z) .z))) .z) .z))) .z) .z)) .z) .z))) .z) .z)) (.n none (.dr [] []) .z))))))))))))))))))
noncomputable def law_LinearWidths_dc : List (Nat × Ctr) := [(20, R_Within_ctr), (21, law_none_ctr), (28, law_linearWorks_ctr), (31, linear_Pattern_ctr), (32, R_SameInts_ctr), (33, R_Patterns_ctr), (34, linear_Encode_ctr), (35, linear_Bits_ctr), (36, law_refused_ctr), (37, R_Bars_ctr), (38, R_Values_ctr), (39, R_Total_ctr), (40, R_SameBits_ctr), (41, R_Drawn_ctr)]
def law_LinearWidths_ctr : Ctr := ⟨(.pair .str (.pair (.int .i64) (.pair (.int .i64) (.pair (.int .i64) .unit)))), (.pair .bool .unit), law_LinearWidths_r, 7⟩
theorem law_LinearWidths_ok : CtrOk Try.prog 7 law_LinearWidths_ctr := ctr_ok (l := law_LinearWidths_dc) (f := 12) (an := law_LinearWidths_an) ⟨R_Within_ok, ⟨law_none_ok, ⟨law_linearWorks_ok, ⟨linear_Pattern_ok, ⟨R_SameInts_ok, ⟨R_Patterns_ok, ⟨linear_Encode_ok, ⟨linear_Bits_ok, ⟨law_refused_ok, ⟨R_Bars_ok, ⟨R_Values_ok, ⟨R_Total_ok, ⟨R_SameBits_ok, ⟨R_Drawn_ok, trivial⟩⟩⟩⟩⟩⟩⟩⟩⟩⟩⟩⟩⟩⟩ fun fu x => by kernel_rfl
end Go.Proofs.Ytedjnjgnadbkaaa
/- Bar codes: Encode, Values and Bars. -/
set_option maxRecDepth 100000
namespace Go.Proofs.Ytedjnjgnadbkaaa
open Go Go.RowKit
set_option linter.unusedSimpArgs false
set_option linter.unusedSectionVars false
set_option linter.unusedVariables false
theorem getD_dropA {α : Type} {d : α} (l : List α) (k i : Nat) : (l.drop k).getD i d = l.getD (k + i) d := by
  rw [List.getD_eq_getElem?_getD, List.getElem?_drop, ← List.getD_eq_getElem?_getD]
def isDg (s : List UInt8) (i : Nat) : Prop := 48 ≤ (s.getD i 0).toNat ∧ (s.getD i 0).toNat ≤ 57
instance (s : List UInt8) (i : Nat) : Decidable (isDg s i) := by unfold isDg; infer_instance
def wantW (s : List UInt8) : Int := if s.length = 0 then 1 else if 20 < s.length then 2 else if ∀ i, i < s.length → isDg s i then 0 else 5
structure okD (s : List UInt8) : Prop where
  ne : 0 < s.length
  le : s.length ≤ 20
  dg : ∀ i, i < s.length → isDg s i
theorem wantW_ok {s : List UInt8} (h : wantW s = 0) : okD s := by
  unfold wantW at h
  split at h
  · omega
  · split at h
    · omega
    · split at h
      · rename_i a b c
        exact ⟨by omega, by omega, c⟩
      · omega
theorem wantW_of {s : List UInt8} (h : okD s) : wantW s = 0 := by
  unfold wantW
  rw [if_neg (by have := h.ne; omega), if_neg (by have := h.le; omega), if_pos h.dg]
def padS (s : List UInt8) : List UInt8 := if s.length % 2 = 1 then [48] ++ s else s
def preS (s : List UInt8) : List Int := if s.length % 2 = 1 then [100] else []
def v2 (t : List UInt8) (i : Nat) : Int := 10 * (((t.getD (2 * i) 0).toNat : Int) - 48) + (((t.getD (2 * i + 1) 0).toNat : Int) - 48)
def VL (t : List UInt8) (n : Nat) : List Int := (List.range n).map (v2 t)
def valsS (s : List UInt8) : List Int := preS s ++ VL (padS s) ((padS s).length / 2)
def allV (s : List UInt8) : List Int := valsS s ++ [sumW (valsS s) (valsS s).length % 101]
theorem VL_len (t : List UInt8) (n : Nat) : (VL t n).length = n := by simp [VL]
theorem VL_succ (t : List UInt8) (n : Nat) : VL t (n + 1) = VL t n ++ [v2 t n] := by
  unfold VL
  rw [List.range_succ, List.map_append]; rfl
theorem preS_len (s : List UInt8) : (preS s).length ≤ 1 := by unfold preS; split <;> simp
section
variable {s : List UInt8} (h : okD s)
include h
theorem pad_len : (padS s).length = 2 * ((padS s).length / 2) ∧ 0 < (padS s).length / 2 ∧ (padS s).length / 2 ≤ 10 := by
  have := h.ne
  have := h.le
  unfold padS
  split
  · rw [List.length_append]; simp only [List.length_cons, List.length_nil]; omega
  · omega
theorem pad_dg : ∀ i, i < (padS s).length → isDg (padS s) i := by
  unfold padS
  split
  · intro i hi
    cases i with
    | zero =>
      show 48 ≤ (48 : UInt8).toNat ∧ (48 : UInt8).toNat ≤ 57
      decide
    | succ i => exact h.dg i (by rw [List.length_append] at hi; simp only [List.length_cons, List.length_nil] at hi; omega)
  · exact h.dg
theorem v2_bd {i : Nat} (hi : i < (padS s).length / 2) : 0 ≤ v2 (padS s) i ∧ v2 (padS s) i ≤ 99 := by
  have h1 := pad_dg h (2 * i) (by omega)
  have h2 := pad_dg h (2 * i + 1) (by omega)
  unfold isDg at h1 h2
  unfold v2
  omega
theorem vals_ok : okV (valsS s) ∧ (valsS s).length ≤ 11 := by
  have hl := pad_len h
  have hp := preS_len s
  have hlen : (valsS s).length ≤ 11 := by unfold valsS; rw [List.length_append, VL_len]; omega
  have key : ∀ v ∈ valsS s, 0 ≤ v ∧ v ≤ 102 := by
    intro v hm
    unfold valsS at hm
    rcases List.mem_append.1 hm with hm | hm
    · unfold preS at hm
      split at hm
      · rw [List.mem_singleton.1 hm]; omega
      · cases hm
    · obtain ⟨k, hk, e⟩ := List.mem_map.1 hm
      have hk := List.mem_range.1 hk
      have := v2_bd h hk
      omega
  refine ⟨⟨by omega, fun i hi => key _ ?_⟩, hlen⟩
  rw [List.getD_eq_getElem?_getD, List.getElem?_eq_getElem hi]
  exact List.getElem_mem hi
theorem allV_mem {v : Int} (hv : v ∈ allV s) : 0 ≤ v ∧ v ≤ 102 := by
  obtain ⟨o, _⟩ := vals_ok h
  unfold allV at hv
  rcases List.mem_append.1 hv with hv | hv
  · obtain ⟨i, hi, e⟩ := List.getElem_of_mem hv
    have := o.2 i hi
    rw [List.getD_eq_getElem?_getD, List.getElem?_eq_getElem hi, Option.getD_some, e] at this
    exact this
  · rw [List.mem_singleton.1 hv]
    omega
theorem allV_len : (allV s).length ≤ 12 := by
  have := (vals_ok h).2
  unfold allV
  rw [List.length_append]
  simp only [List.length_cons, List.length_nil]
  omega
end
theorem dig_val {c d : Nat} (h1 : 48 ≤ c ∧ c ≤ 57) (h2 : 48 ≤ d ∧ d ≤ 57) :
    IntKind.i64.wrap (IntKind.i64.wrap (10 * IntKind.i64.wrap (IntKind.u8.wrap ((c : Int) - 48))) + IntKind.i64.wrap (IntKind.u8.wrap ((d : Int) - 48))) = 10 * ((c : Int) - 48) + ((d : Int) - 48) ∧
    IntKind.i64.wrap (IntKind.i64.wrap (IntKind.i64.wrap (IntKind.u8.wrap ((c : Int) - 48)) * 10) + IntKind.i64.wrap (IntKind.u8.wrap ((d : Int) - 48))) = 10 * ((c : Int) - 48) + ((d : Int) - 48) := by
  rw [s_w8 (x := (c : Int) - 48) (by omega) (by omega), s_w8 (x := (d : Int) - 48) (by omega) (by omega), s_wr (x := (c : Int) - 48) (by omega) (by omega), s_wr (x := (d : Int) - 48) (by omega) (by omega), s_wr (x := 10 * ((c : Int) - 48)) (by omega) (by omega), s_wr (x := ((c : Int) - 48) * 10) (by omega) (by omega), s_wr (by omega) (by omega), s_wr (by omega) (by omega)]
  omega
/-! ### bars -/
/-- the patterns of values -/
structure okPQ (T : List (List Int)) (Q : List (Int × (Int × (Int × (Int × (Int × Int)))))) : Prop where
  tlen : T.length = 108
  qlen : Q.length = 103
  six : ∀ v : Nat, v < 108 → (T.getD v []).length = 6
  eq : ∀ v : Nat, v < 103 → tl6 (Q.getD v (0, (0, (0, (0, (0, 0)))))) = T.getD v []
  mem : ∀ v : Nat, v < 108 → ∀ x ∈ T.getD v [], 0 ≤ x ∧ x ≤ 4
theorem rpats_mem : ∀ v : Nat, v < 108 → ∀ x ∈ rpats.getD v [], 0 ≤ x ∧ x ≤ 4 := by decide +kernel
theorem okPQ_r : okPQ rpats pats := ⟨rpats_len, pats_len, rpats_six, pats_eq, rpats_mem⟩
theorem getD_mem {l : List Int} {i : Nat} (hi : i < l.length) : l.getD i 0 ∈ l := by
  rw [List.getD_eq_getElem?_getD, List.getElem?_eq_getElem hi]; exact List.getElem_mem hi
theorem take_mem {l : List Int} {k : Nat} (h : ∀ v ∈ l, 0 ≤ v ∧ v ≤ 102) : ∀ v ∈ l.take k, 0 ≤ v ∧ v ≤ 102 := fun v hv => h v (List.mem_of_mem_take hv)
theorem W_mem {s : List UInt8} (h : okD s) : ∀ v ∈ allV s ++ [102], 0 ≤ v ∧ v ≤ 102 := fun v hv => by
  rcases List.mem_append.1 hv with hv | hv
  · exact allV_mem h hv
  · rw [List.mem_singleton.1 hv]; omega
section
variable (T : List (List Int))
def barsL : List Int → List Int
  | [] => []
  | v :: l => T.getD v.toNat [] ++ barsL l
def barsS (s : List UInt8) : List Int := T.getD 101 [] ++ barsL T (allV s ++ [102]) ++ [2]
variable {T}
theorem barsL_append : ∀ (l m : List Int), barsL T (l ++ m) = barsL T l ++ barsL T m
  | [], m => rfl
  | v :: l, m => by rw [List.cons_append, barsL, barsL, barsL_append l m, List.append_assoc]
theorem barsL_one (v : Int) : barsL T [v] = T.getD v.toNat [] := List.append_nil _
variable {Q : List (Int × (Int × (Int × (Int × (Int × Int)))))} (hT : okPQ T Q)
include hT
theorem barsL_len : ∀ {l : List Int}, (∀ v ∈ l, 0 ≤ v ∧ v ≤ 102) → (barsL T l).length = 6 * l.length
  | [], _ => rfl
  | v :: l, h => by
    have hv := h v (List.mem_cons_self ..)
    rw [barsL, List.length_append, barsL_len fun v hv => h v (List.mem_cons_of_mem _ hv), hT.six v.toNat (by omega), List.length_cons]
    omega
theorem barsL_mem : ∀ {l : List Int}, (∀ v ∈ l, 0 ≤ v ∧ v ≤ 102) → ∀ x ∈ barsL T l, 0 ≤ x ∧ x ≤ 4
  | [], _, x, hx => by cases hx
  | v :: l, h, x, hx => by
    rw [barsL] at hx
    rcases List.mem_append.1 hx with hx | hx
    · have hv := h v (List.mem_cons_self ..)
      exact hT.mem v.toNat (by omega) x hx
    · exact barsL_mem (fun v hv => h v (List.mem_cons_of_mem _ hv)) x hx
theorem barsS_mem {s : List UInt8} (h : okD s) : ∀ x ∈ barsS T s, 0 ≤ x ∧ x ≤ 4 := fun x hx => by
  unfold barsS at hx
  rcases List.mem_append.1 hx with hx | hx
  · rcases List.mem_append.1 hx with hx | hx
    · exact hT.mem 101 (by omega) x hx
    · exact barsL_mem hT (W_mem h) x hx
  · rw [List.mem_singleton.1 hx]; omega
theorem barsS_len {s : List UInt8} (h : okD s) : (barsS T s).length ≤ 85 := by
  have := allV_len h
  unfold barsS
  rw [List.length_append, List.length_append, hT.six 101 (by omega), barsL_len hT (W_mem h), List.length_append]
  simp only [List.length_cons, List.length_nil]
  omega
end
section
variable {fu : Nat} (hf : 18446744073709551616 ≤ fu) (hS : ∀ {l : List Int}, okV l → linear_sum_r fu (l, ()) = some (sumW l l.length % 101, ()))
  {T : List (List Int)} {Q : List (Int × (Int × (Int × (Int × (Int × Int)))))} (hT : okPQ T Q) (hQ : linear_patterns_r fu () = some (Q, ()))
include hf hT hQ
theorem enc_bars {s : List UInt8} (h : okD s) : linear_Encode_j1 fu (0, allV s) = some (barsS T s, (0, ())) := by
  unfold linear_Encode_j1
  have hp := hT.eq 101 (by omega)
  have h6 := hT.six 101 (by omega)
  have hql := hT.qlen
  unfold tl6 at hp
  have hl := allV_len h
  have z : Int.toNat (101 : Int) = 101 := rfl
  rw [hQ]
  simp only [z, hp, hql]
  simp (disch := omega) only [joinF_eq, bindO_some, s_wr, s_td, s_tm, s_pos, s_neg, cond_true, cond_false, Bool.not_true, Bool.not_false, Bool.true_and, Bool.and_true, Bool.false_and, Bool.and_false, bne_self_eq_false, decide_true, decide_false, Int.toNat_natCast, List.length_cons, List.length_nil]
  have hW2 : barsS T s = T.getD 101 [] ++ barsL T (allV s ++ [102]) ++ [2] := rfl
  rw [hW2]
  generalize hW : allV s ++ [102] = W
  have hWm : ∀ v ∈ W, 0 ≤ v ∧ v ≤ 102 := hW ▸ W_mem h
  have hWl : W.length ≤ 13 := by rw [← hW, List.length_append]; simp only [List.length_cons, List.length_nil]; omega
  refine stL3 (n := W.length) (by omega) (st := fun i : Nat => ((i : Int), T.getD 101 [] ++ barsL T (W.take i))) (Prod.ext rfl ((List.append_nil _).trans hp.symm)) (fun j i hi => ?_) (fun j => ?_)
  · unfold linear_Encode_l2
    have hm := hWm _ (getD_mem hi)
    have hq := hT.eq (W.getD i 0).toNat (by omega)
    have hq6 := hT.six (W.getD i 0).toNat (by omega)
    have hlen := barsL_len hT (take_mem (k := i) hWm)
    rw [List.length_take] at hlen
    unfold tl6 at hq
    simp only [hW, Int.toNat_natCast, hq, hql, List.length_append, h6, hq6, hlen]
    simp (disch := omega) only [joinF_eq, bindO_some, s_wr, s_td, s_tm, s_pos, s_neg, cond_true, cond_false, Bool.not_true, Bool.not_false, Bool.true_and, Bool.and_true, Bool.false_and, Bool.and_false, bne_self_eq_false, decide_true, decide_false, Int.toNat_natCast]
    congr 1
    refine Prod.ext (by simp) ?_
    simp only
    rw [take_snoc hi, barsL_append, barsL_one, List.append_assoc]
  · unfold linear_Encode_l2
    have hlen := barsL_len hT (take_mem (k := W.length) hWm)
    rw [List.length_take] at hlen
    simp only [hW, List.length_append, h6, hlen]
    simp (disch := omega) only [joinF_eq, bindO_some, s_wr, s_td, s_tm, s_pos, s_neg, cond_true, cond_false, Bool.not_true, Bool.not_false, Bool.true_and, Bool.and_true, Bool.false_and, Bool.and_false, bne_self_eq_false, decide_true, decide_false, Int.toNat_natCast, List.length_cons, List.length_nil]
    rw [List.take_length]
omit hT hQ
include hS
theorem enc_vals {s : List UInt8} (h : okD s) (j0 : Int × List Int → Option (List Int × (Int × Unit))) : linear_Encode_j5 fu j0 (padS s, preS s) = j0 (0, allV s) := by
  obtain ⟨p1, p2, p3⟩ := pad_len h
  have hpre := preS_len s
  generalize hn : (padS s).length / 2 = n at p1 p2 p3
  unfold linear_Encode_j5
  refine stL3 (n := n) (by omega) (st := fun i : Nat => ((padS s).drop (2 * i), preS s ++ VL (padS s) i)) (by simp [VL]) (fun j i hi => ?_) (fun j => ?_)
  · unfold linear_Encode_l6
    have hdl : ((padS s).drop (2 * i)).length = 2 * n - 2 * i := by rw [List.length_drop, p1]
    have d1 := pad_dg h (2 * i) (by omega)
    have d2 := pad_dg h (2 * i + 1) (by omega)
    unfold isDg at d1 d2
    have hv := (dig_val d1 d2).1
    have z0 : Int.toNat (0 : Int) = 0 := rfl
    have z1 : Int.toNat (1 : Int) = 1 := rfl
    have z2 : Int.toNat (2 : Int) = 2 := rfl
    simp only [z0, z1, z2, getD_dropA, Nat.add_zero, hv, Int.toNat_natCast, List.take_length, List.drop_drop, hdl, List.length_append, VL_len]
    simp (disch := omega) only [joinF_eq, bindO_some, s_wr, s_td, s_tm, s_pos, s_neg, cond_true, cond_false, Bool.not_true, Bool.not_false, Bool.true_and, Bool.and_true, Bool.false_and, Bool.and_false, bne_self_eq_false, decide_true, decide_false, Int.toNat_natCast, List.length_cons, List.length_nil]
    congr 1
    refine Prod.ext ?_ ?_
    · simp only
      rw [List.take_of_length_le (by rw [hdl]; exact Nat.le_refl _), List.drop_drop, Nat.mul_succ]
    · simp only
      rw [VL_succ, ← List.append_assoc]
      rfl
  · unfold linear_Encode_l6
    have hdl : ((padS s).drop (2 * n)).length = 0 := by rw [List.length_drop, p1]; omega
    have hv : preS s ++ VL (padS s) n = valsS s := by unfold valsS; rw [hn]
    have ho := vals_ok h
    simp only [hv, hdl]
    simp (disch := omega) only [joinF_eq, bindO_some, s_wr, s_td, s_tm, s_pos, s_neg, cond_true, cond_false, Bool.not_true, Bool.not_false, Bool.true_and, Bool.and_true, Bool.false_and, Bool.and_false, bne_self_eq_false, decide_true, decide_false, Int.toNat_natCast]
    rw [hS ho.1]
    simp (disch := omega) only [joinF_eq, bindO_some, s_wr, s_td, s_tm, s_pos, s_neg, cond_true, cond_false, Bool.not_true, Bool.not_false, Bool.true_and, Bool.and_true, Bool.false_and, Bool.and_false, bne_self_eq_false, decide_true, decide_false, Int.toNat_natCast, List.length_cons, List.length_nil]
    rfl
include hT hQ
theorem enc_s (s : List UInt8) : linear_Encode_r fu (s, ()) = if wantW s = 0 then some (barsS T s, (0, ())) else some ([], (wantW s, ())) := by
  have bad : ∀ e : Int, e ≠ 0 → linear_Encode_j1 fu (e, []) = some ([], (e, ())) := fun e he => by
    unfold linear_Encode_j1
    simp (disch := omega) only [joinF_eq, bindO_some, s_wr, s_td, s_tm, s_pos, s_neg, cond_true, cond_false, Bool.not_true, Bool.not_false, Bool.true_and, Bool.and_true, Bool.false_and, Bool.and_false, bne_self_eq_false, decide_true, decide_false, Int.toNat_natCast]
  unfold linear_Encode_r
  by_cases c1 : s.length = 0
  · have hw : wantW s = 1 := by unfold wantW; rw [if_pos c1]
    rw [hw, if_neg (by omega)]
    simp (disch := omega) only [joinF_eq, bindO_some, s_wr, s_td, s_tm, s_pos, s_neg, cond_true, cond_false, Bool.not_true, Bool.not_false, Bool.true_and, Bool.and_true, Bool.false_and, Bool.and_false, bne_self_eq_false, decide_true, decide_false, Int.toNat_natCast]
    exact bad 1 (by omega)
  · by_cases c2 : 20 < s.length
    · have hw : wantW s = 2 := by unfold wantW; rw [if_neg c1, if_pos c2]
      rw [hw, if_neg (by omega)]
      simp (disch := omega) only [joinF_eq, bindO_some, s_wr, s_td, s_tm, s_pos, s_neg, cond_true, cond_false, Bool.not_true, Bool.not_false, Bool.true_and, Bool.and_true, Bool.false_and, Bool.and_false, bne_self_eq_false, decide_true, decide_false, Int.toNat_natCast]
      exact bad 2 (by omega)
    · simp (disch := omega) only [joinF_eq, bindO_some, s_wr, s_td, s_tm, s_pos, s_neg, cond_true, cond_false, Bool.not_true, Bool.not_false, Bool.true_and, Bool.and_true, Bool.false_and, Bool.and_false, bne_self_eq_false, decide_true, decide_false, Int.toNat_natCast]
      have key := findLoop (f := linear_Encode_l3 fu (s, ()) (linear_Encode_j1 fu)) (n := s.length) (fu := fu) (by omega) (p := fun i => ¬ isDg s i) (hit := fun _ => some ([], (5, ()))) (miss := linear_Encode_l3 fu (s, ()) (linear_Encode_j1 fu) (fun _ => none) (s.length : Int))
        (fun j i hi hp => by
          unfold linear_Encode_l3 linear_Encode_j4
          unfold isDg at hp
          simp (disch := omega) only [joinF_eq, bindO_some, s_wr, s_td, s_tm, s_pos, s_neg, cond_true, cond_false, Bool.not_true, Bool.not_false, Bool.true_and, Bool.and_true, Bool.false_and, Bool.and_false, bne_self_eq_false, decide_true, decide_false, Int.toNat_natCast]
          by_cases d : ((s.getD i 0).toNat : Int) < 48
          · simp (disch := omega) only [joinF_eq, bindO_some, s_wr, s_td, s_tm, s_pos, s_neg, cond_true, cond_false, Bool.not_true, Bool.not_false, Bool.true_and, Bool.and_true, Bool.false_and, Bool.and_false, bne_self_eq_false, decide_true, decide_false, Int.toNat_natCast]
            exact bad 5 (by omega)
          · simp (disch := omega) only [joinF_eq, bindO_some, s_wr, s_td, s_tm, s_pos, s_neg, cond_true, cond_false, Bool.not_true, Bool.not_false, Bool.true_and, Bool.and_true, Bool.false_and, Bool.and_false, bne_self_eq_false, decide_true, decide_false, Int.toNat_natCast]
            exact bad 5 (by omega))
        (fun j i hi hp => by
          have hp : isDg s i := Classical.byContradiction hp
          unfold linear_Encode_l3 linear_Encode_j4
          unfold isDg at hp
          simp (disch := omega) only [joinF_eq, bindO_some, s_wr, s_td, s_tm, s_pos, s_neg, cond_true, cond_false, Bool.not_true, Bool.not_false, Bool.true_and, Bool.and_true, Bool.false_and, Bool.and_false, bne_self_eq_false, decide_true, decide_false, Int.toNat_natCast])
        (fun j => by
          unfold linear_Encode_l3
          simp (disch := omega) only [joinF_eq, bindO_some, s_wr, s_td, s_tm, s_pos, s_neg, cond_true, cond_false, Bool.not_true, Bool.not_false, Bool.true_and, Bool.and_true, Bool.false_and, Bool.and_false, bne_self_eq_false, decide_true, decide_false, Int.toNat_natCast])
      rcases key with ⟨k, k1, k2, _, k4⟩ | ⟨k1, k2⟩
      · have hw : wantW s = 5 := by unfold wantW; rw [if_neg c1, if_neg c2, if_neg (fun hh => k2 (hh k k1))]
        rw [k4, hw, if_neg (by omega)]
      · have h : okD s := ⟨by omega, by omega, fun i hi => Classical.byContradiction (k1 i hi)⟩
        rw [k2, wantW_of h, if_pos rfl, ← enc_bars hf hT hQ h, ← enc_vals hf hS h (linear_Encode_j1 fu)]
        unfold linear_Encode_l3 padS preS
        simp (disch := omega) only [joinF_eq, bindO_some, s_wr, s_td, s_tm, s_pos, s_neg, cond_true, cond_false, Bool.not_true, Bool.not_false, Bool.true_and, Bool.and_true, Bool.false_and, Bool.and_false, bne_self_eq_false, decide_true, decide_false, Int.toNat_natCast, List.length_cons, List.length_nil]
        by_cases c : s.length % 2 = 1
        · rw [if_pos c, if_pos c]
          simp (disch := omega) only [joinF_eq, bindO_some, s_wr, s_td, s_tm, s_pos, s_neg, cond_true, cond_false, Bool.not_true, Bool.not_false, Bool.true_and, Bool.and_true, Bool.false_and, Bool.and_false, bne_self_eq_false, decide_true, decide_false, Int.toNat_natCast]
        · rw [if_neg c, if_neg c]
          simp (disch := omega) only [joinF_eq, bindO_some, s_wr, s_td, s_tm, s_pos, s_neg, cond_true, cond_false, Bool.not_true, Bool.not_false, Bool.true_and, Bool.and_true, Bool.false_and, Bool.and_false, bne_self_eq_false, decide_true, decide_false, Int.toNat_natCast]
omit hS hT hQ
theorem values_s {s : List UInt8} (h : okD s) : R_Values_r fu (s, ()) = some (allV s, ()) := by
  have key : R_Values_j1 fu (padS s, preS s) = some (allV s, ()) := by
    obtain ⟨p1, p2, p3⟩ := pad_len h
    have hpre := preS_len s
    generalize hn : (padS s).length / 2 = n at p1 p2 p3
    unfold R_Values_j1
    refine stL3 (n := n) (by omega) (st := fun i : Nat => (((2 * i : Nat) : Int), preS s ++ VL (padS s) i)) (by simp [VL]) (fun j i hi => ?_) (fun j => ?_)
    · unfold R_Values_l2
      have d1 := pad_dg h (2 * i) (by omega)
      have d2 := pad_dg h (2 * i + 1) (by omega)
      unfold isDg at d1 d2
      have hv := (dig_val d1 d2).2
      have z1 : Int.toNat (((2 * i : Nat) : Int) + 1) = 2 * i + 1 := by omega
      simp only [s_wr (x := ((2 * i : Nat) : Int) + 1) (by omega) (by omega), z1, Int.toNat_natCast, hv, p1, List.length_append, VL_len]
      simp (disch := omega) only [joinF_eq, bindO_some, s_wr, s_td, s_tm, s_pos, s_neg, cond_true, cond_false, Bool.not_true, Bool.not_false, Bool.true_and, Bool.and_true, Bool.false_and, Bool.and_false, bne_self_eq_false, decide_true, decide_false, Int.toNat_natCast, List.length_cons, List.length_nil]
      congr 1
      refine Prod.ext (by simp only; omega) ?_
      simp only
      rw [VL_succ, ← List.append_assoc]
      rfl
    · unfold R_Values_l2
      have hv : preS s ++ VL (padS s) n = valsS s := by unfold valsS; rw [hn]
      obtain ⟨ho, ho2⟩ := vals_ok h
      simp only [hv, p1]
      simp (disch := omega) only [joinF_eq, bindO_some, s_wr, s_td, s_tm, s_pos, s_neg, cond_true, cond_false, Bool.not_true, Bool.not_false, Bool.true_and, Bool.and_true, Bool.false_and, Bool.and_false, bne_self_eq_false, decide_true, decide_false, Int.toNat_natCast]
      refine stL3 (n := (valsS s).length) (by omega) (st := fun i : Nat => (sumW (valsS s) i, (i : Int))) rfl (fun j i hi => ?_) (fun j => ?_)
      · unfold R_Values_l3
        have ih := sumW_bd ho i (by omega)
        have hb := ho.2 i hi
        have hm := mulW_bd (k := i) (by omega) hb.1 hb.2
        simp (disch := omega) only [joinF_eq, bindO_some, s_wr, s_td, s_tm, s_pos, s_neg, cond_true, cond_false, Bool.not_true, Bool.not_false, Bool.true_and, Bool.and_true, Bool.false_and, Bool.and_false, bne_self_eq_false, decide_true, decide_false, Int.toNat_natCast]
        rw [sumW_succ]
        rfl
      · unfold R_Values_l3
        have ih := sumW_bd ho (valsS s).length (by omega)
        simp (disch := omega) only [joinF_eq, bindO_some, s_wr, s_td, s_tm, s_pos, s_neg, cond_true, cond_false, Bool.not_true, Bool.not_false, Bool.true_and, Bool.and_true, Bool.false_and, Bool.and_false, bne_self_eq_false, decide_true, decide_false, Int.toNat_natCast, List.length_cons, List.length_nil]
        rfl
  unfold R_Values_r
  rw [← key]
  have := h.le
  simp (disch := omega) only [joinF_eq, bindO_some, s_wr, s_td, s_tm, s_pos, s_neg, cond_true, cond_false, Bool.not_true, Bool.not_false, Bool.true_and, Bool.and_true, Bool.false_and, Bool.and_false, bne_self_eq_false, decide_true, decide_false, Int.toNat_natCast, List.length_cons, List.length_nil]
  unfold padS preS
  by_cases c : s.length % 2 = 1
  · rw [if_pos c, if_pos c]
    simp (disch := omega) only [joinF_eq, bindO_some, s_wr, s_td, s_tm, s_pos, s_neg, cond_true, cond_false, Bool.not_true, Bool.not_false, Bool.true_and, Bool.and_true, Bool.false_and, Bool.and_false, bne_self_eq_false, decide_true, decide_false, Int.toNat_natCast]
  · rw [if_neg c, if_neg c]
    simp (disch := omega) only [joinF_eq, bindO_some, s_wr, s_td, s_tm, s_pos, s_neg, cond_true, cond_false, Bool.not_true, Bool.not_false, Bool.true_and, Bool.and_true, Bool.false_and, Bool.and_false, bne_self_eq_false, decide_true, decide_false, Int.toNat_natCast]
include hT
theorem bars_s (hR : R_Patterns_r fu () = some (T, ())) {s : List UInt8} (h : okD s) : R_Bars_r fu (allV s, ()) = some (barsS T s, ()) := by
  unfold R_Bars_r
  rw [hR]
  have h6 := hT.six 101 (by omega)
  have h62 := hT.six 102 (by omega)
  have hl := allV_len h
  have htl := hT.tlen
  have z : Int.toNat (101 : Int) = 101 := rfl
  have z2 : Int.toNat (102 : Int) = 102 := rfl
  simp only [z, htl, bindO_some, h6, List.nil_append]
  simp (disch := omega) only [joinF_eq, bindO_some, s_wr, s_td, s_tm, s_pos, s_neg, cond_true, cond_false, Bool.not_true, Bool.not_false, Bool.true_and, Bool.and_true, Bool.false_and, Bool.and_false, bne_self_eq_false, decide_true, decide_false, Int.toNat_natCast, List.length_nil]
  have hWm : ∀ v ∈ allV s, 0 ≤ v ∧ v ≤ 102 := fun v hv => allV_mem h hv
  refine stL3 (n := (allV s).length) (by omega) (st := fun i : Nat => ((i : Int), T.getD 101 [] ++ barsL T ((allV s).take i))) (Prod.ext rfl (List.append_nil _)) (fun j i hi => ?_) (fun j => ?_)
  · unfold R_Bars_l1
    have hm := hWm _ (getD_mem hi)
    have hq6 := hT.six ((allV s).getD i 0).toNat (by omega)
    have hBl : (T.getD 101 [] ++ barsL T ((allV s).take i)).length ≤ 78 := by
      rw [List.length_append, h6, barsL_len hT (take_mem (k := i) hWm), List.length_take]
      omega
    simp only [Int.toNat_natCast, take_snoc hi, barsL_append, barsL_one]
    rw [← List.append_assoc]
    generalize T.getD 101 [] ++ barsL T ((allV s).take i) = B at hBl ⊢
    rw [bif_pos (by omega), bif_and (by omega) (by omega), bif_and (by omega) (by omega), bif_pos (by omega), s_wr (by omega) (by omega)]
    rfl
  · unfold R_Bars_l1
    have hlen := barsL_len hT hWm
    have hb : barsS T s = T.getD 101 [] ++ barsL T (allV s) ++ T.getD 102 [] ++ [2] := by
      unfold barsS
      rw [barsL_append, barsL_one, z2, List.append_assoc, List.append_assoc, List.append_assoc, List.append_assoc]
    rw [hb]
    simp only [List.take_length, htl, z2]
    generalize T.getD 101 [] = R1 at h6 ⊢
    generalize T.getD 102 [] = R2 at h62 ⊢
    simp only [List.length_append, h6, h62, hlen]
    simp (disch := omega) only [joinF_eq, bindO_some, s_wr, s_td, s_tm, s_pos, s_neg, cond_true, cond_false, Bool.not_true, Bool.not_false, Bool.true_and, Bool.and_true, Bool.false_and, Bool.and_false, bne_self_eq_false, decide_true, decide_false, Int.toNat_natCast, List.length_cons, List.length_nil]
include hQ
theorem pattern_s (v : Int) : linear_Pattern_r fu (v, ()) = if 0 ≤ v ∧ v ≤ 102 then some (T.getD v.toNat [], (0, ())) else some ([], (3, ())) := by
  unfold linear_Pattern_r linear_Pattern_j1
  rw [hQ]
  have hql := hT.qlen
  by_cases c1 : v < 0
  · rw [if_neg (by omega)]
    simp (disch := omega) only [joinF_eq, bindO_some, s_wr, s_td, s_tm, s_pos, s_neg, cond_true, cond_false, Bool.not_true, Bool.not_false, Bool.true_and, Bool.and_true, Bool.false_and, Bool.and_false, bne_self_eq_false, decide_true, decide_false, Int.toNat_natCast]
  · by_cases c2 : 103 ≤ v
    · rw [if_neg (by omega)]
      simp (disch := omega) only [joinF_eq, bindO_some, s_wr, s_td, s_tm, s_pos, s_neg, cond_true, cond_false, Bool.not_true, Bool.not_false, Bool.true_and, Bool.and_true, Bool.false_and, Bool.and_false, bne_self_eq_false, decide_true, decide_false, Int.toNat_natCast]
    · rw [if_pos (by omega)]
      have hq := hT.eq v.toNat (by omega)
      have hq6 := hT.six v.toNat (by omega)
      unfold tl6 at hq
      simp only [hq, hq6, bindO_some, hql]
      simp (disch := omega) only [joinF_eq, bindO_some, s_wr, s_td, s_tm, s_pos, s_neg, cond_true, cond_false, Bool.not_true, Bool.not_false, Bool.true_and, Bool.and_true, Bool.false_and, Bool.and_false, bne_self_eq_false, decide_true, decide_false, Int.toNat_natCast]
end
theorem sameInts_s {fu : Nat} (hf : 18446744073709551616 ≤ fu) {l : List Int} (hl : l.length < 1000000) : R_SameInts_r fu (l, (l, ())) = some (true, ()) := by
  unfold R_SameInts_r
  simp (disch := omega) only [joinF_eq, bindO_some, s_wr, s_td, s_tm, s_pos, s_neg, cond_true, cond_false, Bool.not_true, Bool.not_false, Bool.true_and, Bool.and_true, Bool.false_and, Bool.and_false, bne_self_eq_false, decide_true, decide_false, Int.toNat_natCast]
  refine stL3 (n := l.length) (by omega) (st := fun i : Nat => (i : Int)) rfl (fun j i hi => ?_) (fun j => ?_)
  · unfold R_SameInts_l1
    simp (disch := omega) only [joinF_eq, bindO_some, s_wr, s_td, s_tm, s_pos, s_neg, cond_true, cond_false, Bool.not_true, Bool.not_false, Bool.true_and, Bool.and_true, Bool.false_and, Bool.and_false, bne_self_eq_false, decide_true, decide_false, Int.toNat_natCast]
    rfl
  · unfold R_SameInts_l1
    simp (disch := omega) only [joinF_eq, bindO_some, s_wr, s_td, s_tm, s_pos, s_neg, cond_true, cond_false, Bool.not_true, Bool.not_false, Bool.true_and, Bool.and_true, Bool.false_and, Bool.and_false, bne_self_eq_false, decide_true, decide_false, Int.toNat_natCast]
end Go.Proofs.Ytedjnjgnadbkaaa
/- Bits of bytes, bitmaps as lists of bytes. No program in sight. -/
namespace Go.Proofs.Ytedjnjgnadbkaaa
open Go Go.RowKit

/-- the pixel j of a byte, from the left -/
def bitAt (v : Int) (j : Nat) : Bool := v / 2 ^ (7 - j) % 2 == 1
theorem fin_byte {p : Int → Prop} (h : ∀ v : Fin 256, p (v.val : Int)) {v : Int} (h0 : 0 ≤ v) (h1 : v ≤ 255) : p v := by
  have := h ⟨v.toNat, by omega⟩
  rwa [show ((⟨v.toNat, by omega⟩ : Fin 256).val : Int) = v from Int.toNat_of_nonneg h0] at this
/-- bytes -/
def Bytes (ds : List Int) : Prop := ∀ d ∈ ds, 0 ≤ d ∧ d ≤ 255
end Go.Proofs.Ytedjnjgnadbkaaa
/- Pictures of pixels. No program in sight. -/
set_option maxRecDepth 100000
namespace Go.Proofs.Ytedjnjgnadbkaaa
open Go Go.RowKit

/-- a row's bytes -/
def strd (w : Int) : Int := (w + 7) / 8
theorem at_ok {w h : Int} (hw : 0 ≤ w) {x y : Int} {l : Nat} (hx0 : 0 ≤ x) (hx1 : x < w) (hy0 : 0 ≤ y) (hy1 : y < h) (hl : (l : Int) = strd w * h) : 0 ≤ y * strd w ∧ 0 ≤ y * strd w + x / 8 ∧ y * strd w + x / 8 < l := by
  have h1 : x / 8 < strd w := by unfold strd; omega
  have h2 : y * strd w ≤ (h - 1) * strd w := Int.mul_le_mul_of_nonneg_right (by omega) (by unfold strd; omega)
  have h3 : (h - 1) * strd w = strd w * h - strd w := by rw [Int.sub_mul, Int.one_mul, Int.mul_comm]
  have h4 : 0 ≤ y * strd w := Int.mul_nonneg hy0 (by unfold strd; omega)
  omega
theorem Bytes.at {ds : List Int} (h : Bytes ds) (i : Nat) : 0 ≤ ds.getD i 0 ∧ ds.getD i 0 ≤ 255 := by
  rw [List.getD_eq_getElem?_getD]
  cases e : ds[i]? with
  | none => simp
  | some d => exact h d (List.mem_of_getElem? e)

def byteB (b0 b1 b2 b3 b4 b5 b6 b7 : Bool) : Int := (bif b0 then 128 else 0) + (bif b1 then 64 else 0) + (bif b2 then 32 else 0) + (bif b3 then 16 else 0) + (bif b4 then 8 else 0) + (bif b5 then 4 else 0) + (bif b6 then 2 else 0) + (bif b7 then 1 else 0)
/-- the byte with the given pixels -/
def byteOf (p : Nat → Bool) : Int := byteB (p 0) (p 1) (p 2) (p 3) (p 4) (p 5) (p 6) (p 7)
theorem byteOf_congr {p q : Nat → Bool} (h : ∀ k, k < 8 → p k = q k) : byteOf p = byteOf q := by
  unfold byteOf
  rw [h 0 (by omega), h 1 (by omega), h 2 (by omega), h 3 (by omega), h 4 (by omega), h 5 (by omega), h 6 (by omega), h 7 (by omega)]
theorem byteOf_bd (p : Nat → Bool) : 0 ≤ byteOf p ∧ byteOf p ≤ 255 := by
  unfold byteOf
  generalize p 0 = a0; generalize p 1 = a1; generalize p 2 = a2; generalize p 3 = a3; generalize p 4 = a4; generalize p 5 = a5; generalize p 6 = a6; generalize p 7 = a7
  revert a0 a1 a2 a3 a4 a5 a6 a7
  decide +kernel
theorem bool_fun {p : Nat → Bool} {a0 a1 a2 a3 a4 a5 a6 a7 : Bool} (h0 : p 0 = a0) (h1 : p 1 = a1) (h2 : p 2 = a2) (h3 : p 3 = a3) (h4 : p 4 = a4) (h5 : p 5 = a5) (h6 : p 6 = a6) (h7 : p 7 = a7) : ∀ k, k < 8 → p k = [a0, a1, a2, a3, a4, a5, a6, a7].getD k false
  | 0, _ => h0 | 1, _ => h1 | 2, _ => h2 | 3, _ => h3 | 4, _ => h4 | 5, _ => h5 | 6, _ => h6 | 7, _ => h7
  | k + 8, h => by omega
theorem byteOf_bit (p : Nat → Bool) {k : Nat} (hk : k < 8) : bitAt (byteOf p) k = p k := by
  rw [bool_fun (p := p) rfl rfl rfl rfl rfl rfl rfl rfl k hk]
  unfold byteOf
  generalize p 0 = a0; generalize p 1 = a1; generalize p 2 = a2; generalize p 3 = a3; generalize p 4 = a4; generalize p 5 = a5; generalize p 6 = a6; generalize p 7 = a7
  exact (show ∀ (k : Fin 8) (a0 a1 a2 a3 a4 a5 a6 a7 : Bool), bitAt (byteB a0 a1 a2 a3 a4 a5 a6 a7) k.val = [a0, a1, a2, a3, a4, a5, a6, a7].getD k.val false by decide +kernel) ⟨k, hk⟩ a0 a1 a2 a3 a4 a5 a6 a7
theorem or_byte {v : Int} (h0 : 0 ≤ v) (h1 : v ≤ 255) {k : Nat} (hk : k < 8) : bits .or .u8 v (128 / 2 ^ k) = byteOf (fun j => bitAt v j || j == k) :=
  fin_byte (p := fun v => bits .or .u8 v (128 / 2 ^ k) = byteOf (fun j => bitAt v j || j == k)) (fun v => (show ∀ (k : Fin 8) (v : Fin 256), bits .or .u8 (v.val : Int) (128 / 2 ^ k.val) = byteOf (fun j => bitAt (v.val : Int) j || j == k.val) by decide +kernel) ⟨k, hk⟩ v) h0 h1
theorem byteOf_or (p : Nat → Bool) {k : Nat} (hk : k < 8) : bits .or .u8 (byteOf p) (128 / 2 ^ k) = byteOf (fun j => p j || j == k) := by
  rw [or_byte (byteOf_bd p).1 (byteOf_bd p).2 hk]
  exact byteOf_congr fun j hj => by rw [byteOf_bit p hj]
/-- byte i of a picture -/
def cbyte (w : Int) (P : Int → Int → Bool) (i : Int) : Int := byteOf fun k => decide (8 * (i % strd w) + k < w) && P (8 * (i % strd w) + k) (i / strd w)
/-- the bytes of the picture P -/
def canon (w h : Int) (P : Int → Int → Bool) : List Int := (List.range (strd w * h).toNat).map fun i : Nat => cbyte w P (i : Int)
theorem canon_length (w h : Int) (P : Int → Int → Bool) : (canon w h P).length = (strd w * h).toNat := by rw [canon, List.length_map, List.length_range]
theorem canon_len {w h : Int} (hw : 0 ≤ w) (hh : 0 ≤ h) (P : Int → Int → Bool) : ((canon w h P).length : Int) = strd w * h := by
  rw [canon_length, Int.toNat_of_nonneg (Int.mul_nonneg (by unfold strd; omega) hh)]
theorem canon_get {w h : Int} {P : Int → Int → Bool} {i : Nat} (hi : i < (canon w h P).length) : (canon w h P)[i] = cbyte w P i := by
  simp only [canon, List.getElem_map, List.getElem_range]
theorem canon_getD {w h : Int} {P : Int → Int → Bool} {i : Nat} (hi : i < (strd w * h).toNat) : (canon w h P).getD i 0 = cbyte w P i := by
  rw [← canon_length w h P] at hi
  rw [List.getD_eq_getElem?_getD, List.getElem?_eq_getElem hi, Option.getD_some, canon_get]
theorem canon_congr {w h : Int} {P Q : Int → Int → Bool} (hw : 0 < w) (hp : ∀ x y, 0 ≤ x → x < w → 0 ≤ y → y < h → P x y = Q x y) : canon w h P = canon w h Q := by
  unfold canon
  refine List.map_congr_left fun i hi => byteOf_congr fun k _ => ?_
  have hi := List.mem_range.1 hi
  have hs : 0 < strd w := by unfold strd; omega
  have hi' : (i : Int) < strd w * h := by omega
  have e1 : 0 ≤ (i : Int) % strd w := Int.emod_nonneg _ (by omega)
  have e2 : (i : Int) / strd w < h := Int.ediv_lt_of_lt_mul hs (by rw [Int.mul_comm]; exact hi')
  have e3 : 0 ≤ (i : Int) / strd w := Int.ediv_nonneg (by omega) (by omega)
  by_cases g : 8 * ((i : Int) % strd w) + k < w
  · rw [hp _ _ (by omega) g e3 e2]
  · rw [decide_eq_false g]; rfl
theorem div_of {s a b : Int} (h0 : 0 ≤ b) (h1 : b < s) : (a * s + b) / s = a ∧ (a * s + b) % s = b := by
  have hs : s ≠ 0 := by omega
  constructor
  · rw [Int.add_comm, Int.add_mul_ediv_right _ _ hs, Int.ediv_eq_zero_of_lt h0 h1, Int.zero_add]
  · rw [Int.add_comm, Int.add_mul_emod_self_right, Int.emod_eq_of_lt h0 h1]
theorem mul_div_mod (i s : Int) : i / s * s + i % s = i := by rw [Int.mul_comm]; exact Int.mul_ediv_add_emod i s
section
variable {w h x y : Int} {P : Int → Int → Bool}
theorem at_lt (hx0 : 0 ≤ x) (hx1 : x < w) (hy0 : 0 ≤ y) (hy1 : y < h) : (y * strd w + x / 8).toNat < (strd w * h).toNat ∧ ((y * strd w + x / 8).toNat : Int) = y * strd w + x / 8 := by
  have h1 : 0 ≤ strd w * h := Int.mul_nonneg (by unfold strd; omega) (by omega)
  obtain ⟨g0, g1, g2⟩ := at_ok (w := w) (h := h) (x := x) (y := y) (l := (strd w * h).toNat) (by omega) hx0 hx1 hy0 hy1 (by omega)
  omega
theorem cbyte_at (hx0 : 0 ≤ x) (hx1 : x < w) (hy0 : 0 ≤ y) : cbyte w P (y * strd w + x / 8) = byteOf fun k => decide (8 * (x / 8) + k < w) && P (8 * (x / 8) + k) y := by
  have h1 : x / 8 < strd w := by unfold strd; omega
  have := hy0
  unfold cbyte
  rw [(div_of (by omega) h1).1, (div_of (by omega) h1).2]
/-- one byte of a picture turned -/
theorem canon_upd {Q : Int → Int → Bool} {v : Int} (hx0 : 0 ≤ x) (hx1 : x < w) (hy0 : 0 ≤ y) (hy1 : y < h) (hv : v = byteOf fun k => decide (8 * (x / 8) + k < w) && Q (8 * (x / 8) + k) y)
    (hq : ∀ a b, 0 ≤ a → ¬ (a / 8 = x / 8 ∧ b = y) → Q a b = P a b) : (canon w h P).set (y * strd w + x / 8).toNat v = canon w h Q := by
  obtain ⟨hlt, hcast⟩ := at_lt hx0 hx1 hy0 hy1
  refine List.ext_getElem (by rw [List.length_set, canon_length, canon_length]) fun i h1 h2 => ?_
  rw [List.getElem_set]
  split
  · rename_i e
    subst e
    rw [canon_get, hcast, cbyte_at hx0 hx1 hy0]
    exact hv
  · rename_i e
    rw [canon_get, canon_get]
    refine byteOf_congr fun k hk => ?_
    have hs : 0 < strd w := by unfold strd; omega
    have e1 : 0 ≤ (i : Int) % strd w := Int.emod_nonneg _ (by omega)
    congr 1
    refine (hq _ _ (by omega) ?_).symm
    rintro ⟨g1, g2⟩
    have g3 : (i : Int) % strd w = x / 8 := by omega
    have := mul_div_mod (i : Int) (strd w)
    rw [g2, g3] at this
    omega
theorem canon_set (hx0 : 0 ≤ x) (hx1 : x < w) (hy0 : 0 ≤ y) (hy1 : y < h) :
    (canon w h P).set (y * strd w + x / 8).toNat (bits .or .u8 ((canon w h P).getD (y * strd w + x / 8).toNat 0) (128 / 2 ^ (x % 8).toNat)) = canon w h (fun a b => P a b || (decide (a = x) && decide (b = y))) := by
  obtain ⟨hlt, hcast⟩ := at_lt hx0 hx1 hy0 hy1
  refine canon_upd hx0 hx1 hy0 hy1 ?_ (fun a b ha hn => ?_)
  · rw [canon_getD hlt, hcast, cbyte_at hx0 hx1 hy0, byteOf_or _ (by omega)]
    refine byteOf_congr fun k hk => ?_
    rw [decide_eq_true (rfl : y = y), Bool.and_true]
    by_cases e : k = (x % 8).toNat
    · subst e
      have e1 : 8 * (x / 8) + ((x % 8).toNat : Int) = x := by omega
      rw [e1, decide_eq_true hx1, decide_eq_true (rfl : x = x)]
      simp
    · rw [decide_eq_false (show ¬ 8 * (x / 8) + (k : Int) = x by omega)]
      simp [e]
  · have : ¬ (a = x ∧ b = y) := fun g => hn (by rw [g.1]; exact ⟨rfl, g.2⟩)
    by_cases e : a = x
    · rw [decide_eq_false (show ¬ b = y from fun g => this ⟨e, g⟩)]; simp
    · rw [decide_eq_false e]; simp
end
theorem strd_bd {w h : Int} (hw0 : 0 ≤ w) (hw1 : w ≤ 1024) (hh0 : 0 ≤ h) (hh1 : h ≤ 1024) : 0 ≤ strd w ∧ strd w ≤ 128 ∧ 0 ≤ strd w * h ∧ strd w * h ≤ 131072 := by
  have a1 : strd w ≤ 128 := by unfold strd; omega
  have a2 : 0 ≤ strd w := by unfold strd; omega
  have := Int.mul_le_mul a1 hh1 hh0 (by omega : (0 : Int) ≤ 128)
  have := Int.mul_nonneg a2 hh0
  omega
theorem idx_bd {w h x y : Int} (hx0 : 0 ≤ x) (hx1 : x < w) (hw1 : w ≤ 1024) (hy0 : 0 ≤ y) (hy1 : y < h) (hh1 : h ≤ 1024) : 0 ≤ y * strd w ∧ y * strd w + x / 8 < strd w * h ∧ strd w * h ≤ 131072 := by
  obtain ⟨b1, b2, b3, b4⟩ := strd_bd (w := w) (h := h) (by omega) hw1 (by omega) hh1
  obtain ⟨g0, g1, g2⟩ := at_ok (w := w) (h := h) (x := x) (y := y) (l := (strd w * h).toNat) (by omega) hx0 hx1 hy0 hy1 (by omega)
  omega
theorem canon_zero (w h : Int) {P : Int → Int → Bool} (hp : ∀ x y, P x y = false) : canon w h P = List.replicate (strd w * h).toNat 0 := by
  refine List.ext_getElem (by rw [canon_length, List.length_replicate]) fun i h1 h2 => ?_
  rw [canon_get, List.getElem_replicate]
  show byteOf _ = 0
  rw [byteOf_congr (q := fun _ => false) (fun k _ => by rw [hp, Bool.and_false])]
  rfl
end Go.Proofs.Ytedjnjgnadbkaaa
/- Pictures: what bitmap.Mark, R.Drawn, R.SameBits compute. -/
set_option maxRecDepth 100000
namespace Go.Proofs.Ytedjnjgnadbkaaa
open Go Go.RowKit

theorem within_r (fu : Nat) (x lo hi : Int) : R_Within_r fu (x, (lo, (hi, ()))) = some (decide (lo ≤ x) && decide (x ≤ hi), ()) := by
  unfold R_Within_r
  by_cases h : lo ≤ x
  · rw [bif_pos h, decide_eq_true h]; rfl
  · rw [bif_neg h, decide_eq_false h]; rfl
theorem none_r (fu : Nat) (z : Bool) (g w : Int) : law_none_r fu (z, (g, (w, ()))) = some (z && decide (g = w), ()) := by
  unfold law_none_r
  cases z <;> rfl
theorem stride_r (fu : Nat) {w : Int} (h0 : 0 ≤ w) (h1 : w ≤ 1000000) : bitmap_stride_r fu (w, ()) = some (strd w, ()) := by
  unfold bitmap_stride_r strd
  simp only
  rw [wr64 (x := w + 7) (by omega) (by omega), Int.tdiv_eq_ediv_of_nonneg (by omega), wr64 (x := (w + 7) / 8) (by omega) (by omega)]
section
variable {β : Type}
/-- one pixel set -/
def markF (fu : Nat) (w y x : Int) (ds : List Int) (k : List Int → Option β) : Option β :=
  bindO (bitmap_stride_r fu ((w, ()))) fun v8 =>
  bif ((decide ((0 : Int) ≤ (IntKind.i64.wrap ((IntKind.i64.wrap (y * v8.1)) + (IntKind.i64.wrap (Int.tdiv x (8 : Int))))))) && (decide ((IntKind.i64.wrap ((IntKind.i64.wrap (y * v8.1)) + (IntKind.i64.wrap (Int.tdiv x (8 : Int))))) < (List.length ds : Int)))) then
  bif ((decide ((0 : Int) ≤ (Int.tmod x (8 : Int)))) && (decide ((Int.tmod x (8 : Int)) ≤ (8 : Int)))) then
  bif ((decide ((0 : Int) ≤ (IntKind.i64.wrap ((IntKind.i64.wrap (y * v8.1)) + (IntKind.i64.wrap (Int.tdiv x (8 : Int))))))) && (decide ((IntKind.i64.wrap ((IntKind.i64.wrap (y * v8.1)) + (IntKind.i64.wrap (Int.tdiv x (8 : Int))))) < (List.length ds : Int)))) then
  k ((List.set ds (Int.toNat (IntKind.i64.wrap ((IntKind.i64.wrap (y * v8.1)) + (IntKind.i64.wrap (Int.tdiv x (8 : Int)))))) (bits BinOp.or IntKind.u8 (List.getD ds (Int.toNat (IntKind.i64.wrap ((IntKind.i64.wrap (y * v8.1)) + (IntKind.i64.wrap (Int.tdiv x (8 : Int)))))) 0) ((128 : Int) / 2 ^ (Int.toNat (Int.tmod x (8 : Int)))))))
  else none
  else none
  else none
theorem markF_eq (fu : Nat) {w h x y : Int} {P : Int → Int → Bool} {k : List Int → Option β} (hx0 : 0 ≤ x) (hx1 : x < w) (hw1 : w ≤ 1024) (hy0 : 0 ≤ y) (hy1 : y < h) (hh1 : h ≤ 1024) :
    markF fu w y x (canon w h P) k = k (canon w h (fun a b => P a b || (decide (a = x) && decide (b = y)))) := by
  obtain ⟨g0, g1, g2⟩ := idx_bd hx0 hx1 hw1 hy0 hy1 hh1
  have hl := canon_len (w := w) (h := h) (by omega) (by omega) P
  unfold markF
  rw [stride_r fu (by omega) (by omega), bindO_some]
  simp only
  rw [Int.tdiv_eq_ediv_of_nonneg hx0, Int.tmod_eq_emod_of_nonneg hx0, wr64 (x := x / 8) (by omega) (by omega), wr64 (x := y * strd w) (by omega) (by omega), wr64 (x := y * strd w + x / 8) (by omega) (by omega)]
  rw [bif_and (by omega) (by omega), bif_and (by omega) (by omega), bif_and (by omega) (by omega), canon_set hx0 hx1 hy0 hy1]
variable {fu : Nat} (hf : 18446744073709551616 ≤ fu) {w h : Int}
include hf
/-- a list of pixels drawn -/
theorem drawn_r {on : List Bool} (hw0 : 0 < w) (hw1 : w ≤ 1024) (hh0 : 0 < h) (hh1 : h ≤ 1024) (hl : (on.length : Int) = w * h) :
    R_Drawn_r fu (w, (h, (on, ()))) = some ((w, (h, canon w h (fun x y => on.getD (y * w + x).toNat false))), ()) := by
  obtain ⟨b1, b2, b3, b4⟩ := strd_bd (w := w) (h := h) (by omega) hw1 (by omega) hh1
  have hwh : w * h ≤ 1048576 := by
    have := Int.mul_le_mul hw1 hh1 (by omega : 0 ≤ h) (by omega : (0 : Int) ≤ 1024)
    omega
  unfold R_Drawn_r
  simp only
  have e1 : IntKind.i64.wrap (Int.tdiv (IntKind.i64.wrap (w + 7)) 8) = strd w := by
    rw [wr64 (x := w + 7) (by omega) (by omega), Int.tdiv_eq_ediv_of_nonneg (by omega), wr64 (x := (w + 7) / 8) (by omega) (by omega)]; rfl
  rw [e1, wr64 (x := strd w * h) (by omega) (by omega), bif_and (by omega) (by omega), ← canon_zero w h (P := fun _ _ => false) (fun _ _ => rfl)]
  refine loopF_spec (fun v => (w * h - v.1).toNat) (fun v => 0 ≤ v.1 ∧ v.1 ≤ w * h ∧ v.2 = canon w h (fun x y => on.getD (y * w + x).toNat false && decide (y * w + x < v.1))) (fun _ => some ((w, (h, canon w h (fun x y => on.getD (y * w + x).toNat false))), ())) ?_ fu (0, _) ⟨by omega, by simp only; omega, ?_⟩ (by simp only; omega)
  · rintro j ⟨i, ds⟩ ⟨h0, h1, hd⟩ ih
    simp only at h0 h1 hd
    unfold R_Drawn_l1 R_Drawn_j2
    simp only [joinF_eq]
    by_cases hi : i < w * h
    · rw [bif_pos (by omega), bif_and (by omega) (by omega), wr64 (x := i + 1) (by omega) (by omega)]
      have hx0 : 0 ≤ i % w := Int.emod_nonneg _ (by omega)
      have hx1 : i % w < w := Int.emod_lt_of_pos _ hw0
      have hy0 : 0 ≤ i / w := Int.ediv_nonneg h0 (by omega)
      have hy1 : i / w < h := Int.ediv_lt_of_lt_mul hw0 (by rw [Int.mul_comm]; exact hi)
      have hmd := mul_div_mod i w
      cases hF : on.getD i.toNat false with
      | true =>
        simp only [cond_true]
        obtain ⟨g0, g1, g2⟩ := idx_bd hx0 hx1 hw1 hy0 hy1 hh1
        have hcl := canon_len (w := w) (h := h) (by omega) (by omega) (fun x y => on.getD (y * w + x).toNat false && decide (y * w + x < i))
        have hwn : w ≠ 0 := by omega
        rw [Int.tdiv_eq_ediv_of_nonneg h0, Int.tmod_eq_emod_of_nonneg h0, Int.tdiv_eq_ediv_of_nonneg hx0, Int.tmod_eq_emod_of_nonneg hx0, wr64 (x := i / w) (by omega) (by omega), wr64 (x := i / w * strd w) (by omega) (by omega), wr64 (x := i % w / 8) (by omega) (by omega), wr64 (x := i / w * strd w + i % w / 8) (by omega) (by omega)]
        rw [hd, bif_pos hwn, bif_pos hwn, bif_and (by omega) (by omega), bif_pos hwn, bif_and (by omega) (by omega), bif_and (by omega) (by omega), canon_set hx0 hx1 hy0 hy1]
        refine ih (i + 1, _) ⟨by simp only; omega, by simp only; omega, ?_⟩ (by simp only; omega)
        simp only
        refine canon_congr hw0 fun a b ha ha1 _ _ => ?_
        by_cases e : a = i % w ∧ b = i / w
        · obtain ⟨rfl, rfl⟩ := e
          rw [hmd, hF]; simp; omega
        · have e2 : (decide (a = i % w) && decide (b = i / w)) = false := by
            rw [← Bool.not_eq_true, Bool.and_eq_true]; simpa using e
          have e3 : ¬ b * w + a = i := by
            intro q
            have := div_of (a := b) ha ha1
            rw [q] at this
            exact e ⟨this.2.symm, this.1.symm⟩
          have g2 : decide (b * w + a < i) = decide (b * w + a < i + 1) := by
            by_cases q : b * w + a < i
            · rw [decide_eq_true q, decide_eq_true (by omega)]
            · rw [decide_eq_false q, decide_eq_false (by omega)]
          rw [e2, Bool.or_false, g2]
      | false =>
        simp only [cond_false]
        refine ih (i + 1, ds) ⟨by simp only; omega, by simp only; omega, ?_⟩ (by simp only; omega)
        simp only
        rw [hd]
        refine canon_congr hw0 fun a b ha ha1 _ _ => ?_
        by_cases q : b * w + a = i
        · rw [q, hF]; rfl
        · have g2 : decide (b * w + a < i) = decide (b * w + a < i + 1) := by
            by_cases q : b * w + a < i
            · rw [decide_eq_true q, decide_eq_true (by omega)]
            · rw [decide_eq_false q, decide_eq_false (by omega)]
          rw [g2]
    · rw [bif_neg (by omega), hd]
      congr 4
      refine canon_congr hw0 fun a b ha ha1 hb hb1 => ?_
      have : b * w ≤ (h - 1) * w := Int.mul_le_mul_of_nonneg_right (by omega) (by omega)
      have e2 : (h - 1) * w = w * h - w := by rw [Int.sub_mul, Int.one_mul, Int.mul_comm]
      rw [decide_eq_true (show b * w + a < i by omega), Bool.and_true]
  · refine canon_congr hw0 fun a b ha _ hb _ => ?_
    have := Int.mul_nonneg hb (by omega : 0 ≤ w)
    rw [decide_eq_false (show ¬ b * w + a < 0 by omega), Bool.and_false]
end
theorem same_r (fu : Nat) (w h : Int) (ds : List Int) : R_SameBits_r fu ((w, (h, ds)), ((w, (h, ds)), ())) = some (true, ()) := by
  unfold R_SameBits_r R_SameBytes_r
  simp [bindO_some]
/-- a refused bitmap -/
theorem refused_r (fu : Nat) (e : Int) : law_refused_r fu ((0, (0, [])), (e, (e, ()))) = some (true, ()) := by
  unfold law_refused_r R_NoBits_r
  simp [bindO_some]
end Go.Proofs.Ytedjnjgnadbkaaa
