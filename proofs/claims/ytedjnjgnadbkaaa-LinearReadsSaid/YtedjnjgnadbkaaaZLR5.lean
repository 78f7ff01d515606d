/- Some calls of a recursive function, by runs. -/
import Derived.Test.YtedjnjgnadbkaaaZLR4
import Derived.Below
/- Some calls of a recursive function, by runs. -/
namespace Go.Proofs.Ytedjnjgnadbkaaa
open Go Go.RowKit

def linear_patterns_1_f0 : Fact := ⟨108, [.int .i64 (1), .int .i64 (10), .box 1 0, .box 0 0, .box 2 0],
   [(0, .box [.nils] 126),
    (1, .box [.int .i64 (1), .int .i64 (0), .int .i64 (0), .int .i64 (0), .int .i64 (0), .int .i64 (0)] 130),
    (2, .box [.fn 108 [.box 1 0, .box 0 0, .box 2 0]] 167)],
   3, .tup [],
   [(0, .box [.osl 4 50] 126),
    (36, .row 6 [[.int .i64 (1), .int .i64 (2), .int .i64 (3), .int .i64 (1), .int .i64 (2), .int .i64 (2)]] 130),
    (46, .row 6 [[.int .i64 (1), .int .i64 (3), .int .i64 (2), .int .i64 (2), .int .i64 (1), .int .i64 (2)]] 130),
    (11, .row 6 [[.int .i64 (1), .int .i64 (1), .int .i64 (2), .int .i64 (2), .int .i64 (1), .int .i64 (4)]] 130),
    (27, .row 6 [[.int .i64 (1), .int .i64 (2), .int .i64 (1), .int .i64 (2), .int .i64 (4), .int .i64 (1)]] 130),
    (20, .row 6 [[.int .i64 (1), .int .i64 (1), .int .i64 (4), .int .i64 (1), .int .i64 (1), .int .i64 (3)]] 130),
    (47, .row 6 [[.int .i64 (1), .int .i64 (3), .int .i64 (2), .int .i64 (3), .int .i64 (1), .int .i64 (1)]] 130),
    (9, .row 6 [[.int .i64 (1), .int .i64 (1), .int .i64 (1), .int .i64 (4), .int .i64 (2), .int .i64 (2)]] 130),
    (37, .row 6 [[.int .i64 (1), .int .i64 (2), .int .i64 (3), .int .i64 (2), .int .i64 (2), .int .i64 (1)]] 130),
    (1, .box [.int .i64 (1), .int .i64 (4), .int .i64 (4), .int .i64 (1), .int .i64 (1), .int .i64 (1)] 130),
    (28, .row 6 [[.int .i64 (1), .int .i64 (2), .int .i64 (1), .int .i64 (3), .int .i64 (2), .int .i64 (2)]] 130),
    (21, .row 6 [[.int .i64 (1), .int .i64 (1), .int .i64 (4), .int .i64 (1), .int .i64 (3), .int .i64 (1)]] 130),
    (48, .row 6 [[.int .i64 (1), .int .i64 (3), .int .i64 (3), .int .i64 (1), .int .i64 (2), .int .i64 (1)]] 130),
    (16, .row 6 [[.int .i64 (1), .int .i64 (1), .int .i64 (3), .int .i64 (1), .int .i64 (2), .int .i64 (3)]] 130),
    (12, .row 6 [[.int .i64 (1), .int .i64 (1), .int .i64 (2), .int .i64 (2), .int .i64 (3), .int .i64 (2)]] 130),
    (22, .row 6 [[.int .i64 (1), .int .i64 (1), .int .i64 (4), .int .i64 (2), .int .i64 (1), .int .i64 (2)]] 130),
    (38, .row 6 [[.int .i64 (1), .int .i64 (2), .int .i64 (4), .int .i64 (1), .int .i64 (1), .int .i64 (2)]] 130),
    (29, .row 6 [[.int .i64 (1), .int .i64 (2), .int .i64 (1), .int .i64 (4), .int .i64 (2), .int .i64 (1)]] 130),
    (2, .box [.fn 108 [.box 1 0, .box 0 0, .box 2 0]] 167),
    (49, .row 6 [[.int .i64 (1), .int .i64 (3), .int .i64 (4), .int .i64 (1), .int .i64 (1), .int .i64 (1)]] 130),
    (17, .row 6 [[.int .i64 (1), .int .i64 (1), .int .i64 (3), .int .i64 (1), .int .i64 (4), .int .i64 (1)]] 130),
    (39, .row 6 [[.int .i64 (1), .int .i64 (2), .int .i64 (4), .int .i64 (2), .int .i64 (1), .int .i64 (1)]] 130),
    (7, .row 6 [[.int .i64 (1), .int .i64 (1), .int .i64 (1), .int .i64 (3), .int .i64 (2), .int .i64 (3)]] 130),
    (30, .row 6 [[.int .i64 (1), .int .i64 (2), .int .i64 (2), .int .i64 (1), .int .i64 (1), .int .i64 (4)]] 130),
    (23, .row 6 [[.int .i64 (1), .int .i64 (1), .int .i64 (4), .int .i64 (3), .int .i64 (1), .int .i64 (1)]] 130),
    (5, .row 6 [[.int .i64 (1), .int .i64 (1), .int .i64 (1), .int .i64 (2), .int .i64 (2), .int .i64 (4)]] 130),
    (50, .row 6 [[.int .i64 (1), .int .i64 (4), .int .i64 (1), .int .i64 (1), .int .i64 (2), .int .i64 (2)]] 130),
    (31, .row 6 [[.int .i64 (1), .int .i64 (2), .int .i64 (2), .int .i64 (1), .int .i64 (3), .int .i64 (2)]] 130),
    (13, .row 6 [[.int .i64 (1), .int .i64 (1), .int .i64 (2), .int .i64 (3), .int .i64 (1), .int .i64 (3)]] 130),
    (40, .row 6 [[.int .i64 (1), .int .i64 (3), .int .i64 (1), .int .i64 (1), .int .i64 (2), .int .i64 (3)]] 130),
    (18, .row 6 [[.int .i64 (1), .int .i64 (1), .int .i64 (3), .int .i64 (2), .int .i64 (2), .int .i64 (2)]] 130),
    (51, .row 6 [[.int .i64 (1), .int .i64 (4), .int .i64 (1), .int .i64 (2), .int .i64 (2), .int .i64 (1)]] 130),
    (3, .row 6 [[.int .i64 (1), .int .i64 (1), .int .i64 (1), .int .i64 (1), .int .i64 (4), .int .i64 (3)]] 130),
    (41, .row 6 [[.int .i64 (1), .int .i64 (3), .int .i64 (1), .int .i64 (1), .int .i64 (4), .int .i64 (1)]] 130),
    (32, .row 6 [[.int .i64 (1), .int .i64 (2), .int .i64 (2), .int .i64 (2), .int .i64 (1), .int .i64 (3)]] 130),
    (8, .row 6 [[.int .i64 (1), .int .i64 (1), .int .i64 (1), .int .i64 (3), .int .i64 (4), .int .i64 (1)]] 130),
    (14, .row 6 [[.int .i64 (1), .int .i64 (1), .int .i64 (2), .int .i64 (3), .int .i64 (3), .int .i64 (1)]] 130),
    (42, .row 6 [[.int .i64 (1), .int .i64 (3), .int .i64 (1), .int .i64 (2), .int .i64 (2), .int .i64 (2)]] 130),
    (52, .row 6 [[.int .i64 (1), .int .i64 (4), .int .i64 (2), .int .i64 (1), .int .i64 (1), .int .i64 (2)]] 130),
    (33, .row 6 [[.int .i64 (1), .int .i64 (2), .int .i64 (2), .int .i64 (2), .int .i64 (3), .int .i64 (1)]] 130),
    (24, .row 6 [[.int .i64 (1), .int .i64 (2), .int .i64 (1), .int .i64 (1), .int .i64 (2), .int .i64 (4)]] 130),
    (10, .row 6 [[.int .i64 (1), .int .i64 (1), .int .i64 (2), .int .i64 (1), .int .i64 (3), .int .i64 (3)]] 130),
    (53, .row 6 [[.int .i64 (1), .int .i64 (4), .int .i64 (2), .int .i64 (2), .int .i64 (1), .int .i64 (1)]] 130),
    (34, .row 6 [[.int .i64 (1), .int .i64 (2), .int .i64 (2), .int .i64 (3), .int .i64 (1), .int .i64 (2)]] 130),
    (43, .row 6 [[.int .i64 (1), .int .i64 (3), .int .i64 (1), .int .i64 (3), .int .i64 (2), .int .i64 (1)]] 130),
    (19, .row 6 [[.int .i64 (1), .int .i64 (1), .int .i64 (3), .int .i64 (3), .int .i64 (2), .int .i64 (1)]] 130),
    (25, .row 6 [[.int .i64 (1), .int .i64 (2), .int .i64 (1), .int .i64 (1), .int .i64 (4), .int .i64 (2)]] 130),
    (4, .row 6 [[.int .i64 (1), .int .i64 (1), .int .i64 (1), .int .i64 (1), .int .i64 (4), .int .i64 (3)], [.int .i64 (1), .int .i64 (1), .int .i64 (1), .int .i64 (2), .int .i64 (2), .int .i64 (4)], [.int .i64 (1), .int .i64 (1), .int .i64 (1), .int .i64 (2), .int .i64 (4), .int .i64 (2)], [.int .i64 (1), .int .i64 (1), .int .i64 (1), .int .i64 (3), .int .i64 (2), .int .i64 (3)], [.int .i64 (1), .int .i64 (1), .int .i64 (1), .int .i64 (3), .int .i64 (4), .int .i64 (1)], [.int .i64 (1), .int .i64 (1), .int .i64 (1), .int .i64 (4), .int .i64 (2), .int .i64 (2)], [.int .i64 (1), .int .i64 (1), .int .i64 (2), .int .i64 (1), .int .i64 (3), .int .i64 (3)], [.int .i64 (1), .int .i64 (1), .int .i64 (2), .int .i64 (2), .int .i64 (1), .int .i64 (4)], [.int .i64 (1), .int .i64 (1), .int .i64 (2), .int .i64 (2), .int .i64 (3), .int .i64 (2)], [.int .i64 (1), .int .i64 (1), .int .i64 (2), .int .i64 (3), .int .i64 (1), .int .i64 (3)], [.int .i64 (1), .int .i64 (1), .int .i64 (2), .int .i64 (3), .int .i64 (3), .int .i64 (1)], [.int .i64 (1), .int .i64 (1), .int .i64 (2), .int .i64 (4), .int .i64 (1), .int .i64 (2)], [.int .i64 (1), .int .i64 (1), .int .i64 (3), .int .i64 (1), .int .i64 (2), .int .i64 (3)], [.int .i64 (1), .int .i64 (1), .int .i64 (3), .int .i64 (1), .int .i64 (4), .int .i64 (1)], [.int .i64 (1), .int .i64 (1), .int .i64 (3), .int .i64 (2), .int .i64 (2), .int .i64 (2)], [.int .i64 (1), .int .i64 (1), .int .i64 (3), .int .i64 (3), .int .i64 (2), .int .i64 (1)], [.int .i64 (1), .int .i64 (1), .int .i64 (4), .int .i64 (1), .int .i64 (1), .int .i64 (3)], [.int .i64 (1), .int .i64 (1), .int .i64 (4), .int .i64 (1), .int .i64 (3), .int .i64 (1)], [.int .i64 (1), .int .i64 (1), .int .i64 (4), .int .i64 (2), .int .i64 (1), .int .i64 (2)], [.int .i64 (1), .int .i64 (1), .int .i64 (4), .int .i64 (3), .int .i64 (1), .int .i64 (1)], [.int .i64 (1), .int .i64 (2), .int .i64 (1), .int .i64 (1), .int .i64 (2), .int .i64 (4)], [.int .i64 (1), .int .i64 (2), .int .i64 (1), .int .i64 (1), .int .i64 (4), .int .i64 (2)], [.int .i64 (1), .int .i64 (2), .int .i64 (1), .int .i64 (2), .int .i64 (2), .int .i64 (3)], [.int .i64 (1), .int .i64 (2), .int .i64 (1), .int .i64 (2), .int .i64 (4), .int .i64 (1)], [.int .i64 (1), .int .i64 (2), .int .i64 (1), .int .i64 (3), .int .i64 (2), .int .i64 (2)], [.int .i64 (1), .int .i64 (2), .int .i64 (1), .int .i64 (4), .int .i64 (2), .int .i64 (1)], [.int .i64 (1), .int .i64 (2), .int .i64 (2), .int .i64 (1), .int .i64 (1), .int .i64 (4)], [.int .i64 (1), .int .i64 (2), .int .i64 (2), .int .i64 (1), .int .i64 (3), .int .i64 (2)], [.int .i64 (1), .int .i64 (2), .int .i64 (2), .int .i64 (2), .int .i64 (1), .int .i64 (3)], [.int .i64 (1), .int .i64 (2), .int .i64 (2), .int .i64 (2), .int .i64 (3), .int .i64 (1)], [.int .i64 (1), .int .i64 (2), .int .i64 (2), .int .i64 (3), .int .i64 (1), .int .i64 (2)], [.int .i64 (1), .int .i64 (2), .int .i64 (2), .int .i64 (4), .int .i64 (1), .int .i64 (1)], [.int .i64 (1), .int .i64 (2), .int .i64 (3), .int .i64 (1), .int .i64 (2), .int .i64 (2)], [.int .i64 (1), .int .i64 (2), .int .i64 (3), .int .i64 (2), .int .i64 (2), .int .i64 (1)], [.int .i64 (1), .int .i64 (2), .int .i64 (4), .int .i64 (1), .int .i64 (1), .int .i64 (2)], [.int .i64 (1), .int .i64 (2), .int .i64 (4), .int .i64 (2), .int .i64 (1), .int .i64 (1)], [.int .i64 (1), .int .i64 (3), .int .i64 (1), .int .i64 (1), .int .i64 (2), .int .i64 (3)], [.int .i64 (1), .int .i64 (3), .int .i64 (1), .int .i64 (1), .int .i64 (4), .int .i64 (1)], [.int .i64 (1), .int .i64 (3), .int .i64 (1), .int .i64 (2), .int .i64 (2), .int .i64 (2)], [.int .i64 (1), .int .i64 (3), .int .i64 (1), .int .i64 (3), .int .i64 (2), .int .i64 (1)], [.int .i64 (1), .int .i64 (3), .int .i64 (2), .int .i64 (1), .int .i64 (1), .int .i64 (3)], [.int .i64 (1), .int .i64 (3), .int .i64 (2), .int .i64 (1), .int .i64 (3), .int .i64 (1)], [.int .i64 (1), .int .i64 (3), .int .i64 (2), .int .i64 (2), .int .i64 (1), .int .i64 (2)], [.int .i64 (1), .int .i64 (3), .int .i64 (2), .int .i64 (3), .int .i64 (1), .int .i64 (1)], [.int .i64 (1), .int .i64 (3), .int .i64 (3), .int .i64 (1), .int .i64 (2), .int .i64 (1)], [.int .i64 (1), .int .i64 (3), .int .i64 (4), .int .i64 (1), .int .i64 (1), .int .i64 (1)], [.int .i64 (1), .int .i64 (4), .int .i64 (1), .int .i64 (1), .int .i64 (2), .int .i64 (2)], [.int .i64 (1), .int .i64 (4), .int .i64 (1), .int .i64 (2), .int .i64 (2), .int .i64 (1)], [.int .i64 (1), .int .i64 (4), .int .i64 (2), .int .i64 (1), .int .i64 (1), .int .i64 (2)], [.int .i64 (1), .int .i64 (4), .int .i64 (2), .int .i64 (2), .int .i64 (1), .int .i64 (1)]] 130),
    (35, .row 6 [[.int .i64 (1), .int .i64 (2), .int .i64 (2), .int .i64 (4), .int .i64 (1), .int .i64 (1)]] 130),
    (15, .row 6 [[.int .i64 (1), .int .i64 (1), .int .i64 (2), .int .i64 (4), .int .i64 (1), .int .i64 (2)]] 130),
    (44, .row 6 [[.int .i64 (1), .int .i64 (3), .int .i64 (2), .int .i64 (1), .int .i64 (1), .int .i64 (3)]] 130),
    (6, .row 6 [[.int .i64 (1), .int .i64 (1), .int .i64 (1), .int .i64 (2), .int .i64 (4), .int .i64 (2)]] 130),
    (26, .row 6 [[.int .i64 (1), .int .i64 (2), .int .i64 (1), .int .i64 (2), .int .i64 (2), .int .i64 (3)]] 130),
    (45, .row 6 [[.int .i64 (1), .int .i64 (3), .int .i64 (2), .int .i64 (1), .int .i64 (3), .int .i64 (1)]] 130)],
   54⟩
theorem linear_patterns_1_f0_ok : FactOk Try.prog linear_patterns_1_f0 := FactOk.run ctx_ok 3000 20 (by kernel_rfl)
def linear_patterns_1_f1 : Fact := ⟨108, [.int .i64 (1), .int .i64 (9), .box 1 0, .box 0 0, .box 2 0],
   [(36, .row 6 [[.int .i64 (1), .int .i64 (2), .int .i64 (3), .int .i64 (1), .int .i64 (2), .int .i64 (2)]] 130),
    (46, .row 6 [[.int .i64 (1), .int .i64 (3), .int .i64 (2), .int .i64 (2), .int .i64 (1), .int .i64 (2)]] 130),
    (11, .row 6 [[.int .i64 (1), .int .i64 (1), .int .i64 (2), .int .i64 (2), .int .i64 (1), .int .i64 (4)]] 130),
    (27, .row 6 [[.int .i64 (1), .int .i64 (2), .int .i64 (1), .int .i64 (2), .int .i64 (4), .int .i64 (1)]] 130),
    (20, .row 6 [[.int .i64 (1), .int .i64 (1), .int .i64 (4), .int .i64 (1), .int .i64 (1), .int .i64 (3)]] 130),
    (47, .row 6 [[.int .i64 (1), .int .i64 (3), .int .i64 (2), .int .i64 (3), .int .i64 (1), .int .i64 (1)]] 130),
    (9, .row 6 [[.int .i64 (1), .int .i64 (1), .int .i64 (1), .int .i64 (4), .int .i64 (2), .int .i64 (2)]] 130),
    (37, .row 6 [[.int .i64 (1), .int .i64 (2), .int .i64 (3), .int .i64 (2), .int .i64 (2), .int .i64 (1)]] 130),
    (1, .box [.int .i64 (2), .int .i64 (4), .int .i64 (4), .int .i64 (1), .int .i64 (1), .int .i64 (1)] 130),
    (28, .row 6 [[.int .i64 (1), .int .i64 (2), .int .i64 (1), .int .i64 (3), .int .i64 (2), .int .i64 (2)]] 130),
    (21, .row 6 [[.int .i64 (1), .int .i64 (1), .int .i64 (4), .int .i64 (1), .int .i64 (3), .int .i64 (1)]] 130),
    (48, .row 6 [[.int .i64 (1), .int .i64 (3), .int .i64 (3), .int .i64 (1), .int .i64 (2), .int .i64 (1)]] 130),
    (16, .row 6 [[.int .i64 (1), .int .i64 (1), .int .i64 (3), .int .i64 (1), .int .i64 (2), .int .i64 (3)]] 130),
    (12, .row 6 [[.int .i64 (1), .int .i64 (1), .int .i64 (2), .int .i64 (2), .int .i64 (3), .int .i64 (2)]] 130),
    (22, .row 6 [[.int .i64 (1), .int .i64 (1), .int .i64 (4), .int .i64 (2), .int .i64 (1), .int .i64 (2)]] 130),
    (38, .row 6 [[.int .i64 (1), .int .i64 (2), .int .i64 (4), .int .i64 (1), .int .i64 (1), .int .i64 (2)]] 130),
    (29, .row 6 [[.int .i64 (1), .int .i64 (2), .int .i64 (1), .int .i64 (4), .int .i64 (2), .int .i64 (1)]] 130),
    (2, .box [.fn 108 [.box 1 0, .box 0 0, .box 2 0]] 167),
    (49, .row 6 [[.int .i64 (1), .int .i64 (3), .int .i64 (4), .int .i64 (1), .int .i64 (1), .int .i64 (1)]] 130),
    (17, .row 6 [[.int .i64 (1), .int .i64 (1), .int .i64 (3), .int .i64 (1), .int .i64 (4), .int .i64 (1)]] 130),
    (39, .row 6 [[.int .i64 (1), .int .i64 (2), .int .i64 (4), .int .i64 (2), .int .i64 (1), .int .i64 (1)]] 130),
    (7, .row 6 [[.int .i64 (1), .int .i64 (1), .int .i64 (1), .int .i64 (3), .int .i64 (2), .int .i64 (3)]] 130),
    (30, .row 6 [[.int .i64 (1), .int .i64 (2), .int .i64 (2), .int .i64 (1), .int .i64 (1), .int .i64 (4)]] 130),
    (23, .row 6 [[.int .i64 (1), .int .i64 (1), .int .i64 (4), .int .i64 (3), .int .i64 (1), .int .i64 (1)]] 130),
    (5, .row 6 [[.int .i64 (1), .int .i64 (1), .int .i64 (1), .int .i64 (2), .int .i64 (2), .int .i64 (4)]] 130),
    (50, .row 6 [[.int .i64 (1), .int .i64 (4), .int .i64 (1), .int .i64 (1), .int .i64 (2), .int .i64 (2)]] 130),
    (31, .row 6 [[.int .i64 (1), .int .i64 (2), .int .i64 (2), .int .i64 (1), .int .i64 (3), .int .i64 (2)]] 130),
    (13, .row 6 [[.int .i64 (1), .int .i64 (1), .int .i64 (2), .int .i64 (3), .int .i64 (1), .int .i64 (3)]] 130),
    (40, .row 6 [[.int .i64 (1), .int .i64 (3), .int .i64 (1), .int .i64 (1), .int .i64 (2), .int .i64 (3)]] 130),
    (18, .row 6 [[.int .i64 (1), .int .i64 (1), .int .i64 (3), .int .i64 (2), .int .i64 (2), .int .i64 (2)]] 130),
    (51, .row 6 [[.int .i64 (1), .int .i64 (4), .int .i64 (1), .int .i64 (2), .int .i64 (2), .int .i64 (1)]] 130),
    (3, .row 6 [[.int .i64 (1), .int .i64 (1), .int .i64 (1), .int .i64 (1), .int .i64 (4), .int .i64 (3)]] 130),
    (41, .row 6 [[.int .i64 (1), .int .i64 (3), .int .i64 (1), .int .i64 (1), .int .i64 (4), .int .i64 (1)]] 130),
    (32, .row 6 [[.int .i64 (1), .int .i64 (2), .int .i64 (2), .int .i64 (2), .int .i64 (1), .int .i64 (3)]] 130),
    (8, .row 6 [[.int .i64 (1), .int .i64 (1), .int .i64 (1), .int .i64 (3), .int .i64 (4), .int .i64 (1)]] 130),
    (14, .row 6 [[.int .i64 (1), .int .i64 (1), .int .i64 (2), .int .i64 (3), .int .i64 (3), .int .i64 (1)]] 130),
    (42, .row 6 [[.int .i64 (1), .int .i64 (3), .int .i64 (1), .int .i64 (2), .int .i64 (2), .int .i64 (2)]] 130),
    (52, .row 6 [[.int .i64 (1), .int .i64 (4), .int .i64 (2), .int .i64 (1), .int .i64 (1), .int .i64 (2)]] 130),
    (33, .row 6 [[.int .i64 (1), .int .i64 (2), .int .i64 (2), .int .i64 (2), .int .i64 (3), .int .i64 (1)]] 130),
    (24, .row 6 [[.int .i64 (1), .int .i64 (2), .int .i64 (1), .int .i64 (1), .int .i64 (2), .int .i64 (4)]] 130),
    (10, .row 6 [[.int .i64 (1), .int .i64 (1), .int .i64 (2), .int .i64 (1), .int .i64 (3), .int .i64 (3)]] 130),
    (53, .row 6 [[.int .i64 (1), .int .i64 (4), .int .i64 (2), .int .i64 (2), .int .i64 (1), .int .i64 (1)]] 130),
    (34, .row 6 [[.int .i64 (1), .int .i64 (2), .int .i64 (2), .int .i64 (3), .int .i64 (1), .int .i64 (2)]] 130),
    (43, .row 6 [[.int .i64 (1), .int .i64 (3), .int .i64 (1), .int .i64 (3), .int .i64 (2), .int .i64 (1)]] 130),
    (19, .row 6 [[.int .i64 (1), .int .i64 (1), .int .i64 (3), .int .i64 (3), .int .i64 (2), .int .i64 (1)]] 130),
    (25, .row 6 [[.int .i64 (1), .int .i64 (2), .int .i64 (1), .int .i64 (1), .int .i64 (4), .int .i64 (2)]] 130),
    (4, .row 6 [[.int .i64 (1), .int .i64 (1), .int .i64 (1), .int .i64 (1), .int .i64 (4), .int .i64 (3)], [.int .i64 (1), .int .i64 (1), .int .i64 (1), .int .i64 (2), .int .i64 (2), .int .i64 (4)], [.int .i64 (1), .int .i64 (1), .int .i64 (1), .int .i64 (2), .int .i64 (4), .int .i64 (2)], [.int .i64 (1), .int .i64 (1), .int .i64 (1), .int .i64 (3), .int .i64 (2), .int .i64 (3)], [.int .i64 (1), .int .i64 (1), .int .i64 (1), .int .i64 (3), .int .i64 (4), .int .i64 (1)], [.int .i64 (1), .int .i64 (1), .int .i64 (1), .int .i64 (4), .int .i64 (2), .int .i64 (2)], [.int .i64 (1), .int .i64 (1), .int .i64 (2), .int .i64 (1), .int .i64 (3), .int .i64 (3)], [.int .i64 (1), .int .i64 (1), .int .i64 (2), .int .i64 (2), .int .i64 (1), .int .i64 (4)], [.int .i64 (1), .int .i64 (1), .int .i64 (2), .int .i64 (2), .int .i64 (3), .int .i64 (2)], [.int .i64 (1), .int .i64 (1), .int .i64 (2), .int .i64 (3), .int .i64 (1), .int .i64 (3)], [.int .i64 (1), .int .i64 (1), .int .i64 (2), .int .i64 (3), .int .i64 (3), .int .i64 (1)], [.int .i64 (1), .int .i64 (1), .int .i64 (2), .int .i64 (4), .int .i64 (1), .int .i64 (2)], [.int .i64 (1), .int .i64 (1), .int .i64 (3), .int .i64 (1), .int .i64 (2), .int .i64 (3)], [.int .i64 (1), .int .i64 (1), .int .i64 (3), .int .i64 (1), .int .i64 (4), .int .i64 (1)], [.int .i64 (1), .int .i64 (1), .int .i64 (3), .int .i64 (2), .int .i64 (2), .int .i64 (2)], [.int .i64 (1), .int .i64 (1), .int .i64 (3), .int .i64 (3), .int .i64 (2), .int .i64 (1)], [.int .i64 (1), .int .i64 (1), .int .i64 (4), .int .i64 (1), .int .i64 (1), .int .i64 (3)], [.int .i64 (1), .int .i64 (1), .int .i64 (4), .int .i64 (1), .int .i64 (3), .int .i64 (1)], [.int .i64 (1), .int .i64 (1), .int .i64 (4), .int .i64 (2), .int .i64 (1), .int .i64 (2)], [.int .i64 (1), .int .i64 (1), .int .i64 (4), .int .i64 (3), .int .i64 (1), .int .i64 (1)], [.int .i64 (1), .int .i64 (2), .int .i64 (1), .int .i64 (1), .int .i64 (2), .int .i64 (4)], [.int .i64 (1), .int .i64 (2), .int .i64 (1), .int .i64 (1), .int .i64 (4), .int .i64 (2)], [.int .i64 (1), .int .i64 (2), .int .i64 (1), .int .i64 (2), .int .i64 (2), .int .i64 (3)], [.int .i64 (1), .int .i64 (2), .int .i64 (1), .int .i64 (2), .int .i64 (4), .int .i64 (1)], [.int .i64 (1), .int .i64 (2), .int .i64 (1), .int .i64 (3), .int .i64 (2), .int .i64 (2)], [.int .i64 (1), .int .i64 (2), .int .i64 (1), .int .i64 (4), .int .i64 (2), .int .i64 (1)], [.int .i64 (1), .int .i64 (2), .int .i64 (2), .int .i64 (1), .int .i64 (1), .int .i64 (4)], [.int .i64 (1), .int .i64 (2), .int .i64 (2), .int .i64 (1), .int .i64 (3), .int .i64 (2)], [.int .i64 (1), .int .i64 (2), .int .i64 (2), .int .i64 (2), .int .i64 (1), .int .i64 (3)], [.int .i64 (1), .int .i64 (2), .int .i64 (2), .int .i64 (2), .int .i64 (3), .int .i64 (1)], [.int .i64 (1), .int .i64 (2), .int .i64 (2), .int .i64 (3), .int .i64 (1), .int .i64 (2)], [.int .i64 (1), .int .i64 (2), .int .i64 (2), .int .i64 (4), .int .i64 (1), .int .i64 (1)], [.int .i64 (1), .int .i64 (2), .int .i64 (3), .int .i64 (1), .int .i64 (2), .int .i64 (2)], [.int .i64 (1), .int .i64 (2), .int .i64 (3), .int .i64 (2), .int .i64 (2), .int .i64 (1)], [.int .i64 (1), .int .i64 (2), .int .i64 (4), .int .i64 (1), .int .i64 (1), .int .i64 (2)], [.int .i64 (1), .int .i64 (2), .int .i64 (4), .int .i64 (2), .int .i64 (1), .int .i64 (1)], [.int .i64 (1), .int .i64 (3), .int .i64 (1), .int .i64 (1), .int .i64 (2), .int .i64 (3)], [.int .i64 (1), .int .i64 (3), .int .i64 (1), .int .i64 (1), .int .i64 (4), .int .i64 (1)], [.int .i64 (1), .int .i64 (3), .int .i64 (1), .int .i64 (2), .int .i64 (2), .int .i64 (2)], [.int .i64 (1), .int .i64 (3), .int .i64 (1), .int .i64 (3), .int .i64 (2), .int .i64 (1)], [.int .i64 (1), .int .i64 (3), .int .i64 (2), .int .i64 (1), .int .i64 (1), .int .i64 (3)], [.int .i64 (1), .int .i64 (3), .int .i64 (2), .int .i64 (1), .int .i64 (3), .int .i64 (1)], [.int .i64 (1), .int .i64 (3), .int .i64 (2), .int .i64 (2), .int .i64 (1), .int .i64 (2)], [.int .i64 (1), .int .i64 (3), .int .i64 (2), .int .i64 (3), .int .i64 (1), .int .i64 (1)], [.int .i64 (1), .int .i64 (3), .int .i64 (3), .int .i64 (1), .int .i64 (2), .int .i64 (1)], [.int .i64 (1), .int .i64 (3), .int .i64 (4), .int .i64 (1), .int .i64 (1), .int .i64 (1)], [.int .i64 (1), .int .i64 (4), .int .i64 (1), .int .i64 (1), .int .i64 (2), .int .i64 (2)], [.int .i64 (1), .int .i64 (4), .int .i64 (1), .int .i64 (2), .int .i64 (2), .int .i64 (1)], [.int .i64 (1), .int .i64 (4), .int .i64 (2), .int .i64 (1), .int .i64 (1), .int .i64 (2)], [.int .i64 (1), .int .i64 (4), .int .i64 (2), .int .i64 (2), .int .i64 (1), .int .i64 (1)]] 130),
    (35, .row 6 [[.int .i64 (1), .int .i64 (2), .int .i64 (2), .int .i64 (4), .int .i64 (1), .int .i64 (1)]] 130),
    (15, .row 6 [[.int .i64 (1), .int .i64 (1), .int .i64 (2), .int .i64 (4), .int .i64 (1), .int .i64 (2)]] 130),
    (44, .row 6 [[.int .i64 (1), .int .i64 (3), .int .i64 (2), .int .i64 (1), .int .i64 (1), .int .i64 (3)]] 130),
    (6, .row 6 [[.int .i64 (1), .int .i64 (1), .int .i64 (1), .int .i64 (2), .int .i64 (4), .int .i64 (2)]] 130),
    (26, .row 6 [[.int .i64 (1), .int .i64 (2), .int .i64 (1), .int .i64 (2), .int .i64 (2), .int .i64 (3)]] 130),
    (45, .row 6 [[.int .i64 (1), .int .i64 (3), .int .i64 (2), .int .i64 (1), .int .i64 (3), .int .i64 (1)]] 130),
    (0, .box [.osl 4 50] 126)],
   54, .tup [],
   [(27, .row 6 [[.int .i64 (1), .int .i64 (2), .int .i64 (1), .int .i64 (2), .int .i64 (4), .int .i64 (1)]] 130),
    (72, .row 6 [[.int .i64 (2), .int .i64 (2), .int .i64 (1), .int .i64 (2), .int .i64 (3), .int .i64 (1)]] 130),
    (20, .row 6 [[.int .i64 (1), .int .i64 (1), .int .i64 (4), .int .i64 (1), .int .i64 (1), .int .i64 (3)]] 130),
    (55, .row 6 [[.int .i64 (2), .int .i64 (1), .int .i64 (1), .int .i64 (2), .int .i64 (1), .int .i64 (4)]] 130),
    (73, .row 6 [[.int .i64 (2), .int .i64 (2), .int .i64 (1), .int .i64 (3), .int .i64 (1), .int .i64 (2)]] 130),
    (47, .row 6 [[.int .i64 (1), .int .i64 (3), .int .i64 (2), .int .i64 (3), .int .i64 (1), .int .i64 (1)]] 130),
    (9, .row 6 [[.int .i64 (1), .int .i64 (1), .int .i64 (1), .int .i64 (4), .int .i64 (2), .int .i64 (2)]] 130),
    (56, .row 6 [[.int .i64 (2), .int .i64 (1), .int .i64 (1), .int .i64 (2), .int .i64 (3), .int .i64 (2)]] 130),
    (74, .row 6 [[.int .i64 (2), .int .i64 (2), .int .i64 (1), .int .i64 (4), .int .i64 (1), .int .i64 (1)]] 130),
    (37, .row 6 [[.int .i64 (1), .int .i64 (2), .int .i64 (3), .int .i64 (2), .int .i64 (2), .int .i64 (1)]] 130),
    (1, .box [.int .i64 (2), .int .i64 (4), .int .i64 (4), .int .i64 (1), .int .i64 (1), .int .i64 (1)] 130),
    (28, .row 6 [[.int .i64 (1), .int .i64 (2), .int .i64 (1), .int .i64 (3), .int .i64 (2), .int .i64 (2)]] 130),
    (57, .row 6 [[.int .i64 (2), .int .i64 (1), .int .i64 (1), .int .i64 (3), .int .i64 (1), .int .i64 (3)]] 130),
    (75, .row 6 [[.int .i64 (2), .int .i64 (2), .int .i64 (2), .int .i64 (1), .int .i64 (2), .int .i64 (2)]] 130),
    (21, .row 6 [[.int .i64 (1), .int .i64 (1), .int .i64 (4), .int .i64 (1), .int .i64 (3), .int .i64 (1)]] 130),
    (48, .row 6 [[.int .i64 (1), .int .i64 (3), .int .i64 (3), .int .i64 (1), .int .i64 (2), .int .i64 (1)]] 130),
    (58, .row 6 [[.int .i64 (2), .int .i64 (1), .int .i64 (1), .int .i64 (3), .int .i64 (3), .int .i64 (1)]] 130),
    (16, .row 6 [[.int .i64 (1), .int .i64 (1), .int .i64 (3), .int .i64 (1), .int .i64 (2), .int .i64 (3)]] 130),
    (76, .row 6 [[.int .i64 (2), .int .i64 (2), .int .i64 (2), .int .i64 (2), .int .i64 (2), .int .i64 (1)]] 130),
    (12, .row 6 [[.int .i64 (1), .int .i64 (1), .int .i64 (2), .int .i64 (2), .int .i64 (3), .int .i64 (2)]] 130),
    (59, .row 6 [[.int .i64 (2), .int .i64 (1), .int .i64 (1), .int .i64 (4), .int .i64 (1), .int .i64 (2)]] 130),
    (22, .row 6 [[.int .i64 (1), .int .i64 (1), .int .i64 (4), .int .i64 (2), .int .i64 (1), .int .i64 (2)]] 130),
    (38, .row 6 [[.int .i64 (1), .int .i64 (2), .int .i64 (4), .int .i64 (1), .int .i64 (1), .int .i64 (2)]] 130),
    (29, .row 6 [[.int .i64 (1), .int .i64 (2), .int .i64 (1), .int .i64 (4), .int .i64 (2), .int .i64 (1)]] 130),
    (2, .box [.fn 108 [.box 1 0, .box 0 0, .box 2 0]] 167),
    (77, .row 6 [[.int .i64 (2), .int .i64 (2), .int .i64 (3), .int .i64 (1), .int .i64 (1), .int .i64 (2)]] 130),
    (49, .row 6 [[.int .i64 (1), .int .i64 (3), .int .i64 (4), .int .i64 (1), .int .i64 (1), .int .i64 (1)]] 130),
    (60, .row 6 [[.int .i64 (2), .int .i64 (1), .int .i64 (2), .int .i64 (1), .int .i64 (2), .int .i64 (3)]] 130),
    (17, .row 6 [[.int .i64 (1), .int .i64 (1), .int .i64 (3), .int .i64 (1), .int .i64 (4), .int .i64 (1)]] 130),
    (78, .row 6 [[.int .i64 (2), .int .i64 (2), .int .i64 (3), .int .i64 (2), .int .i64 (1), .int .i64 (1)]] 130),
    (39, .row 6 [[.int .i64 (1), .int .i64 (2), .int .i64 (4), .int .i64 (2), .int .i64 (1), .int .i64 (1)]] 130),
    (61, .row 6 [[.int .i64 (2), .int .i64 (1), .int .i64 (2), .int .i64 (1), .int .i64 (4), .int .i64 (1)]] 130),
    (7, .row 6 [[.int .i64 (1), .int .i64 (1), .int .i64 (1), .int .i64 (3), .int .i64 (2), .int .i64 (3)]] 130),
    (30, .row 6 [[.int .i64 (1), .int .i64 (2), .int .i64 (2), .int .i64 (1), .int .i64 (1), .int .i64 (4)]] 130),
    (23, .row 6 [[.int .i64 (1), .int .i64 (1), .int .i64 (4), .int .i64 (3), .int .i64 (1), .int .i64 (1)]] 130),
    (62, .row 6 [[.int .i64 (2), .int .i64 (1), .int .i64 (2), .int .i64 (2), .int .i64 (2), .int .i64 (2)]] 130),
    (5, .row 6 [[.int .i64 (1), .int .i64 (1), .int .i64 (1), .int .i64 (2), .int .i64 (2), .int .i64 (4)]] 130),
    (50, .row 6 [[.int .i64 (1), .int .i64 (4), .int .i64 (1), .int .i64 (1), .int .i64 (2), .int .i64 (2)]] 130),
    (31, .row 6 [[.int .i64 (1), .int .i64 (2), .int .i64 (2), .int .i64 (1), .int .i64 (3), .int .i64 (2)]] 130),
    (79, .row 6 [[.int .i64 (2), .int .i64 (3), .int .i64 (1), .int .i64 (1), .int .i64 (1), .int .i64 (3)]] 130),
    (13, .row 6 [[.int .i64 (1), .int .i64 (1), .int .i64 (2), .int .i64 (3), .int .i64 (1), .int .i64 (3)]] 130),
    (63, .row 6 [[.int .i64 (2), .int .i64 (1), .int .i64 (2), .int .i64 (3), .int .i64 (2), .int .i64 (1)]] 130),
    (80, .row 6 [[.int .i64 (2), .int .i64 (3), .int .i64 (1), .int .i64 (1), .int .i64 (3), .int .i64 (1)]] 130),
    (40, .row 6 [[.int .i64 (1), .int .i64 (3), .int .i64 (1), .int .i64 (1), .int .i64 (2), .int .i64 (3)]] 130),
    (18, .row 6 [[.int .i64 (1), .int .i64 (1), .int .i64 (3), .int .i64 (2), .int .i64 (2), .int .i64 (2)]] 130),
    (81, .row 6 [[.int .i64 (2), .int .i64 (3), .int .i64 (1), .int .i64 (2), .int .i64 (1), .int .i64 (2)]] 130),
    (51, .row 6 [[.int .i64 (1), .int .i64 (4), .int .i64 (1), .int .i64 (2), .int .i64 (2), .int .i64 (1)]] 130),
    (3, .row 6 [[.int .i64 (1), .int .i64 (1), .int .i64 (1), .int .i64 (1), .int .i64 (4), .int .i64 (3)]] 130),
    (41, .row 6 [[.int .i64 (1), .int .i64 (3), .int .i64 (1), .int .i64 (1), .int .i64 (4), .int .i64 (1)]] 130),
    (82, .row 6 [[.int .i64 (2), .int .i64 (3), .int .i64 (1), .int .i64 (3), .int .i64 (1), .int .i64 (1)]] 130),
    (64, .row 6 [[.int .i64 (2), .int .i64 (1), .int .i64 (3), .int .i64 (1), .int .i64 (1), .int .i64 (3)]] 130),
    (32, .row 6 [[.int .i64 (1), .int .i64 (2), .int .i64 (2), .int .i64 (2), .int .i64 (1), .int .i64 (3)]] 130),
    (8, .row 6 [[.int .i64 (1), .int .i64 (1), .int .i64 (1), .int .i64 (3), .int .i64 (4), .int .i64 (1)]] 130),
    (65, .row 6 [[.int .i64 (2), .int .i64 (1), .int .i64 (3), .int .i64 (1), .int .i64 (3), .int .i64 (1)]] 130),
    (14, .row 6 [[.int .i64 (1), .int .i64 (1), .int .i64 (2), .int .i64 (3), .int .i64 (3), .int .i64 (1)]] 130),
    (83, .row 6 [[.int .i64 (2), .int .i64 (3), .int .i64 (2), .int .i64 (1), .int .i64 (2), .int .i64 (1)]] 130),
    (42, .row 6 [[.int .i64 (1), .int .i64 (3), .int .i64 (1), .int .i64 (2), .int .i64 (2), .int .i64 (2)]] 130),
    (66, .row 6 [[.int .i64 (2), .int .i64 (1), .int .i64 (3), .int .i64 (2), .int .i64 (1), .int .i64 (2)]] 130),
    (52, .row 6 [[.int .i64 (1), .int .i64 (4), .int .i64 (2), .int .i64 (1), .int .i64 (1), .int .i64 (2)]] 130),
    (33, .row 6 [[.int .i64 (1), .int .i64 (2), .int .i64 (2), .int .i64 (2), .int .i64 (3), .int .i64 (1)]] 130),
    (24, .row 6 [[.int .i64 (1), .int .i64 (2), .int .i64 (1), .int .i64 (1), .int .i64 (2), .int .i64 (4)]] 130),
    (67, .row 6 [[.int .i64 (2), .int .i64 (1), .int .i64 (3), .int .i64 (3), .int .i64 (1), .int .i64 (1)]] 130),
    (84, .row 6 [[.int .i64 (2), .int .i64 (3), .int .i64 (3), .int .i64 (1), .int .i64 (1), .int .i64 (1)]] 130),
    (10, .row 6 [[.int .i64 (1), .int .i64 (1), .int .i64 (2), .int .i64 (1), .int .i64 (3), .int .i64 (3)]] 130),
    (53, .row 6 [[.int .i64 (1), .int .i64 (4), .int .i64 (2), .int .i64 (2), .int .i64 (1), .int .i64 (1)]] 130),
    (34, .row 6 [[.int .i64 (1), .int .i64 (2), .int .i64 (2), .int .i64 (3), .int .i64 (1), .int .i64 (2)]] 130),
    (43, .row 6 [[.int .i64 (1), .int .i64 (3), .int .i64 (1), .int .i64 (3), .int .i64 (2), .int .i64 (1)]] 130),
    (19, .row 6 [[.int .i64 (1), .int .i64 (1), .int .i64 (3), .int .i64 (3), .int .i64 (2), .int .i64 (1)]] 130),
    (68, .row 6 [[.int .i64 (2), .int .i64 (1), .int .i64 (4), .int .i64 (1), .int .i64 (2), .int .i64 (1)]] 130),
    (25, .row 6 [[.int .i64 (1), .int .i64 (2), .int .i64 (1), .int .i64 (1), .int .i64 (4), .int .i64 (2)]] 130),
    (85, .row 6 [[.int .i64 (2), .int .i64 (4), .int .i64 (1), .int .i64 (1), .int .i64 (1), .int .i64 (2)]] 130),
    (4, .row 6 [[.int .i64 (1), .int .i64 (1), .int .i64 (1), .int .i64 (1), .int .i64 (4), .int .i64 (3)], [.int .i64 (1), .int .i64 (1), .int .i64 (1), .int .i64 (2), .int .i64 (2), .int .i64 (4)], [.int .i64 (1), .int .i64 (1), .int .i64 (1), .int .i64 (2), .int .i64 (4), .int .i64 (2)], [.int .i64 (1), .int .i64 (1), .int .i64 (1), .int .i64 (3), .int .i64 (2), .int .i64 (3)], [.int .i64 (1), .int .i64 (1), .int .i64 (1), .int .i64 (3), .int .i64 (4), .int .i64 (1)], [.int .i64 (1), .int .i64 (1), .int .i64 (1), .int .i64 (4), .int .i64 (2), .int .i64 (2)], [.int .i64 (1), .int .i64 (1), .int .i64 (2), .int .i64 (1), .int .i64 (3), .int .i64 (3)], [.int .i64 (1), .int .i64 (1), .int .i64 (2), .int .i64 (2), .int .i64 (1), .int .i64 (4)], [.int .i64 (1), .int .i64 (1), .int .i64 (2), .int .i64 (2), .int .i64 (3), .int .i64 (2)], [.int .i64 (1), .int .i64 (1), .int .i64 (2), .int .i64 (3), .int .i64 (1), .int .i64 (3)], [.int .i64 (1), .int .i64 (1), .int .i64 (2), .int .i64 (3), .int .i64 (3), .int .i64 (1)], [.int .i64 (1), .int .i64 (1), .int .i64 (2), .int .i64 (4), .int .i64 (1), .int .i64 (2)], [.int .i64 (1), .int .i64 (1), .int .i64 (3), .int .i64 (1), .int .i64 (2), .int .i64 (3)], [.int .i64 (1), .int .i64 (1), .int .i64 (3), .int .i64 (1), .int .i64 (4), .int .i64 (1)], [.int .i64 (1), .int .i64 (1), .int .i64 (3), .int .i64 (2), .int .i64 (2), .int .i64 (2)], [.int .i64 (1), .int .i64 (1), .int .i64 (3), .int .i64 (3), .int .i64 (2), .int .i64 (1)], [.int .i64 (1), .int .i64 (1), .int .i64 (4), .int .i64 (1), .int .i64 (1), .int .i64 (3)], [.int .i64 (1), .int .i64 (1), .int .i64 (4), .int .i64 (1), .int .i64 (3), .int .i64 (1)], [.int .i64 (1), .int .i64 (1), .int .i64 (4), .int .i64 (2), .int .i64 (1), .int .i64 (2)], [.int .i64 (1), .int .i64 (1), .int .i64 (4), .int .i64 (3), .int .i64 (1), .int .i64 (1)], [.int .i64 (1), .int .i64 (2), .int .i64 (1), .int .i64 (1), .int .i64 (2), .int .i64 (4)], [.int .i64 (1), .int .i64 (2), .int .i64 (1), .int .i64 (1), .int .i64 (4), .int .i64 (2)], [.int .i64 (1), .int .i64 (2), .int .i64 (1), .int .i64 (2), .int .i64 (2), .int .i64 (3)], [.int .i64 (1), .int .i64 (2), .int .i64 (1), .int .i64 (2), .int .i64 (4), .int .i64 (1)], [.int .i64 (1), .int .i64 (2), .int .i64 (1), .int .i64 (3), .int .i64 (2), .int .i64 (2)], [.int .i64 (1), .int .i64 (2), .int .i64 (1), .int .i64 (4), .int .i64 (2), .int .i64 (1)], [.int .i64 (1), .int .i64 (2), .int .i64 (2), .int .i64 (1), .int .i64 (1), .int .i64 (4)], [.int .i64 (1), .int .i64 (2), .int .i64 (2), .int .i64 (1), .int .i64 (3), .int .i64 (2)], [.int .i64 (1), .int .i64 (2), .int .i64 (2), .int .i64 (2), .int .i64 (1), .int .i64 (3)], [.int .i64 (1), .int .i64 (2), .int .i64 (2), .int .i64 (2), .int .i64 (3), .int .i64 (1)], [.int .i64 (1), .int .i64 (2), .int .i64 (2), .int .i64 (3), .int .i64 (1), .int .i64 (2)], [.int .i64 (1), .int .i64 (2), .int .i64 (2), .int .i64 (4), .int .i64 (1), .int .i64 (1)], [.int .i64 (1), .int .i64 (2), .int .i64 (3), .int .i64 (1), .int .i64 (2), .int .i64 (2)], [.int .i64 (1), .int .i64 (2), .int .i64 (3), .int .i64 (2), .int .i64 (2), .int .i64 (1)], [.int .i64 (1), .int .i64 (2), .int .i64 (4), .int .i64 (1), .int .i64 (1), .int .i64 (2)], [.int .i64 (1), .int .i64 (2), .int .i64 (4), .int .i64 (2), .int .i64 (1), .int .i64 (1)], [.int .i64 (1), .int .i64 (3), .int .i64 (1), .int .i64 (1), .int .i64 (2), .int .i64 (3)], [.int .i64 (1), .int .i64 (3), .int .i64 (1), .int .i64 (1), .int .i64 (4), .int .i64 (1)], [.int .i64 (1), .int .i64 (3), .int .i64 (1), .int .i64 (2), .int .i64 (2), .int .i64 (2)], [.int .i64 (1), .int .i64 (3), .int .i64 (1), .int .i64 (3), .int .i64 (2), .int .i64 (1)], [.int .i64 (1), .int .i64 (3), .int .i64 (2), .int .i64 (1), .int .i64 (1), .int .i64 (3)], [.int .i64 (1), .int .i64 (3), .int .i64 (2), .int .i64 (1), .int .i64 (3), .int .i64 (1)], [.int .i64 (1), .int .i64 (3), .int .i64 (2), .int .i64 (2), .int .i64 (1), .int .i64 (2)], [.int .i64 (1), .int .i64 (3), .int .i64 (2), .int .i64 (3), .int .i64 (1), .int .i64 (1)], [.int .i64 (1), .int .i64 (3), .int .i64 (3), .int .i64 (1), .int .i64 (2), .int .i64 (1)], [.int .i64 (1), .int .i64 (3), .int .i64 (4), .int .i64 (1), .int .i64 (1), .int .i64 (1)], [.int .i64 (1), .int .i64 (4), .int .i64 (1), .int .i64 (1), .int .i64 (2), .int .i64 (2)], [.int .i64 (1), .int .i64 (4), .int .i64 (1), .int .i64 (2), .int .i64 (2), .int .i64 (1)], [.int .i64 (1), .int .i64 (4), .int .i64 (2), .int .i64 (1), .int .i64 (1), .int .i64 (2)], [.int .i64 (1), .int .i64 (4), .int .i64 (2), .int .i64 (2), .int .i64 (1), .int .i64 (1)], [.int .i64 (2), .int .i64 (1), .int .i64 (1), .int .i64 (1), .int .i64 (3), .int .i64 (3)], [.int .i64 (2), .int .i64 (1), .int .i64 (1), .int .i64 (2), .int .i64 (1), .int .i64 (4)], [.int .i64 (2), .int .i64 (1), .int .i64 (1), .int .i64 (2), .int .i64 (3), .int .i64 (2)], [.int .i64 (2), .int .i64 (1), .int .i64 (1), .int .i64 (3), .int .i64 (1), .int .i64 (3)], [.int .i64 (2), .int .i64 (1), .int .i64 (1), .int .i64 (3), .int .i64 (3), .int .i64 (1)], [.int .i64 (2), .int .i64 (1), .int .i64 (1), .int .i64 (4), .int .i64 (1), .int .i64 (2)], [.int .i64 (2), .int .i64 (1), .int .i64 (2), .int .i64 (1), .int .i64 (2), .int .i64 (3)], [.int .i64 (2), .int .i64 (1), .int .i64 (2), .int .i64 (1), .int .i64 (4), .int .i64 (1)], [.int .i64 (2), .int .i64 (1), .int .i64 (2), .int .i64 (2), .int .i64 (2), .int .i64 (2)], [.int .i64 (2), .int .i64 (1), .int .i64 (2), .int .i64 (3), .int .i64 (2), .int .i64 (1)], [.int .i64 (2), .int .i64 (1), .int .i64 (3), .int .i64 (1), .int .i64 (1), .int .i64 (3)], [.int .i64 (2), .int .i64 (1), .int .i64 (3), .int .i64 (1), .int .i64 (3), .int .i64 (1)], [.int .i64 (2), .int .i64 (1), .int .i64 (3), .int .i64 (2), .int .i64 (1), .int .i64 (2)], [.int .i64 (2), .int .i64 (1), .int .i64 (3), .int .i64 (3), .int .i64 (1), .int .i64 (1)], [.int .i64 (2), .int .i64 (1), .int .i64 (4), .int .i64 (1), .int .i64 (2), .int .i64 (1)], [.int .i64 (2), .int .i64 (2), .int .i64 (1), .int .i64 (1), .int .i64 (1), .int .i64 (4)], [.int .i64 (2), .int .i64 (2), .int .i64 (1), .int .i64 (1), .int .i64 (3), .int .i64 (2)], [.int .i64 (2), .int .i64 (2), .int .i64 (1), .int .i64 (2), .int .i64 (1), .int .i64 (3)], [.int .i64 (2), .int .i64 (2), .int .i64 (1), .int .i64 (2), .int .i64 (3), .int .i64 (1)], [.int .i64 (2), .int .i64 (2), .int .i64 (1), .int .i64 (3), .int .i64 (1), .int .i64 (2)], [.int .i64 (2), .int .i64 (2), .int .i64 (1), .int .i64 (4), .int .i64 (1), .int .i64 (1)], [.int .i64 (2), .int .i64 (2), .int .i64 (2), .int .i64 (1), .int .i64 (2), .int .i64 (2)], [.int .i64 (2), .int .i64 (2), .int .i64 (2), .int .i64 (2), .int .i64 (2), .int .i64 (1)], [.int .i64 (2), .int .i64 (2), .int .i64 (3), .int .i64 (1), .int .i64 (1), .int .i64 (2)], [.int .i64 (2), .int .i64 (2), .int .i64 (3), .int .i64 (2), .int .i64 (1), .int .i64 (1)], [.int .i64 (2), .int .i64 (3), .int .i64 (1), .int .i64 (1), .int .i64 (1), .int .i64 (3)], [.int .i64 (2), .int .i64 (3), .int .i64 (1), .int .i64 (1), .int .i64 (3), .int .i64 (1)], [.int .i64 (2), .int .i64 (3), .int .i64 (1), .int .i64 (2), .int .i64 (1), .int .i64 (2)], [.int .i64 (2), .int .i64 (3), .int .i64 (1), .int .i64 (3), .int .i64 (1), .int .i64 (1)], [.int .i64 (2), .int .i64 (3), .int .i64 (2), .int .i64 (1), .int .i64 (2), .int .i64 (1)], [.int .i64 (2), .int .i64 (3), .int .i64 (3), .int .i64 (1), .int .i64 (1), .int .i64 (1)], [.int .i64 (2), .int .i64 (4), .int .i64 (1), .int .i64 (1), .int .i64 (1), .int .i64 (2)], [.int .i64 (2), .int .i64 (4), .int .i64 (1), .int .i64 (2), .int .i64 (1), .int .i64 (1)]] 130),
    (35, .row 6 [[.int .i64 (1), .int .i64 (2), .int .i64 (2), .int .i64 (4), .int .i64 (1), .int .i64 (1)]] 130),
    (15, .row 6 [[.int .i64 (1), .int .i64 (1), .int .i64 (2), .int .i64 (4), .int .i64 (1), .int .i64 (2)]] 130),
    (86, .row 6 [[.int .i64 (2), .int .i64 (4), .int .i64 (1), .int .i64 (2), .int .i64 (1), .int .i64 (1)]] 130),
    (44, .row 6 [[.int .i64 (1), .int .i64 (3), .int .i64 (2), .int .i64 (1), .int .i64 (1), .int .i64 (3)]] 130),
    (6, .row 6 [[.int .i64 (1), .int .i64 (1), .int .i64 (1), .int .i64 (2), .int .i64 (4), .int .i64 (2)]] 130),
    (26, .row 6 [[.int .i64 (1), .int .i64 (2), .int .i64 (1), .int .i64 (2), .int .i64 (2), .int .i64 (3)]] 130),
    (69, .row 6 [[.int .i64 (2), .int .i64 (2), .int .i64 (1), .int .i64 (1), .int .i64 (1), .int .i64 (4)]] 130),
    (45, .row 6 [[.int .i64 (1), .int .i64 (3), .int .i64 (2), .int .i64 (1), .int .i64 (3), .int .i64 (1)]] 130),
    (0, .box [.osl 4 83] 126),
    (70, .row 6 [[.int .i64 (2), .int .i64 (2), .int .i64 (1), .int .i64 (1), .int .i64 (3), .int .i64 (2)]] 130),
    (36, .row 6 [[.int .i64 (1), .int .i64 (2), .int .i64 (3), .int .i64 (1), .int .i64 (2), .int .i64 (2)]] 130),
    (46, .row 6 [[.int .i64 (1), .int .i64 (3), .int .i64 (2), .int .i64 (2), .int .i64 (1), .int .i64 (2)]] 130),
    (54, .row 6 [[.int .i64 (2), .int .i64 (1), .int .i64 (1), .int .i64 (1), .int .i64 (3), .int .i64 (3)]] 130),
    (71, .row 6 [[.int .i64 (2), .int .i64 (2), .int .i64 (1), .int .i64 (2), .int .i64 (1), .int .i64 (3)]] 130),
    (11, .row 6 [[.int .i64 (1), .int .i64 (1), .int .i64 (2), .int .i64 (2), .int .i64 (1), .int .i64 (4)]] 130)],
   87⟩
theorem linear_patterns_1_f1_ok : FactOk Try.prog linear_patterns_1_f1 := FactOk.run ctx_ok 3000 20 (by kernel_rfl)
end Go.Proofs.Ytedjnjgnadbkaaa
/- Some calls of a recursive function, by runs. -/
namespace Go.Proofs.Ytedjnjgnadbkaaa
open Go Go.RowKit

def linear_patterns_1_f2 : Fact := ⟨108, [.int .i64 (1), .int .i64 (8), .box 1 0, .box 0 0, .box 2 0],
   [(72, .row 6 [[.int .i64 (2), .int .i64 (2), .int .i64 (1), .int .i64 (2), .int .i64 (3), .int .i64 (1)]] 130),
    (20, .row 6 [[.int .i64 (1), .int .i64 (1), .int .i64 (4), .int .i64 (1), .int .i64 (1), .int .i64 (3)]] 130),
    (55, .row 6 [[.int .i64 (2), .int .i64 (1), .int .i64 (1), .int .i64 (2), .int .i64 (1), .int .i64 (4)]] 130),
    (73, .row 6 [[.int .i64 (2), .int .i64 (2), .int .i64 (1), .int .i64 (3), .int .i64 (1), .int .i64 (2)]] 130),
    (47, .row 6 [[.int .i64 (1), .int .i64 (3), .int .i64 (2), .int .i64 (3), .int .i64 (1), .int .i64 (1)]] 130),
    (9, .row 6 [[.int .i64 (1), .int .i64 (1), .int .i64 (1), .int .i64 (4), .int .i64 (2), .int .i64 (2)]] 130),
    (56, .row 6 [[.int .i64 (2), .int .i64 (1), .int .i64 (1), .int .i64 (2), .int .i64 (3), .int .i64 (2)]] 130),
    (74, .row 6 [[.int .i64 (2), .int .i64 (2), .int .i64 (1), .int .i64 (4), .int .i64 (1), .int .i64 (1)]] 130),
    (37, .row 6 [[.int .i64 (1), .int .i64 (2), .int .i64 (3), .int .i64 (2), .int .i64 (2), .int .i64 (1)]] 130),
    (1, .box [.int .i64 (3), .int .i64 (4), .int .i64 (4), .int .i64 (1), .int .i64 (1), .int .i64 (1)] 130),
    (28, .row 6 [[.int .i64 (1), .int .i64 (2), .int .i64 (1), .int .i64 (3), .int .i64 (2), .int .i64 (2)]] 130),
    (57, .row 6 [[.int .i64 (2), .int .i64 (1), .int .i64 (1), .int .i64 (3), .int .i64 (1), .int .i64 (3)]] 130),
    (75, .row 6 [[.int .i64 (2), .int .i64 (2), .int .i64 (2), .int .i64 (1), .int .i64 (2), .int .i64 (2)]] 130),
    (21, .row 6 [[.int .i64 (1), .int .i64 (1), .int .i64 (4), .int .i64 (1), .int .i64 (3), .int .i64 (1)]] 130),
    (48, .row 6 [[.int .i64 (1), .int .i64 (3), .int .i64 (3), .int .i64 (1), .int .i64 (2), .int .i64 (1)]] 130),
    (58, .row 6 [[.int .i64 (2), .int .i64 (1), .int .i64 (1), .int .i64 (3), .int .i64 (3), .int .i64 (1)]] 130),
    (16, .row 6 [[.int .i64 (1), .int .i64 (1), .int .i64 (3), .int .i64 (1), .int .i64 (2), .int .i64 (3)]] 130),
    (76, .row 6 [[.int .i64 (2), .int .i64 (2), .int .i64 (2), .int .i64 (2), .int .i64 (2), .int .i64 (1)]] 130),
    (12, .row 6 [[.int .i64 (1), .int .i64 (1), .int .i64 (2), .int .i64 (2), .int .i64 (3), .int .i64 (2)]] 130),
    (59, .row 6 [[.int .i64 (2), .int .i64 (1), .int .i64 (1), .int .i64 (4), .int .i64 (1), .int .i64 (2)]] 130),
    (22, .row 6 [[.int .i64 (1), .int .i64 (1), .int .i64 (4), .int .i64 (2), .int .i64 (1), .int .i64 (2)]] 130),
    (38, .row 6 [[.int .i64 (1), .int .i64 (2), .int .i64 (4), .int .i64 (1), .int .i64 (1), .int .i64 (2)]] 130),
    (29, .row 6 [[.int .i64 (1), .int .i64 (2), .int .i64 (1), .int .i64 (4), .int .i64 (2), .int .i64 (1)]] 130),
    (2, .box [.fn 108 [.box 1 0, .box 0 0, .box 2 0]] 167),
    (77, .row 6 [[.int .i64 (2), .int .i64 (2), .int .i64 (3), .int .i64 (1), .int .i64 (1), .int .i64 (2)]] 130),
    (49, .row 6 [[.int .i64 (1), .int .i64 (3), .int .i64 (4), .int .i64 (1), .int .i64 (1), .int .i64 (1)]] 130),
    (60, .row 6 [[.int .i64 (2), .int .i64 (1), .int .i64 (2), .int .i64 (1), .int .i64 (2), .int .i64 (3)]] 130),
    (17, .row 6 [[.int .i64 (1), .int .i64 (1), .int .i64 (3), .int .i64 (1), .int .i64 (4), .int .i64 (1)]] 130),
    (78, .row 6 [[.int .i64 (2), .int .i64 (2), .int .i64 (3), .int .i64 (2), .int .i64 (1), .int .i64 (1)]] 130),
    (39, .row 6 [[.int .i64 (1), .int .i64 (2), .int .i64 (4), .int .i64 (2), .int .i64 (1), .int .i64 (1)]] 130),
    (61, .row 6 [[.int .i64 (2), .int .i64 (1), .int .i64 (2), .int .i64 (1), .int .i64 (4), .int .i64 (1)]] 130),
    (7, .row 6 [[.int .i64 (1), .int .i64 (1), .int .i64 (1), .int .i64 (3), .int .i64 (2), .int .i64 (3)]] 130),
    (30, .row 6 [[.int .i64 (1), .int .i64 (2), .int .i64 (2), .int .i64 (1), .int .i64 (1), .int .i64 (4)]] 130),
    (23, .row 6 [[.int .i64 (1), .int .i64 (1), .int .i64 (4), .int .i64 (3), .int .i64 (1), .int .i64 (1)]] 130),
    (62, .row 6 [[.int .i64 (2), .int .i64 (1), .int .i64 (2), .int .i64 (2), .int .i64 (2), .int .i64 (2)]] 130),
    (5, .row 6 [[.int .i64 (1), .int .i64 (1), .int .i64 (1), .int .i64 (2), .int .i64 (2), .int .i64 (4)]] 130),
    (50, .row 6 [[.int .i64 (1), .int .i64 (4), .int .i64 (1), .int .i64 (1), .int .i64 (2), .int .i64 (2)]] 130),
    (31, .row 6 [[.int .i64 (1), .int .i64 (2), .int .i64 (2), .int .i64 (1), .int .i64 (3), .int .i64 (2)]] 130),
    (79, .row 6 [[.int .i64 (2), .int .i64 (3), .int .i64 (1), .int .i64 (1), .int .i64 (1), .int .i64 (3)]] 130),
    (13, .row 6 [[.int .i64 (1), .int .i64 (1), .int .i64 (2), .int .i64 (3), .int .i64 (1), .int .i64 (3)]] 130),
    (63, .row 6 [[.int .i64 (2), .int .i64 (1), .int .i64 (2), .int .i64 (3), .int .i64 (2), .int .i64 (1)]] 130),
    (80, .row 6 [[.int .i64 (2), .int .i64 (3), .int .i64 (1), .int .i64 (1), .int .i64 (3), .int .i64 (1)]] 130),
    (40, .row 6 [[.int .i64 (1), .int .i64 (3), .int .i64 (1), .int .i64 (1), .int .i64 (2), .int .i64 (3)]] 130),
    (18, .row 6 [[.int .i64 (1), .int .i64 (1), .int .i64 (3), .int .i64 (2), .int .i64 (2), .int .i64 (2)]] 130),
    (81, .row 6 [[.int .i64 (2), .int .i64 (3), .int .i64 (1), .int .i64 (2), .int .i64 (1), .int .i64 (2)]] 130),
    (51, .row 6 [[.int .i64 (1), .int .i64 (4), .int .i64 (1), .int .i64 (2), .int .i64 (2), .int .i64 (1)]] 130),
    (3, .row 6 [[.int .i64 (1), .int .i64 (1), .int .i64 (1), .int .i64 (1), .int .i64 (4), .int .i64 (3)]] 130),
    (41, .row 6 [[.int .i64 (1), .int .i64 (3), .int .i64 (1), .int .i64 (1), .int .i64 (4), .int .i64 (1)]] 130),
    (82, .row 6 [[.int .i64 (2), .int .i64 (3), .int .i64 (1), .int .i64 (3), .int .i64 (1), .int .i64 (1)]] 130),
    (64, .row 6 [[.int .i64 (2), .int .i64 (1), .int .i64 (3), .int .i64 (1), .int .i64 (1), .int .i64 (3)]] 130),
    (32, .row 6 [[.int .i64 (1), .int .i64 (2), .int .i64 (2), .int .i64 (2), .int .i64 (1), .int .i64 (3)]] 130),
    (8, .row 6 [[.int .i64 (1), .int .i64 (1), .int .i64 (1), .int .i64 (3), .int .i64 (4), .int .i64 (1)]] 130),
    (65, .row 6 [[.int .i64 (2), .int .i64 (1), .int .i64 (3), .int .i64 (1), .int .i64 (3), .int .i64 (1)]] 130),
    (14, .row 6 [[.int .i64 (1), .int .i64 (1), .int .i64 (2), .int .i64 (3), .int .i64 (3), .int .i64 (1)]] 130),
    (83, .row 6 [[.int .i64 (2), .int .i64 (3), .int .i64 (2), .int .i64 (1), .int .i64 (2), .int .i64 (1)]] 130),
    (42, .row 6 [[.int .i64 (1), .int .i64 (3), .int .i64 (1), .int .i64 (2), .int .i64 (2), .int .i64 (2)]] 130),
    (66, .row 6 [[.int .i64 (2), .int .i64 (1), .int .i64 (3), .int .i64 (2), .int .i64 (1), .int .i64 (2)]] 130),
    (52, .row 6 [[.int .i64 (1), .int .i64 (4), .int .i64 (2), .int .i64 (1), .int .i64 (1), .int .i64 (2)]] 130),
    (33, .row 6 [[.int .i64 (1), .int .i64 (2), .int .i64 (2), .int .i64 (2), .int .i64 (3), .int .i64 (1)]] 130),
    (24, .row 6 [[.int .i64 (1), .int .i64 (2), .int .i64 (1), .int .i64 (1), .int .i64 (2), .int .i64 (4)]] 130),
    (67, .row 6 [[.int .i64 (2), .int .i64 (1), .int .i64 (3), .int .i64 (3), .int .i64 (1), .int .i64 (1)]] 130),
    (84, .row 6 [[.int .i64 (2), .int .i64 (3), .int .i64 (3), .int .i64 (1), .int .i64 (1), .int .i64 (1)]] 130),
    (10, .row 6 [[.int .i64 (1), .int .i64 (1), .int .i64 (2), .int .i64 (1), .int .i64 (3), .int .i64 (3)]] 130),
    (53, .row 6 [[.int .i64 (1), .int .i64 (4), .int .i64 (2), .int .i64 (2), .int .i64 (1), .int .i64 (1)]] 130),
    (34, .row 6 [[.int .i64 (1), .int .i64 (2), .int .i64 (2), .int .i64 (3), .int .i64 (1), .int .i64 (2)]] 130),
    (43, .row 6 [[.int .i64 (1), .int .i64 (3), .int .i64 (1), .int .i64 (3), .int .i64 (2), .int .i64 (1)]] 130),
    (19, .row 6 [[.int .i64 (1), .int .i64 (1), .int .i64 (3), .int .i64 (3), .int .i64 (2), .int .i64 (1)]] 130),
    (68, .row 6 [[.int .i64 (2), .int .i64 (1), .int .i64 (4), .int .i64 (1), .int .i64 (2), .int .i64 (1)]] 130),
    (25, .row 6 [[.int .i64 (1), .int .i64 (2), .int .i64 (1), .int .i64 (1), .int .i64 (4), .int .i64 (2)]] 130),
    (85, .row 6 [[.int .i64 (2), .int .i64 (4), .int .i64 (1), .int .i64 (1), .int .i64 (1), .int .i64 (2)]] 130),
    (4, .row 6 [[.int .i64 (1), .int .i64 (1), .int .i64 (1), .int .i64 (1), .int .i64 (4), .int .i64 (3)], [.int .i64 (1), .int .i64 (1), .int .i64 (1), .int .i64 (2), .int .i64 (2), .int .i64 (4)], [.int .i64 (1), .int .i64 (1), .int .i64 (1), .int .i64 (2), .int .i64 (4), .int .i64 (2)], [.int .i64 (1), .int .i64 (1), .int .i64 (1), .int .i64 (3), .int .i64 (2), .int .i64 (3)], [.int .i64 (1), .int .i64 (1), .int .i64 (1), .int .i64 (3), .int .i64 (4), .int .i64 (1)], [.int .i64 (1), .int .i64 (1), .int .i64 (1), .int .i64 (4), .int .i64 (2), .int .i64 (2)], [.int .i64 (1), .int .i64 (1), .int .i64 (2), .int .i64 (1), .int .i64 (3), .int .i64 (3)], [.int .i64 (1), .int .i64 (1), .int .i64 (2), .int .i64 (2), .int .i64 (1), .int .i64 (4)], [.int .i64 (1), .int .i64 (1), .int .i64 (2), .int .i64 (2), .int .i64 (3), .int .i64 (2)], [.int .i64 (1), .int .i64 (1), .int .i64 (2), .int .i64 (3), .int .i64 (1), .int .i64 (3)], [.int .i64 (1), .int .i64 (1), .int .i64 (2), .int .i64 (3), .int .i64 (3), .int .i64 (1)], [.int .i64 (1), .int .i64 (1), .int .i64 (2), .int .i64 (4), .int .i64 (1), .int .i64 (2)], [.int .i64 (1), .int .i64 (1), .int .i64 (3), .int .i64 (1), .int .i64 (2), .int .i64 (3)], [.int .i64 (1), .int .i64 (1), .int .i64 (3), .int .i64 (1), .int .i64 (4), .int .i64 (1)], [.int .i64 (1), .int .i64 (1), .int .i64 (3), .int .i64 (2), .int .i64 (2), .int .i64 (2)], [.int .i64 (1), .int .i64 (1), .int .i64 (3), .int .i64 (3), .int .i64 (2), .int .i64 (1)], [.int .i64 (1), .int .i64 (1), .int .i64 (4), .int .i64 (1), .int .i64 (1), .int .i64 (3)], [.int .i64 (1), .int .i64 (1), .int .i64 (4), .int .i64 (1), .int .i64 (3), .int .i64 (1)], [.int .i64 (1), .int .i64 (1), .int .i64 (4), .int .i64 (2), .int .i64 (1), .int .i64 (2)], [.int .i64 (1), .int .i64 (1), .int .i64 (4), .int .i64 (3), .int .i64 (1), .int .i64 (1)], [.int .i64 (1), .int .i64 (2), .int .i64 (1), .int .i64 (1), .int .i64 (2), .int .i64 (4)], [.int .i64 (1), .int .i64 (2), .int .i64 (1), .int .i64 (1), .int .i64 (4), .int .i64 (2)], [.int .i64 (1), .int .i64 (2), .int .i64 (1), .int .i64 (2), .int .i64 (2), .int .i64 (3)], [.int .i64 (1), .int .i64 (2), .int .i64 (1), .int .i64 (2), .int .i64 (4), .int .i64 (1)], [.int .i64 (1), .int .i64 (2), .int .i64 (1), .int .i64 (3), .int .i64 (2), .int .i64 (2)], [.int .i64 (1), .int .i64 (2), .int .i64 (1), .int .i64 (4), .int .i64 (2), .int .i64 (1)], [.int .i64 (1), .int .i64 (2), .int .i64 (2), .int .i64 (1), .int .i64 (1), .int .i64 (4)], [.int .i64 (1), .int .i64 (2), .int .i64 (2), .int .i64 (1), .int .i64 (3), .int .i64 (2)], [.int .i64 (1), .int .i64 (2), .int .i64 (2), .int .i64 (2), .int .i64 (1), .int .i64 (3)], [.int .i64 (1), .int .i64 (2), .int .i64 (2), .int .i64 (2), .int .i64 (3), .int .i64 (1)], [.int .i64 (1), .int .i64 (2), .int .i64 (2), .int .i64 (3), .int .i64 (1), .int .i64 (2)], [.int .i64 (1), .int .i64 (2), .int .i64 (2), .int .i64 (4), .int .i64 (1), .int .i64 (1)], [.int .i64 (1), .int .i64 (2), .int .i64 (3), .int .i64 (1), .int .i64 (2), .int .i64 (2)], [.int .i64 (1), .int .i64 (2), .int .i64 (3), .int .i64 (2), .int .i64 (2), .int .i64 (1)], [.int .i64 (1), .int .i64 (2), .int .i64 (4), .int .i64 (1), .int .i64 (1), .int .i64 (2)], [.int .i64 (1), .int .i64 (2), .int .i64 (4), .int .i64 (2), .int .i64 (1), .int .i64 (1)], [.int .i64 (1), .int .i64 (3), .int .i64 (1), .int .i64 (1), .int .i64 (2), .int .i64 (3)], [.int .i64 (1), .int .i64 (3), .int .i64 (1), .int .i64 (1), .int .i64 (4), .int .i64 (1)], [.int .i64 (1), .int .i64 (3), .int .i64 (1), .int .i64 (2), .int .i64 (2), .int .i64 (2)], [.int .i64 (1), .int .i64 (3), .int .i64 (1), .int .i64 (3), .int .i64 (2), .int .i64 (1)], [.int .i64 (1), .int .i64 (3), .int .i64 (2), .int .i64 (1), .int .i64 (1), .int .i64 (3)], [.int .i64 (1), .int .i64 (3), .int .i64 (2), .int .i64 (1), .int .i64 (3), .int .i64 (1)], [.int .i64 (1), .int .i64 (3), .int .i64 (2), .int .i64 (2), .int .i64 (1), .int .i64 (2)], [.int .i64 (1), .int .i64 (3), .int .i64 (2), .int .i64 (3), .int .i64 (1), .int .i64 (1)], [.int .i64 (1), .int .i64 (3), .int .i64 (3), .int .i64 (1), .int .i64 (2), .int .i64 (1)], [.int .i64 (1), .int .i64 (3), .int .i64 (4), .int .i64 (1), .int .i64 (1), .int .i64 (1)], [.int .i64 (1), .int .i64 (4), .int .i64 (1), .int .i64 (1), .int .i64 (2), .int .i64 (2)], [.int .i64 (1), .int .i64 (4), .int .i64 (1), .int .i64 (2), .int .i64 (2), .int .i64 (1)], [.int .i64 (1), .int .i64 (4), .int .i64 (2), .int .i64 (1), .int .i64 (1), .int .i64 (2)], [.int .i64 (1), .int .i64 (4), .int .i64 (2), .int .i64 (2), .int .i64 (1), .int .i64 (1)], [.int .i64 (2), .int .i64 (1), .int .i64 (1), .int .i64 (1), .int .i64 (3), .int .i64 (3)], [.int .i64 (2), .int .i64 (1), .int .i64 (1), .int .i64 (2), .int .i64 (1), .int .i64 (4)], [.int .i64 (2), .int .i64 (1), .int .i64 (1), .int .i64 (2), .int .i64 (3), .int .i64 (2)], [.int .i64 (2), .int .i64 (1), .int .i64 (1), .int .i64 (3), .int .i64 (1), .int .i64 (3)], [.int .i64 (2), .int .i64 (1), .int .i64 (1), .int .i64 (3), .int .i64 (3), .int .i64 (1)], [.int .i64 (2), .int .i64 (1), .int .i64 (1), .int .i64 (4), .int .i64 (1), .int .i64 (2)], [.int .i64 (2), .int .i64 (1), .int .i64 (2), .int .i64 (1), .int .i64 (2), .int .i64 (3)], [.int .i64 (2), .int .i64 (1), .int .i64 (2), .int .i64 (1), .int .i64 (4), .int .i64 (1)], [.int .i64 (2), .int .i64 (1), .int .i64 (2), .int .i64 (2), .int .i64 (2), .int .i64 (2)], [.int .i64 (2), .int .i64 (1), .int .i64 (2), .int .i64 (3), .int .i64 (2), .int .i64 (1)], [.int .i64 (2), .int .i64 (1), .int .i64 (3), .int .i64 (1), .int .i64 (1), .int .i64 (3)], [.int .i64 (2), .int .i64 (1), .int .i64 (3), .int .i64 (1), .int .i64 (3), .int .i64 (1)], [.int .i64 (2), .int .i64 (1), .int .i64 (3), .int .i64 (2), .int .i64 (1), .int .i64 (2)], [.int .i64 (2), .int .i64 (1), .int .i64 (3), .int .i64 (3), .int .i64 (1), .int .i64 (1)], [.int .i64 (2), .int .i64 (1), .int .i64 (4), .int .i64 (1), .int .i64 (2), .int .i64 (1)], [.int .i64 (2), .int .i64 (2), .int .i64 (1), .int .i64 (1), .int .i64 (1), .int .i64 (4)], [.int .i64 (2), .int .i64 (2), .int .i64 (1), .int .i64 (1), .int .i64 (3), .int .i64 (2)], [.int .i64 (2), .int .i64 (2), .int .i64 (1), .int .i64 (2), .int .i64 (1), .int .i64 (3)], [.int .i64 (2), .int .i64 (2), .int .i64 (1), .int .i64 (2), .int .i64 (3), .int .i64 (1)], [.int .i64 (2), .int .i64 (2), .int .i64 (1), .int .i64 (3), .int .i64 (1), .int .i64 (2)], [.int .i64 (2), .int .i64 (2), .int .i64 (1), .int .i64 (4), .int .i64 (1), .int .i64 (1)], [.int .i64 (2), .int .i64 (2), .int .i64 (2), .int .i64 (1), .int .i64 (2), .int .i64 (2)], [.int .i64 (2), .int .i64 (2), .int .i64 (2), .int .i64 (2), .int .i64 (2), .int .i64 (1)], [.int .i64 (2), .int .i64 (2), .int .i64 (3), .int .i64 (1), .int .i64 (1), .int .i64 (2)], [.int .i64 (2), .int .i64 (2), .int .i64 (3), .int .i64 (2), .int .i64 (1), .int .i64 (1)], [.int .i64 (2), .int .i64 (3), .int .i64 (1), .int .i64 (1), .int .i64 (1), .int .i64 (3)], [.int .i64 (2), .int .i64 (3), .int .i64 (1), .int .i64 (1), .int .i64 (3), .int .i64 (1)], [.int .i64 (2), .int .i64 (3), .int .i64 (1), .int .i64 (2), .int .i64 (1), .int .i64 (2)], [.int .i64 (2), .int .i64 (3), .int .i64 (1), .int .i64 (3), .int .i64 (1), .int .i64 (1)], [.int .i64 (2), .int .i64 (3), .int .i64 (2), .int .i64 (1), .int .i64 (2), .int .i64 (1)], [.int .i64 (2), .int .i64 (3), .int .i64 (3), .int .i64 (1), .int .i64 (1), .int .i64 (1)], [.int .i64 (2), .int .i64 (4), .int .i64 (1), .int .i64 (1), .int .i64 (1), .int .i64 (2)], [.int .i64 (2), .int .i64 (4), .int .i64 (1), .int .i64 (2), .int .i64 (1), .int .i64 (1)]] 130),
    (35, .row 6 [[.int .i64 (1), .int .i64 (2), .int .i64 (2), .int .i64 (4), .int .i64 (1), .int .i64 (1)]] 130),
    (15, .row 6 [[.int .i64 (1), .int .i64 (1), .int .i64 (2), .int .i64 (4), .int .i64 (1), .int .i64 (2)]] 130),
    (86, .row 6 [[.int .i64 (2), .int .i64 (4), .int .i64 (1), .int .i64 (2), .int .i64 (1), .int .i64 (1)]] 130),
    (44, .row 6 [[.int .i64 (1), .int .i64 (3), .int .i64 (2), .int .i64 (1), .int .i64 (1), .int .i64 (3)]] 130),
    (6, .row 6 [[.int .i64 (1), .int .i64 (1), .int .i64 (1), .int .i64 (2), .int .i64 (4), .int .i64 (2)]] 130),
    (26, .row 6 [[.int .i64 (1), .int .i64 (2), .int .i64 (1), .int .i64 (2), .int .i64 (2), .int .i64 (3)]] 130),
    (69, .row 6 [[.int .i64 (2), .int .i64 (2), .int .i64 (1), .int .i64 (1), .int .i64 (1), .int .i64 (4)]] 130),
    (45, .row 6 [[.int .i64 (1), .int .i64 (3), .int .i64 (2), .int .i64 (1), .int .i64 (3), .int .i64 (1)]] 130),
    (0, .box [.osl 4 83] 126),
    (70, .row 6 [[.int .i64 (2), .int .i64 (2), .int .i64 (1), .int .i64 (1), .int .i64 (3), .int .i64 (2)]] 130),
    (36, .row 6 [[.int .i64 (1), .int .i64 (2), .int .i64 (3), .int .i64 (1), .int .i64 (2), .int .i64 (2)]] 130),
    (46, .row 6 [[.int .i64 (1), .int .i64 (3), .int .i64 (2), .int .i64 (2), .int .i64 (1), .int .i64 (2)]] 130),
    (54, .row 6 [[.int .i64 (2), .int .i64 (1), .int .i64 (1), .int .i64 (1), .int .i64 (3), .int .i64 (3)]] 130),
    (71, .row 6 [[.int .i64 (2), .int .i64 (2), .int .i64 (1), .int .i64 (2), .int .i64 (1), .int .i64 (3)]] 130),
    (11, .row 6 [[.int .i64 (1), .int .i64 (1), .int .i64 (2), .int .i64 (2), .int .i64 (1), .int .i64 (4)]] 130),
    (27, .row 6 [[.int .i64 (1), .int .i64 (2), .int .i64 (1), .int .i64 (2), .int .i64 (4), .int .i64 (1)]] 130)],
   87, .tup [],
   [(27, .row 6 [[.int .i64 (1), .int .i64 (2), .int .i64 (1), .int .i64 (2), .int .i64 (4), .int .i64 (1)]] 130),
    (72, .row 6 [[.int .i64 (2), .int .i64 (2), .int .i64 (1), .int .i64 (2), .int .i64 (3), .int .i64 (1)]] 130),
    (87, .row 6 [[.int .i64 (3), .int .i64 (1), .int .i64 (1), .int .i64 (1), .int .i64 (2), .int .i64 (3)]] 130),
    (20, .row 6 [[.int .i64 (1), .int .i64 (1), .int .i64 (4), .int .i64 (1), .int .i64 (1), .int .i64 (3)]] 130),
    (55, .row 6 [[.int .i64 (2), .int .i64 (1), .int .i64 (1), .int .i64 (2), .int .i64 (1), .int .i64 (4)]] 130),
    (88, .row 6 [[.int .i64 (3), .int .i64 (1), .int .i64 (1), .int .i64 (1), .int .i64 (4), .int .i64 (1)]] 130),
    (73, .row 6 [[.int .i64 (2), .int .i64 (2), .int .i64 (1), .int .i64 (3), .int .i64 (1), .int .i64 (2)]] 130),
    (47, .row 6 [[.int .i64 (1), .int .i64 (3), .int .i64 (2), .int .i64 (3), .int .i64 (1), .int .i64 (1)]] 130),
    (9, .row 6 [[.int .i64 (1), .int .i64 (1), .int .i64 (1), .int .i64 (4), .int .i64 (2), .int .i64 (2)]] 130),
    (89, .row 6 [[.int .i64 (3), .int .i64 (1), .int .i64 (1), .int .i64 (2), .int .i64 (2), .int .i64 (2)]] 130),
    (56, .row 6 [[.int .i64 (2), .int .i64 (1), .int .i64 (1), .int .i64 (2), .int .i64 (3), .int .i64 (2)]] 130),
    (74, .row 6 [[.int .i64 (2), .int .i64 (2), .int .i64 (1), .int .i64 (4), .int .i64 (1), .int .i64 (1)]] 130),
    (37, .row 6 [[.int .i64 (1), .int .i64 (2), .int .i64 (3), .int .i64 (2), .int .i64 (2), .int .i64 (1)]] 130),
    (1, .box [.int .i64 (3), .int .i64 (4), .int .i64 (3), .int .i64 (1), .int .i64 (1), .int .i64 (1)] 130),
    (90, .row 6 [[.int .i64 (3), .int .i64 (1), .int .i64 (1), .int .i64 (3), .int .i64 (2), .int .i64 (1)]] 130),
    (28, .row 6 [[.int .i64 (1), .int .i64 (2), .int .i64 (1), .int .i64 (3), .int .i64 (2), .int .i64 (2)]] 130),
    (57, .row 6 [[.int .i64 (2), .int .i64 (1), .int .i64 (1), .int .i64 (3), .int .i64 (1), .int .i64 (3)]] 130),
    (75, .row 6 [[.int .i64 (2), .int .i64 (2), .int .i64 (2), .int .i64 (1), .int .i64 (2), .int .i64 (2)]] 130),
    (21, .row 6 [[.int .i64 (1), .int .i64 (1), .int .i64 (4), .int .i64 (1), .int .i64 (3), .int .i64 (1)]] 130),
    (48, .row 6 [[.int .i64 (1), .int .i64 (3), .int .i64 (3), .int .i64 (1), .int .i64 (2), .int .i64 (1)]] 130),
    (91, .row 6 [[.int .i64 (3), .int .i64 (1), .int .i64 (2), .int .i64 (1), .int .i64 (1), .int .i64 (3)]] 130),
    (58, .row 6 [[.int .i64 (2), .int .i64 (1), .int .i64 (1), .int .i64 (3), .int .i64 (3), .int .i64 (1)]] 130),
    (16, .row 6 [[.int .i64 (1), .int .i64 (1), .int .i64 (3), .int .i64 (1), .int .i64 (2), .int .i64 (3)]] 130),
    (92, .row 6 [[.int .i64 (3), .int .i64 (1), .int .i64 (2), .int .i64 (1), .int .i64 (3), .int .i64 (1)]] 130),
    (76, .row 6 [[.int .i64 (2), .int .i64 (2), .int .i64 (2), .int .i64 (2), .int .i64 (2), .int .i64 (1)]] 130),
    (12, .row 6 [[.int .i64 (1), .int .i64 (1), .int .i64 (2), .int .i64 (2), .int .i64 (3), .int .i64 (2)]] 130),
    (93, .row 6 [[.int .i64 (3), .int .i64 (1), .int .i64 (2), .int .i64 (2), .int .i64 (1), .int .i64 (2)]] 130),
    (59, .row 6 [[.int .i64 (2), .int .i64 (1), .int .i64 (1), .int .i64 (4), .int .i64 (1), .int .i64 (2)]] 130),
    (22, .row 6 [[.int .i64 (1), .int .i64 (1), .int .i64 (4), .int .i64 (2), .int .i64 (1), .int .i64 (2)]] 130),
    (38, .row 6 [[.int .i64 (1), .int .i64 (2), .int .i64 (4), .int .i64 (1), .int .i64 (1), .int .i64 (2)]] 130),
    (94, .row 6 [[.int .i64 (3), .int .i64 (1), .int .i64 (2), .int .i64 (3), .int .i64 (1), .int .i64 (1)]] 130),
    (29, .row 6 [[.int .i64 (1), .int .i64 (2), .int .i64 (1), .int .i64 (4), .int .i64 (2), .int .i64 (1)]] 130),
    (2, .box [.fn 108 [.box 1 0, .box 0 0, .box 2 0]] 167),
    (77, .row 6 [[.int .i64 (2), .int .i64 (2), .int .i64 (3), .int .i64 (1), .int .i64 (1), .int .i64 (2)]] 130),
    (49, .row 6 [[.int .i64 (1), .int .i64 (3), .int .i64 (4), .int .i64 (1), .int .i64 (1), .int .i64 (1)]] 130),
    (60, .row 6 [[.int .i64 (2), .int .i64 (1), .int .i64 (2), .int .i64 (1), .int .i64 (2), .int .i64 (3)]] 130),
    (95, .row 6 [[.int .i64 (3), .int .i64 (1), .int .i64 (3), .int .i64 (1), .int .i64 (2), .int .i64 (1)]] 130),
    (17, .row 6 [[.int .i64 (1), .int .i64 (1), .int .i64 (3), .int .i64 (1), .int .i64 (4), .int .i64 (1)]] 130),
    (78, .row 6 [[.int .i64 (2), .int .i64 (2), .int .i64 (3), .int .i64 (2), .int .i64 (1), .int .i64 (1)]] 130),
    (39, .row 6 [[.int .i64 (1), .int .i64 (2), .int .i64 (4), .int .i64 (2), .int .i64 (1), .int .i64 (1)]] 130),
    (61, .row 6 [[.int .i64 (2), .int .i64 (1), .int .i64 (2), .int .i64 (1), .int .i64 (4), .int .i64 (1)]] 130),
    (7, .row 6 [[.int .i64 (1), .int .i64 (1), .int .i64 (1), .int .i64 (3), .int .i64 (2), .int .i64 (3)]] 130),
    (30, .row 6 [[.int .i64 (1), .int .i64 (2), .int .i64 (2), .int .i64 (1), .int .i64 (1), .int .i64 (4)]] 130),
    (96, .row 6 [[.int .i64 (3), .int .i64 (1), .int .i64 (4), .int .i64 (1), .int .i64 (1), .int .i64 (1)]] 130),
    (23, .row 6 [[.int .i64 (1), .int .i64 (1), .int .i64 (4), .int .i64 (3), .int .i64 (1), .int .i64 (1)]] 130),
    (62, .row 6 [[.int .i64 (2), .int .i64 (1), .int .i64 (2), .int .i64 (2), .int .i64 (2), .int .i64 (2)]] 130),
    (5, .row 6 [[.int .i64 (1), .int .i64 (1), .int .i64 (1), .int .i64 (2), .int .i64 (2), .int .i64 (4)]] 130),
    (50, .row 6 [[.int .i64 (1), .int .i64 (4), .int .i64 (1), .int .i64 (1), .int .i64 (2), .int .i64 (2)]] 130),
    (31, .row 6 [[.int .i64 (1), .int .i64 (2), .int .i64 (2), .int .i64 (1), .int .i64 (3), .int .i64 (2)]] 130),
    (79, .row 6 [[.int .i64 (2), .int .i64 (3), .int .i64 (1), .int .i64 (1), .int .i64 (1), .int .i64 (3)]] 130),
    (97, .row 6 [[.int .i64 (3), .int .i64 (2), .int .i64 (1), .int .i64 (1), .int .i64 (2), .int .i64 (2)]] 130),
    (13, .row 6 [[.int .i64 (1), .int .i64 (1), .int .i64 (2), .int .i64 (3), .int .i64 (1), .int .i64 (3)]] 130),
    (63, .row 6 [[.int .i64 (2), .int .i64 (1), .int .i64 (2), .int .i64 (3), .int .i64 (2), .int .i64 (1)]] 130),
    (80, .row 6 [[.int .i64 (2), .int .i64 (3), .int .i64 (1), .int .i64 (1), .int .i64 (3), .int .i64 (1)]] 130),
    (40, .row 6 [[.int .i64 (1), .int .i64 (3), .int .i64 (1), .int .i64 (1), .int .i64 (2), .int .i64 (3)]] 130),
    (98, .row 6 [[.int .i64 (3), .int .i64 (2), .int .i64 (1), .int .i64 (2), .int .i64 (2), .int .i64 (1)]] 130),
    (18, .row 6 [[.int .i64 (1), .int .i64 (1), .int .i64 (3), .int .i64 (2), .int .i64 (2), .int .i64 (2)]] 130),
    (81, .row 6 [[.int .i64 (2), .int .i64 (3), .int .i64 (1), .int .i64 (2), .int .i64 (1), .int .i64 (2)]] 130),
    (51, .row 6 [[.int .i64 (1), .int .i64 (4), .int .i64 (1), .int .i64 (2), .int .i64 (2), .int .i64 (1)]] 130),
    (3, .row 6 [[.int .i64 (1), .int .i64 (1), .int .i64 (1), .int .i64 (1), .int .i64 (4), .int .i64 (3)]] 130),
    (41, .row 6 [[.int .i64 (1), .int .i64 (3), .int .i64 (1), .int .i64 (1), .int .i64 (4), .int .i64 (1)]] 130),
    (82, .row 6 [[.int .i64 (2), .int .i64 (3), .int .i64 (1), .int .i64 (3), .int .i64 (1), .int .i64 (1)]] 130),
    (99, .row 6 [[.int .i64 (3), .int .i64 (2), .int .i64 (2), .int .i64 (1), .int .i64 (1), .int .i64 (2)]] 130),
    (64, .row 6 [[.int .i64 (2), .int .i64 (1), .int .i64 (3), .int .i64 (1), .int .i64 (1), .int .i64 (3)]] 130),
    (32, .row 6 [[.int .i64 (1), .int .i64 (2), .int .i64 (2), .int .i64 (2), .int .i64 (1), .int .i64 (3)]] 130),
    (8, .row 6 [[.int .i64 (1), .int .i64 (1), .int .i64 (1), .int .i64 (3), .int .i64 (4), .int .i64 (1)]] 130),
    (100, .row 6 [[.int .i64 (3), .int .i64 (2), .int .i64 (2), .int .i64 (2), .int .i64 (1), .int .i64 (1)]] 130),
    (65, .row 6 [[.int .i64 (2), .int .i64 (1), .int .i64 (3), .int .i64 (1), .int .i64 (3), .int .i64 (1)]] 130),
    (14, .row 6 [[.int .i64 (1), .int .i64 (1), .int .i64 (2), .int .i64 (3), .int .i64 (3), .int .i64 (1)]] 130),
    (83, .row 6 [[.int .i64 (2), .int .i64 (3), .int .i64 (2), .int .i64 (1), .int .i64 (2), .int .i64 (1)]] 130),
    (42, .row 6 [[.int .i64 (1), .int .i64 (3), .int .i64 (1), .int .i64 (2), .int .i64 (2), .int .i64 (2)]] 130),
    (66, .row 6 [[.int .i64 (2), .int .i64 (1), .int .i64 (3), .int .i64 (2), .int .i64 (1), .int .i64 (2)]] 130),
    (52, .row 6 [[.int .i64 (1), .int .i64 (4), .int .i64 (2), .int .i64 (1), .int .i64 (1), .int .i64 (2)]] 130),
    (33, .row 6 [[.int .i64 (1), .int .i64 (2), .int .i64 (2), .int .i64 (2), .int .i64 (3), .int .i64 (1)]] 130),
    (24, .row 6 [[.int .i64 (1), .int .i64 (2), .int .i64 (1), .int .i64 (1), .int .i64 (2), .int .i64 (4)]] 130),
    (67, .row 6 [[.int .i64 (2), .int .i64 (1), .int .i64 (3), .int .i64 (3), .int .i64 (1), .int .i64 (1)]] 130),
    (84, .row 6 [[.int .i64 (2), .int .i64 (3), .int .i64 (3), .int .i64 (1), .int .i64 (1), .int .i64 (1)]] 130),
    (10, .row 6 [[.int .i64 (1), .int .i64 (1), .int .i64 (2), .int .i64 (1), .int .i64 (3), .int .i64 (3)]] 130),
    (53, .row 6 [[.int .i64 (1), .int .i64 (4), .int .i64 (2), .int .i64 (2), .int .i64 (1), .int .i64 (1)]] 130),
    (101, .row 6 [[.int .i64 (3), .int .i64 (3), .int .i64 (1), .int .i64 (1), .int .i64 (2), .int .i64 (1)]] 130),
    (34, .row 6 [[.int .i64 (1), .int .i64 (2), .int .i64 (2), .int .i64 (3), .int .i64 (1), .int .i64 (2)]] 130),
    (43, .row 6 [[.int .i64 (1), .int .i64 (3), .int .i64 (1), .int .i64 (3), .int .i64 (2), .int .i64 (1)]] 130),
    (19, .row 6 [[.int .i64 (1), .int .i64 (1), .int .i64 (3), .int .i64 (3), .int .i64 (2), .int .i64 (1)]] 130),
    (68, .row 6 [[.int .i64 (2), .int .i64 (1), .int .i64 (4), .int .i64 (1), .int .i64 (2), .int .i64 (1)]] 130),
    (25, .row 6 [[.int .i64 (1), .int .i64 (2), .int .i64 (1), .int .i64 (1), .int .i64 (4), .int .i64 (2)]] 130),
    (85, .row 6 [[.int .i64 (2), .int .i64 (4), .int .i64 (1), .int .i64 (1), .int .i64 (1), .int .i64 (2)]] 130),
    (102, .row 6 [[.int .i64 (3), .int .i64 (3), .int .i64 (2), .int .i64 (1), .int .i64 (1), .int .i64 (1)]] 130),
    (4, .row 6 [[.int .i64 (1), .int .i64 (1), .int .i64 (1), .int .i64 (1), .int .i64 (4), .int .i64 (3)], [.int .i64 (1), .int .i64 (1), .int .i64 (1), .int .i64 (2), .int .i64 (2), .int .i64 (4)], [.int .i64 (1), .int .i64 (1), .int .i64 (1), .int .i64 (2), .int .i64 (4), .int .i64 (2)], [.int .i64 (1), .int .i64 (1), .int .i64 (1), .int .i64 (3), .int .i64 (2), .int .i64 (3)], [.int .i64 (1), .int .i64 (1), .int .i64 (1), .int .i64 (3), .int .i64 (4), .int .i64 (1)], [.int .i64 (1), .int .i64 (1), .int .i64 (1), .int .i64 (4), .int .i64 (2), .int .i64 (2)], [.int .i64 (1), .int .i64 (1), .int .i64 (2), .int .i64 (1), .int .i64 (3), .int .i64 (3)], [.int .i64 (1), .int .i64 (1), .int .i64 (2), .int .i64 (2), .int .i64 (1), .int .i64 (4)], [.int .i64 (1), .int .i64 (1), .int .i64 (2), .int .i64 (2), .int .i64 (3), .int .i64 (2)], [.int .i64 (1), .int .i64 (1), .int .i64 (2), .int .i64 (3), .int .i64 (1), .int .i64 (3)], [.int .i64 (1), .int .i64 (1), .int .i64 (2), .int .i64 (3), .int .i64 (3), .int .i64 (1)], [.int .i64 (1), .int .i64 (1), .int .i64 (2), .int .i64 (4), .int .i64 (1), .int .i64 (2)], [.int .i64 (1), .int .i64 (1), .int .i64 (3), .int .i64 (1), .int .i64 (2), .int .i64 (3)], [.int .i64 (1), .int .i64 (1), .int .i64 (3), .int .i64 (1), .int .i64 (4), .int .i64 (1)], [.int .i64 (1), .int .i64 (1), .int .i64 (3), .int .i64 (2), .int .i64 (2), .int .i64 (2)], [.int .i64 (1), .int .i64 (1), .int .i64 (3), .int .i64 (3), .int .i64 (2), .int .i64 (1)], [.int .i64 (1), .int .i64 (1), .int .i64 (4), .int .i64 (1), .int .i64 (1), .int .i64 (3)], [.int .i64 (1), .int .i64 (1), .int .i64 (4), .int .i64 (1), .int .i64 (3), .int .i64 (1)], [.int .i64 (1), .int .i64 (1), .int .i64 (4), .int .i64 (2), .int .i64 (1), .int .i64 (2)], [.int .i64 (1), .int .i64 (1), .int .i64 (4), .int .i64 (3), .int .i64 (1), .int .i64 (1)], [.int .i64 (1), .int .i64 (2), .int .i64 (1), .int .i64 (1), .int .i64 (2), .int .i64 (4)], [.int .i64 (1), .int .i64 (2), .int .i64 (1), .int .i64 (1), .int .i64 (4), .int .i64 (2)], [.int .i64 (1), .int .i64 (2), .int .i64 (1), .int .i64 (2), .int .i64 (2), .int .i64 (3)], [.int .i64 (1), .int .i64 (2), .int .i64 (1), .int .i64 (2), .int .i64 (4), .int .i64 (1)], [.int .i64 (1), .int .i64 (2), .int .i64 (1), .int .i64 (3), .int .i64 (2), .int .i64 (2)], [.int .i64 (1), .int .i64 (2), .int .i64 (1), .int .i64 (4), .int .i64 (2), .int .i64 (1)], [.int .i64 (1), .int .i64 (2), .int .i64 (2), .int .i64 (1), .int .i64 (1), .int .i64 (4)], [.int .i64 (1), .int .i64 (2), .int .i64 (2), .int .i64 (1), .int .i64 (3), .int .i64 (2)], [.int .i64 (1), .int .i64 (2), .int .i64 (2), .int .i64 (2), .int .i64 (1), .int .i64 (3)], [.int .i64 (1), .int .i64 (2), .int .i64 (2), .int .i64 (2), .int .i64 (3), .int .i64 (1)], [.int .i64 (1), .int .i64 (2), .int .i64 (2), .int .i64 (3), .int .i64 (1), .int .i64 (2)], [.int .i64 (1), .int .i64 (2), .int .i64 (2), .int .i64 (4), .int .i64 (1), .int .i64 (1)], [.int .i64 (1), .int .i64 (2), .int .i64 (3), .int .i64 (1), .int .i64 (2), .int .i64 (2)], [.int .i64 (1), .int .i64 (2), .int .i64 (3), .int .i64 (2), .int .i64 (2), .int .i64 (1)], [.int .i64 (1), .int .i64 (2), .int .i64 (4), .int .i64 (1), .int .i64 (1), .int .i64 (2)], [.int .i64 (1), .int .i64 (2), .int .i64 (4), .int .i64 (2), .int .i64 (1), .int .i64 (1)], [.int .i64 (1), .int .i64 (3), .int .i64 (1), .int .i64 (1), .int .i64 (2), .int .i64 (3)], [.int .i64 (1), .int .i64 (3), .int .i64 (1), .int .i64 (1), .int .i64 (4), .int .i64 (1)], [.int .i64 (1), .int .i64 (3), .int .i64 (1), .int .i64 (2), .int .i64 (2), .int .i64 (2)], [.int .i64 (1), .int .i64 (3), .int .i64 (1), .int .i64 (3), .int .i64 (2), .int .i64 (1)], [.int .i64 (1), .int .i64 (3), .int .i64 (2), .int .i64 (1), .int .i64 (1), .int .i64 (3)], [.int .i64 (1), .int .i64 (3), .int .i64 (2), .int .i64 (1), .int .i64 (3), .int .i64 (1)], [.int .i64 (1), .int .i64 (3), .int .i64 (2), .int .i64 (2), .int .i64 (1), .int .i64 (2)], [.int .i64 (1), .int .i64 (3), .int .i64 (2), .int .i64 (3), .int .i64 (1), .int .i64 (1)], [.int .i64 (1), .int .i64 (3), .int .i64 (3), .int .i64 (1), .int .i64 (2), .int .i64 (1)], [.int .i64 (1), .int .i64 (3), .int .i64 (4), .int .i64 (1), .int .i64 (1), .int .i64 (1)], [.int .i64 (1), .int .i64 (4), .int .i64 (1), .int .i64 (1), .int .i64 (2), .int .i64 (2)], [.int .i64 (1), .int .i64 (4), .int .i64 (1), .int .i64 (2), .int .i64 (2), .int .i64 (1)], [.int .i64 (1), .int .i64 (4), .int .i64 (2), .int .i64 (1), .int .i64 (1), .int .i64 (2)], [.int .i64 (1), .int .i64 (4), .int .i64 (2), .int .i64 (2), .int .i64 (1), .int .i64 (1)], [.int .i64 (2), .int .i64 (1), .int .i64 (1), .int .i64 (1), .int .i64 (3), .int .i64 (3)], [.int .i64 (2), .int .i64 (1), .int .i64 (1), .int .i64 (2), .int .i64 (1), .int .i64 (4)], [.int .i64 (2), .int .i64 (1), .int .i64 (1), .int .i64 (2), .int .i64 (3), .int .i64 (2)], [.int .i64 (2), .int .i64 (1), .int .i64 (1), .int .i64 (3), .int .i64 (1), .int .i64 (3)], [.int .i64 (2), .int .i64 (1), .int .i64 (1), .int .i64 (3), .int .i64 (3), .int .i64 (1)], [.int .i64 (2), .int .i64 (1), .int .i64 (1), .int .i64 (4), .int .i64 (1), .int .i64 (2)], [.int .i64 (2), .int .i64 (1), .int .i64 (2), .int .i64 (1), .int .i64 (2), .int .i64 (3)], [.int .i64 (2), .int .i64 (1), .int .i64 (2), .int .i64 (1), .int .i64 (4), .int .i64 (1)], [.int .i64 (2), .int .i64 (1), .int .i64 (2), .int .i64 (2), .int .i64 (2), .int .i64 (2)], [.int .i64 (2), .int .i64 (1), .int .i64 (2), .int .i64 (3), .int .i64 (2), .int .i64 (1)], [.int .i64 (2), .int .i64 (1), .int .i64 (3), .int .i64 (1), .int .i64 (1), .int .i64 (3)], [.int .i64 (2), .int .i64 (1), .int .i64 (3), .int .i64 (1), .int .i64 (3), .int .i64 (1)], [.int .i64 (2), .int .i64 (1), .int .i64 (3), .int .i64 (2), .int .i64 (1), .int .i64 (2)], [.int .i64 (2), .int .i64 (1), .int .i64 (3), .int .i64 (3), .int .i64 (1), .int .i64 (1)], [.int .i64 (2), .int .i64 (1), .int .i64 (4), .int .i64 (1), .int .i64 (2), .int .i64 (1)], [.int .i64 (2), .int .i64 (2), .int .i64 (1), .int .i64 (1), .int .i64 (1), .int .i64 (4)], [.int .i64 (2), .int .i64 (2), .int .i64 (1), .int .i64 (1), .int .i64 (3), .int .i64 (2)], [.int .i64 (2), .int .i64 (2), .int .i64 (1), .int .i64 (2), .int .i64 (1), .int .i64 (3)], [.int .i64 (2), .int .i64 (2), .int .i64 (1), .int .i64 (2), .int .i64 (3), .int .i64 (1)], [.int .i64 (2), .int .i64 (2), .int .i64 (1), .int .i64 (3), .int .i64 (1), .int .i64 (2)], [.int .i64 (2), .int .i64 (2), .int .i64 (1), .int .i64 (4), .int .i64 (1), .int .i64 (1)], [.int .i64 (2), .int .i64 (2), .int .i64 (2), .int .i64 (1), .int .i64 (2), .int .i64 (2)], [.int .i64 (2), .int .i64 (2), .int .i64 (2), .int .i64 (2), .int .i64 (2), .int .i64 (1)], [.int .i64 (2), .int .i64 (2), .int .i64 (3), .int .i64 (1), .int .i64 (1), .int .i64 (2)], [.int .i64 (2), .int .i64 (2), .int .i64 (3), .int .i64 (2), .int .i64 (1), .int .i64 (1)], [.int .i64 (2), .int .i64 (3), .int .i64 (1), .int .i64 (1), .int .i64 (1), .int .i64 (3)], [.int .i64 (2), .int .i64 (3), .int .i64 (1), .int .i64 (1), .int .i64 (3), .int .i64 (1)], [.int .i64 (2), .int .i64 (3), .int .i64 (1), .int .i64 (2), .int .i64 (1), .int .i64 (2)], [.int .i64 (2), .int .i64 (3), .int .i64 (1), .int .i64 (3), .int .i64 (1), .int .i64 (1)], [.int .i64 (2), .int .i64 (3), .int .i64 (2), .int .i64 (1), .int .i64 (2), .int .i64 (1)], [.int .i64 (2), .int .i64 (3), .int .i64 (3), .int .i64 (1), .int .i64 (1), .int .i64 (1)], [.int .i64 (2), .int .i64 (4), .int .i64 (1), .int .i64 (1), .int .i64 (1), .int .i64 (2)], [.int .i64 (2), .int .i64 (4), .int .i64 (1), .int .i64 (2), .int .i64 (1), .int .i64 (1)], [.int .i64 (3), .int .i64 (1), .int .i64 (1), .int .i64 (1), .int .i64 (2), .int .i64 (3)], [.int .i64 (3), .int .i64 (1), .int .i64 (1), .int .i64 (1), .int .i64 (4), .int .i64 (1)], [.int .i64 (3), .int .i64 (1), .int .i64 (1), .int .i64 (2), .int .i64 (2), .int .i64 (2)], [.int .i64 (3), .int .i64 (1), .int .i64 (1), .int .i64 (3), .int .i64 (2), .int .i64 (1)], [.int .i64 (3), .int .i64 (1), .int .i64 (2), .int .i64 (1), .int .i64 (1), .int .i64 (3)], [.int .i64 (3), .int .i64 (1), .int .i64 (2), .int .i64 (1), .int .i64 (3), .int .i64 (1)], [.int .i64 (3), .int .i64 (1), .int .i64 (2), .int .i64 (2), .int .i64 (1), .int .i64 (2)], [.int .i64 (3), .int .i64 (1), .int .i64 (2), .int .i64 (3), .int .i64 (1), .int .i64 (1)], [.int .i64 (3), .int .i64 (1), .int .i64 (3), .int .i64 (1), .int .i64 (2), .int .i64 (1)], [.int .i64 (3), .int .i64 (1), .int .i64 (4), .int .i64 (1), .int .i64 (1), .int .i64 (1)], [.int .i64 (3), .int .i64 (2), .int .i64 (1), .int .i64 (1), .int .i64 (2), .int .i64 (2)], [.int .i64 (3), .int .i64 (2), .int .i64 (1), .int .i64 (2), .int .i64 (2), .int .i64 (1)], [.int .i64 (3), .int .i64 (2), .int .i64 (2), .int .i64 (1), .int .i64 (1), .int .i64 (2)], [.int .i64 (3), .int .i64 (2), .int .i64 (2), .int .i64 (2), .int .i64 (1), .int .i64 (1)], [.int .i64 (3), .int .i64 (3), .int .i64 (1), .int .i64 (1), .int .i64 (2), .int .i64 (1)], [.int .i64 (3), .int .i64 (3), .int .i64 (2), .int .i64 (1), .int .i64 (1), .int .i64 (1)]] 130),
    (35, .row 6 [[.int .i64 (1), .int .i64 (2), .int .i64 (2), .int .i64 (4), .int .i64 (1), .int .i64 (1)]] 130),
    (15, .row 6 [[.int .i64 (1), .int .i64 (1), .int .i64 (2), .int .i64 (4), .int .i64 (1), .int .i64 (2)]] 130),
    (86, .row 6 [[.int .i64 (2), .int .i64 (4), .int .i64 (1), .int .i64 (2), .int .i64 (1), .int .i64 (1)]] 130),
    (44, .row 6 [[.int .i64 (1), .int .i64 (3), .int .i64 (2), .int .i64 (1), .int .i64 (1), .int .i64 (3)]] 130),
    (6, .row 6 [[.int .i64 (1), .int .i64 (1), .int .i64 (1), .int .i64 (2), .int .i64 (4), .int .i64 (2)]] 130),
    (26, .row 6 [[.int .i64 (1), .int .i64 (2), .int .i64 (1), .int .i64 (2), .int .i64 (2), .int .i64 (3)]] 130),
    (69, .row 6 [[.int .i64 (2), .int .i64 (2), .int .i64 (1), .int .i64 (1), .int .i64 (1), .int .i64 (4)]] 130),
    (45, .row 6 [[.int .i64 (1), .int .i64 (3), .int .i64 (2), .int .i64 (1), .int .i64 (3), .int .i64 (1)]] 130),
    (0, .box [.osl 4 99] 126),
    (70, .row 6 [[.int .i64 (2), .int .i64 (2), .int .i64 (1), .int .i64 (1), .int .i64 (3), .int .i64 (2)]] 130),
    (36, .row 6 [[.int .i64 (1), .int .i64 (2), .int .i64 (3), .int .i64 (1), .int .i64 (2), .int .i64 (2)]] 130),
    (46, .row 6 [[.int .i64 (1), .int .i64 (3), .int .i64 (2), .int .i64 (2), .int .i64 (1), .int .i64 (2)]] 130),
    (54, .row 6 [[.int .i64 (2), .int .i64 (1), .int .i64 (1), .int .i64 (1), .int .i64 (3), .int .i64 (3)]] 130),
    (71, .row 6 [[.int .i64 (2), .int .i64 (2), .int .i64 (1), .int .i64 (2), .int .i64 (1), .int .i64 (3)]] 130),
    (11, .row 6 [[.int .i64 (1), .int .i64 (1), .int .i64 (2), .int .i64 (2), .int .i64 (1), .int .i64 (4)]] 130)],
   103⟩
theorem linear_patterns_1_f2_ok : FactOk Try.prog linear_patterns_1_f2 := FactOk.run ctx_ok 3000 20 (by kernel_rfl)
def linear_patterns_1_f3 : Fact := ⟨108, [.int .i64 (1), .int .i64 (7), .box 1 0, .box 0 0, .box 2 0],
   [(72, .row 6 [[.int .i64 (2), .int .i64 (2), .int .i64 (1), .int .i64 (2), .int .i64 (3), .int .i64 (1)]] 130),
    (87, .row 6 [[.int .i64 (3), .int .i64 (1), .int .i64 (1), .int .i64 (1), .int .i64 (2), .int .i64 (3)]] 130),
    (20, .row 6 [[.int .i64 (1), .int .i64 (1), .int .i64 (4), .int .i64 (1), .int .i64 (1), .int .i64 (3)]] 130),
    (55, .row 6 [[.int .i64 (2), .int .i64 (1), .int .i64 (1), .int .i64 (2), .int .i64 (1), .int .i64 (4)]] 130),
    (88, .row 6 [[.int .i64 (3), .int .i64 (1), .int .i64 (1), .int .i64 (1), .int .i64 (4), .int .i64 (1)]] 130),
    (73, .row 6 [[.int .i64 (2), .int .i64 (2), .int .i64 (1), .int .i64 (3), .int .i64 (1), .int .i64 (2)]] 130),
    (47, .row 6 [[.int .i64 (1), .int .i64 (3), .int .i64 (2), .int .i64 (3), .int .i64 (1), .int .i64 (1)]] 130),
    (9, .row 6 [[.int .i64 (1), .int .i64 (1), .int .i64 (1), .int .i64 (4), .int .i64 (2), .int .i64 (2)]] 130),
    (89, .row 6 [[.int .i64 (3), .int .i64 (1), .int .i64 (1), .int .i64 (2), .int .i64 (2), .int .i64 (2)]] 130),
    (56, .row 6 [[.int .i64 (2), .int .i64 (1), .int .i64 (1), .int .i64 (2), .int .i64 (3), .int .i64 (2)]] 130),
    (74, .row 6 [[.int .i64 (2), .int .i64 (2), .int .i64 (1), .int .i64 (4), .int .i64 (1), .int .i64 (1)]] 130),
    (37, .row 6 [[.int .i64 (1), .int .i64 (2), .int .i64 (3), .int .i64 (2), .int .i64 (2), .int .i64 (1)]] 130),
    (1, .box [.int .i64 (4), .int .i64 (4), .int .i64 (3), .int .i64 (1), .int .i64 (1), .int .i64 (1)] 130),
    (90, .row 6 [[.int .i64 (3), .int .i64 (1), .int .i64 (1), .int .i64 (3), .int .i64 (2), .int .i64 (1)]] 130),
    (28, .row 6 [[.int .i64 (1), .int .i64 (2), .int .i64 (1), .int .i64 (3), .int .i64 (2), .int .i64 (2)]] 130),
    (57, .row 6 [[.int .i64 (2), .int .i64 (1), .int .i64 (1), .int .i64 (3), .int .i64 (1), .int .i64 (3)]] 130),
    (75, .row 6 [[.int .i64 (2), .int .i64 (2), .int .i64 (2), .int .i64 (1), .int .i64 (2), .int .i64 (2)]] 130),
    (21, .row 6 [[.int .i64 (1), .int .i64 (1), .int .i64 (4), .int .i64 (1), .int .i64 (3), .int .i64 (1)]] 130),
    (48, .row 6 [[.int .i64 (1), .int .i64 (3), .int .i64 (3), .int .i64 (1), .int .i64 (2), .int .i64 (1)]] 130),
    (91, .row 6 [[.int .i64 (3), .int .i64 (1), .int .i64 (2), .int .i64 (1), .int .i64 (1), .int .i64 (3)]] 130),
    (58, .row 6 [[.int .i64 (2), .int .i64 (1), .int .i64 (1), .int .i64 (3), .int .i64 (3), .int .i64 (1)]] 130),
    (16, .row 6 [[.int .i64 (1), .int .i64 (1), .int .i64 (3), .int .i64 (1), .int .i64 (2), .int .i64 (3)]] 130),
    (92, .row 6 [[.int .i64 (3), .int .i64 (1), .int .i64 (2), .int .i64 (1), .int .i64 (3), .int .i64 (1)]] 130),
    (76, .row 6 [[.int .i64 (2), .int .i64 (2), .int .i64 (2), .int .i64 (2), .int .i64 (2), .int .i64 (1)]] 130),
    (12, .row 6 [[.int .i64 (1), .int .i64 (1), .int .i64 (2), .int .i64 (2), .int .i64 (3), .int .i64 (2)]] 130),
    (93, .row 6 [[.int .i64 (3), .int .i64 (1), .int .i64 (2), .int .i64 (2), .int .i64 (1), .int .i64 (2)]] 130),
    (59, .row 6 [[.int .i64 (2), .int .i64 (1), .int .i64 (1), .int .i64 (4), .int .i64 (1), .int .i64 (2)]] 130),
    (22, .row 6 [[.int .i64 (1), .int .i64 (1), .int .i64 (4), .int .i64 (2), .int .i64 (1), .int .i64 (2)]] 130),
    (38, .row 6 [[.int .i64 (1), .int .i64 (2), .int .i64 (4), .int .i64 (1), .int .i64 (1), .int .i64 (2)]] 130),
    (94, .row 6 [[.int .i64 (3), .int .i64 (1), .int .i64 (2), .int .i64 (3), .int .i64 (1), .int .i64 (1)]] 130),
    (29, .row 6 [[.int .i64 (1), .int .i64 (2), .int .i64 (1), .int .i64 (4), .int .i64 (2), .int .i64 (1)]] 130),
    (2, .box [.fn 108 [.box 1 0, .box 0 0, .box 2 0]] 167),
    (77, .row 6 [[.int .i64 (2), .int .i64 (2), .int .i64 (3), .int .i64 (1), .int .i64 (1), .int .i64 (2)]] 130),
    (49, .row 6 [[.int .i64 (1), .int .i64 (3), .int .i64 (4), .int .i64 (1), .int .i64 (1), .int .i64 (1)]] 130),
    (60, .row 6 [[.int .i64 (2), .int .i64 (1), .int .i64 (2), .int .i64 (1), .int .i64 (2), .int .i64 (3)]] 130),
    (95, .row 6 [[.int .i64 (3), .int .i64 (1), .int .i64 (3), .int .i64 (1), .int .i64 (2), .int .i64 (1)]] 130),
    (17, .row 6 [[.int .i64 (1), .int .i64 (1), .int .i64 (3), .int .i64 (1), .int .i64 (4), .int .i64 (1)]] 130),
    (78, .row 6 [[.int .i64 (2), .int .i64 (2), .int .i64 (3), .int .i64 (2), .int .i64 (1), .int .i64 (1)]] 130),
    (39, .row 6 [[.int .i64 (1), .int .i64 (2), .int .i64 (4), .int .i64 (2), .int .i64 (1), .int .i64 (1)]] 130),
    (61, .row 6 [[.int .i64 (2), .int .i64 (1), .int .i64 (2), .int .i64 (1), .int .i64 (4), .int .i64 (1)]] 130),
    (7, .row 6 [[.int .i64 (1), .int .i64 (1), .int .i64 (1), .int .i64 (3), .int .i64 (2), .int .i64 (3)]] 130),
    (30, .row 6 [[.int .i64 (1), .int .i64 (2), .int .i64 (2), .int .i64 (1), .int .i64 (1), .int .i64 (4)]] 130),
    (96, .row 6 [[.int .i64 (3), .int .i64 (1), .int .i64 (4), .int .i64 (1), .int .i64 (1), .int .i64 (1)]] 130),
    (23, .row 6 [[.int .i64 (1), .int .i64 (1), .int .i64 (4), .int .i64 (3), .int .i64 (1), .int .i64 (1)]] 130),
    (62, .row 6 [[.int .i64 (2), .int .i64 (1), .int .i64 (2), .int .i64 (2), .int .i64 (2), .int .i64 (2)]] 130),
    (5, .row 6 [[.int .i64 (1), .int .i64 (1), .int .i64 (1), .int .i64 (2), .int .i64 (2), .int .i64 (4)]] 130),
    (50, .row 6 [[.int .i64 (1), .int .i64 (4), .int .i64 (1), .int .i64 (1), .int .i64 (2), .int .i64 (2)]] 130),
    (31, .row 6 [[.int .i64 (1), .int .i64 (2), .int .i64 (2), .int .i64 (1), .int .i64 (3), .int .i64 (2)]] 130),
    (79, .row 6 [[.int .i64 (2), .int .i64 (3), .int .i64 (1), .int .i64 (1), .int .i64 (1), .int .i64 (3)]] 130),
    (97, .row 6 [[.int .i64 (3), .int .i64 (2), .int .i64 (1), .int .i64 (1), .int .i64 (2), .int .i64 (2)]] 130),
    (13, .row 6 [[.int .i64 (1), .int .i64 (1), .int .i64 (2), .int .i64 (3), .int .i64 (1), .int .i64 (3)]] 130),
    (63, .row 6 [[.int .i64 (2), .int .i64 (1), .int .i64 (2), .int .i64 (3), .int .i64 (2), .int .i64 (1)]] 130),
    (80, .row 6 [[.int .i64 (2), .int .i64 (3), .int .i64 (1), .int .i64 (1), .int .i64 (3), .int .i64 (1)]] 130),
    (40, .row 6 [[.int .i64 (1), .int .i64 (3), .int .i64 (1), .int .i64 (1), .int .i64 (2), .int .i64 (3)]] 130),
    (98, .row 6 [[.int .i64 (3), .int .i64 (2), .int .i64 (1), .int .i64 (2), .int .i64 (2), .int .i64 (1)]] 130),
    (18, .row 6 [[.int .i64 (1), .int .i64 (1), .int .i64 (3), .int .i64 (2), .int .i64 (2), .int .i64 (2)]] 130),
    (81, .row 6 [[.int .i64 (2), .int .i64 (3), .int .i64 (1), .int .i64 (2), .int .i64 (1), .int .i64 (2)]] 130),
    (51, .row 6 [[.int .i64 (1), .int .i64 (4), .int .i64 (1), .int .i64 (2), .int .i64 (2), .int .i64 (1)]] 130),
    (3, .row 6 [[.int .i64 (1), .int .i64 (1), .int .i64 (1), .int .i64 (1), .int .i64 (4), .int .i64 (3)]] 130),
    (41, .row 6 [[.int .i64 (1), .int .i64 (3), .int .i64 (1), .int .i64 (1), .int .i64 (4), .int .i64 (1)]] 130),
    (82, .row 6 [[.int .i64 (2), .int .i64 (3), .int .i64 (1), .int .i64 (3), .int .i64 (1), .int .i64 (1)]] 130),
    (99, .row 6 [[.int .i64 (3), .int .i64 (2), .int .i64 (2), .int .i64 (1), .int .i64 (1), .int .i64 (2)]] 130),
    (64, .row 6 [[.int .i64 (2), .int .i64 (1), .int .i64 (3), .int .i64 (1), .int .i64 (1), .int .i64 (3)]] 130),
    (32, .row 6 [[.int .i64 (1), .int .i64 (2), .int .i64 (2), .int .i64 (2), .int .i64 (1), .int .i64 (3)]] 130),
    (8, .row 6 [[.int .i64 (1), .int .i64 (1), .int .i64 (1), .int .i64 (3), .int .i64 (4), .int .i64 (1)]] 130),
    (100, .row 6 [[.int .i64 (3), .int .i64 (2), .int .i64 (2), .int .i64 (2), .int .i64 (1), .int .i64 (1)]] 130),
    (65, .row 6 [[.int .i64 (2), .int .i64 (1), .int .i64 (3), .int .i64 (1), .int .i64 (3), .int .i64 (1)]] 130),
    (14, .row 6 [[.int .i64 (1), .int .i64 (1), .int .i64 (2), .int .i64 (3), .int .i64 (3), .int .i64 (1)]] 130),
    (83, .row 6 [[.int .i64 (2), .int .i64 (3), .int .i64 (2), .int .i64 (1), .int .i64 (2), .int .i64 (1)]] 130),
    (42, .row 6 [[.int .i64 (1), .int .i64 (3), .int .i64 (1), .int .i64 (2), .int .i64 (2), .int .i64 (2)]] 130),
    (66, .row 6 [[.int .i64 (2), .int .i64 (1), .int .i64 (3), .int .i64 (2), .int .i64 (1), .int .i64 (2)]] 130),
    (52, .row 6 [[.int .i64 (1), .int .i64 (4), .int .i64 (2), .int .i64 (1), .int .i64 (1), .int .i64 (2)]] 130),
    (33, .row 6 [[.int .i64 (1), .int .i64 (2), .int .i64 (2), .int .i64 (2), .int .i64 (3), .int .i64 (1)]] 130),
    (24, .row 6 [[.int .i64 (1), .int .i64 (2), .int .i64 (1), .int .i64 (1), .int .i64 (2), .int .i64 (4)]] 130),
    (67, .row 6 [[.int .i64 (2), .int .i64 (1), .int .i64 (3), .int .i64 (3), .int .i64 (1), .int .i64 (1)]] 130),
    (84, .row 6 [[.int .i64 (2), .int .i64 (3), .int .i64 (3), .int .i64 (1), .int .i64 (1), .int .i64 (1)]] 130),
    (10, .row 6 [[.int .i64 (1), .int .i64 (1), .int .i64 (2), .int .i64 (1), .int .i64 (3), .int .i64 (3)]] 130),
    (53, .row 6 [[.int .i64 (1), .int .i64 (4), .int .i64 (2), .int .i64 (2), .int .i64 (1), .int .i64 (1)]] 130),
    (101, .row 6 [[.int .i64 (3), .int .i64 (3), .int .i64 (1), .int .i64 (1), .int .i64 (2), .int .i64 (1)]] 130),
    (34, .row 6 [[.int .i64 (1), .int .i64 (2), .int .i64 (2), .int .i64 (3), .int .i64 (1), .int .i64 (2)]] 130),
    (43, .row 6 [[.int .i64 (1), .int .i64 (3), .int .i64 (1), .int .i64 (3), .int .i64 (2), .int .i64 (1)]] 130),
    (19, .row 6 [[.int .i64 (1), .int .i64 (1), .int .i64 (3), .int .i64 (3), .int .i64 (2), .int .i64 (1)]] 130),
    (68, .row 6 [[.int .i64 (2), .int .i64 (1), .int .i64 (4), .int .i64 (1), .int .i64 (2), .int .i64 (1)]] 130),
    (25, .row 6 [[.int .i64 (1), .int .i64 (2), .int .i64 (1), .int .i64 (1), .int .i64 (4), .int .i64 (2)]] 130),
    (85, .row 6 [[.int .i64 (2), .int .i64 (4), .int .i64 (1), .int .i64 (1), .int .i64 (1), .int .i64 (2)]] 130),
    (102, .row 6 [[.int .i64 (3), .int .i64 (3), .int .i64 (2), .int .i64 (1), .int .i64 (1), .int .i64 (1)]] 130),
    (4, .row 6 [[.int .i64 (1), .int .i64 (1), .int .i64 (1), .int .i64 (1), .int .i64 (4), .int .i64 (3)], [.int .i64 (1), .int .i64 (1), .int .i64 (1), .int .i64 (2), .int .i64 (2), .int .i64 (4)], [.int .i64 (1), .int .i64 (1), .int .i64 (1), .int .i64 (2), .int .i64 (4), .int .i64 (2)], [.int .i64 (1), .int .i64 (1), .int .i64 (1), .int .i64 (3), .int .i64 (2), .int .i64 (3)], [.int .i64 (1), .int .i64 (1), .int .i64 (1), .int .i64 (3), .int .i64 (4), .int .i64 (1)], [.int .i64 (1), .int .i64 (1), .int .i64 (1), .int .i64 (4), .int .i64 (2), .int .i64 (2)], [.int .i64 (1), .int .i64 (1), .int .i64 (2), .int .i64 (1), .int .i64 (3), .int .i64 (3)], [.int .i64 (1), .int .i64 (1), .int .i64 (2), .int .i64 (2), .int .i64 (1), .int .i64 (4)], [.int .i64 (1), .int .i64 (1), .int .i64 (2), .int .i64 (2), .int .i64 (3), .int .i64 (2)], [.int .i64 (1), .int .i64 (1), .int .i64 (2), .int .i64 (3), .int .i64 (1), .int .i64 (3)], [.int .i64 (1), .int .i64 (1), .int .i64 (2), .int .i64 (3), .int .i64 (3), .int .i64 (1)], [.int .i64 (1), .int .i64 (1), .int .i64 (2), .int .i64 (4), .int .i64 (1), .int .i64 (2)], [.int .i64 (1), .int .i64 (1), .int .i64 (3), .int .i64 (1), .int .i64 (2), .int .i64 (3)], [.int .i64 (1), .int .i64 (1), .int .i64 (3), .int .i64 (1), .int .i64 (4), .int .i64 (1)], [.int .i64 (1), .int .i64 (1), .int .i64 (3), .int .i64 (2), .int .i64 (2), .int .i64 (2)], [.int .i64 (1), .int .i64 (1), .int .i64 (3), .int .i64 (3), .int .i64 (2), .int .i64 (1)], [.int .i64 (1), .int .i64 (1), .int .i64 (4), .int .i64 (1), .int .i64 (1), .int .i64 (3)], [.int .i64 (1), .int .i64 (1), .int .i64 (4), .int .i64 (1), .int .i64 (3), .int .i64 (1)], [.int .i64 (1), .int .i64 (1), .int .i64 (4), .int .i64 (2), .int .i64 (1), .int .i64 (2)], [.int .i64 (1), .int .i64 (1), .int .i64 (4), .int .i64 (3), .int .i64 (1), .int .i64 (1)], [.int .i64 (1), .int .i64 (2), .int .i64 (1), .int .i64 (1), .int .i64 (2), .int .i64 (4)], [.int .i64 (1), .int .i64 (2), .int .i64 (1), .int .i64 (1), .int .i64 (4), .int .i64 (2)], [.int .i64 (1), .int .i64 (2), .int .i64 (1), .int .i64 (2), .int .i64 (2), .int .i64 (3)], [.int .i64 (1), .int .i64 (2), .int .i64 (1), .int .i64 (2), .int .i64 (4), .int .i64 (1)], [.int .i64 (1), .int .i64 (2), .int .i64 (1), .int .i64 (3), .int .i64 (2), .int .i64 (2)], [.int .i64 (1), .int .i64 (2), .int .i64 (1), .int .i64 (4), .int .i64 (2), .int .i64 (1)], [.int .i64 (1), .int .i64 (2), .int .i64 (2), .int .i64 (1), .int .i64 (1), .int .i64 (4)], [.int .i64 (1), .int .i64 (2), .int .i64 (2), .int .i64 (1), .int .i64 (3), .int .i64 (2)], [.int .i64 (1), .int .i64 (2), .int .i64 (2), .int .i64 (2), .int .i64 (1), .int .i64 (3)], [.int .i64 (1), .int .i64 (2), .int .i64 (2), .int .i64 (2), .int .i64 (3), .int .i64 (1)], [.int .i64 (1), .int .i64 (2), .int .i64 (2), .int .i64 (3), .int .i64 (1), .int .i64 (2)], [.int .i64 (1), .int .i64 (2), .int .i64 (2), .int .i64 (4), .int .i64 (1), .int .i64 (1)], [.int .i64 (1), .int .i64 (2), .int .i64 (3), .int .i64 (1), .int .i64 (2), .int .i64 (2)], [.int .i64 (1), .int .i64 (2), .int .i64 (3), .int .i64 (2), .int .i64 (2), .int .i64 (1)], [.int .i64 (1), .int .i64 (2), .int .i64 (4), .int .i64 (1), .int .i64 (1), .int .i64 (2)], [.int .i64 (1), .int .i64 (2), .int .i64 (4), .int .i64 (2), .int .i64 (1), .int .i64 (1)], [.int .i64 (1), .int .i64 (3), .int .i64 (1), .int .i64 (1), .int .i64 (2), .int .i64 (3)], [.int .i64 (1), .int .i64 (3), .int .i64 (1), .int .i64 (1), .int .i64 (4), .int .i64 (1)], [.int .i64 (1), .int .i64 (3), .int .i64 (1), .int .i64 (2), .int .i64 (2), .int .i64 (2)], [.int .i64 (1), .int .i64 (3), .int .i64 (1), .int .i64 (3), .int .i64 (2), .int .i64 (1)], [.int .i64 (1), .int .i64 (3), .int .i64 (2), .int .i64 (1), .int .i64 (1), .int .i64 (3)], [.int .i64 (1), .int .i64 (3), .int .i64 (2), .int .i64 (1), .int .i64 (3), .int .i64 (1)], [.int .i64 (1), .int .i64 (3), .int .i64 (2), .int .i64 (2), .int .i64 (1), .int .i64 (2)], [.int .i64 (1), .int .i64 (3), .int .i64 (2), .int .i64 (3), .int .i64 (1), .int .i64 (1)], [.int .i64 (1), .int .i64 (3), .int .i64 (3), .int .i64 (1), .int .i64 (2), .int .i64 (1)], [.int .i64 (1), .int .i64 (3), .int .i64 (4), .int .i64 (1), .int .i64 (1), .int .i64 (1)], [.int .i64 (1), .int .i64 (4), .int .i64 (1), .int .i64 (1), .int .i64 (2), .int .i64 (2)], [.int .i64 (1), .int .i64 (4), .int .i64 (1), .int .i64 (2), .int .i64 (2), .int .i64 (1)], [.int .i64 (1), .int .i64 (4), .int .i64 (2), .int .i64 (1), .int .i64 (1), .int .i64 (2)], [.int .i64 (1), .int .i64 (4), .int .i64 (2), .int .i64 (2), .int .i64 (1), .int .i64 (1)], [.int .i64 (2), .int .i64 (1), .int .i64 (1), .int .i64 (1), .int .i64 (3), .int .i64 (3)], [.int .i64 (2), .int .i64 (1), .int .i64 (1), .int .i64 (2), .int .i64 (1), .int .i64 (4)], [.int .i64 (2), .int .i64 (1), .int .i64 (1), .int .i64 (2), .int .i64 (3), .int .i64 (2)], [.int .i64 (2), .int .i64 (1), .int .i64 (1), .int .i64 (3), .int .i64 (1), .int .i64 (3)], [.int .i64 (2), .int .i64 (1), .int .i64 (1), .int .i64 (3), .int .i64 (3), .int .i64 (1)], [.int .i64 (2), .int .i64 (1), .int .i64 (1), .int .i64 (4), .int .i64 (1), .int .i64 (2)], [.int .i64 (2), .int .i64 (1), .int .i64 (2), .int .i64 (1), .int .i64 (2), .int .i64 (3)], [.int .i64 (2), .int .i64 (1), .int .i64 (2), .int .i64 (1), .int .i64 (4), .int .i64 (1)], [.int .i64 (2), .int .i64 (1), .int .i64 (2), .int .i64 (2), .int .i64 (2), .int .i64 (2)], [.int .i64 (2), .int .i64 (1), .int .i64 (2), .int .i64 (3), .int .i64 (2), .int .i64 (1)], [.int .i64 (2), .int .i64 (1), .int .i64 (3), .int .i64 (1), .int .i64 (1), .int .i64 (3)], [.int .i64 (2), .int .i64 (1), .int .i64 (3), .int .i64 (1), .int .i64 (3), .int .i64 (1)], [.int .i64 (2), .int .i64 (1), .int .i64 (3), .int .i64 (2), .int .i64 (1), .int .i64 (2)], [.int .i64 (2), .int .i64 (1), .int .i64 (3), .int .i64 (3), .int .i64 (1), .int .i64 (1)], [.int .i64 (2), .int .i64 (1), .int .i64 (4), .int .i64 (1), .int .i64 (2), .int .i64 (1)], [.int .i64 (2), .int .i64 (2), .int .i64 (1), .int .i64 (1), .int .i64 (1), .int .i64 (4)], [.int .i64 (2), .int .i64 (2), .int .i64 (1), .int .i64 (1), .int .i64 (3), .int .i64 (2)], [.int .i64 (2), .int .i64 (2), .int .i64 (1), .int .i64 (2), .int .i64 (1), .int .i64 (3)], [.int .i64 (2), .int .i64 (2), .int .i64 (1), .int .i64 (2), .int .i64 (3), .int .i64 (1)], [.int .i64 (2), .int .i64 (2), .int .i64 (1), .int .i64 (3), .int .i64 (1), .int .i64 (2)], [.int .i64 (2), .int .i64 (2), .int .i64 (1), .int .i64 (4), .int .i64 (1), .int .i64 (1)], [.int .i64 (2), .int .i64 (2), .int .i64 (2), .int .i64 (1), .int .i64 (2), .int .i64 (2)], [.int .i64 (2), .int .i64 (2), .int .i64 (2), .int .i64 (2), .int .i64 (2), .int .i64 (1)], [.int .i64 (2), .int .i64 (2), .int .i64 (3), .int .i64 (1), .int .i64 (1), .int .i64 (2)], [.int .i64 (2), .int .i64 (2), .int .i64 (3), .int .i64 (2), .int .i64 (1), .int .i64 (1)], [.int .i64 (2), .int .i64 (3), .int .i64 (1), .int .i64 (1), .int .i64 (1), .int .i64 (3)], [.int .i64 (2), .int .i64 (3), .int .i64 (1), .int .i64 (1), .int .i64 (3), .int .i64 (1)], [.int .i64 (2), .int .i64 (3), .int .i64 (1), .int .i64 (2), .int .i64 (1), .int .i64 (2)], [.int .i64 (2), .int .i64 (3), .int .i64 (1), .int .i64 (3), .int .i64 (1), .int .i64 (1)], [.int .i64 (2), .int .i64 (3), .int .i64 (2), .int .i64 (1), .int .i64 (2), .int .i64 (1)], [.int .i64 (2), .int .i64 (3), .int .i64 (3), .int .i64 (1), .int .i64 (1), .int .i64 (1)], [.int .i64 (2), .int .i64 (4), .int .i64 (1), .int .i64 (1), .int .i64 (1), .int .i64 (2)], [.int .i64 (2), .int .i64 (4), .int .i64 (1), .int .i64 (2), .int .i64 (1), .int .i64 (1)], [.int .i64 (3), .int .i64 (1), .int .i64 (1), .int .i64 (1), .int .i64 (2), .int .i64 (3)], [.int .i64 (3), .int .i64 (1), .int .i64 (1), .int .i64 (1), .int .i64 (4), .int .i64 (1)], [.int .i64 (3), .int .i64 (1), .int .i64 (1), .int .i64 (2), .int .i64 (2), .int .i64 (2)], [.int .i64 (3), .int .i64 (1), .int .i64 (1), .int .i64 (3), .int .i64 (2), .int .i64 (1)], [.int .i64 (3), .int .i64 (1), .int .i64 (2), .int .i64 (1), .int .i64 (1), .int .i64 (3)], [.int .i64 (3), .int .i64 (1), .int .i64 (2), .int .i64 (1), .int .i64 (3), .int .i64 (1)], [.int .i64 (3), .int .i64 (1), .int .i64 (2), .int .i64 (2), .int .i64 (1), .int .i64 (2)], [.int .i64 (3), .int .i64 (1), .int .i64 (2), .int .i64 (3), .int .i64 (1), .int .i64 (1)], [.int .i64 (3), .int .i64 (1), .int .i64 (3), .int .i64 (1), .int .i64 (2), .int .i64 (1)], [.int .i64 (3), .int .i64 (1), .int .i64 (4), .int .i64 (1), .int .i64 (1), .int .i64 (1)], [.int .i64 (3), .int .i64 (2), .int .i64 (1), .int .i64 (1), .int .i64 (2), .int .i64 (2)], [.int .i64 (3), .int .i64 (2), .int .i64 (1), .int .i64 (2), .int .i64 (2), .int .i64 (1)], [.int .i64 (3), .int .i64 (2), .int .i64 (2), .int .i64 (1), .int .i64 (1), .int .i64 (2)], [.int .i64 (3), .int .i64 (2), .int .i64 (2), .int .i64 (2), .int .i64 (1), .int .i64 (1)], [.int .i64 (3), .int .i64 (3), .int .i64 (1), .int .i64 (1), .int .i64 (2), .int .i64 (1)], [.int .i64 (3), .int .i64 (3), .int .i64 (2), .int .i64 (1), .int .i64 (1), .int .i64 (1)]] 130),
    (35, .row 6 [[.int .i64 (1), .int .i64 (2), .int .i64 (2), .int .i64 (4), .int .i64 (1), .int .i64 (1)]] 130),
    (15, .row 6 [[.int .i64 (1), .int .i64 (1), .int .i64 (2), .int .i64 (4), .int .i64 (1), .int .i64 (2)]] 130),
    (86, .row 6 [[.int .i64 (2), .int .i64 (4), .int .i64 (1), .int .i64 (2), .int .i64 (1), .int .i64 (1)]] 130),
    (44, .row 6 [[.int .i64 (1), .int .i64 (3), .int .i64 (2), .int .i64 (1), .int .i64 (1), .int .i64 (3)]] 130),
    (6, .row 6 [[.int .i64 (1), .int .i64 (1), .int .i64 (1), .int .i64 (2), .int .i64 (4), .int .i64 (2)]] 130),
    (26, .row 6 [[.int .i64 (1), .int .i64 (2), .int .i64 (1), .int .i64 (2), .int .i64 (2), .int .i64 (3)]] 130),
    (69, .row 6 [[.int .i64 (2), .int .i64 (2), .int .i64 (1), .int .i64 (1), .int .i64 (1), .int .i64 (4)]] 130),
    (45, .row 6 [[.int .i64 (1), .int .i64 (3), .int .i64 (2), .int .i64 (1), .int .i64 (3), .int .i64 (1)]] 130),
    (0, .box [.osl 4 99] 126),
    (70, .row 6 [[.int .i64 (2), .int .i64 (2), .int .i64 (1), .int .i64 (1), .int .i64 (3), .int .i64 (2)]] 130),
    (36, .row 6 [[.int .i64 (1), .int .i64 (2), .int .i64 (3), .int .i64 (1), .int .i64 (2), .int .i64 (2)]] 130),
    (46, .row 6 [[.int .i64 (1), .int .i64 (3), .int .i64 (2), .int .i64 (2), .int .i64 (1), .int .i64 (2)]] 130),
    (54, .row 6 [[.int .i64 (2), .int .i64 (1), .int .i64 (1), .int .i64 (1), .int .i64 (3), .int .i64 (3)]] 130),
    (71, .row 6 [[.int .i64 (2), .int .i64 (2), .int .i64 (1), .int .i64 (2), .int .i64 (1), .int .i64 (3)]] 130),
    (11, .row 6 [[.int .i64 (1), .int .i64 (1), .int .i64 (2), .int .i64 (2), .int .i64 (1), .int .i64 (4)]] 130),
    (27, .row 6 [[.int .i64 (1), .int .i64 (2), .int .i64 (1), .int .i64 (2), .int .i64 (4), .int .i64 (1)]] 130)],
   103, .tup [],
   [(80, .row 6 [[.int .i64 (2), .int .i64 (3), .int .i64 (1), .int .i64 (1), .int .i64 (3), .int .i64 (1)]] 130),
    (40, .row 6 [[.int .i64 (1), .int .i64 (3), .int .i64 (1), .int .i64 (1), .int .i64 (2), .int .i64 (3)]] 130),
    (98, .row 6 [[.int .i64 (3), .int .i64 (2), .int .i64 (1), .int .i64 (2), .int .i64 (2), .int .i64 (1)]] 130),
    (18, .row 6 [[.int .i64 (1), .int .i64 (1), .int .i64 (3), .int .i64 (2), .int .i64 (2), .int .i64 (2)]] 130),
    (81, .row 6 [[.int .i64 (2), .int .i64 (3), .int .i64 (1), .int .i64 (2), .int .i64 (1), .int .i64 (2)]] 130),
    (51, .row 6 [[.int .i64 (1), .int .i64 (4), .int .i64 (1), .int .i64 (2), .int .i64 (2), .int .i64 (1)]] 130),
    (3, .row 6 [[.int .i64 (1), .int .i64 (1), .int .i64 (1), .int .i64 (1), .int .i64 (4), .int .i64 (3)]] 130),
    (41, .row 6 [[.int .i64 (1), .int .i64 (3), .int .i64 (1), .int .i64 (1), .int .i64 (4), .int .i64 (1)]] 130),
    (82, .row 6 [[.int .i64 (2), .int .i64 (3), .int .i64 (1), .int .i64 (3), .int .i64 (1), .int .i64 (1)]] 130),
    (99, .row 6 [[.int .i64 (3), .int .i64 (2), .int .i64 (2), .int .i64 (1), .int .i64 (1), .int .i64 (2)]] 130),
    (64, .row 6 [[.int .i64 (2), .int .i64 (1), .int .i64 (3), .int .i64 (1), .int .i64 (1), .int .i64 (3)]] 130),
    (32, .row 6 [[.int .i64 (1), .int .i64 (2), .int .i64 (2), .int .i64 (2), .int .i64 (1), .int .i64 (3)]] 130),
    (8, .row 6 [[.int .i64 (1), .int .i64 (1), .int .i64 (1), .int .i64 (3), .int .i64 (4), .int .i64 (1)]] 130),
    (100, .row 6 [[.int .i64 (3), .int .i64 (2), .int .i64 (2), .int .i64 (2), .int .i64 (1), .int .i64 (1)]] 130),
    (65, .row 6 [[.int .i64 (2), .int .i64 (1), .int .i64 (3), .int .i64 (1), .int .i64 (3), .int .i64 (1)]] 130),
    (14, .row 6 [[.int .i64 (1), .int .i64 (1), .int .i64 (2), .int .i64 (3), .int .i64 (3), .int .i64 (1)]] 130),
    (83, .row 6 [[.int .i64 (2), .int .i64 (3), .int .i64 (2), .int .i64 (1), .int .i64 (2), .int .i64 (1)]] 130),
    (42, .row 6 [[.int .i64 (1), .int .i64 (3), .int .i64 (1), .int .i64 (2), .int .i64 (2), .int .i64 (2)]] 130),
    (66, .row 6 [[.int .i64 (2), .int .i64 (1), .int .i64 (3), .int .i64 (2), .int .i64 (1), .int .i64 (2)]] 130),
    (52, .row 6 [[.int .i64 (1), .int .i64 (4), .int .i64 (2), .int .i64 (1), .int .i64 (1), .int .i64 (2)]] 130),
    (33, .row 6 [[.int .i64 (1), .int .i64 (2), .int .i64 (2), .int .i64 (2), .int .i64 (3), .int .i64 (1)]] 130),
    (24, .row 6 [[.int .i64 (1), .int .i64 (2), .int .i64 (1), .int .i64 (1), .int .i64 (2), .int .i64 (4)]] 130),
    (67, .row 6 [[.int .i64 (2), .int .i64 (1), .int .i64 (3), .int .i64 (3), .int .i64 (1), .int .i64 (1)]] 130),
    (84, .row 6 [[.int .i64 (2), .int .i64 (3), .int .i64 (3), .int .i64 (1), .int .i64 (1), .int .i64 (1)]] 130),
    (10, .row 6 [[.int .i64 (1), .int .i64 (1), .int .i64 (2), .int .i64 (1), .int .i64 (3), .int .i64 (3)]] 130),
    (53, .row 6 [[.int .i64 (1), .int .i64 (4), .int .i64 (2), .int .i64 (2), .int .i64 (1), .int .i64 (1)]] 130),
    (101, .row 6 [[.int .i64 (3), .int .i64 (3), .int .i64 (1), .int .i64 (1), .int .i64 (2), .int .i64 (1)]] 130),
    (34, .row 6 [[.int .i64 (1), .int .i64 (2), .int .i64 (2), .int .i64 (3), .int .i64 (1), .int .i64 (2)]] 130),
    (43, .row 6 [[.int .i64 (1), .int .i64 (3), .int .i64 (1), .int .i64 (3), .int .i64 (2), .int .i64 (1)]] 130),
    (19, .row 6 [[.int .i64 (1), .int .i64 (1), .int .i64 (3), .int .i64 (3), .int .i64 (2), .int .i64 (1)]] 130),
    (68, .row 6 [[.int .i64 (2), .int .i64 (1), .int .i64 (4), .int .i64 (1), .int .i64 (2), .int .i64 (1)]] 130),
    (25, .row 6 [[.int .i64 (1), .int .i64 (2), .int .i64 (1), .int .i64 (1), .int .i64 (4), .int .i64 (2)]] 130),
    (85, .row 6 [[.int .i64 (2), .int .i64 (4), .int .i64 (1), .int .i64 (1), .int .i64 (1), .int .i64 (2)]] 130),
    (102, .row 6 [[.int .i64 (3), .int .i64 (3), .int .i64 (2), .int .i64 (1), .int .i64 (1), .int .i64 (1)]] 130),
    (4, .row 6 [[.int .i64 (1), .int .i64 (1), .int .i64 (1), .int .i64 (1), .int .i64 (4), .int .i64 (3)], [.int .i64 (1), .int .i64 (1), .int .i64 (1), .int .i64 (2), .int .i64 (2), .int .i64 (4)], [.int .i64 (1), .int .i64 (1), .int .i64 (1), .int .i64 (2), .int .i64 (4), .int .i64 (2)], [.int .i64 (1), .int .i64 (1), .int .i64 (1), .int .i64 (3), .int .i64 (2), .int .i64 (3)], [.int .i64 (1), .int .i64 (1), .int .i64 (1), .int .i64 (3), .int .i64 (4), .int .i64 (1)], [.int .i64 (1), .int .i64 (1), .int .i64 (1), .int .i64 (4), .int .i64 (2), .int .i64 (2)], [.int .i64 (1), .int .i64 (1), .int .i64 (2), .int .i64 (1), .int .i64 (3), .int .i64 (3)], [.int .i64 (1), .int .i64 (1), .int .i64 (2), .int .i64 (2), .int .i64 (1), .int .i64 (4)], [.int .i64 (1), .int .i64 (1), .int .i64 (2), .int .i64 (2), .int .i64 (3), .int .i64 (2)], [.int .i64 (1), .int .i64 (1), .int .i64 (2), .int .i64 (3), .int .i64 (1), .int .i64 (3)], [.int .i64 (1), .int .i64 (1), .int .i64 (2), .int .i64 (3), .int .i64 (3), .int .i64 (1)], [.int .i64 (1), .int .i64 (1), .int .i64 (2), .int .i64 (4), .int .i64 (1), .int .i64 (2)], [.int .i64 (1), .int .i64 (1), .int .i64 (3), .int .i64 (1), .int .i64 (2), .int .i64 (3)], [.int .i64 (1), .int .i64 (1), .int .i64 (3), .int .i64 (1), .int .i64 (4), .int .i64 (1)], [.int .i64 (1), .int .i64 (1), .int .i64 (3), .int .i64 (2), .int .i64 (2), .int .i64 (2)], [.int .i64 (1), .int .i64 (1), .int .i64 (3), .int .i64 (3), .int .i64 (2), .int .i64 (1)], [.int .i64 (1), .int .i64 (1), .int .i64 (4), .int .i64 (1), .int .i64 (1), .int .i64 (3)], [.int .i64 (1), .int .i64 (1), .int .i64 (4), .int .i64 (1), .int .i64 (3), .int .i64 (1)], [.int .i64 (1), .int .i64 (1), .int .i64 (4), .int .i64 (2), .int .i64 (1), .int .i64 (2)], [.int .i64 (1), .int .i64 (1), .int .i64 (4), .int .i64 (3), .int .i64 (1), .int .i64 (1)], [.int .i64 (1), .int .i64 (2), .int .i64 (1), .int .i64 (1), .int .i64 (2), .int .i64 (4)], [.int .i64 (1), .int .i64 (2), .int .i64 (1), .int .i64 (1), .int .i64 (4), .int .i64 (2)], [.int .i64 (1), .int .i64 (2), .int .i64 (1), .int .i64 (2), .int .i64 (2), .int .i64 (3)], [.int .i64 (1), .int .i64 (2), .int .i64 (1), .int .i64 (2), .int .i64 (4), .int .i64 (1)], [.int .i64 (1), .int .i64 (2), .int .i64 (1), .int .i64 (3), .int .i64 (2), .int .i64 (2)], [.int .i64 (1), .int .i64 (2), .int .i64 (1), .int .i64 (4), .int .i64 (2), .int .i64 (1)], [.int .i64 (1), .int .i64 (2), .int .i64 (2), .int .i64 (1), .int .i64 (1), .int .i64 (4)], [.int .i64 (1), .int .i64 (2), .int .i64 (2), .int .i64 (1), .int .i64 (3), .int .i64 (2)], [.int .i64 (1), .int .i64 (2), .int .i64 (2), .int .i64 (2), .int .i64 (1), .int .i64 (3)], [.int .i64 (1), .int .i64 (2), .int .i64 (2), .int .i64 (2), .int .i64 (3), .int .i64 (1)], [.int .i64 (1), .int .i64 (2), .int .i64 (2), .int .i64 (3), .int .i64 (1), .int .i64 (2)], [.int .i64 (1), .int .i64 (2), .int .i64 (2), .int .i64 (4), .int .i64 (1), .int .i64 (1)], [.int .i64 (1), .int .i64 (2), .int .i64 (3), .int .i64 (1), .int .i64 (2), .int .i64 (2)], [.int .i64 (1), .int .i64 (2), .int .i64 (3), .int .i64 (2), .int .i64 (2), .int .i64 (1)], [.int .i64 (1), .int .i64 (2), .int .i64 (4), .int .i64 (1), .int .i64 (1), .int .i64 (2)], [.int .i64 (1), .int .i64 (2), .int .i64 (4), .int .i64 (2), .int .i64 (1), .int .i64 (1)], [.int .i64 (1), .int .i64 (3), .int .i64 (1), .int .i64 (1), .int .i64 (2), .int .i64 (3)], [.int .i64 (1), .int .i64 (3), .int .i64 (1), .int .i64 (1), .int .i64 (4), .int .i64 (1)], [.int .i64 (1), .int .i64 (3), .int .i64 (1), .int .i64 (2), .int .i64 (2), .int .i64 (2)], [.int .i64 (1), .int .i64 (3), .int .i64 (1), .int .i64 (3), .int .i64 (2), .int .i64 (1)], [.int .i64 (1), .int .i64 (3), .int .i64 (2), .int .i64 (1), .int .i64 (1), .int .i64 (3)], [.int .i64 (1), .int .i64 (3), .int .i64 (2), .int .i64 (1), .int .i64 (3), .int .i64 (1)], [.int .i64 (1), .int .i64 (3), .int .i64 (2), .int .i64 (2), .int .i64 (1), .int .i64 (2)], [.int .i64 (1), .int .i64 (3), .int .i64 (2), .int .i64 (3), .int .i64 (1), .int .i64 (1)], [.int .i64 (1), .int .i64 (3), .int .i64 (3), .int .i64 (1), .int .i64 (2), .int .i64 (1)], [.int .i64 (1), .int .i64 (3), .int .i64 (4), .int .i64 (1), .int .i64 (1), .int .i64 (1)], [.int .i64 (1), .int .i64 (4), .int .i64 (1), .int .i64 (1), .int .i64 (2), .int .i64 (2)], [.int .i64 (1), .int .i64 (4), .int .i64 (1), .int .i64 (2), .int .i64 (2), .int .i64 (1)], [.int .i64 (1), .int .i64 (4), .int .i64 (2), .int .i64 (1), .int .i64 (1), .int .i64 (2)], [.int .i64 (1), .int .i64 (4), .int .i64 (2), .int .i64 (2), .int .i64 (1), .int .i64 (1)], [.int .i64 (2), .int .i64 (1), .int .i64 (1), .int .i64 (1), .int .i64 (3), .int .i64 (3)], [.int .i64 (2), .int .i64 (1), .int .i64 (1), .int .i64 (2), .int .i64 (1), .int .i64 (4)], [.int .i64 (2), .int .i64 (1), .int .i64 (1), .int .i64 (2), .int .i64 (3), .int .i64 (2)], [.int .i64 (2), .int .i64 (1), .int .i64 (1), .int .i64 (3), .int .i64 (1), .int .i64 (3)], [.int .i64 (2), .int .i64 (1), .int .i64 (1), .int .i64 (3), .int .i64 (3), .int .i64 (1)], [.int .i64 (2), .int .i64 (1), .int .i64 (1), .int .i64 (4), .int .i64 (1), .int .i64 (2)], [.int .i64 (2), .int .i64 (1), .int .i64 (2), .int .i64 (1), .int .i64 (2), .int .i64 (3)], [.int .i64 (2), .int .i64 (1), .int .i64 (2), .int .i64 (1), .int .i64 (4), .int .i64 (1)], [.int .i64 (2), .int .i64 (1), .int .i64 (2), .int .i64 (2), .int .i64 (2), .int .i64 (2)], [.int .i64 (2), .int .i64 (1), .int .i64 (2), .int .i64 (3), .int .i64 (2), .int .i64 (1)], [.int .i64 (2), .int .i64 (1), .int .i64 (3), .int .i64 (1), .int .i64 (1), .int .i64 (3)], [.int .i64 (2), .int .i64 (1), .int .i64 (3), .int .i64 (1), .int .i64 (3), .int .i64 (1)], [.int .i64 (2), .int .i64 (1), .int .i64 (3), .int .i64 (2), .int .i64 (1), .int .i64 (2)], [.int .i64 (2), .int .i64 (1), .int .i64 (3), .int .i64 (3), .int .i64 (1), .int .i64 (1)], [.int .i64 (2), .int .i64 (1), .int .i64 (4), .int .i64 (1), .int .i64 (2), .int .i64 (1)], [.int .i64 (2), .int .i64 (2), .int .i64 (1), .int .i64 (1), .int .i64 (1), .int .i64 (4)], [.int .i64 (2), .int .i64 (2), .int .i64 (1), .int .i64 (1), .int .i64 (3), .int .i64 (2)], [.int .i64 (2), .int .i64 (2), .int .i64 (1), .int .i64 (2), .int .i64 (1), .int .i64 (3)], [.int .i64 (2), .int .i64 (2), .int .i64 (1), .int .i64 (2), .int .i64 (3), .int .i64 (1)], [.int .i64 (2), .int .i64 (2), .int .i64 (1), .int .i64 (3), .int .i64 (1), .int .i64 (2)], [.int .i64 (2), .int .i64 (2), .int .i64 (1), .int .i64 (4), .int .i64 (1), .int .i64 (1)], [.int .i64 (2), .int .i64 (2), .int .i64 (2), .int .i64 (1), .int .i64 (2), .int .i64 (2)], [.int .i64 (2), .int .i64 (2), .int .i64 (2), .int .i64 (2), .int .i64 (2), .int .i64 (1)], [.int .i64 (2), .int .i64 (2), .int .i64 (3), .int .i64 (1), .int .i64 (1), .int .i64 (2)], [.int .i64 (2), .int .i64 (2), .int .i64 (3), .int .i64 (2), .int .i64 (1), .int .i64 (1)], [.int .i64 (2), .int .i64 (3), .int .i64 (1), .int .i64 (1), .int .i64 (1), .int .i64 (3)], [.int .i64 (2), .int .i64 (3), .int .i64 (1), .int .i64 (1), .int .i64 (3), .int .i64 (1)], [.int .i64 (2), .int .i64 (3), .int .i64 (1), .int .i64 (2), .int .i64 (1), .int .i64 (2)], [.int .i64 (2), .int .i64 (3), .int .i64 (1), .int .i64 (3), .int .i64 (1), .int .i64 (1)], [.int .i64 (2), .int .i64 (3), .int .i64 (2), .int .i64 (1), .int .i64 (2), .int .i64 (1)], [.int .i64 (2), .int .i64 (3), .int .i64 (3), .int .i64 (1), .int .i64 (1), .int .i64 (1)], [.int .i64 (2), .int .i64 (4), .int .i64 (1), .int .i64 (1), .int .i64 (1), .int .i64 (2)], [.int .i64 (2), .int .i64 (4), .int .i64 (1), .int .i64 (2), .int .i64 (1), .int .i64 (1)], [.int .i64 (3), .int .i64 (1), .int .i64 (1), .int .i64 (1), .int .i64 (2), .int .i64 (3)], [.int .i64 (3), .int .i64 (1), .int .i64 (1), .int .i64 (1), .int .i64 (4), .int .i64 (1)], [.int .i64 (3), .int .i64 (1), .int .i64 (1), .int .i64 (2), .int .i64 (2), .int .i64 (2)], [.int .i64 (3), .int .i64 (1), .int .i64 (1), .int .i64 (3), .int .i64 (2), .int .i64 (1)], [.int .i64 (3), .int .i64 (1), .int .i64 (2), .int .i64 (1), .int .i64 (1), .int .i64 (3)], [.int .i64 (3), .int .i64 (1), .int .i64 (2), .int .i64 (1), .int .i64 (3), .int .i64 (1)], [.int .i64 (3), .int .i64 (1), .int .i64 (2), .int .i64 (2), .int .i64 (1), .int .i64 (2)], [.int .i64 (3), .int .i64 (1), .int .i64 (2), .int .i64 (3), .int .i64 (1), .int .i64 (1)], [.int .i64 (3), .int .i64 (1), .int .i64 (3), .int .i64 (1), .int .i64 (2), .int .i64 (1)], [.int .i64 (3), .int .i64 (1), .int .i64 (4), .int .i64 (1), .int .i64 (1), .int .i64 (1)], [.int .i64 (3), .int .i64 (2), .int .i64 (1), .int .i64 (1), .int .i64 (2), .int .i64 (2)], [.int .i64 (3), .int .i64 (2), .int .i64 (1), .int .i64 (2), .int .i64 (2), .int .i64 (1)], [.int .i64 (3), .int .i64 (2), .int .i64 (2), .int .i64 (1), .int .i64 (1), .int .i64 (2)], [.int .i64 (3), .int .i64 (2), .int .i64 (2), .int .i64 (2), .int .i64 (1), .int .i64 (1)], [.int .i64 (3), .int .i64 (3), .int .i64 (1), .int .i64 (1), .int .i64 (2), .int .i64 (1)], [.int .i64 (3), .int .i64 (3), .int .i64 (2), .int .i64 (1), .int .i64 (1), .int .i64 (1)], [.int .i64 (4), .int .i64 (1), .int .i64 (1), .int .i64 (1), .int .i64 (1), .int .i64 (3)], [.int .i64 (4), .int .i64 (1), .int .i64 (1), .int .i64 (1), .int .i64 (3), .int .i64 (1)], [.int .i64 (4), .int .i64 (1), .int .i64 (1), .int .i64 (2), .int .i64 (1), .int .i64 (2)], [.int .i64 (4), .int .i64 (1), .int .i64 (1), .int .i64 (3), .int .i64 (1), .int .i64 (1)], [.int .i64 (4), .int .i64 (1), .int .i64 (2), .int .i64 (1), .int .i64 (2), .int .i64 (1)], [.int .i64 (4), .int .i64 (1), .int .i64 (3), .int .i64 (1), .int .i64 (1), .int .i64 (1)], [.int .i64 (4), .int .i64 (2), .int .i64 (1), .int .i64 (1), .int .i64 (1), .int .i64 (2)], [.int .i64 (4), .int .i64 (2), .int .i64 (1), .int .i64 (2), .int .i64 (1), .int .i64 (1)], [.int .i64 (4), .int .i64 (3), .int .i64 (1), .int .i64 (1), .int .i64 (1), .int .i64 (1)]] 130),
    (35, .row 6 [[.int .i64 (1), .int .i64 (2), .int .i64 (2), .int .i64 (4), .int .i64 (1), .int .i64 (1)]] 130),
    (15, .row 6 [[.int .i64 (1), .int .i64 (1), .int .i64 (2), .int .i64 (4), .int .i64 (1), .int .i64 (2)]] 130),
    (86, .row 6 [[.int .i64 (2), .int .i64 (4), .int .i64 (1), .int .i64 (2), .int .i64 (1), .int .i64 (1)]] 130),
    (44, .row 6 [[.int .i64 (1), .int .i64 (3), .int .i64 (2), .int .i64 (1), .int .i64 (1), .int .i64 (3)]] 130),
    (6, .row 6 [[.int .i64 (1), .int .i64 (1), .int .i64 (1), .int .i64 (2), .int .i64 (4), .int .i64 (2)]] 130),
    (26, .row 6 [[.int .i64 (1), .int .i64 (2), .int .i64 (1), .int .i64 (2), .int .i64 (2), .int .i64 (3)]] 130),
    (69, .row 6 [[.int .i64 (2), .int .i64 (2), .int .i64 (1), .int .i64 (1), .int .i64 (1), .int .i64 (4)]] 130),
    (45, .row 6 [[.int .i64 (1), .int .i64 (3), .int .i64 (2), .int .i64 (1), .int .i64 (3), .int .i64 (1)]] 130),
    (0, .box [.osl 4 108] 126),
    (70, .row 6 [[.int .i64 (2), .int .i64 (2), .int .i64 (1), .int .i64 (1), .int .i64 (3), .int .i64 (2)]] 130),
    (36, .row 6 [[.int .i64 (1), .int .i64 (2), .int .i64 (3), .int .i64 (1), .int .i64 (2), .int .i64 (2)]] 130),
    (46, .row 6 [[.int .i64 (1), .int .i64 (3), .int .i64 (2), .int .i64 (2), .int .i64 (1), .int .i64 (2)]] 130),
    (54, .row 6 [[.int .i64 (2), .int .i64 (1), .int .i64 (1), .int .i64 (1), .int .i64 (3), .int .i64 (3)]] 130),
    (71, .row 6 [[.int .i64 (2), .int .i64 (2), .int .i64 (1), .int .i64 (2), .int .i64 (1), .int .i64 (3)]] 130),
    (11, .row 6 [[.int .i64 (1), .int .i64 (1), .int .i64 (2), .int .i64 (2), .int .i64 (1), .int .i64 (4)]] 130),
    (27, .row 6 [[.int .i64 (1), .int .i64 (2), .int .i64 (1), .int .i64 (2), .int .i64 (4), .int .i64 (1)]] 130),
    (103, .row 6 [[.int .i64 (4), .int .i64 (1), .int .i64 (1), .int .i64 (1), .int .i64 (1), .int .i64 (3)]] 130),
    (72, .row 6 [[.int .i64 (2), .int .i64 (2), .int .i64 (1), .int .i64 (2), .int .i64 (3), .int .i64 (1)]] 130),
    (87, .row 6 [[.int .i64 (3), .int .i64 (1), .int .i64 (1), .int .i64 (1), .int .i64 (2), .int .i64 (3)]] 130),
    (104, .row 6 [[.int .i64 (4), .int .i64 (1), .int .i64 (1), .int .i64 (1), .int .i64 (3), .int .i64 (1)]] 130),
    (20, .row 6 [[.int .i64 (1), .int .i64 (1), .int .i64 (4), .int .i64 (1), .int .i64 (1), .int .i64 (3)]] 130),
    (55, .row 6 [[.int .i64 (2), .int .i64 (1), .int .i64 (1), .int .i64 (2), .int .i64 (1), .int .i64 (4)]] 130),
    (105, .row 6 [[.int .i64 (4), .int .i64 (1), .int .i64 (1), .int .i64 (2), .int .i64 (1), .int .i64 (2)]] 130),
    (88, .row 6 [[.int .i64 (3), .int .i64 (1), .int .i64 (1), .int .i64 (1), .int .i64 (4), .int .i64 (1)]] 130),
    (73, .row 6 [[.int .i64 (2), .int .i64 (2), .int .i64 (1), .int .i64 (3), .int .i64 (1), .int .i64 (2)]] 130),
    (47, .row 6 [[.int .i64 (1), .int .i64 (3), .int .i64 (2), .int .i64 (3), .int .i64 (1), .int .i64 (1)]] 130),
    (106, .row 6 [[.int .i64 (4), .int .i64 (1), .int .i64 (1), .int .i64 (3), .int .i64 (1), .int .i64 (1)]] 130),
    (9, .row 6 [[.int .i64 (1), .int .i64 (1), .int .i64 (1), .int .i64 (4), .int .i64 (2), .int .i64 (2)]] 130),
    (89, .row 6 [[.int .i64 (3), .int .i64 (1), .int .i64 (1), .int .i64 (2), .int .i64 (2), .int .i64 (2)]] 130),
    (56, .row 6 [[.int .i64 (2), .int .i64 (1), .int .i64 (1), .int .i64 (2), .int .i64 (3), .int .i64 (2)]] 130),
    (74, .row 6 [[.int .i64 (2), .int .i64 (2), .int .i64 (1), .int .i64 (4), .int .i64 (1), .int .i64 (1)]] 130),
    (37, .row 6 [[.int .i64 (1), .int .i64 (2), .int .i64 (3), .int .i64 (2), .int .i64 (2), .int .i64 (1)]] 130),
    (107, .row 6 [[.int .i64 (4), .int .i64 (1), .int .i64 (2), .int .i64 (1), .int .i64 (2), .int .i64 (1)]] 130),
    (1, .box [.int .i64 (4), .int .i64 (4), .int .i64 (2), .int .i64 (1), .int .i64 (1), .int .i64 (1)] 130),
    (90, .row 6 [[.int .i64 (3), .int .i64 (1), .int .i64 (1), .int .i64 (3), .int .i64 (2), .int .i64 (1)]] 130),
    (28, .row 6 [[.int .i64 (1), .int .i64 (2), .int .i64 (1), .int .i64 (3), .int .i64 (2), .int .i64 (2)]] 130),
    (57, .row 6 [[.int .i64 (2), .int .i64 (1), .int .i64 (1), .int .i64 (3), .int .i64 (1), .int .i64 (3)]] 130),
    (75, .row 6 [[.int .i64 (2), .int .i64 (2), .int .i64 (2), .int .i64 (1), .int .i64 (2), .int .i64 (2)]] 130),
    (21, .row 6 [[.int .i64 (1), .int .i64 (1), .int .i64 (4), .int .i64 (1), .int .i64 (3), .int .i64 (1)]] 130),
    (108, .row 6 [[.int .i64 (4), .int .i64 (1), .int .i64 (3), .int .i64 (1), .int .i64 (1), .int .i64 (1)]] 130),
    (48, .row 6 [[.int .i64 (1), .int .i64 (3), .int .i64 (3), .int .i64 (1), .int .i64 (2), .int .i64 (1)]] 130),
    (91, .row 6 [[.int .i64 (3), .int .i64 (1), .int .i64 (2), .int .i64 (1), .int .i64 (1), .int .i64 (3)]] 130),
    (58, .row 6 [[.int .i64 (2), .int .i64 (1), .int .i64 (1), .int .i64 (3), .int .i64 (3), .int .i64 (1)]] 130),
    (16, .row 6 [[.int .i64 (1), .int .i64 (1), .int .i64 (3), .int .i64 (1), .int .i64 (2), .int .i64 (3)]] 130),
    (92, .row 6 [[.int .i64 (3), .int .i64 (1), .int .i64 (2), .int .i64 (1), .int .i64 (3), .int .i64 (1)]] 130),
    (76, .row 6 [[.int .i64 (2), .int .i64 (2), .int .i64 (2), .int .i64 (2), .int .i64 (2), .int .i64 (1)]] 130),
    (12, .row 6 [[.int .i64 (1), .int .i64 (1), .int .i64 (2), .int .i64 (2), .int .i64 (3), .int .i64 (2)]] 130),
    (109, .row 6 [[.int .i64 (4), .int .i64 (2), .int .i64 (1), .int .i64 (1), .int .i64 (1), .int .i64 (2)]] 130),
    (93, .row 6 [[.int .i64 (3), .int .i64 (1), .int .i64 (2), .int .i64 (2), .int .i64 (1), .int .i64 (2)]] 130),
    (59, .row 6 [[.int .i64 (2), .int .i64 (1), .int .i64 (1), .int .i64 (4), .int .i64 (1), .int .i64 (2)]] 130),
    (22, .row 6 [[.int .i64 (1), .int .i64 (1), .int .i64 (4), .int .i64 (2), .int .i64 (1), .int .i64 (2)]] 130),
    (110, .row 6 [[.int .i64 (4), .int .i64 (2), .int .i64 (1), .int .i64 (2), .int .i64 (1), .int .i64 (1)]] 130),
    (38, .row 6 [[.int .i64 (1), .int .i64 (2), .int .i64 (4), .int .i64 (1), .int .i64 (1), .int .i64 (2)]] 130),
    (94, .row 6 [[.int .i64 (3), .int .i64 (1), .int .i64 (2), .int .i64 (3), .int .i64 (1), .int .i64 (1)]] 130),
    (29, .row 6 [[.int .i64 (1), .int .i64 (2), .int .i64 (1), .int .i64 (4), .int .i64 (2), .int .i64 (1)]] 130),
    (2, .box [.fn 108 [.box 1 0, .box 0 0, .box 2 0]] 167),
    (77, .row 6 [[.int .i64 (2), .int .i64 (2), .int .i64 (3), .int .i64 (1), .int .i64 (1), .int .i64 (2)]] 130),
    (49, .row 6 [[.int .i64 (1), .int .i64 (3), .int .i64 (4), .int .i64 (1), .int .i64 (1), .int .i64 (1)]] 130),
    (60, .row 6 [[.int .i64 (2), .int .i64 (1), .int .i64 (2), .int .i64 (1), .int .i64 (2), .int .i64 (3)]] 130),
    (95, .row 6 [[.int .i64 (3), .int .i64 (1), .int .i64 (3), .int .i64 (1), .int .i64 (2), .int .i64 (1)]] 130),
    (17, .row 6 [[.int .i64 (1), .int .i64 (1), .int .i64 (3), .int .i64 (1), .int .i64 (4), .int .i64 (1)]] 130),
    (78, .row 6 [[.int .i64 (2), .int .i64 (2), .int .i64 (3), .int .i64 (2), .int .i64 (1), .int .i64 (1)]] 130),
    (39, .row 6 [[.int .i64 (1), .int .i64 (2), .int .i64 (4), .int .i64 (2), .int .i64 (1), .int .i64 (1)]] 130),
    (61, .row 6 [[.int .i64 (2), .int .i64 (1), .int .i64 (2), .int .i64 (1), .int .i64 (4), .int .i64 (1)]] 130),
    (111, .row 6 [[.int .i64 (4), .int .i64 (3), .int .i64 (1), .int .i64 (1), .int .i64 (1), .int .i64 (1)]] 130),
    (7, .row 6 [[.int .i64 (1), .int .i64 (1), .int .i64 (1), .int .i64 (3), .int .i64 (2), .int .i64 (3)]] 130),
    (30, .row 6 [[.int .i64 (1), .int .i64 (2), .int .i64 (2), .int .i64 (1), .int .i64 (1), .int .i64 (4)]] 130),
    (96, .row 6 [[.int .i64 (3), .int .i64 (1), .int .i64 (4), .int .i64 (1), .int .i64 (1), .int .i64 (1)]] 130),
    (23, .row 6 [[.int .i64 (1), .int .i64 (1), .int .i64 (4), .int .i64 (3), .int .i64 (1), .int .i64 (1)]] 130),
    (62, .row 6 [[.int .i64 (2), .int .i64 (1), .int .i64 (2), .int .i64 (2), .int .i64 (2), .int .i64 (2)]] 130),
    (5, .row 6 [[.int .i64 (1), .int .i64 (1), .int .i64 (1), .int .i64 (2), .int .i64 (2), .int .i64 (4)]] 130),
    (50, .row 6 [[.int .i64 (1), .int .i64 (4), .int .i64 (1), .int .i64 (1), .int .i64 (2), .int .i64 (2)]] 130),
    (31, .row 6 [[.int .i64 (1), .int .i64 (2), .int .i64 (2), .int .i64 (1), .int .i64 (3), .int .i64 (2)]] 130),
    (79, .row 6 [[.int .i64 (2), .int .i64 (3), .int .i64 (1), .int .i64 (1), .int .i64 (1), .int .i64 (3)]] 130),
    (97, .row 6 [[.int .i64 (3), .int .i64 (2), .int .i64 (1), .int .i64 (1), .int .i64 (2), .int .i64 (2)]] 130),
    (13, .row 6 [[.int .i64 (1), .int .i64 (1), .int .i64 (2), .int .i64 (3), .int .i64 (1), .int .i64 (3)]] 130),
    (63, .row 6 [[.int .i64 (2), .int .i64 (1), .int .i64 (2), .int .i64 (3), .int .i64 (2), .int .i64 (1)]] 130)],
   112⟩
theorem linear_patterns_1_f3_ok : FactOk Try.prog linear_patterns_1_f3 := FactOk.run ctx_ok 3000 20 (by kernel_rfl)
end Go.Proofs.Ytedjnjgnadbkaaa
/- The patterns of bars, by a run. -/
namespace Go.Proofs.Ytedjnjgnadbkaaa
open Go Go.RowKit

def pats : List (Int × Int × Int × Int × Int × Int) :=
  [(1, 1, 1, 1, 4, 3), (1, 1, 1, 2, 2, 4), (1, 1, 1, 2, 4, 2), (1, 1, 1, 3, 2, 3), (1, 1, 1, 3, 4, 1), (1, 1, 1, 4, 2, 2),
   (1, 1, 2, 1, 3, 3), (1, 1, 2, 2, 1, 4), (1, 1, 2, 2, 3, 2), (1, 1, 2, 3, 1, 3), (1, 1, 2, 3, 3, 1), (1, 1, 2, 4, 1, 2),
   (1, 1, 3, 1, 2, 3), (1, 1, 3, 1, 4, 1), (1, 1, 3, 2, 2, 2), (1, 1, 3, 3, 2, 1), (1, 1, 4, 1, 1, 3), (1, 1, 4, 1, 3, 1),
   (1, 1, 4, 2, 1, 2), (1, 1, 4, 3, 1, 1), (1, 2, 1, 1, 2, 4), (1, 2, 1, 1, 4, 2), (1, 2, 1, 2, 2, 3), (1, 2, 1, 2, 4, 1),
   (1, 2, 1, 3, 2, 2), (1, 2, 1, 4, 2, 1), (1, 2, 2, 1, 1, 4), (1, 2, 2, 1, 3, 2), (1, 2, 2, 2, 1, 3), (1, 2, 2, 2, 3, 1),
   (1, 2, 2, 3, 1, 2), (1, 2, 2, 4, 1, 1), (1, 2, 3, 1, 2, 2), (1, 2, 3, 2, 2, 1), (1, 2, 4, 1, 1, 2), (1, 2, 4, 2, 1, 1),
   (1, 3, 1, 1, 2, 3), (1, 3, 1, 1, 4, 1), (1, 3, 1, 2, 2, 2), (1, 3, 1, 3, 2, 1), (1, 3, 2, 1, 1, 3), (1, 3, 2, 1, 3, 1),
   (1, 3, 2, 2, 1, 2), (1, 3, 2, 3, 1, 1), (1, 3, 3, 1, 2, 1), (1, 3, 4, 1, 1, 1), (1, 4, 1, 1, 2, 2), (1, 4, 1, 2, 2, 1),
   (1, 4, 2, 1, 1, 2), (1, 4, 2, 2, 1, 1), (2, 1, 1, 1, 3, 3), (2, 1, 1, 2, 1, 4), (2, 1, 1, 2, 3, 2), (2, 1, 1, 3, 1, 3),
   (2, 1, 1, 3, 3, 1), (2, 1, 1, 4, 1, 2), (2, 1, 2, 1, 2, 3), (2, 1, 2, 1, 4, 1), (2, 1, 2, 2, 2, 2), (2, 1, 2, 3, 2, 1),
   (2, 1, 3, 1, 1, 3), (2, 1, 3, 1, 3, 1), (2, 1, 3, 2, 1, 2), (2, 1, 3, 3, 1, 1), (2, 1, 4, 1, 2, 1), (2, 2, 1, 1, 1, 4),
   (2, 2, 1, 1, 3, 2), (2, 2, 1, 2, 1, 3), (2, 2, 1, 2, 3, 1), (2, 2, 1, 3, 1, 2), (2, 2, 1, 4, 1, 1), (2, 2, 2, 1, 2, 2),
   (2, 2, 2, 2, 2, 1), (2, 2, 3, 1, 1, 2), (2, 2, 3, 2, 1, 1), (2, 3, 1, 1, 1, 3), (2, 3, 1, 1, 3, 1), (2, 3, 1, 2, 1, 2),
   (2, 3, 1, 3, 1, 1), (2, 3, 2, 1, 2, 1), (2, 3, 3, 1, 1, 1), (2, 4, 1, 1, 1, 2), (2, 4, 1, 2, 1, 1), (3, 1, 1, 1, 2, 3),
   (3, 1, 1, 1, 4, 1), (3, 1, 1, 2, 2, 2), (3, 1, 1, 3, 2, 1), (3, 1, 2, 1, 1, 3), (3, 1, 2, 1, 3, 1), (3, 1, 2, 2, 1, 2),
   (3, 1, 2, 3, 1, 1), (3, 1, 3, 1, 2, 1), (3, 1, 4, 1, 1, 1), (3, 2, 1, 1, 2, 2), (3, 2, 1, 2, 2, 1), (3, 2, 2, 1, 1, 2),
   (3, 2, 2, 2, 1, 1), (3, 3, 1, 1, 2, 1), (3, 3, 2, 1, 1, 1), (4, 1, 1, 1, 1, 3), (4, 1, 1, 1, 3, 1), (4, 1, 1, 2, 1, 2),
   (4, 1, 1, 3, 1, 1)]

abbrev patT : Ty := .pair (.int .i64) (.pair (.int .i64) (.pair (.int .i64) (.pair (.int .i64) (.pair (.int .i64) (.int .i64)))))
theorem linear_patterns_f : AF Try.prog 79 [] (.ro true 6 (pats.map fun p => Ty.cells true patT p)) := AF.runO ctx_ok 3000 20 [linear_patterns_1_f0, linear_patterns_1_f1, linear_patterns_1_f2, linear_patterns_1_f3] (by
  intro t ht
  simp only [List.mem_cons, List.not_mem_nil, or_false] at ht
  rcases ht with rfl | rfl | rfl | rfl
  · exact linear_patterns_1_f0_ok
  · exact linear_patterns_1_f1_ok
  · exact linear_patterns_1_f2_ok
  · exact linear_patterns_1_f3_ok) (by kernel_rfl)
def linear_patterns_r (_ : Nat) (_ : Unit) : Option (List (Int × Int × Int × Int × Int × Int) × Unit) := some (pats, ())
def linear_patterns_ctr : Ctr := ⟨.unit, .pair (.list patT) .unit, linear_patterns_r, 79⟩
theorem linear_patterns_ok : CtrOk Try.prog 79 linear_patterns_ctr := fun _ _ y h => by
  have h : some (pats, ()) = some y := h
  injection h with h
  subst h
  exact linear_patterns_f
end Go.Proofs.Ytedjnjgnadbkaaa
/- Residual programs of functions (printed by a program out of the code), checked by the kernel, and the contracts that follow. -/
namespace Go.Proofs.Ytedjnjgnadbkaaa
open Go Go.RowKit
set_option linter.unusedVariables false
def R_Floor_j1 (fu : Nat) (v1 : Int) : Option ((Int) × (Unit)) :=
  some ((v1, ()))
def R_Floor_r (fu : Nat) (a : (Int) × ((Int) × (Unit))) : Option ((Int) × (Unit)) :=
  bif (decide (a.2.1 ≠ (0 : Int))) then
  let v0 : Int := (IntKind.i64.wrap (Int.tdiv a.1 a.2.1))
  joinF (R_Floor_j1 fu) fun j1 =>
  bif (decide (a.1 < (IntKind.i64.wrap (v0 * a.2.1)))) then
    let v2 : Int := (IntKind.i64.wrap (v0 - (1 : Int)))
    j1 (v2)
  else
  j1 (v0)
  else none
def R_Floor_an : An := (.n none .z (.n none .z (.n (some ⟨[], [], [], [.reg 5 (.int .i64)], 0, []⟩) (.n none .z (.n none .z .z)) (.n none .z .z))))
noncomputable def R_Floor_dc : List (Nat × Ctr) := []
def R_Floor_ctr : Ctr := ⟨(.pair (.int .i64) (.pair (.int .i64) .unit)), (.pair (.int .i64) .unit), R_Floor_r, 69⟩
theorem R_Floor_ok : CtrOk Try.prog 69 R_Floor_ctr := ctr_ok (l := R_Floor_dc) (f := 12) (an := R_Floor_an) trivial fun fu x => by kernel_rfl
def R_Round_j1 (fu : Nat) (v2 : Int) : Option ((Int) × (Unit)) :=
  some ((v2, ()))
def R_Round_r (fu : Nat) (a : (Int) × ((Int) × (Unit))) : Option ((Int) × (Unit)) :=
  bindO (R_Floor_r fu ((a.1, (a.2.1, ())))) fun v0 =>
  let v1 : Int := v0.1
  joinF (R_Round_j1 fu) fun j2 =>
  bif (decide (a.2.1 ≤ (IntKind.i64.wrap ((2 : Int) * (IntKind.i64.wrap (a.1 - (IntKind.i64.wrap (v1 * a.2.1)))))))) then
    let v3 : Int := (IntKind.i64.wrap (v1 + (1 : Int)))
    j2 (v3)
  else
  j2 (v1)
def R_Round_an : An := (.n none .z (.n none .z (.n (some ⟨[], [], [], [.reg 5 (.int .i64)], 0, []⟩) (.n none .z (.n none .z .z)) (.n none .z .z))))
noncomputable def R_Round_dc : List (Nat × Ctr) := [(69, R_Floor_ctr)]
def R_Round_ctr : Ctr := ⟨(.pair (.int .i64) (.pair (.int .i64) .unit)), (.pair (.int .i64) .unit), R_Round_r, 51⟩
theorem R_Round_ok : CtrOk Try.prog 51 R_Round_ctr := ctr_ok (l := R_Round_dc) (f := 12) (an := R_Round_an) ⟨R_Floor_ok, trivial⟩ fun fu x => by kernel_rfl
def R_Total_l1 (fu : Nat) (a : (List (Int)) × (Unit)) (j0 : ((Int) × (Int)) → Option ((Int) × (Unit))) (v0 : (Int) × (Int)) : Option ((Int) × (Unit)) :=
  bif (decide (v0.2 < (List.length a.1 : Int))) then
    bif ((decide ((0 : Int) ≤ v0.2)) && (decide (v0.2 < (List.length a.1 : Int)))) then
    let v1 : Int := (List.getD a.1 (Int.toNat v0.2) 0)
    let v2 : Int := (IntKind.i64.wrap (v0.1 + v1))
    j0 ((v2, (IntKind.i64.wrap (v0.2 + (1 : Int)))))
    else none
  else
  let v1 : Int := v0.1
  some ((v1, ()))
def R_Total_r (fu : Nat) (a : (List (Int)) × (Unit)) : Option ((Int) × (Unit)) :=
  loopF (R_Total_l1 fu a) fu (((0 : Int), (0 : Int)))
def R_Total_an : An := (.n none .z (.n none .z (.n none (.n none .z (.n none (.n (some ⟨[6, 7, 2], [], [], [.reg 3 (.int .i64), .reg 8 (.int .i64)], 0, []⟩) (.n none .z (.n none .z (.n none (.n none (.n none .z .z) .z) .z))) .z) .z)) (.n none .z .z))))
noncomputable def R_Total_dc : List (Nat × Ctr) := []
def R_Total_ctr : Ctr := ⟨(.pair (.list (.int .i64)) .unit), (.pair (.int .i64) .unit), R_Total_r, 39⟩
theorem R_Total_ok : CtrOk Try.prog 39 R_Total_ctr := ctr_ok (l := R_Total_dc) (f := 12) (an := R_Total_an) trivial fun fu x => by kernel_rfl
def R_Group_j3 (fu : Nat) (j3 : ((Bool) × (Int)) → Option ((Int) × (Unit))) (v4 : (Int) × (Bool)) : Option ((Int) × (Unit)) :=
  j3 ((v4.2, (IntKind.i64.wrap (v4.1 + (1 : Int)))))
def R_Group_l2 (fu : Nat) (a : (List (List (Int))) × ((List (Int)) × (Unit))) (v1 : Int) (v2 : Int) (j2 : (Int) → Option ((Int) × (Unit))) (j3 : ((Bool) × (Int)) → Option ((Int) × (Unit))) (v3 : (Bool) × (Int)) : Option ((Int) × (Unit)) :=
  bif (decide (v3.2 < (4 : Int))) then
    joinF (R_Group_j3 fu j3) fun j4 =>
    let v5 : Int := v3.2
    bif v3.1 then
      bif ((decide ((0 : Int) ≤ v2)) && (decide (v2 < (List.length a.1 : Int)))) then
      let v6 : List (Int) := (List.getD a.1 (Int.toNat v2) [])
      bif ((decide ((0 : Int) ≤ v5)) && (decide (v5 < (List.length v6 : Int)))) then
      let v7 : Int := (List.getD v6 (Int.toNat v5) 0)
      bif ((decide ((0 : Int) ≤ v2)) && (decide (v2 < (List.length a.1 : Int)))) then
      let v8 : List (Int) := (List.getD a.1 (Int.toNat v2) [])
      bif ((decide ((0 : Int) ≤ (IntKind.i64.wrap (v5 + (1 : Int))))) && (decide ((IntKind.i64.wrap (v5 + (1 : Int))) < (List.length v8 : Int)))) then
      let v9 : Int := (List.getD v8 (Int.toNat (IntKind.i64.wrap (v5 + (1 : Int)))) 0)
      bif ((decide ((0 : Int) ≤ v5)) && (decide (v5 < (List.length a.2.1 : Int)))) then
      let v10 : Int := (List.getD a.2.1 (Int.toNat v5) 0)
      bif ((decide ((0 : Int) ≤ (IntKind.i64.wrap (v5 + (1 : Int))))) && (decide ((IntKind.i64.wrap (v5 + (1 : Int))) < (List.length a.2.1 : Int)))) then
      let v11 : Int := (List.getD a.2.1 (Int.toNat (IntKind.i64.wrap (v5 + (1 : Int)))) 0)
      bindO (R_Round_r fu (((IntKind.i64.wrap ((11 : Int) * (IntKind.i64.wrap (v10 + v11)))), (v1, ())))) fun v12 =>
      let v13 : Bool := (decide ((IntKind.i64.wrap (v7 + v9)) = v12.1))
      j4 ((v3.2, v13))
      else none
      else none
      else none
      else none
      else none
      else none
    else
    j4 ((v3.2, false))
  else
  bif v3.1 then
    some ((v2, ()))
  else
  j2 ((IntKind.i64.wrap (v2 + (1 : Int))))
def R_Group_l1 (fu : Nat) (a : (List (List (Int))) × ((List (Int)) × (Unit))) (v1 : Int) (j2 : (Int) → Option ((Int) × (Unit))) (v2 : Int) : Option ((Int) × (Unit)) :=
  bif (decide (v2 < (103 : Int))) then
    loopF (R_Group_l2 fu a v1 v2 j2) fu ((true, (0 : Int)))
  else
  some (((-1 : Int), ()))
def R_Group_r (fu : Nat) (a : (List (List (Int))) × ((List (Int)) × (Unit))) : Option ((Int) × (Unit)) :=
  bindO (R_Total_r fu ((a.2.1, ()))) fun v0 =>
  let v1 : Int := v0.1
  loopF (R_Group_l1 fu a v1) fu ((0 : Int))
def R_Group_an : An := (.n none .z (.n none .z (.n none (.n none .z (.n none (.n (some ⟨[0, 1, 5], [], [], [.reg 11 (.int .i64)], 0, []⟩) (.n none .z (.n none .z (.n none (.n none (.n none .z (.n none .z (.n none (.n none .z (.n none (.n (some ⟨[11, 6], [], [], [.reg 7 .bool, .reg 14 (.int .i64)], 0, []⟩) (.n none .z (.n none .z (.n (some ⟨[], [], [], [.reg 14 (.int .i64), .reg 7 .bool], 0, []⟩) (.n none (.n none .z (.dr [] [])) .z) .z))) .z) .z)) (.n none .z (.n none (.n none .z .z) .z))))) .z) .z))) .z) .z)) (.n none .z .z))))
noncomputable def R_Group_dc : List (Nat × Ctr) := [(39, R_Total_ctr), (51, R_Round_ctr)]
def R_Group_ctr : Ctr := ⟨(.pair (.list (.list (.int .i64))) (.pair (.list (.int .i64)) .unit)), (.pair (.int .i64) .unit), R_Group_r, 83⟩
theorem R_Group_ok : CtrOk Try.prog 83 R_Group_ctr := ctr_ok (l := R_Group_dc) (f := 12) (an := R_Group_an) ⟨R_Total_ok, ⟨R_Round_ok, trivial⟩⟩ fun fu x => by kernel_rfl
def R_Patterns_j2 (fu : Nat) (j0 : ((Int) × (List (List (Int)))) → Option ((List (List (Int))) × (Unit))) (v1 : (Int) × (List (List (Int)))) : Option ((List (List (Int))) × (Unit)) :=
  j0 (((IntKind.i64.wrap (v1.1 + (1 : Int))), v1.2))
def R_Patterns_j4 (fu : Nat) (v0 : (Int) × (List (List (Int)))) (j1 : ((Int) × (List (List (Int)))) → Option ((List (List (Int))) × (Unit))) (v4 : (Bool) × ((List (List (Int))) × (List (Int)))) : Option ((List (List (Int))) × (Unit)) :=
  bif v4.1 then
    let v5 : List (Int) := v4.2.2
    bif (decide ((((List.length v4.2.1 : Int) + (List.length (v5 :: ([] : List (List (Int)))) : Int)) * (24 : Int)) ≤ (140737488355328 : Int))) then
    j1 ((v0.1, (v4.2.1 ++ (v5 :: ([] : List (List (Int)))))))
    else none
  else
  j1 ((v0.1, v4.2.1))
def R_Patterns_l3 (fu : Nat) (v0 : (Int) × (List (List (Int)))) (v2 : Int) (j1 : ((Int) × (List (List (Int)))) → Option ((List (List (Int))) × (Unit))) (j3 : ((Int) × ((Int) × ((List (List (Int))) × (List (Int))))) → Option ((List (List (Int))) × (Unit))) (v3 : (Int) × ((Int) × ((List (List (Int))) × (List (Int))))) : Option ((List (List (Int))) × (Unit)) :=
  bif (decide ((0 : Int) ≤ v3.2.1)) then
    bif ((decide ((0 : Int) ≤ (IntKind.i64.wrap ((2 : Int) * v3.2.1)))) && (decide ((IntKind.i64.wrap ((2 : Int) * v3.2.1)) ≤ (64 : Int)))) then
    bif (decide ((((List.length v3.2.2.2 : Int) + (List.length ((IntKind.i64.wrap ((1 : Int) + (bits BinOp.and IntKind.i64 (v2 / 2 ^ (Int.toNat (IntKind.i64.wrap ((2 : Int) * v3.2.1)))) (3 : Int)))) :: ([] : List (Int))) : Int)) * (8 : Int)) ≤ (140737488355328 : Int))) then
    bif ((decide ((0 : Int) ≤ (IntKind.i64.wrap ((5 : Int) - v3.2.1)))) && (decide ((IntKind.i64.wrap ((5 : Int) - v3.2.1)) < (List.length (v3.2.2.2 ++ ((IntKind.i64.wrap ((1 : Int) + (bits BinOp.and IntKind.i64 (v2 / 2 ^ (Int.toNat (IntKind.i64.wrap ((2 : Int) * v3.2.1)))) (3 : Int)))) :: ([] : List (Int)))) : Int)))) then
    let v4 : Int := (IntKind.i64.wrap (v3.1 + (List.getD (v3.2.2.2 ++ ((IntKind.i64.wrap ((1 : Int) + (bits BinOp.and IntKind.i64 (v2 / 2 ^ (Int.toNat (IntKind.i64.wrap ((2 : Int) * v3.2.1)))) (3 : Int)))) :: ([] : List (Int)))) (Int.toNat (IntKind.i64.wrap ((5 : Int) - v3.2.1))) 0)))
    let v5 : Int := (IntKind.i64.wrap (v3.2.1 - (1 : Int)))
    j3 ((v4, (v5, (v3.2.2.1, (v3.2.2.2 ++ ((IntKind.i64.wrap ((1 : Int) + (bits BinOp.and IntKind.i64 (v2 / 2 ^ (Int.toNat (IntKind.i64.wrap ((2 : Int) * v3.2.1)))) (3 : Int)))) :: ([] : List (Int))))))))
    else none
    else none
    else none
  else
  joinF (R_Patterns_j4 fu v0 j1) fun j4 =>
  bif (decide (v3.1 = (11 : Int))) then
    bif (decide ((0 : Int) < (List.length v3.2.2.2 : Int))) then
    bif (decide ((2 : Int) < (List.length v3.2.2.2 : Int))) then
    bif (decide ((4 : Int) < (List.length v3.2.2.2 : Int))) then
    j4 (((decide ((Int.tmod (IntKind.i64.wrap ((IntKind.i64.wrap ((List.getD v3.2.2.2 (Int.toNat (0 : Int)) 0) + (List.getD v3.2.2.2 (Int.toNat (2 : Int)) 0))) + (List.getD v3.2.2.2 (Int.toNat (4 : Int)) 0))) (2 : Int)) = (0 : Int))), (v3.2.2.1, v3.2.2.2)))
    else none
    else none
    else none
  else
  j4 ((false, (v3.2.2.1, v3.2.2.2)))
def R_Patterns_l1 (fu : Nat) (j0 : ((Int) × (List (List (Int)))) → Option ((List (List (Int))) × (Unit))) (v0 : (Int) × (List (List (Int)))) : Option ((List (List (Int))) × (Unit)) :=
  bif (decide (v0.1 < (4096 : Int))) then
    joinF (R_Patterns_j2 fu j0) fun j1 =>
    let v2 : Int := v0.1
    loopF (R_Patterns_l3 fu v0 v2 j1) fu (((0 : Int), ((5 : Int), (v0.2, ([] : List (Int))))))
  else
  some ((v0.2, ()))
def R_Patterns_r (fu : Nat) (a : Unit) : Option ((List (List (Int))) × (Unit)) :=
  loopF (R_Patterns_l1 fu) fu (((0 : Int), ([] : List (List (Int)))))
def R_Patterns_an : An := (.n none .z (.n none .z (.n none (.n none .z (.n none (.n (some ⟨[0], [], [(1, (.osl 0 0))], [.reg 6 (.int .i64), .row 0 true (.list (.int .i64)) 29 0], 1, [(1, (.list (.int .i64)), 29)]⟩) (.n none .z (.n none .z (.n (some ⟨[], [], [(1, (.osl 0 1))], [.reg 6 (.int .i64), .row 0 true (.list (.int .i64)) 29 1], 0, []⟩) (.n none (.n none .z (.n none .z (.n none .z (.n none (.n none .z (.n none (.n (some ⟨[1, 6, 2], [], [(3, (.osl 1 0))], [.reg 4 (.int .i64), .reg 5 (.int .i64), .row 0 true (.list (.int .i64)) 29 0, .row 1 true (.int .i64) 3 0], 1, [(3, (.int .i64), 3)]⟩) (.n none (.n none .z .z) (.n none (.n none (.n none .z .z) .z) .z)) .z) .z)) (.n (some ⟨[3, 6], [], [(1, (.osl 0 0))], [.reg 45 .bool, .row 0 true (.list (.int .i64)) 29 0, .row 1 true (.int .i64) 3 0], 0, []⟩) (.dr [] []) (.n none .z .z)))))) .z) .z))) .z) .z)) (.n none .z .z))))
noncomputable def R_Patterns_dc : List (Nat × Ctr) := []
def R_Patterns_ctr : Ctr := ⟨.unit, (.pair (.list (.list (.int .i64))) .unit), R_Patterns_r, 33⟩
theorem R_Patterns_ok : CtrOk Try.prog 33 R_Patterns_ctr := ctr_ok (l := R_Patterns_dc) (f := 12) (an := R_Patterns_an) trivial fun fu x => by kernel_rfl
def R_Within_r (fu : Nat) (a : (Int) × ((Int) × ((Int) × (Unit)))) : Option ((Bool) × (Unit)) :=
  bif (decide (a.2.1 ≤ a.1)) then
    let v0 : Bool := (decide (a.1 ≤ a.2.2.1))
    some ((v0, ()))
  else
  some ((false, ()))
def R_Within_an : An := (.n none .z (.n none .z .z))
noncomputable def R_Within_dc : List (Nat × Ctr) := []
def R_Within_ctr : Ctr := ⟨(.pair (.int .i64) (.pair (.int .i64) (.pair (.int .i64) .unit))), (.pair .bool .unit), R_Within_r, 20⟩
theorem R_Within_ok : CtrOk Try.prog 20 R_Within_ctr := ctr_ok (l := R_Within_dc) (f := 12) (an := R_Within_an) trivial fun fu x => by kernel_rfl
def law_decoded_j5 (fu : Nat) (v10 : Int) (j10 : (Int) → Option ((List UInt8) × ((Int) × (Unit)))) (v12 : Bool) : Option ((List UInt8) × ((Int) × (Unit))) :=
  bif v12 then
    some ((([] : List UInt8), ((4 : Int), ())))
  else
  j10 ((IntKind.i64.wrap (v10 + (1 : Int))))
def law_decoded_j10 (fu : Nat) (v16 : List UInt8) : Option ((List UInt8) × ((Int) × (Unit))) :=
  some ((v16, ((0 : Int), ())))
def law_decoded_j9 (fu : Nat) (v12 : Bool) (v14 : (List UInt8) × (Int)) (v15 : Bool) : Option ((List UInt8) × ((Int) × (Unit))) :=
  bif v15 then
    some ((([] : List UInt8), ((4 : Int), ())))
  else
  joinF (law_decoded_j10 fu) fun j16 =>
  bif v12 then
    bif (decide ((1 : Int) ≤ (List.length v14.1 : Int))) then
    let v17 : List UInt8 := (List.drop (Int.toNat (1 : Int)) (List.take (Int.toNat (List.length v14.1 : Int)) v14.1))
    j16 (v17)
    else none
  else
  j16 (v14.1)
def law_decoded_l8 (fu : Nat) (v12 : Bool) (v13 : List (Int)) (j14 : ((List UInt8) × (Int)) → Option ((List UInt8) × ((Int) × (Unit)))) (v14 : (List UInt8) × (Int)) : Option ((List UInt8) × ((Int) × (Unit))) :=
  bif (decide (v14.2 < (List.length v13 : Int))) then
    bif ((decide ((0 : Int) ≤ v14.2)) && (decide (v14.2 < (List.length v13 : Int)))) then
    let v15 : Int := (List.getD v13 (Int.toNat v14.2) 0)
    bif (decide ((99 : Int) < v15)) then
      some ((([] : List UInt8), ((4 : Int), ())))
    else
    bif (decide (((List.length v14.1 : Int) + (List.length (bytesOf ((IntKind.u8.wrap (IntKind.i64.wrap ((48 : Int) + (IntKind.i64.wrap (Int.tdiv v15 (10 : Int)))))) :: ((IntKind.u8.wrap (IntKind.i64.wrap ((48 : Int) + (Int.tmod v15 (10 : Int))))) :: ([] : List (Int))))) : Int)) ≤ (9223372036854775807 : Int))) then
    let v16 : List UInt8 := (v14.1 ++ (bytesOf ((IntKind.u8.wrap (IntKind.i64.wrap ((48 : Int) + (IntKind.i64.wrap (Int.tdiv v15 (10 : Int)))))) :: ((IntKind.u8.wrap (IntKind.i64.wrap ((48 : Int) + (Int.tmod v15 (10 : Int))))) :: ([] : List (Int))))))
    j14 ((v16, (IntKind.i64.wrap (v14.2 + (1 : Int)))))
    else none
    else none
  else
  joinF (law_decoded_j9 fu v12 v14) fun j15 =>
  bif (decide (v14.1 = ([] : List UInt8))) then
    j15 (true)
  else
  bif v12 then
    bif (decide ((0 : Int) < (List.length v14.1 : Int))) then
    j15 ((decide (((List.getD v14.1 (Int.toNat (0 : Int)) 0).toNat : Int) ≠ (48 : Int))))
    else none
  else
  j15 (false)
def law_decoded_j7 (fu : Nat) (v12 : Bool) (v13 : List (Int)) : Option ((List UInt8) × ((Int) × (Unit))) :=
  loopF (law_decoded_l8 fu v12 v13) fu ((([] : List UInt8), (0 : Int)))
def law_decoded_l6 (fu : Nat) (v8 : (Int) × (List (Int))) (v9 : Int) (j11 : ((Int) × (Int)) → Option ((List UInt8) × ((Int) × (Unit)))) (v11 : (Int) × (Int)) : Option ((List UInt8) × ((Int) × (Unit))) :=
  bif (decide (v11.2 < (IntKind.i64.wrap (v9 - (2 : Int))))) then
    bif ((decide ((0 : Int) ≤ v11.2)) && (decide (v11.2 < (List.length v8.2 : Int)))) then
    let v12 : Int := (IntKind.i64.wrap (v11.1 + (IntKind.i64.wrap (v11.2 * (List.getD v8.2 (Int.toNat v11.2) 0)))))
    let v13 : Int := (IntKind.i64.wrap (v11.2 + (1 : Int)))
    j11 ((v12, v13))
    else none
  else
  bif ((decide ((0 : Int) ≤ (IntKind.i64.wrap (v9 - (2 : Int))))) && (decide ((IntKind.i64.wrap (v9 - (2 : Int))) < (List.length v8.2 : Int)))) then
  bif (decide ((Int.tmod v11.1 (101 : Int)) ≠ (List.getD v8.2 (Int.toNat (IntKind.i64.wrap (v9 - (2 : Int)))) 0))) then
    some ((([] : List UInt8), ((11 : Int), ())))
  else
  bif ((decide ((1 : Int) ≤ (IntKind.i64.wrap (v9 - (2 : Int))))) && (decide ((IntKind.i64.wrap (v9 - (2 : Int))) ≤ (List.length v8.2 : Int)))) then
  bif (decide (((1 : Int) + (0 : Int)) < (IntKind.i64.wrap (v9 - (2 : Int))))) then
  let v12 : Bool := (decide ((List.getD v8.2 (Int.toNat ((1 : Int) + (0 : Int))) 0) = (100 : Int)))
  joinF (law_decoded_j7 fu v12) fun j13 =>
  bif v12 then
    bif (decide ((1 : Int) ≤ ((IntKind.i64.wrap (v9 - (2 : Int))) - (1 : Int)))) then
    j13 ((List.drop (Int.toNat ((1 : Int) + (1 : Int))) (List.take (Int.toNat ((1 : Int) + ((IntKind.i64.wrap (v9 - (2 : Int))) - (1 : Int)))) v8.2)))
    else none
  else
  j13 ((List.drop (Int.toNat (1 : Int)) (List.take (Int.toNat (IntKind.i64.wrap (v9 - (2 : Int)))) v8.2)))
  else none
  else none
  else none
def law_decoded_l4 (fu : Nat) (v8 : (Int) × (List (Int))) (v9 : Int) (j10 : (Int) → Option ((List UInt8) × ((Int) × (Unit)))) (v10 : Int) : Option ((List UInt8) × ((Int) × (Unit))) :=
  bif (decide (v10 < (List.length v8.2 : Int))) then
    bif ((decide ((0 : Int) ≤ v10)) && (decide (v10 < (List.length v8.2 : Int)))) then
    let v11 : Int := (List.getD v8.2 (Int.toNat v10) 0)
    joinF (law_decoded_j5 fu v10 j10) fun j12 =>
    bif (decide (v11 < (0 : Int))) then
      j12 (true)
    else
    bif (decide ((0 : Int) < (List.length v8.2 : Int))) then
    bif (decide ((List.getD v8.2 (Int.toNat (0 : Int)) 0) ≠ (101 : Int))) then
      j12 (true)
    else
    bif ((decide ((0 : Int) ≤ (IntKind.i64.wrap (v9 - (1 : Int))))) && (decide ((IntKind.i64.wrap (v9 - (1 : Int))) < (List.length v8.2 : Int)))) then
    j12 ((decide ((List.getD v8.2 (Int.toNat (IntKind.i64.wrap (v9 - (1 : Int)))) 0) ≠ (102 : Int))))
    else none
    else none
    else none
  else
  loopF (law_decoded_l6 fu v8 v9) fu (((0 : Int), (1 : Int)))
def law_decoded_l3 (fu : Nat) (v6 : List (List (Int))) (v7 : List (Int)) (j8 : ((Int) × (List (Int))) → Option ((List UInt8) × ((Int) × (Unit)))) (v8 : (Int) × (List (Int))) : Option ((List UInt8) × ((Int) × (Unit))) :=
  bif (decide ((IntKind.i64.wrap (v8.1 + (6 : Int))) < (List.length v7 : Int))) then
    bif ((decide ((0 : Int) ≤ v8.1)) && ((decide (v8.1 ≤ (IntKind.i64.wrap (v8.1 + (6 : Int))))) && (decide ((IntKind.i64.wrap (v8.1 + (6 : Int))) ≤ (List.length v7 : Int))))) then
    bindO (R_Group_r fu ((v6, ((List.drop (Int.toNat v8.1) (List.take (Int.toNat (IntKind.i64.wrap (v8.1 + (6 : Int)))) v7)), ())))) fun v9 =>
    bif (decide ((((List.length v8.2 : Int) + (List.length (v9.1 :: ([] : List (Int))) : Int)) * (8 : Int)) ≤ (140737488355328 : Int))) then
    let v10 : Int := (IntKind.i64.wrap (v8.1 + (6 : Int)))
    j8 ((v10, (v8.2 ++ (v9.1 :: ([] : List (Int))))))
    else none
    else none
  else
  let v9 : Int := (List.length v8.2 : Int)
  loopF (law_decoded_l4 fu v8 v9) fu ((0 : Int))
def law_decoded_j2 (fu : Nat) (v6 : List (List (Int))) (v7 : List (Int)) : Option ((List UInt8) × ((Int) × (Unit))) :=
  loopF (law_decoded_l3 fu v6 v7) fu (((0 : Int), ([] : List (Int))))
def law_decoded_l11 (fu : Nat) (a : (List (Int)) × (Unit)) (j7 : (List (Int)) → Option ((List UInt8) × ((Int) × (Unit)))) (j10 : ((Int) × (List (Int))) → Option ((List UInt8) × ((Int) × (Unit)))) (v10 : (Int) × (List (Int))) : Option ((List UInt8) × ((Int) × (Unit))) :=
  bif (decide ((0 : Int) ≤ v10.1)) then
    bif ((decide ((0 : Int) ≤ v10.1)) && (decide (v10.1 < (List.length a.1 : Int)))) then
    let v11 : Int := (List.getD a.1 (Int.toNat v10.1) 0)
    bif (decide ((((List.length v10.2 : Int) + (List.length (v11 :: ([] : List (Int))) : Int)) * (8 : Int)) ≤ (140737488355328 : Int))) then
    let v12 : Int := (IntKind.i64.wrap (v10.1 - (1 : Int)))
    j10 ((v12, (v10.2 ++ (v11 :: ([] : List (Int))))))
    else none
    else none
  else
  j7 (v10.2)
def law_decoded_l1 (fu : Nat) (a : (List (Int)) × (Unit)) (j4 : (Int) → Option ((List UInt8) × ((Int) × (Unit)))) (v4 : Int) : Option ((List UInt8) × ((Int) × (Unit))) :=
  bif (decide (v4 < (List.length a.1 : Int))) then
    bif ((decide ((0 : Int) ≤ v4)) && (decide (v4 < (List.length a.1 : Int)))) then
    let v5 : Int := (List.getD a.1 (Int.toNat v4) 0)
    bindO (R_Within_r fu ((v5, ((1 : Int), ((1024 : Int), ()))))) fun v6 =>
    bif (!v6.1) then
      some ((([] : List UInt8), ((3 : Int), ())))
    else
    j4 ((IntKind.i64.wrap (v4 + (1 : Int))))
    else none
  else
  bindO (R_Patterns_r fu (())) fun v5 =>
  let v6 : List (List (Int)) := v5.1
  joinF (law_decoded_j2 fu v6) fun j7 =>
  bif (decide ((6 : Int) ≤ (List.length a.1 : Int))) then
  bindO (R_Group_r fu ((v6, ((List.drop (Int.toNat (0 : Int)) (List.take (Int.toNat (6 : Int)) a.1)), ())))) fun v8 =>
  bif (decide (v8.1 ≠ (101 : Int))) then
    let v9 : Int := (IntKind.i64.wrap ((List.length a.1 : Int) - (1 : Int)))
    loopF (law_decoded_l11 fu a j7) fu ((v9, ([] : List (Int))))
  else
  j7 (a.1)
  else none
def law_decoded_r (fu : Nat) (a : (List (Int)) × (Unit)) : Option ((List UInt8) × ((Int) × (Unit))) :=
  let v0 : Int := (List.length a.1 : Int)
  let v1 : Bool := (decide ((85 : Int) < v0))
  bif v1 then
    some ((([] : List UInt8), ((2 : Int), ())))
  else
  let v2 : Bool := (decide (v0 < (25 : Int)))
  bif v2 then
    some ((([] : List UInt8), ((12 : Int), ())))
  else
  let v3 : Bool := (decide ((Int.tmod v0 (6 : Int)) ≠ (1 : Int)))
  bif v3 then
    some ((([] : List UInt8), ((4 : Int), ())))
  else
  loopF (law_decoded_l1 fu a) fu ((0 : Int))
def law_decoded_an : An := (.n none .z (.n none (.n none .z (.n none (.n none .z (.n none (.n none .z .z) (.n none .z (.n none (.n none .z .z) (.n none .z (.n none (.n none .z .z) .z)))))) .z)) (.n none (.n none .z (.n none (.n (some ⟨[0, 33, 34], [], [], [.reg 35 (.int .i64)], 0, []⟩) (.n none .z (.n none .z (.n none (.n none (.n none .z (.n none .z (.n none (.n none .z .z) .z))) .z) .z))) .z) .z)) (.n none .z (.n (some ⟨[7], [], [], [.reg 0 (.ro false (.int .i64))], 0, []⟩) (.n none .z (.n none (.n none .z (.n none (.n none .z (.n none (.n (some ⟨[0], [], [(8, (.osl 0 0))], [.reg 9 (.int .i64), .row 0 true (.int .i64) 3 0], 1, [(8, (.int .i64), 3)]⟩) (.n none (.n none .z .z) (.n none (.n none .z .z) .z)) .z) .z)) .z)) .z)) (.n none .z (.n none (.n none .z (.n none (.n (some ⟨[0], [], [(10, (.osl 0 0))], [.reg 11 (.int .i64), .row 0 true (.int .i64) 3 0], 1, [(10, (.int .i64), 3)]⟩) (.n none (.n none .z .z) (.n none (.n none .z .z) .z)) .z) .z)) (.n none .z (.n none (.n none .z (.n none (.n (some ⟨[10, 12, 83, 84], [0], [], [.reg 85 (.int .i64)], 0, []⟩) (.n none .z (.n none .z (.n none (.n none (.n none .z (.n (some ⟨[85], [], [], [.reg 104 .bool], 0, []⟩) .z (.n none (.n none .z .z) .z))) .z) .z))) .z) .z)) (.n none .z (.n none (.n none .z (.n none (.n (some ⟨[12, 10], [0], [], [.reg 15 (.int .i64), .reg 16 (.int .i64)], 0, []⟩) (.n none (.n none .z .z) (.n none (.n none .z .z) .z)) .z) .z)) (.n none (.n none .z (.n none (.n none .z .z) .z)) (.n none .z (.n none .z (.n (some ⟨[17], [], [], [.reg 10 (.ro true (.int .i64))], 0, []⟩) (.n none .z (.n none .z .z)) (.n none .z (.n none (.n none .z (.n none (.n (some ⟨[139, 140], [], [], [.reg 18 .str, .reg 141 (.int .i64)], 0, []⟩) (.n none .z (.n none .z (.n none (.n none (.n none .z (.n none (.n none .z (.n none (.n none .z .z) .z)) .z)) .z) .z))) .z) .z)) (.n none (.n (some ⟨[18], [], [], [.reg 169 .bool], 0, []⟩) .z (.n none (.n none .z .z) .z)) (.n (some ⟨[], [], [], [.reg 18 .str], 0, []⟩) (.n none .z (.n none .z .z)) (.n none .z .z))))))))))))))))))))
noncomputable def law_decoded_dc : List (Nat × Ctr) := [(20, R_Within_ctr), (33, R_Patterns_ctr), (83, R_Group_ctr)]
def law_decoded_ctr : Ctr := ⟨(.pair (.list (.int .i64)) .unit), (.pair .str (.pair (.int .i64) .unit)), law_decoded_r, 30⟩
theorem law_decoded_ok : CtrOk Try.prog 30 law_decoded_ctr := ctr_ok (l := law_decoded_dc) (f := 12) (an := law_decoded_an) ⟨R_Within_ok, ⟨R_Patterns_ok, ⟨R_Group_ok, trivial⟩⟩⟩ fun fu x => by kernel_rfl
def linear_digits_j3 (fu : Nat) (v0 : (List (Int)) × (Int)) (v1 : (Int) × (List (Int))) (v2 : Bool) : Option ((List UInt8) × ((Int) × (Unit))) :=
  bif v2 then
    some ((([] : List UInt8), ((4 : Int), ())))
  else
  bif ((decide ((0 : Int) ≤ v0.2)) && (decide (v0.2 ≤ (List.length v1.2 : Int)))) then
  let v3 : List UInt8 := (bytesOf (List.drop (Int.toNat v0.2) (List.take (Int.toNat (List.length v1.2 : Int)) v1.2)))
  some ((v3, ((0 : Int), ())))
  else none
def linear_digits_l2 (fu : Nat) (v0 : (List (Int)) × (Int)) (j1 : ((Int) × (List (Int))) → Option ((List UInt8) × ((Int) × (Unit)))) (v1 : (Int) × (List (Int))) : Option ((List UInt8) × ((Int) × (Unit))) :=
  bif (decide (v1.1 < (List.length v0.1 : Int))) then
    bif ((decide ((0 : Int) ≤ v1.1)) && (decide (v1.1 < (List.length v0.1 : Int)))) then
    let v2 : Int := (List.getD v0.1 (Int.toNat v1.1) 0)
    bif (decide ((100 : Int) ≤ v2)) then
      some ((([] : List UInt8), ((4 : Int), ())))
    else
    bif (decide ((((List.length v1.2 : Int) + (List.length ((IntKind.u8.wrap (IntKind.i64.wrap ((48 : Int) + (IntKind.i64.wrap (Int.tdiv v2 (10 : Int)))))) :: ((IntKind.u8.wrap (IntKind.i64.wrap ((48 : Int) + (Int.tmod v2 (10 : Int))))) :: ([] : List (Int)))) : Int)) * (1 : Int)) ≤ (140737488355328 : Int))) then
    j1 (((IntKind.i64.wrap (v1.1 + (1 : Int))), (v1.2 ++ ((IntKind.u8.wrap (IntKind.i64.wrap ((48 : Int) + (IntKind.i64.wrap (Int.tdiv v2 (10 : Int)))))) :: ((IntKind.u8.wrap (IntKind.i64.wrap ((48 : Int) + (Int.tmod v2 (10 : Int))))) :: ([] : List (Int)))))))
    else none
    else none
  else
  joinF (linear_digits_j3 fu v0 v1) fun j2 =>
  bif (decide ((List.length v1.2 : Int) ≤ v0.2)) then
    j2 (true)
  else
  bif (decide (v0.2 = (1 : Int))) then
    bif (decide ((0 : Int) < (List.length v1.2 : Int))) then
    j2 ((decide ((List.getD v1.2 (Int.toNat (0 : Int)) 0) ≠ (48 : Int))))
    else none
  else
  j2 (false)
def linear_digits_j1 (fu : Nat) (v0 : (List (Int)) × (Int)) : Option ((List UInt8) × ((Int) × (Unit))) :=
  loopF (linear_digits_l2 fu v0) fu (((0 : Int), ([] : List (Int))))
def linear_digits_r (fu : Nat) (a : (List (Int)) × (Unit)) : Option ((List UInt8) × ((Int) × (Unit))) :=
  joinF (linear_digits_j1 fu) fun j0 =>
  bif (decide ((0 : Int) < (List.length a.1 : Int))) then
  let v1 : Int := (List.getD a.1 (Int.toNat (0 : Int)) 0)
  bif (decide (v1 = (100 : Int))) then
    bif (decide ((1 : Int) ≤ (List.length a.1 : Int))) then
    let v2 : List (Int) := (List.drop (Int.toNat (1 : Int)) (List.take (Int.toNat (List.length a.1 : Int)) a.1))
    j0 ((v2, (1 : Int)))
    else none
  else
  j0 ((a.1, (0 : Int)))
  else none
def linear_digits_an : An := (.n none .z (.n none .z (.n (some ⟨[], [], [], [.reg 0 (.ro false (.int .i64)), .reg 4 (.int .i64)], 0, []⟩) (.n none .z (.n none .z .z)) (.n none .z (.n none (.n none .z (.n none (.n (some ⟨[4, 14, 15], [], [(5, (.osl 0 0))], [.reg 16 (.int .i64), .row 0 true (.int .u8) 5 0], 1, [(5, (.int .u8), 5)]⟩) (.n none .z (.n none .z (.n none (.n none (.n none .z (.n none (.n none .z (.n none (.n none .z .z) .z)) .z)) .z) .z))) .z) .z)) (.n none (.n (some ⟨[5, 4], [0], [], [.reg 47 .bool], 0, []⟩) .z (.n none (.n none .z .z) .z)) (.n none .z .z)))))))
noncomputable def linear_digits_dc : List (Nat × Ctr) := []
def linear_digits_ctr : Ctr := ⟨(.pair (.list (.int .i64)) .unit), (.pair .str (.pair (.int .i64) .unit)), linear_digits_r, 82⟩
theorem linear_digits_ok : CtrOk Try.prog 82 linear_digits_ctr := ctr_ok (l := linear_digits_dc) (f := 12) (an := linear_digits_an) trivial fun fu x => by kernel_rfl
def linear_sum_l1 (fu : Nat) (a : (List (Int)) × (Unit)) (j0 : ((Int) × (Int)) → Option ((Int) × (Unit))) (v0 : (Int) × (Int)) : Option ((Int) × (Unit)) :=
  bif (decide (v0.2 < (List.length a.1 : Int))) then
    bif ((decide ((0 : Int) ≤ v0.2)) && (decide (v0.2 < (List.length a.1 : Int)))) then
    let v1 : Int := (List.getD a.1 (Int.toNat v0.2) 0)
    let v2 : Int := v0.2
    let v3 : Int := (IntKind.i64.wrap (v0.1 + (IntKind.i64.wrap ((IntKind.i64.wrap (v2 + (1 : Int))) * v1))))
    j0 ((v3, (IntKind.i64.wrap (v0.2 + (1 : Int)))))
    else none
  else
  let v1 : Int := (Int.tmod v0.1 (101 : Int))
  some ((v1, ()))
def linear_sum_r (fu : Nat) (a : (List (Int)) × (Unit)) : Option ((Int) × (Unit)) :=
  loopF (linear_sum_l1 fu a) fu (((0 : Int), (0 : Int)))
def linear_sum_an : An := (.n none .z (.n none .z (.n none (.n none .z (.n none (.n (some ⟨[6, 7, 2], [], [], [.reg 3 (.int .i64), .reg 8 (.int .i64)], 0, []⟩) (.n none .z (.n none .z (.n none (.n none (.n none .z .z) .z) .z))) .z) .z)) (.n none .z .z))))
noncomputable def linear_sum_dc : List (Nat × Ctr) := []
def linear_sum_ctr : Ctr := ⟨(.pair (.list (.int .i64)) .unit), (.pair (.int .i64) .unit), linear_sum_r, 81⟩
theorem linear_sum_ok : CtrOk Try.prog 81 linear_sum_ctr := ctr_ok (l := linear_sum_dc) (f := 12) (an := linear_sum_an) trivial fun fu x => by kernel_rfl
def curve_Nearest_j1 (fu : Nat) (v3 : Int) : Option ((Int) × (Unit)) :=
  some ((v3, ()))
def curve_Nearest_r (fu : Nat) (a : (Int) × ((Int) × (Unit))) : Option ((Int) × (Unit)) :=
  let v0 : Int := (IntKind.i64.wrap ((IntKind.i64.wrap ((2 : Int) * a.1)) + a.2.1))
  let v1 : Int := (IntKind.i64.wrap ((2 : Int) * a.2.1))
  bif (decide (v1 ≠ (0 : Int))) then
  let v2 : Int := (IntKind.i64.wrap (Int.tdiv v0 v1))
  joinF (curve_Nearest_j1 fu) fun j3 =>
  bif (decide (v1 ≠ (0 : Int))) then
  bif (decide ((Int.tmod v0 v1) < (0 : Int))) then
    let v4 : Int := (IntKind.i64.wrap (v2 - (1 : Int)))
    j3 (v4)
  else
  j3 (v2)
  else none
  else none
def curve_Nearest_an : An := (.n none .z (.n none .z (.n none .z (.n (some ⟨[], [], [], [.reg 5 (.int .i64)], 0, []⟩) (.n none .z (.n none .z .z)) (.n none .z .z)))))
noncomputable def curve_Nearest_dc : List (Nat × Ctr) := []
def curve_Nearest_ctr : Ctr := ⟨(.pair (.int .i64) (.pair (.int .i64) .unit)), (.pair (.int .i64) .unit), curve_Nearest_r, 97⟩
theorem curve_Nearest_ok : CtrOk Try.prog 97 curve_Nearest_ctr := ctr_ok (l := curve_Nearest_dc) (f := 12) (an := curve_Nearest_an) trivial fun fu x => by kernel_rfl
def linear_value_l3 (fu : Nat) (v7 : (Int) × (List (Int))) (v8 : Int) (v9 : (Int) × ((Int) × ((Int) × ((Int) × ((Int) × (Int)))))) (j8 : (Int) → Option ((Int) × (Unit))) (j10 : (Int) → Option ((Int) × (Unit))) (v10 : Int) : Option ((Int) × (Unit)) :=
  bif (decide (v10 < (4 : Int))) then
    bif ((decide ((0 : Int) ≤ v10)) && (decide (v10 < (4 : Int)))) then
    let v11 : Int := (List.getD ((List.getD v7.2 (Int.toNat (0 : Int)) 0) :: ((List.getD v7.2 (Int.toNat (1 : Int)) 0) :: ((List.getD v7.2 (Int.toNat (2 : Int)) 0) :: ((List.getD v7.2 (Int.toNat (3 : Int)) 0) :: ([] : List (Int)))))) (Int.toNat v10) 0)
    bif (((decide ((0 : Int) ≤ v10)) && (decide (v10 < (List.length (v9.1 :: (v9.2.1 :: (v9.2.2.1 :: (v9.2.2.2.1 :: (v9.2.2.2.2.1 :: (v9.2.2.2.2.2 :: ([] : List (Int)))))))) : Int)))) && (decide (v10 < (6 : Int)))) then
    bif (((decide ((0 : Int) ≤ (IntKind.i64.wrap (v10 + (1 : Int))))) && (decide ((IntKind.i64.wrap (v10 + (1 : Int))) < (List.length (v9.1 :: (v9.2.1 :: (v9.2.2.1 :: (v9.2.2.2.1 :: (v9.2.2.2.2.1 :: (v9.2.2.2.2.2 :: ([] : List (Int)))))))) : Int)))) && (decide ((IntKind.i64.wrap (v10 + (1 : Int))) < (6 : Int)))) then
    bif (decide ((IntKind.i64.wrap ((List.getD (v9.1 :: (v9.2.1 :: (v9.2.2.1 :: (v9.2.2.2.1 :: (v9.2.2.2.2.1 :: (v9.2.2.2.2.2 :: ([] : List (Int)))))))) (Int.toNat v10) 0) + (List.getD (v9.1 :: (v9.2.1 :: (v9.2.2.1 :: (v9.2.2.2.1 :: (v9.2.2.2.2.1 :: (v9.2.2.2.2.2 :: ([] : List (Int)))))))) (Int.toNat (IntKind.i64.wrap (v10 + (1 : Int)))) 0))) ≠ v11)) then
      j8 ((IntKind.i64.wrap (v8 + (1 : Int))))
    else
    j10 ((IntKind.i64.wrap (v10 + (1 : Int))))
    else none
    else none
    else none
  else
  some ((v8, ()))
def linear_value_l2 (fu : Nat) (a : (List ((Int) × ((Int) × ((Int) × ((Int) × ((Int) × (Int))))))) × ((List (Int)) × (Unit))) (v7 : (Int) × (List (Int))) (j8 : (Int) → Option ((Int) × (Unit))) (v8 : Int) : Option ((Int) × (Unit)) :=
  bif (decide (v8 < (List.length a.1 : Int))) then
    bif ((decide ((0 : Int) ≤ v8)) && (decide (v8 < (List.length a.1 : Int)))) then
    let v9 : (Int) × ((Int) × ((Int) × ((Int) × ((Int) × (Int))))) := (List.getD a.1 (Int.toNat v8) (0, (0, (0, (0, (0, 0))))))
    bif (decide ((List.length ((0 : Int) :: ((0 : Int) :: ((0 : Int) :: ((0 : Int) :: ((0 : Int) :: ((0 : Int) :: ([] : List (Int)))))))) : Int) = (6 : Int))) then
    bif (decide ((List.length v7.2 : Int) = (4 : Int))) then
    loopF (linear_value_l3 fu v7 v8 v9 j8) fu ((0 : Int))
    else none
    else none
    else none
  else
  some (((-1 : Int), ()))
def linear_value_l1 (fu : Nat) (a : (List ((Int) × ((Int) × ((Int) × ((Int) × ((Int) × (Int))))))) × ((List (Int)) × (Unit))) (v6 : Int) (j7 : ((Int) × (List (Int))) → Option ((Int) × (Unit))) (v7 : (Int) × (List (Int))) : Option ((Int) × (Unit)) :=
  bif (decide (v7.1 < (4 : Int))) then
    let v8 : Int := v7.1
    bif ((decide ((0 : Int) ≤ v8)) && (decide (v8 < (List.length a.2.1 : Int)))) then
    let v9 : Int := (List.getD a.2.1 (Int.toNat v8) 0)
    bif ((decide ((0 : Int) ≤ (IntKind.i64.wrap (v8 + (1 : Int))))) && (decide ((IntKind.i64.wrap (v8 + (1 : Int))) < (List.length a.2.1 : Int)))) then
    let v10 : Int := (List.getD a.2.1 (Int.toNat (IntKind.i64.wrap (v8 + (1 : Int)))) 0)
    bindO (curve_Nearest_r fu (((IntKind.i64.wrap ((11 : Int) * (IntKind.i64.wrap (v9 + v10)))), (v6, ())))) fun v11 =>
    bif (((decide ((0 : Int) ≤ v8)) && (decide (v8 < (List.length v7.2 : Int)))) && (decide (v8 < (4 : Int)))) then
    j7 (((IntKind.i64.wrap (v7.1 + (1 : Int))), (List.set v7.2 (Int.toNat v8) v11.1)))
    else none
    else none
    else none
  else
  loopF (linear_value_l2 fu a v7) fu ((0 : Int))
def linear_value_r (fu : Nat) (a : (List ((Int) × ((Int) × ((Int) × ((Int) × ((Int) × (Int))))))) × ((List (Int)) × (Unit))) : Option ((Int) × (Unit)) :=
  bif (decide ((0 : Int) < (List.length a.2.1 : Int))) then
  let v0 : Int := (List.getD a.2.1 (Int.toNat (0 : Int)) 0)
  bif (decide ((1 : Int) < (List.length a.2.1 : Int))) then
  let v1 : Int := (List.getD a.2.1 (Int.toNat (1 : Int)) 0)
  bif (decide ((2 : Int) < (List.length a.2.1 : Int))) then
  let v2 : Int := (List.getD a.2.1 (Int.toNat (2 : Int)) 0)
  bif (decide ((3 : Int) < (List.length a.2.1 : Int))) then
  let v3 : Int := (List.getD a.2.1 (Int.toNat (3 : Int)) 0)
  bif (decide ((4 : Int) < (List.length a.2.1 : Int))) then
  let v4 : Int := (List.getD a.2.1 (Int.toNat (4 : Int)) 0)
  bif (decide ((5 : Int) < (List.length a.2.1 : Int))) then
  let v5 : Int := (List.getD a.2.1 (Int.toNat (5 : Int)) 0)
  let v6 : Int := (IntKind.i64.wrap ((IntKind.i64.wrap ((IntKind.i64.wrap ((IntKind.i64.wrap ((IntKind.i64.wrap (v0 + v1)) + v2)) + v3)) + v4)) + v5))
  loopF (linear_value_l1 fu a v6) fu (((0 : Int), ((0 : Int) :: ((0 : Int) :: ((0 : Int) :: ((0 : Int) :: ([] : List (Int))))))))
  else none
  else none
  else none
  else none
  else none
  else none
def linear_value_an : An := (.n none .z (.n none (.n none (.dr [] []) (.n none .z (.n none (.n none .z (.n none (.n (some ⟨[6, 0, 1, 5, 4], [], [], [.reg 35 (.int .i64), .row 0 true (.int .i64) 156 0], 0, []⟩) (.n none .z (.n none .z (.n none (.n none (.n none .z (.dr [] [])) .z) .z))) .z) .z)) (.n none .z (.n none (.n none .z (.n none (.n (some ⟨[54, 6, 55], [0], [], [.reg 56 (.int .i64)], 0, []⟩) (.n none .z (.n none .z (.n none (.n none (.n none .z (.n none (.n none .z (.n none (.n (some ⟨[8, 61, 9, 56], [1], [], [.reg 62 (.int .i64)], 0, []⟩) (.n none .z (.n none .z (.n none (.n none (.n none .z (.n none (.dr [] []) .z)) .z) .z))) .z) .z)) (.n none .z .z))) .z) .z))) .z) .z)) (.n none .z .z)))))) .z))
noncomputable def linear_value_dc : List (Nat × Ctr) := [(97, curve_Nearest_ctr)]
def linear_value_ctr : Ctr := ⟨(.pair (.list (.pair (.int .i64) (.pair (.int .i64) (.pair (.int .i64) (.pair (.int .i64) (.pair (.int .i64) (.int .i64))))))) (.pair (.list (.int .i64)) .unit)), (.pair (.int .i64) .unit), linear_value_r, 80⟩
theorem linear_value_ok : CtrOk Try.prog 80 linear_value_ctr := ctr_ok (l := linear_value_dc) (f := 12) (an := linear_value_an) ⟨curve_Nearest_ok, trivial⟩ fun fu x => by kernel_rfl
def linear_Decode_j2 (fu : Nat) (v1 : Int) (j1 : (Int) → Option ((List UInt8) × ((Int) × (Unit)))) (v3 : Bool) : Option ((List UInt8) × ((Int) × (Unit))) :=
  bif v3 then
    some ((([] : List UInt8), ((3 : Int), ())))
  else
  j1 ((IntKind.i64.wrap (v1 + (1 : Int))))
def linear_Decode_j5 (fu : Nat) (v5 : (List (Int)) × (List (Int))) (v6 : Bool) : Option ((List UInt8) × ((Int) × (Unit))) :=
  bif v6 then
    some ((([] : List UInt8), ((4 : Int), ())))
  else
  bif ((decide ((0 : Int) ≤ (IntKind.i64.wrap ((List.length v5.2 : Int) - (2 : Int))))) && (decide ((IntKind.i64.wrap ((List.length v5.2 : Int) - (2 : Int))) < (List.length v5.2 : Int)))) then
  let v7 : Int := (List.getD v5.2 (Int.toNat (IntKind.i64.wrap ((List.length v5.2 : Int) - (2 : Int)))) 0)
  bif ((decide ((1 : Int) ≤ (IntKind.i64.wrap ((List.length v5.2 : Int) - (2 : Int))))) && (decide ((IntKind.i64.wrap ((List.length v5.2 : Int) - (2 : Int))) ≤ (List.length v5.2 : Int)))) then
  bindO (linear_sum_r fu (((List.drop (Int.toNat (1 : Int)) (List.take (Int.toNat (IntKind.i64.wrap ((List.length v5.2 : Int) - (2 : Int)))) v5.2)), ()))) fun v8 =>
  bif (decide (v8.1 ≠ v7)) then
    some ((([] : List UInt8), ((11 : Int), ())))
  else
  bindO (linear_digits_r fu (((List.drop (Int.toNat (1 : Int)) (List.take (Int.toNat (IntKind.i64.wrap ((List.length v5.2 : Int) - (2 : Int)))) v5.2)), ()))) fun v9 =>
  let v10 : List UInt8 := v9.1
  let v11 : Int := v9.2.1
  some ((v10, (v11, ())))
  else none
  else none
def linear_Decode_l4 (fu : Nat) (v3 : List ((Int) × ((Int) × ((Int) × ((Int) × ((Int) × (Int))))))) (j5 : ((List (Int)) × (List (Int))) → Option ((List UInt8) × ((Int) × (Unit)))) (v5 : (List (Int)) × (List (Int))) : Option ((List UInt8) × ((Int) × (Unit))) :=
  bif (decide ((1 : Int) < (List.length v5.1 : Int))) then
    bindO (linear_value_r fu ((v3, (v5.1, ())))) fun v6 =>
    let v7 : Int := v6.1
    bif (decide (v7 < (0 : Int))) then
      some ((([] : List UInt8), ((4 : Int), ())))
    else
    bif (decide ((((List.length v5.2 : Int) + (List.length (v7 :: ([] : List (Int))) : Int)) * (8 : Int)) ≤ (140737488355328 : Int))) then
    bif (decide ((6 : Int) ≤ (List.length v5.1 : Int))) then
    let v8 : List (Int) := (List.drop (Int.toNat (6 : Int)) (List.take (Int.toNat (List.length v5.1 : Int)) v5.1))
    j5 ((v8, (v5.2 ++ (v7 :: ([] : List (Int))))))
    else none
    else none
  else
  joinF (linear_Decode_j5 fu v5) fun j6 =>
  bif (decide ((0 : Int) < (List.length v5.2 : Int))) then
  bif (decide ((List.getD v5.2 (Int.toNat (0 : Int)) 0) ≠ (101 : Int))) then
    j6 (true)
  else
  bif ((decide ((0 : Int) ≤ (IntKind.i64.wrap ((List.length v5.2 : Int) - (1 : Int))))) && (decide ((IntKind.i64.wrap ((List.length v5.2 : Int) - (1 : Int))) < (List.length v5.2 : Int)))) then
  j6 ((decide ((List.getD v5.2 (Int.toNat (IntKind.i64.wrap ((List.length v5.2 : Int) - (1 : Int)))) 0) ≠ (102 : Int))))
  else none
  else none
def linear_Decode_j3 (fu : Nat) (v3 : List ((Int) × ((Int) × ((Int) × ((Int) × ((Int) × (Int))))))) (v4 : List (Int)) : Option ((List UInt8) × ((Int) × (Unit))) :=
  loopF (linear_Decode_l4 fu v3) fu ((v4, ([] : List (Int))))
def linear_Decode_l6 (fu : Nat) (a : (List (Int)) × (Unit)) (v0 : Int) (j4 : (List (Int)) → Option ((List UInt8) × ((Int) × (Unit)))) (j6 : ((Int) × (List (Int))) → Option ((List UInt8) × ((Int) × (Unit)))) (v6 : (Int) × (List (Int))) : Option ((List UInt8) × ((Int) × (Unit))) :=
  bif (decide (v6.1 < (List.length a.1 : Int))) then
    bif ((decide ((0 : Int) ≤ v6.1)) && (decide (v6.1 < (List.length a.1 : Int)))) then
    let v7 : Int := (List.getD a.1 (Int.toNat v6.1) 0)
    let v8 : Int := v6.1
    bif ((decide ((0 : Int) ≤ (IntKind.i64.wrap ((IntKind.i64.wrap (v0 - (1 : Int))) - v8)))) && (decide ((IntKind.i64.wrap ((IntKind.i64.wrap (v0 - (1 : Int))) - v8)) < (List.length v6.2 : Int)))) then
    j6 (((IntKind.i64.wrap (v6.1 + (1 : Int))), (List.set v6.2 (Int.toNat (IntKind.i64.wrap ((IntKind.i64.wrap (v0 - (1 : Int))) - v8))) v7)))
    else none
    else none
  else
  j4 (v6.2)
def linear_Decode_l1 (fu : Nat) (a : (List (Int)) × (Unit)) (v0 : Int) (j1 : (Int) → Option ((List UInt8) × ((Int) × (Unit)))) (v1 : Int) : Option ((List UInt8) × ((Int) × (Unit))) :=
  bif (decide (v1 < (List.length a.1 : Int))) then
    bif ((decide ((0 : Int) ≤ v1)) && (decide (v1 < (List.length a.1 : Int)))) then
    let v2 : Int := (List.getD a.1 (Int.toNat v1) 0)
    joinF (linear_Decode_j2 fu v1 j1) fun j3 =>
    bif (decide (v2 < (1 : Int))) then
      j3 (true)
    else
    j3 ((decide ((1024 : Int) < v2)))
    else none
  else
  bindO (linear_patterns_r fu (())) fun v2 =>
  let v3 : List ((Int) × ((Int) × ((Int) × ((Int) × ((Int) × (Int)))))) := v2.1
  joinF (linear_Decode_j3 fu v3) fun j4 =>
  bindO (linear_value_r fu ((v3, (a.1, ())))) fun v5 =>
  bif (decide (v5.1 ≠ (101 : Int))) then
    bif ((decide ((0 : Int) ≤ v0)) && (decide (((8 : Int) * v0) ≤ (281474976710656 : Int)))) then
    loopF (linear_Decode_l6 fu a v0 j4) fu (((0 : Int), (List.replicate (Int.toNat v0) (0 : Int))))
    else none
  else
  j4 (a.1)
def linear_Decode_r (fu : Nat) (a : (List (Int)) × (Unit)) : Option ((List UInt8) × ((Int) × (Unit))) :=
  let v0 : Int := (List.length a.1 : Int)
  bif (decide ((85 : Int) < v0)) then
    some ((([] : List UInt8), ((2 : Int), ())))
  else
  bif (decide (v0 < (25 : Int))) then
    some ((([] : List UInt8), ((12 : Int), ())))
  else
  bif (decide ((Int.tmod v0 (6 : Int)) ≠ (1 : Int))) then
    some ((([] : List UInt8), ((4 : Int), ())))
  else
  loopF (linear_Decode_l1 fu a v0) fu ((0 : Int))
def linear_Decode_an : An := (.n none .z (.n none .z (.n none (.n none .z (.n none (.n none .z .z) .z)) (.n none (.n none .z (.n none (.n none .z .z) .z)) (.n none (.n none .z (.n none (.n none .z .z) .z)) (.n none (.n none .z (.n none (.n (some ⟨[0, 4, 23, 24], [], [], [.reg 25 (.int .i64)], 0, []⟩) (.n none .z (.n none .z (.n none (.n none (.n none .z (.n (some ⟨[25], [], [], [.reg 34 .bool], 0, []⟩) .z (.n none (.n none .z .z) .z))) .z) .z))) .z) .z)) (.n none .z (.n (some ⟨[7], [], [], [.reg 0 (.ro false (.int .i64))], 0, []⟩) (.n none .z (.n none (.n none .z (.n none (.n none .z (.n none (.n (some ⟨[8, 43, 4, 44], [], [], [.reg 45 (.int .i64), .row 0 true (.int .i64) 3 0], 0, []⟩) (.n none .z (.n none .z (.n none (.n none (.n none .z .z) .z) .z))) .z) .z)) .z)) .z)) (.n none .z (.n none (.n none (.n (some ⟨[], [], [(11, (.osl 0 0))], [.reg 0 (.ro false (.int .i64)), .row 0 true (.int .i64) 3 0], 1, [(11, (.int .i64), 3)]⟩) (.n none (.n none .z .z) (.n none (.n none (.n none .z (.n none (.n none .z (.n none (.n none .z .z) .z)) .z)) .z) .z)) .z) .z) (.n none (.n (some ⟨[11], [0], [], [.reg 85 .bool], 0, []⟩) .z (.n none (.n none .z .z) .z)) (.n none .z (.n none (.n none .z (.n none .z (.n none (.n none .z .z) .z))) (.n none .z .z))))))))))))))
noncomputable def linear_Decode_dc : List (Nat × Ctr) := [(79, linear_patterns_ctr), (80, linear_value_ctr), (81, linear_sum_ctr), (82, linear_digits_ctr)]
def linear_Decode_ctr : Ctr := ⟨(.pair (.list (.int .i64)) .unit), (.pair .str (.pair (.int .i64) .unit)), linear_Decode_r, 29⟩
theorem linear_Decode_ok : CtrOk Try.prog 29 linear_Decode_ctr := ctr_ok (l := linear_Decode_dc) (f := 12) (an := linear_Decode_an) ⟨linear_patterns_ok, ⟨linear_value_ok, ⟨linear_sum_ok, ⟨linear_digits_ok, trivial⟩⟩⟩⟩ fun fu x => by kernel_rfl
def R_SameInts_l1 (fu : Nat) (a : (List (Int)) × ((List (Int)) × (Unit))) (j0 : (Int) → Option ((Bool) × (Unit))) (v0 : Int) : Option ((Bool) × (Unit)) :=
  bif (decide (v0 < (List.length a.1 : Int))) then
    bif ((decide ((0 : Int) ≤ v0)) && (decide (v0 < (List.length a.1 : Int)))) then
    let v1 : Int := (List.getD a.1 (Int.toNat v0) 0)
    bif ((decide ((0 : Int) ≤ v0)) && (decide (v0 < (List.length a.2.1 : Int)))) then
    let v2 : Int := (List.getD a.2.1 (Int.toNat v0) 0)
    bif (decide (v1 ≠ v2)) then
      some ((false, ()))
    else
    j0 ((IntKind.i64.wrap (v0 + (1 : Int))))
    else none
    else none
  else
  some ((true, ()))
def R_SameInts_r (fu : Nat) (a : (List (Int)) × ((List (Int)) × (Unit))) : Option ((Bool) × (Unit)) :=
  bif (decide ((List.length a.1 : Int) ≠ (List.length a.2.1 : Int))) then
    some ((false, ()))
  else
  loopF (R_SameInts_l1 fu a) fu ((0 : Int))
def R_SameInts_an : An := (.n none .z (.n none (.n none .z (.n none (.n none .z .z) .z)) (.n none (.n none .z (.n none (.n (some ⟨[0, 1, 12], [], [], [.reg 13 (.int .i64)], 0, []⟩) (.n none .z (.n none .z (.n none (.n none (.n none .z (.n none (.dr [] []) (.n none (.n none .z .z) .z))) .z) .z))) .z) .z)) (.n none .z .z))))
noncomputable def R_SameInts_dc : List (Nat × Ctr) := []
def R_SameInts_ctr : Ctr := ⟨(.pair (.list (.int .i64)) (.pair (.list (.int .i64)) .unit)), (.pair .bool .unit), R_SameInts_r, 32⟩
theorem R_SameInts_ok : CtrOk Try.prog 32 R_SameInts_ctr := ctr_ok (l := R_SameInts_dc) (f := 12) (an := R_SameInts_an) trivial fun fu x => by kernel_rfl
def linear_Pattern_j1 (fu : Nat) (a : (Int) × (Unit)) (v0 : Bool) : Option ((List (Int)) × ((Int) × (Unit))) :=
  bif v0 then
    some ((([] : List (Int)), ((3 : Int), ())))
  else
  bindO (linear_patterns_r fu (())) fun v1 =>
  bif ((decide ((0 : Int) ≤ a.1)) && (decide (a.1 < (List.length v1.1 : Int)))) then
  let v2 : (Int) × ((Int) × ((Int) × ((Int) × ((Int) × (Int))))) := (List.getD v1.1 (Int.toNat a.1) (0, (0, (0, (0, (0, 0))))))
  bif (decide (((List.length (v2.1 :: (v2.2.1 :: (v2.2.2.1 :: (v2.2.2.2.1 :: (v2.2.2.2.2.1 :: (v2.2.2.2.2.2 :: ([] : List (Int)))))))) : Int) * (8 : Int)) ≤ (140737488355328 : Int))) then
  some (((v2.1 :: (v2.2.1 :: (v2.2.2.1 :: (v2.2.2.2.1 :: (v2.2.2.2.2.1 :: (v2.2.2.2.2.2 :: ([] : List (Int)))))))), ((0 : Int), ())))
  else none
  else none
def linear_Pattern_r (fu : Nat) (a : (Int) × (Unit)) : Option ((List (Int)) × ((Int) × (Unit))) :=
  joinF (linear_Pattern_j1 fu a) fun j0 =>
  bif (decide (a.1 < (0 : Int))) then
    j0 (true)
  else
  j0 ((decide ((103 : Int) ≤ a.1)))
def linear_Pattern_an : An := (.n none .z (.n none (.n (some ⟨[0], [], [], [.reg 9 .bool], 0, []⟩) .z (.n none (.n none .z .z) .z)) (.n none .z .z)))
noncomputable def linear_Pattern_dc : List (Nat × Ctr) := [(79, linear_patterns_ctr)]
def linear_Pattern_ctr : Ctr := ⟨(.pair (.int .i64) .unit), (.pair (.list (.int .i64)) (.pair (.int .i64) .unit)), linear_Pattern_r, 31⟩
theorem linear_Pattern_ok : CtrOk Try.prog 31 linear_Pattern_ctr := ctr_ok (l := linear_Pattern_dc) (f := 12) (an := linear_Pattern_an) ⟨linear_patterns_ok, trivial⟩ fun fu x => by kernel_rfl
def linear_Encode_l2 (fu : Nat) (v0 : (Int) × (List (Int))) (v2 : List ((Int) × ((Int) × ((Int) × ((Int) × ((Int) × (Int))))))) (j4 : ((Int) × (List (Int))) → Option ((List (Int)) × ((Int) × (Unit)))) (v4 : (Int) × (List (Int))) : Option ((List (Int)) × ((Int) × (Unit))) :=
  bif (decide (v4.1 < (List.length (v0.2 ++ ((102 : Int) :: ([] : List (Int)))) : Int))) then
    bif ((decide ((0 : Int) ≤ v4.1)) && (decide (v4.1 < (List.length (v0.2 ++ ((102 : Int) :: ([] : List (Int)))) : Int)))) then
    let v5 : Int := (List.getD (v0.2 ++ ((102 : Int) :: ([] : List (Int)))) (Int.toNat v4.1) 0)
    bif ((decide ((0 : Int) ≤ v5)) && (decide (v5 < (List.length v2 : Int)))) then
    let v6 : (Int) × ((Int) × ((Int) × ((Int) × ((Int) × (Int))))) := (List.getD v2 (Int.toNat v5) (0, (0, (0, (0, (0, 0))))))
    bif (decide ((((List.length v4.2 : Int) + (List.length (v6.1 :: (v6.2.1 :: (v6.2.2.1 :: (v6.2.2.2.1 :: (v6.2.2.2.2.1 :: (v6.2.2.2.2.2 :: ([] : List (Int)))))))) : Int)) * (8 : Int)) ≤ (140737488355328 : Int))) then
    j4 (((IntKind.i64.wrap (v4.1 + (1 : Int))), (v4.2 ++ (v6.1 :: (v6.2.1 :: (v6.2.2.1 :: (v6.2.2.2.1 :: (v6.2.2.2.2.1 :: (v6.2.2.2.2.2 :: ([] : List (Int)))))))))))
    else none
    else none
    else none
  else
  bif (decide ((((List.length v4.2 : Int) + (List.length ((2 : Int) :: ([] : List (Int))) : Int)) * (8 : Int)) ≤ (140737488355328 : Int))) then
  some (((v4.2 ++ ((2 : Int) :: ([] : List (Int)))), ((0 : Int), ())))
  else none
def linear_Encode_j1 (fu : Nat) (v0 : (Int) × (List (Int))) : Option ((List (Int)) × ((Int) × (Unit))) :=
  bif (decide (v0.1 ≠ (0 : Int))) then
    let v1 : Int := v0.1
    some ((([] : List (Int)), (v1, ())))
  else
  bindO (linear_patterns_r fu (())) fun v1 =>
  let v2 : List ((Int) × ((Int) × ((Int) × ((Int) × ((Int) × (Int)))))) := v1.1
  bif (decide ((101 : Int) < (List.length v2 : Int))) then
  let v3 : (Int) × ((Int) × ((Int) × ((Int) × ((Int) × (Int))))) := (List.getD v2 (Int.toNat (101 : Int)) (0, (0, (0, (0, (0, 0))))))
  bif (decide (((List.length (v3.1 :: (v3.2.1 :: (v3.2.2.1 :: (v3.2.2.2.1 :: (v3.2.2.2.2.1 :: (v3.2.2.2.2.2 :: ([] : List (Int)))))))) : Int) * (8 : Int)) ≤ (140737488355328 : Int))) then
  bif (decide ((((List.length v0.2 : Int) + (List.length ((102 : Int) :: ([] : List (Int))) : Int)) * (8 : Int)) ≤ (140737488355328 : Int))) then
  loopF (linear_Encode_l2 fu v0 v2) fu (((0 : Int), (v3.1 :: (v3.2.1 :: (v3.2.2.1 :: (v3.2.2.2.1 :: (v3.2.2.2.2.1 :: (v3.2.2.2.2.2 :: ([] : List (Int))))))))))
  else none
  else none
  else none
def linear_Encode_j4 (fu : Nat) (v4 : Int) (j0 : ((Int) × (List (Int))) → Option ((List (Int)) × ((Int) × (Unit)))) (j4 : (Int) → Option ((List (Int)) × ((Int) × (Unit)))) (v5 : Bool) : Option ((List (Int)) × ((Int) × (Unit))) :=
  bif v5 then
    j0 (((5 : Int), ([] : List (Int))))
  else
  j4 ((IntKind.i64.wrap (v4 + (1 : Int))))
def linear_Encode_l6 (fu : Nat) (j0 : ((Int) × (List (Int))) → Option ((List (Int)) × ((Int) × (Unit)))) (j6 : ((List UInt8) × (List (Int))) → Option ((List (Int)) × ((Int) × (Unit)))) (v6 : (List UInt8) × (List (Int))) : Option ((List (Int)) × ((Int) × (Unit))) :=
  bif (decide ((0 : Int) < (List.length v6.1 : Int))) then
    bif (decide ((0 : Int) < (List.length v6.1 : Int))) then
    bif (decide ((1 : Int) < (List.length v6.1 : Int))) then
    bif (decide ((((List.length v6.2 : Int) + (List.length ((IntKind.i64.wrap ((IntKind.i64.wrap ((10 : Int) * (IntKind.i64.wrap (IntKind.u8.wrap (((List.getD v6.1 (Int.toNat (0 : Int)) 0).toNat : Int) - (48 : Int)))))) + (IntKind.i64.wrap (IntKind.u8.wrap (((List.getD v6.1 (Int.toNat (1 : Int)) 0).toNat : Int) - (48 : Int)))))) :: ([] : List (Int))) : Int)) * (8 : Int)) ≤ (140737488355328 : Int))) then
    bif (decide ((2 : Int) ≤ (List.length v6.1 : Int))) then
    let v7 : List UInt8 := (List.drop (Int.toNat (2 : Int)) (List.take (Int.toNat (List.length v6.1 : Int)) v6.1))
    j6 ((v7, (v6.2 ++ ((IntKind.i64.wrap ((IntKind.i64.wrap ((10 : Int) * (IntKind.i64.wrap (IntKind.u8.wrap (((List.getD v6.1 (Int.toNat (0 : Int)) 0).toNat : Int) - (48 : Int)))))) + (IntKind.i64.wrap (IntKind.u8.wrap (((List.getD v6.1 (Int.toNat (1 : Int)) 0).toNat : Int) - (48 : Int)))))) :: ([] : List (Int))))))
    else none
    else none
    else none
    else none
  else
  bindO (linear_sum_r fu ((v6.2, ()))) fun v7 =>
  bif (decide ((((List.length v6.2 : Int) + (List.length (v7.1 :: ([] : List (Int))) : Int)) * (8 : Int)) ≤ (140737488355328 : Int))) then
  j0 (((0 : Int), (v6.2 ++ (v7.1 :: ([] : List (Int))))))
  else none
def linear_Encode_j5 (fu : Nat) (j0 : ((Int) × (List (Int))) → Option ((List (Int)) × ((Int) × (Unit)))) (v5 : (List UInt8) × (List (Int))) : Option ((List (Int)) × ((Int) × (Unit))) :=
  loopF (linear_Encode_l6 fu j0) fu ((v5.1, v5.2))
def linear_Encode_l3 (fu : Nat) (a : (List UInt8) × (Unit)) (j0 : ((Int) × (List (Int))) → Option ((List (Int)) × ((Int) × (Unit)))) (j4 : (Int) → Option ((List (Int)) × ((Int) × (Unit)))) (v4 : Int) : Option ((List (Int)) × ((Int) × (Unit))) :=
  bif (decide (v4 < (List.length a.1 : Int))) then
    joinF (linear_Encode_j4 fu v4 j0 j4) fun j5 =>
    bif ((decide ((0 : Int) ≤ v4)) && (decide (v4 < (List.length a.1 : Int)))) then
    bif (decide (((List.getD a.1 (Int.toNat v4) 0).toNat : Int) < (48 : Int))) then
      j5 (true)
    else
    bif ((decide ((0 : Int) ≤ v4)) && (decide (v4 < (List.length a.1 : Int)))) then
    j5 ((decide ((57 : Int) < ((List.getD a.1 (Int.toNat v4) 0).toNat : Int))))
    else none
    else none
  else
  joinF (linear_Encode_j5 fu j0) fun j5 =>
  bif (decide ((Int.tmod (List.length a.1 : Int) (2 : Int)) = (1 : Int))) then
    bif (decide (((List.length ((100 : Int) :: ([] : List (Int))) : Int) * (8 : Int)) ≤ (140737488355328 : Int))) then
    bif (decide (((List.length ([48] : List UInt8) : Int) + (List.length a.1 : Int)) ≤ (9223372036854775807 : Int))) then
    let v6 : List UInt8 := (([48] : List UInt8) ++ a.1)
    j5 ((v6, ((100 : Int) :: ([] : List (Int)))))
    else none
    else none
  else
  j5 ((a.1, ([] : List (Int))))
def linear_Encode_r (fu : Nat) (a : (List UInt8) × (Unit)) : Option ((List (Int)) × ((Int) × (Unit))) :=
  joinF (linear_Encode_j1 fu) fun j0 =>
  let v1 : Int := (List.length a.1 : Int)
  let v2 : Bool := (decide (v1 = (0 : Int)))
  bif v2 then
    j0 (((1 : Int), ([] : List (Int))))
  else
  let v3 : Bool := (decide ((20 : Int) < v1))
  bif v3 then
    j0 (((2 : Int), ([] : List (Int))))
  else
  loopF (linear_Encode_l3 fu a j0) fu ((0 : Int))
def linear_Encode_an : An := (.n none .z (.n (some ⟨[], [], [(4, (.osl 0 0))], [.reg 5 (.int .i64), .row 0 true (.int .i64) 3 0], 1, [(4, (.int .i64), 3)]⟩) (.ops [(1, (.n none (.n none .z (.n none (.n none .z (.n none (.n none .z (.n none (.n none .z .z) (.n none .z (.n none (.n none .z .z) .z)))) .z)) (.n none (.n none .z (.n none (.n (some ⟨[0, 16], [], [], [.reg 17 (.int .i64)], 0, []⟩) (.n none .z (.n none .z (.n none (.n none (.n none .z (.n (some ⟨[17], [], [], [.reg 29 .bool], 0, []⟩) .z (.n none (.n none .z .z) .z))) .z) .z))) .z) .z)) (.n none .z (.n (some ⟨[], [], [(6, (.osl 0 0))], [.reg 0 .str, .row 0 true (.int .i64) 3 0], 1, [(6, (.int .i64), 3)]⟩) (.n none .z (.n none .z .z)) (.n none (.n none (.n (some ⟨[], [], [(6, (.osl 0 0))], [.reg 0 .str, .row 0 true (.int .i64) 3 0], 0, []⟩) (.n none (.n none .z .z) (.n none (.n none (.dr [] []) .z) .z)) .z) .z) (.n none .z .z))))))) .z))]) (.n none (.n none .z (.n none (.n none .z .z) .z)) (.n none .z (.n none .z (.n none (.n none .z (.n none (.n (some ⟨[25, 6, 26], [2, 0], [(7, (.osl 1 0))], [.reg 27 (.int .i64), .row 1 false (.int .i64) 3 0], 0, []⟩) (.n none .z (.n none .z (.n none (.n none (.n none .z .z) .z) .z))) .z) .z)) (.n none .z .z)))))))
noncomputable def linear_Encode_dc : List (Nat × Ctr) := [(79, linear_patterns_ctr), (81, linear_sum_ctr)]
def linear_Encode_ctr : Ctr := ⟨(.pair .str .unit), (.pair (.list (.int .i64)) (.pair (.int .i64) .unit)), linear_Encode_r, 34⟩
theorem linear_Encode_ok : CtrOk Try.prog 34 linear_Encode_ctr := ctr_ok (l := linear_Encode_dc) (f := 12) (an := linear_Encode_an) ⟨linear_patterns_ok, ⟨linear_sum_ok, trivial⟩⟩ fun fu x => by kernel_rfl
def law_linearWorks_r (fu : Nat) (a : Unit) : Option ((Bool) × (Unit)) :=
  bindO (linear_Encode_r fu ((([48, 48] : List UInt8), ()))) fun v0 =>
  let v1 : List (Int) := v0.1
  let v2 : Int := v0.2.1
  bindO (linear_Decode_r fu ((v1, ()))) fun v3 =>
  let v4 : List UInt8 := v3.1
  let v5 : Int := v3.2.1
  bindO (linear_Pattern_r fu (((1 : Int), ()))) fun v6 =>
  let v7 : List (Int) := v6.1
  let v8 : Int := v6.2.1
  bif (decide (v2 = (0 : Int))) then
    bindO (R_SameInts_r fu ((v1, (((4 : Int) :: ((1 : Int) :: ((1 : Int) :: ((2 : Int) :: ((1 : Int) :: ((2 : Int) :: ((1 : Int) :: ((1 : Int) :: ((1 : Int) :: ((1 : Int) :: ((4 : Int) :: ((3 : Int) :: ((1 : Int) :: ((1 : Int) :: ((1 : Int) :: ((1 : Int) :: ((4 : Int) :: ((3 : Int) :: ((4 : Int) :: ((1 : Int) :: ((1 : Int) :: ((3 : Int) :: ((1 : Int) :: ((1 : Int) :: ((2 : Int) :: ([] : List (Int))))))))))))))))))))))))))), ())))) fun v9 =>
    bif v9.1 then
      bif (decide (v5 = (0 : Int))) then
        bif (decide (v4 = ([48, 48] : List UInt8))) then
          bif (decide (v8 = (0 : Int))) then
            bindO (R_SameInts_r fu ((v7, (((1 : Int) :: ((1 : Int) :: ((1 : Int) :: ((2 : Int) :: ((2 : Int) :: ((4 : Int) :: ([] : List (Int)))))))), ())))) fun v10 =>
            let v11 : Bool := v10.1
            some ((v11, ()))
          else
          some ((false, ()))
        else
        some ((false, ()))
      else
      some ((false, ()))
    else
    some ((false, ()))
  else
  some ((false, ()))
def law_linearWorks_an : An := (.n none .z (.n none .z (.n none .z (.n none .z (.n none .z .z)))))
noncomputable def law_linearWorks_dc : List (Nat × Ctr) := [(29, linear_Decode_ctr), (31, linear_Pattern_ctr), (32, R_SameInts_ctr), (34, linear_Encode_ctr)]
def law_linearWorks_ctr : Ctr := ⟨.unit, (.pair .bool .unit), law_linearWorks_r, 28⟩
theorem law_linearWorks_ok : CtrOk Try.prog 28 law_linearWorks_ctr := ctr_ok (l := law_linearWorks_dc) (f := 12) (an := law_linearWorks_an) ⟨linear_Decode_ok, ⟨linear_Pattern_ok, ⟨R_SameInts_ok, ⟨linear_Encode_ok, trivial⟩⟩⟩⟩ fun fu x => by kernel_rfl
def law_LinearReads_r (fu : Nat) (a : (List (Int)) × (Unit)) : Option ((Bool) × (Unit)) :=
  bindO (law_linearWorks_r fu (())) fun v0 =>
  bif (!v0.1) then
    some ((false, ()))
  else
  bindO (linear_Decode_r fu ((a.1, ()))) fun v1 =>
  let v2 : List UInt8 := v1.1
  let v3 : Int := v1.2.1
  bindO (law_decoded_r fu ((a.1, ()))) fun v4 =>
  let v5 : List UInt8 := v4.1
  let v6 : Int := v4.2.1
  bif (decide (v2 = v5)) then
    let v7 : Bool := (decide (v3 = v6))
    some ((v7, ()))
  else
  some ((false, ()))
def law_LinearReads_an : An := (.n none .z (.n none (.n none .z (.n none (.n none .z .z) .z)) (.n none .z (.n none .z (.n none .z .z)))))
noncomputable def law_LinearReads_dc : List (Nat × Ctr) := [(28, law_linearWorks_ctr), (29, linear_Decode_ctr), (30, law_decoded_ctr)]
def law_LinearReads_ctr : Ctr := ⟨(.pair (.list (.int .i64)) .unit), (.pair .bool .unit), law_LinearReads_r, 6⟩
theorem law_LinearReads_ok : CtrOk Try.prog 6 law_LinearReads_ctr := ctr_ok (l := law_LinearReads_dc) (f := 12) (an := law_LinearReads_an) ⟨law_linearWorks_ok, ⟨linear_Decode_ok, ⟨law_decoded_ok, trivial⟩⟩⟩ fun fu x => by kernel_rfl
end Go.Proofs.Ytedjnjgnadbkaaa
/- Plain facts for residual programs. No program in sight. -/
namespace Go.Proofs.Ytedjnjgnadbkaaa
open Go Go.RowKit
theorem bif_pos {α : Type} {p : Prop} [Decidable p] {a b : α} (h : p) : (bif decide p then a else b) = a := by rw [decide_eq_true h]; rfl
theorem bif_neg {α : Type} {p : Prop} [Decidable p] {a b : α} (h : ¬ p) : (bif decide p then a else b) = b := by rw [decide_eq_false h]; rfl
theorem joinF_eq {α β : Type} (J : α → Option β) (b : (α → Option β) → Option β) : joinF J b = b J := rfl
theorem bindO_some {α β : Type} (x : α) (k : α → Option β) : bindO (some x) k = k x := rfl
/-- the fuel -/
def FU : Nat := 18446744073709551616
theorem FU_val : FU = 18446744073709551616 := rfl
/-! ### What is left of a loop -/
end Go.Proofs.Ytedjnjgnadbkaaa
/- Plain facts on whole numbers: rounding, floor division. No program in sight. -/
namespace Go.Proofs.Ytedjnjgnadbkaaa

/-- n/d rounded half up -/
def rnd (n d : Int) : Int := (2 * n + d) / (2 * d)

theorem div_uniq {a b q r : Int} (hb : 0 < b) (h : r + b * q = a) (h0 : 0 ≤ r) (h1 : r < b) : a / b = q :=
  ((Int.ediv_emod_unique hb).2 ⟨h, h0, h1⟩).1

theorem tdiv_neg {a b : Int} (hb : 0 < b) (h : a.tmod b < 0) : a.tdiv b - 1 = a / b := by
  have h1 := Int.tmod_add_mul_tdiv a b
  have h2 : -b < a.tmod b := by
    have := Int.lt_tmod_of_pos a hb
    omega
  refine (div_uniq (r := a.tmod b + b) hb ?_ (by omega) (by omega)).symm
  rw [Int.mul_sub]; omega

theorem tdiv_pos {a b : Int} (hb : 0 < b) (h : 0 ≤ a.tmod b) : a.tdiv b = a / b := by
  have h1 := Int.tmod_add_mul_tdiv a b
  have h2 : a.tmod b < b := Int.tmod_lt_of_pos a hb
  exact (div_uniq (r := a.tmod b) hb (by omega) (by omega) (by omega)).symm

theorem tdiv_over {a b : Int} (hb : 0 < b) (h : a < a.tdiv b * b) : a.tdiv b - 1 = a / b := by
  have h1 := Int.tmod_add_mul_tdiv a b
  refine tdiv_neg hb ?_
  rw [Int.mul_comm] at h1; omega

theorem tdiv_under {a b : Int} (hb : 0 < b) (h : a.tdiv b * b ≤ a) : a.tdiv b = a / b := by
  have h1 := Int.tmod_add_mul_tdiv a b
  refine tdiv_pos hb ?_
  rw [Int.mul_comm] at h1; omega

/-- the reference's way of rounding -/
theorem rnd_up {n d : Int} (hd : 0 < d) (h : d ≤ 2 * (n - n / d * d)) : n / d + 1 = rnd n d := by
  have h1 := Int.emod_add_mul_ediv n d
  have h2 := Int.emod_lt_of_pos n hd
  have h3 := Int.emod_nonneg n (by omega : d ≠ 0)
  rw [Int.mul_comm] at h1
  refine (div_uniq (r := 2 * (n % d) - d) (by omega) ?_ (by omega) (by omega)).symm
  have e : 2 * d * (n / d + 1) = 2 * (n / d * d) + 2 * d := by rw [Int.mul_add, Int.mul_assoc, Int.mul_comm d]; omega
  omega

theorem rnd_down {n d : Int} (hd : 0 < d) (h : 2 * (n - n / d * d) < d) : n / d = rnd n d := by
  have h1 := Int.emod_add_mul_ediv n d
  have h2 := Int.emod_lt_of_pos n hd
  have h3 := Int.emod_nonneg n (by omega : d ≠ 0)
  rw [Int.mul_comm] at h1
  refine (div_uniq (r := 2 * (n % d) + d) (by omega) ?_ (by omega) (by omega)).symm
  have e : 2 * d * (n / d) = 2 * (n / d * d) := by rw [Int.mul_assoc, Int.mul_comm d]
  omega

theorem tdiv_abs {n m : Int} (d : Int) (h1 : -m ≤ n) (h2 : n ≤ m) : -m ≤ n.tdiv d ∧ n.tdiv d ≤ m := by
  have := Int.natAbs_tdiv_le_natAbs n d
  omega

end Go.Proofs.Ytedjnjgnadbkaaa
/- Rewriting of residual programs by facts of arithmetic. No program in sight. -/
namespace Go.Proofs.Ytedjnjgnadbkaaa
open Go Go.RowKit
theorem s_pos {p : Prop} [Decidable p] (h : p) : decide p = true := decide_eq_true h
theorem s_neg {p : Prop} [Decidable p] (h : ¬ p) : decide p = false := decide_eq_false h
theorem s_wr {x : Int} (h0 : -9223372036854775808 ≤ x) (h1 : x ≤ 9223372036854775807) : IntKind.i64.wrap x = x := wr64 h0 h1
theorem s_td {a b : Int} (h : 0 ≤ a) : Int.tdiv a b = a / b := Int.tdiv_eq_ediv_of_nonneg h
theorem s_tm {a b : Int} (h : 0 ≤ a) : Int.tmod a b = a % b := Int.tmod_eq_emod_of_nonneg h
/-- the first error of n steps from step i on -/
def firstE (E : Nat → Int) : Nat → Nat → Int
  | 0, _ => 0
  | n + 1, i => if E i = 0 then firstE E n (i + 1) else E i
theorem firstE_step {E : Nat → Int} {i m : Nat} (hi : i < m) : firstE E (m - i) i = if E i = 0 then firstE E (m - (i + 1)) (i + 1) else E i := by
  rw [show m - i = (m - (i + 1)) + 1 by omega, firstE]
theorem firstE_ok {E : Nat → Int} : ∀ (n i : Nat), firstE E n i = 0 → ∀ k, i ≤ k → k < i + n → E k = 0
  | 0, _, _, _, _, _ => by omega
  | n + 1, i, h0, k, h1, h2 => by
    rw [firstE] at h0
    by_cases c : E i = 0
    · rw [if_pos c] at h0
      by_cases e : k = i
      · subst e; exact c
      · exact firstE_ok n (i + 1) h0 k (by omega) (by omega)
    · rw [if_neg c] at h0
      exact absurd h0 c
/-- a list by its values -/
def tabL {α : Type} (n : Nat) (G : Int → α) : List α := (List.range n).map fun i : Nat => G (i : Int)
section
variable {α : Type} {n : Nat} {G G' : Int → α}
theorem tabL_length (n : Nat) (G : Int → α) : (tabL n G).length = n := by rw [tabL, List.length_map, List.length_range]
theorem tabL_getElem {q : Nat} (h : q < (tabL n G).length) : (tabL n G)[q] = G q := by simp only [tabL, List.getElem_map, List.getElem_range]
theorem tabL_getD {d : α} {i : Int} (h0 : 0 ≤ i) (h1 : i < n) : (tabL n G).getD i.toNat d = G i := by
  rw [List.getD_eq_getElem?_getD, List.getElem?_eq_getElem (by rw [tabL_length]; omega), Option.getD_some, tabL_getElem, Int.toNat_of_nonneg h0]
theorem tabL_set {k : Int} {v : α} (h0 : 0 ≤ k) (hk : G' k = v) (h : ∀ i : Int, 0 ≤ i → i < (n : Int) → i ≠ k → G i = G' i) : (tabL n G).set k.toNat v = tabL n G' := by
  refine List.ext_getElem (by rw [List.length_set, tabL_length, tabL_length]) fun q g1 g2 => ?_
  rw [List.getElem_set, tabL_getElem, tabL_getElem]
  rw [tabL_length] at g2
  split
  · rename_i e
    rw [← hk, ← e, Int.toNat_of_nonneg h0]
  · exact h q (by omega) (by omega) (by omega)
theorem tabL_rep {d : α} (h : ∀ i : Int, 0 ≤ i → i < (n : Int) → G i = d) : tabL n G = List.replicate n d := by
  refine List.ext_getElem (by rw [tabL_length, List.length_replicate]) fun q g1 g2 => ?_
  rw [tabL_getElem, List.getElem_replicate]
  rw [tabL_length] at g1
  exact h q (by omega) (by omega)
end
end Go.Proofs.Ytedjnjgnadbkaaa
/- Loops by their first error, by what is found, by a postcondition. No program in sight. -/
namespace Go.Proofs.Ytedjnjgnadbkaaa
open Go Go.RowKit
set_option linter.unusedSimpArgs false
set_option linter.unusedSectionVars false
set_option linter.unusedVariables false
/-- a loop by an invariant and a postcondition of its result -/
theorem postLoop {X β : Type} {f : (X → Option β) → X → Option β} (μ : X → Nat) (I : X → Prop) (Q : Option β → Prop)
    (h : ∀ j x, I x → (∃ x', I x' ∧ μ x' < μ x ∧ f j x = j x') ∨ Q (f j x)) : ∀ (fu : Nat) (x : X), I x → μ x < fu → Q (loopF f fu x)
  | 0, _, _, h0 => absurd h0 (Nat.not_lt_zero _)
  | fu + 1, x, hI, hm => by
    rw [loopF]
    rcases h (loopF f fu) x hI with ⟨x', h1, h2, h3⟩ | h3
    · rw [h3]
      exact postLoop μ I Q h fu x' h1 (by omega)
    · exact h3
section
variable {β : Type} {f : (Int → Option β) → Int → Option β} {n fu : Nat} (hn : n < fu)
include hn
theorem findLoop {p : Nat → Prop} {hit : Nat → Option β} {miss : Option β} (hit' : ∀ j (i : Nat), i < n → p i → f j i = hit i) (next : ∀ j (i : Nat), i < n → ¬ p i → f j i = j ((i : Int) + 1)) (last : ∀ j, f j n = miss) :
    (∃ k, k < n ∧ p k ∧ (∀ l, l < k → ¬ p l) ∧ loopF f fu 0 = hit k) ∨ ((∀ l, l < n → ¬ p l) ∧ loopF f fu 0 = miss) := by
  refine postLoop (f := f) (fun i : Int => ((n : Int) - i).toNat) (fun i => ∃ k : Nat, i = k ∧ k ≤ n ∧ ∀ l, l < k → ¬ p l) (fun r => (∃ k, k < n ∧ p k ∧ (∀ l, l < k → ¬ p l) ∧ r = hit k) ∨ ((∀ l, l < n → ¬ p l) ∧ r = miss)) ?_ fu 0 ⟨0, rfl, by omega, by omega⟩ (by omega)
  rintro j _ ⟨i, rfl, k1, k2⟩
  by_cases hi : i < n
  · by_cases hp : p i
    · exact .inr (.inl ⟨i, hi, hp, k2, hit' j i hi hp⟩)
    · refine .inl ⟨(i : Int) + 1, ⟨i + 1, by omega, by omega, fun l hl => ?_⟩, by omega, next j i hi hp⟩
      by_cases e : l = i
      · rw [e]; exact hp
      · exact k2 l (by omega)
  · have e : i = n := by omega
    subst e
    exact .inr (.inr ⟨k2, last j⟩)
end
theorem firstE_all {E : Nat → Int} : ∀ (m i0 : Nat), (∀ k, i0 ≤ k → k < i0 + m → E k = 0) → firstE E m i0 = 0
  | 0, _, _ => rfl
  | m + 1, i0, h => by
    rw [firstE, if_pos (h i0 (Nat.le_refl _) (by omega))]
    exact firstE_all m (i0 + 1) fun k g1 g2 => h k (by omega) (by omega)
/-- a loop through the states st 0, st 1, .. that is left at the first error -/
theorem errGen {X β : Type} {f : (X → Option β) → X → Option β} {n : Nat} {st : Nat → X} {E : Nat → Int} {out : Int → Option β} {fin : Option β}
    (step : ∀ j (i : Nat), i < n → (∀ k, k < i → E k = 0) → f j (st i) = if E i = 0 then j (st (i + 1)) else out (E i)) (last : (∀ k, k < n → E k = 0) → ∀ j, f j (st n) = fin) :
    ∀ (fu i : Nat), i ≤ n → n - i < fu → (∀ k, k < i → E k = 0) → loopF f fu (st i) = if firstE E (n - i) i = 0 then fin else out (firstE E (n - i) i)
  | 0, i, _, h, _ => by omega
  | fu + 1, i, h0, h1, hE => by
    rw [loopF]
    by_cases hi : i < n
    · rw [step _ i hi hE, firstE_step hi]
      by_cases e : E i = 0
      · rw [if_pos e]
        simp only [if_pos e]
        exact errGen step last fu (i + 1) (by omega) (by omega) fun k hk => by
          by_cases q : k = i
          · rw [q]; exact e
          · exact hE k (by omega)
      · rw [if_neg e]
        simp only [if_neg e]
    · have e : i = n := by omega
      subst e
      rw [last hE, Nat.sub_self]; rfl
theorem tabL_getDN {α : Type} {n i : Nat} {G : Int → α} {d : α} (h : i < n) : (tabL n G).getD i d = G i := by
  have := tabL_getD (n := n) (G := G) (d := d) (i := (i : Int)) (by omega) (by omega)
  rw [Int.toNat_natCast] at this; exact this
end Go.Proofs.Ytedjnjgnadbkaaa
/- The reference's patterns of bars. -/
set_option maxRecDepth 100000
namespace Go.Proofs.Ytedjnjgnadbkaaa
open Go Go.RowKit
set_option linter.unusedSimpArgs false
set_option linter.unusedSectionVars false
set_option linter.unusedVariables false
theorem stL3 {X β : Type} {f : (X → Option β) → X → Option β} {n fu : Nat} (hn : n < fu) {st : Nat → X} {x0 : X} {fin : Option β} (h0 : st 0 = x0)
    (step : ∀ j (i : Nat), i < n → f j (st i) = j (st (i + 1))) (last : ∀ j, f j (st n) = fin) : loopF f fu x0 = fin := by
  have key := errGen (f := f) (n := n) (st := st) (E := fun _ => 0) (out := fun _ => none) (fin := fin) (fun j i hi _ => by rw [if_pos rfl]; exact step j i hi) (fun _ => last) fu 0 (by omega) (by omega) (by omega)
  rw [if_pos (firstE_all _ _ fun _ _ _ => rfl), h0] at key
  exact key
def rpats : List (List Int) :=
  [[1, 1, 1, 1, 4, 3], [1, 1, 1, 2, 2, 4], [1, 1, 1, 2, 4, 2], [1, 1, 1, 3, 2, 3], [1, 1, 1, 3, 4, 1], [1, 1, 1, 4, 2, 2],
   [1, 1, 2, 1, 3, 3], [1, 1, 2, 2, 1, 4], [1, 1, 2, 2, 3, 2], [1, 1, 2, 3, 1, 3], [1, 1, 2, 3, 3, 1], [1, 1, 2, 4, 1, 2],
   [1, 1, 3, 1, 2, 3], [1, 1, 3, 1, 4, 1], [1, 1, 3, 2, 2, 2], [1, 1, 3, 3, 2, 1], [1, 1, 4, 1, 1, 3], [1, 1, 4, 1, 3, 1],
   [1, 1, 4, 2, 1, 2], [1, 1, 4, 3, 1, 1], [1, 2, 1, 1, 2, 4], [1, 2, 1, 1, 4, 2], [1, 2, 1, 2, 2, 3], [1, 2, 1, 2, 4, 1],
   [1, 2, 1, 3, 2, 2], [1, 2, 1, 4, 2, 1], [1, 2, 2, 1, 1, 4], [1, 2, 2, 1, 3, 2], [1, 2, 2, 2, 1, 3], [1, 2, 2, 2, 3, 1],
   [1, 2, 2, 3, 1, 2], [1, 2, 2, 4, 1, 1], [1, 2, 3, 1, 2, 2], [1, 2, 3, 2, 2, 1], [1, 2, 4, 1, 1, 2], [1, 2, 4, 2, 1, 1],
   [1, 3, 1, 1, 2, 3], [1, 3, 1, 1, 4, 1], [1, 3, 1, 2, 2, 2], [1, 3, 1, 3, 2, 1], [1, 3, 2, 1, 1, 3], [1, 3, 2, 1, 3, 1],
   [1, 3, 2, 2, 1, 2], [1, 3, 2, 3, 1, 1], [1, 3, 3, 1, 2, 1], [1, 3, 4, 1, 1, 1], [1, 4, 1, 1, 2, 2], [1, 4, 1, 2, 2, 1],
   [1, 4, 2, 1, 1, 2], [1, 4, 2, 2, 1, 1], [2, 1, 1, 1, 3, 3], [2, 1, 1, 2, 1, 4], [2, 1, 1, 2, 3, 2], [2, 1, 1, 3, 1, 3],
   [2, 1, 1, 3, 3, 1], [2, 1, 1, 4, 1, 2], [2, 1, 2, 1, 2, 3], [2, 1, 2, 1, 4, 1], [2, 1, 2, 2, 2, 2], [2, 1, 2, 3, 2, 1],
   [2, 1, 3, 1, 1, 3], [2, 1, 3, 1, 3, 1], [2, 1, 3, 2, 1, 2], [2, 1, 3, 3, 1, 1], [2, 1, 4, 1, 2, 1], [2, 2, 1, 1, 1, 4],
   [2, 2, 1, 1, 3, 2], [2, 2, 1, 2, 1, 3], [2, 2, 1, 2, 3, 1], [2, 2, 1, 3, 1, 2], [2, 2, 1, 4, 1, 1], [2, 2, 2, 1, 2, 2],
   [2, 2, 2, 2, 2, 1], [2, 2, 3, 1, 1, 2], [2, 2, 3, 2, 1, 1], [2, 3, 1, 1, 1, 3], [2, 3, 1, 1, 3, 1], [2, 3, 1, 2, 1, 2],
   [2, 3, 1, 3, 1, 1], [2, 3, 2, 1, 2, 1], [2, 3, 3, 1, 1, 1], [2, 4, 1, 1, 1, 2], [2, 4, 1, 2, 1, 1], [3, 1, 1, 1, 2, 3],
   [3, 1, 1, 1, 4, 1], [3, 1, 1, 2, 2, 2], [3, 1, 1, 3, 2, 1], [3, 1, 2, 1, 1, 3], [3, 1, 2, 1, 3, 1], [3, 1, 2, 2, 1, 2],
   [3, 1, 2, 3, 1, 1], [3, 1, 3, 1, 2, 1], [3, 1, 4, 1, 1, 1], [3, 2, 1, 1, 2, 2], [3, 2, 1, 2, 2, 1], [3, 2, 2, 1, 1, 2],
   [3, 2, 2, 2, 1, 1], [3, 3, 1, 1, 2, 1], [3, 3, 2, 1, 1, 1], [4, 1, 1, 1, 1, 3], [4, 1, 1, 1, 3, 1], [4, 1, 1, 2, 1, 2],
   [4, 1, 1, 3, 1, 1], [4, 1, 2, 1, 2, 1], [4, 1, 3, 1, 1, 1], [4, 2, 1, 1, 1, 2], [4, 2, 1, 2, 1, 1], [4, 3, 1, 1, 1, 1]]
theorem bits_and3 (a : Nat) (ha : a < 4096) : bits BinOp.and IntKind.i64 (a : Int) (3 : Int) = ((a % 4 : Nat) : Int) := by
  have h1 : (BitVec.ofInt 64 (a : Int)).toNat = a := by
    rw [BitVec.ofInt_natCast, BitVec.toNat_ofNat]; exact Nat.mod_eq_of_lt (by omega)
  show IntKind.i64.wrap ((BitVec.ofInt 64 (a : Int) &&& BitVec.ofInt 64 3).toNat : Int) = _
  rw [BitVec.toNat_and, h1, show (BitVec.ofInt 64 3).toNat = 2 ^ 2 - 1 from rfl, Nat.and_two_pow_sub_one_eq_mod]
  exact wr64 (by omega) (by omega)
def dg (n k : Nat) : Nat := 1 + n / 4 ^ (5 - k) % 4
def dgl (n : Nat) : List Int := (List.range 6).map fun k => ((dg n k : Nat) : Int)
def sumD (n k : Nat) : Nat := ((List.range k).map (dg n)).sum
def goodN (n : Nat) : Bool := Nat.beq (sumD n 6) 11 && Nat.beq ((dg n 0 + dg n 2 + dg n 4) % 2) 0
def RU (n : Nat) : List (List Int) := ((List.range n).filter goodN).map dgl
theorem RU_succ (n : Nat) : RU (n + 1) = RU n ++ (if goodN n = true then [dgl n] else []) := by
  unfold RU
  rw [List.range_succ, List.filter_append, List.map_append]
  cases h : goodN n <;> simp [h]
theorem RU_len (n : Nat) : (RU n).length ≤ n := by
  unfold RU
  rw [List.length_map]
  exact Nat.le_trans (List.length_filter_le _ _) (by rw [List.length_range]; exact Nat.le_refl _)
theorem RU_all : RU 4096 = rpats := by decide +kernel
theorem dg_bd (n k : Nat) : 1 ≤ dg n k ∧ dg n k ≤ 4 := by unfold dg; have := Nat.mod_lt (n / 4 ^ (5 - k)) (show 4 > 0 by omega); omega
theorem sumD_succ (n k : Nat) : sumD n (k + 1) = sumD n k + dg n k := by
  unfold sumD
  rw [List.range_succ, List.map_append, List.sum_append]; simp
theorem sumD_bd (n : Nat) : ∀ k, sumD n k ≤ 4 * k
  | 0 => by simp [sumD]
  | k + 1 => by have := sumD_bd n k; have := dg_bd n k; rw [sumD_succ]; omega
theorem dgl_get (n k : Nat) (hk : k < 6) : (dgl n).getD k 0 = ((dg n k : Nat) : Int) := by
  unfold dgl
  rw [List.getD_eq_getElem?_getD, List.getElem?_map, List.getElem?_range hk]; rfl
theorem pw4 (k : Nat) : (2 : Int) ^ (2 * k) = ((4 ^ k : Nat) : Int) := by
  rw [Int.natCast_pow, Int.pow_mul]; rfl
theorem pats_in (n : Nat) (hn : n < 4096) (j1 : Int × List (List Int) → Option (List (List Int) × Unit)) :
    loopF (R_Patterns_l3 FU ((n : Int), RU n) (n : Int) j1) FU (0, (5, (RU n, []))) = j1 ((n : Int), RU (n + 1)) := by
  refine stL3 (n := 6) (by rw [FU_val]; omega) (st := fun i : Nat => (((sumD n i : Nat) : Int), (5 - (i : Int), (RU n, (List.range i).map fun k => ((dg n k : Nat) : Int))))) (by rfl) (fun j i hi => ?_) (fun j => ?_)
  · unfold R_Patterns_l3
    have b1 := sumD_bd n i
    have b2 := dg_bd n i
    have hv : bits BinOp.and IntKind.i64 ((n : Int) / 2 ^ (Int.toNat (IntKind.i64.wrap (2 * (5 - (i : Int)))))) 3 = ((n / 4 ^ (5 - i) % 4 : Nat) : Int) := by
      rw [s_wr (by omega) (by omega), show Int.toNat (2 * (5 - (i : Int))) = 2 * (5 - i) by omega, pw4, ← Int.natCast_ediv]
      exact bits_and3 _ (Nat.lt_of_le_of_lt (Nat.div_le_self _ _) hn)
    have hd : IntKind.i64.wrap (1 + ((n / 4 ^ (5 - i) % 4 : Nat) : Int)) = ((dg n i : Nat) : Int) := by
      have := Nat.mod_lt (n / 4 ^ (5 - i)) (show 4 > 0 by omega)
      rw [s_wr (by omega) (by omega)]
      unfold dg
      omega
    simp only [hv, hd]
    have hl : ((List.range i).map fun k => ((dg n k : Nat) : Int)) ++ ((dg n i : Nat) : Int) :: [] = (List.range (i + 1)).map fun k => ((dg n k : Nat) : Int) := by
      rw [List.range_succ, List.map_append]; rfl
    simp only [hl]
    simp (disch := omega) only [joinF_eq, bindO_some, s_wr, s_td, s_tm, s_pos, s_neg, cond_true, cond_false, Bool.not_true, Bool.not_false, Bool.true_and, Bool.and_true, Bool.false_and, Bool.and_false, bne_self_eq_false, decide_true, decide_false, Int.toNat_natCast, List.length_map, List.length_range, List.length_cons, List.length_nil]
    rw [show Int.toNat (5 - (5 - (i : Int))) = i by omega, List.getD_eq_getElem?_getD, List.getElem?_map, List.getElem?_range (by omega : i < i + 1), Option.map_some, Option.getD_some, s_wr (by omega) (by omega), sumD_succ]
    congr 2
    refine Prod.ext ?_ rfl
    simp only
    omega
  · unfold R_Patterns_l3 R_Patterns_j4
    have b1 := sumD_bd n 6
    have d0 := dg_bd n 0
    have d2 := dg_bd n 2
    have d4 := dg_bd n 4
    have hL : ((List.range 6).map fun k => ((dg n k : Nat) : Int)) = dgl n := rfl
    have hlen : (dgl n).length = 6 := by simp [dgl]
    have g0 := dgl_get n 0 (by omega)
    have g2 := dgl_get n 2 (by omega)
    have g4 := dgl_get n 4 (by omega)
    have hR := RU_len n
    simp only [hL]
    simp (disch := omega) only [joinF_eq, bindO_some, s_wr, s_td, s_tm, s_pos, s_neg, cond_true, cond_false, Bool.not_true, Bool.not_false, Bool.true_and, Bool.and_true, Bool.false_and, Bool.and_false, bne_self_eq_false, decide_true, decide_false, Int.toNat_natCast, List.length_cons, List.length_nil]
    rw [RU_succ]
    have hgood : goodN n = decide (sumD n 6 = 11 ∧ (dg n 0 + dg n 2 + dg n 4) % 2 = 0) := by
      unfold goodN
      rw [Bool.eq_iff_iff]
      simp [Nat.beq_eq]
    by_cases hs : sumD n 6 = 11
    · have z0 : Int.toNat (0 : Int) = 0 := rfl
      have z2 : Int.toNat (2 : Int) = 2 := rfl
      have z4 : Int.toNat (4 : Int) = 4 := rfl
      simp only [z0, z2, z4, g0, g2, g4, hlen]
      simp (disch := omega) only [joinF_eq, bindO_some, s_wr, s_td, s_tm, s_pos, s_neg, cond_true, cond_false, Bool.not_true, Bool.not_false, Bool.true_and, Bool.and_true, Bool.false_and, Bool.and_false, bne_self_eq_false, decide_true, decide_false, Int.toNat_natCast]
      by_cases he : (dg n 0 + dg n 2 + dg n 4) % 2 = 0
      · have hg : goodN n = true := by rw [hgood]; exact decide_eq_true ⟨hs, he⟩
        rw [if_pos hg]
        simp (disch := omega) only [joinF_eq, bindO_some, s_wr, s_td, s_tm, s_pos, s_neg, cond_true, cond_false, Bool.not_true, Bool.not_false, Bool.true_and, Bool.and_true, Bool.false_and, Bool.and_false, bne_self_eq_false, decide_true, decide_false, Int.toNat_natCast]
      · have hg : ¬ goodN n = true := by rw [hgood]; exact fun h => he (of_decide_eq_true h).2
        rw [if_neg hg, List.append_nil]
        simp (disch := omega) only [joinF_eq, bindO_some, s_wr, s_td, s_tm, s_pos, s_neg, cond_true, cond_false, Bool.not_true, Bool.not_false, Bool.true_and, Bool.and_true, Bool.false_and, Bool.and_false, bne_self_eq_false, decide_true, decide_false, Int.toNat_natCast]
    · have hg : ¬ goodN n = true := by rw [hgood]; exact fun h => hs (of_decide_eq_true h).1
      rw [if_neg hg, List.append_nil]
      simp (disch := omega) only [joinF_eq, bindO_some, s_wr, s_td, s_tm, s_pos, s_neg, cond_true, cond_false, Bool.not_true, Bool.not_false, Bool.true_and, Bool.and_true, Bool.false_and, Bool.and_false, bne_self_eq_false, decide_true, decide_false, Int.toNat_natCast]
theorem rpats_ok : R_Patterns_r FU () = some (rpats, ()) := by
  unfold R_Patterns_r
  rw [← RU_all]
  refine stL3 (n := 4096) (by rw [FU_val]; omega) (st := fun i : Nat => ((i : Int), RU i)) rfl (fun j i hi => ?_) (fun j => ?_)
  · unfold R_Patterns_l1 R_Patterns_j2
    simp (disch := omega) only [joinF_eq, bindO_some, s_wr, s_td, s_tm, s_pos, s_neg, cond_true, cond_false, Bool.not_true, Bool.not_false, Bool.true_and, Bool.and_true, Bool.false_and, Bool.and_false, bne_self_eq_false, decide_true, decide_false, Int.toNat_natCast]
    rw [pats_in i hi, s_wr (by omega) (by omega)]
    congr 2
  · unfold R_Patterns_l1
    simp (disch := omega) only [joinF_eq, bindO_some, s_wr, s_td, s_tm, s_pos, s_neg, cond_true, cond_false, Bool.not_true, Bool.not_false, Bool.true_and, Bool.and_true, Bool.false_and, Bool.and_false, bne_self_eq_false, decide_true, decide_false, Int.toNat_natCast]
end Go.Proofs.Ytedjnjgnadbkaaa
/- Numbers: what the small functions compute. -/
namespace Go.Proofs.Ytedjnjgnadbkaaa
open Go Go.RowKit
set_option linter.unusedSimpArgs false
set_option linter.unusedSectionVars false
set_option linter.unusedVariables false

theorem floor_s (fu : Nat) {n d : Int} (hd : 0 < d) (h1 : d ≤ 9223372036854775807) (h2 : -9223372036854775808 ≤ n) (h3 : n ≤ 9223372036854775807) : R_Floor_r fu (n, (d, ())) = some (n / d, ()) := by
  unfold R_Floor_r
  simp only [joinF_eq]
  rw [bif_pos (by omega)]
  have hm := Int.tmod_add_mul_tdiv n d
  have hm1 := Int.natAbs_tmod n d
  have h4 : n.tdiv d * d = n - n.tmod d := by rw [Int.mul_comm]; omega
  have h5 : (n.tmod d).natAbs ≤ n.natAbs := by rw [hm1]; exact Nat.mod_le _ _
  have hb : -9223372036854775808 ≤ n.tdiv d * d ∧ n.tdiv d * d ≤ 9223372036854775807 := by
    rcases Int.le_total 0 n with hn | hn
    · have := Int.tmod_nonneg d hn; omega
    · have := Int.tmod_nonneg (a := -n) d (by omega)
      rw [Int.neg_tmod] at this
      omega
  obtain ⟨b1, b2⟩ := hb
  have hq := Int.natAbs_tdiv n d
  have hq' : (n.tdiv d).natAbs ≤ n.natAbs := by rw [hq]; exact Nat.div_le_self _ _
  have hq3 : n.tdiv d ≤ 9223372036854775807 := by
    rcases Int.le_total 0 n with hn | hn
    · omega
    · have := Int.tdiv_nonneg (a := -n) (b := d) (by omega) (by omega)
      rw [Int.neg_tdiv] at this
      omega
  rw [wr64 (x := n.tdiv d) (by omega) hq3, wr64 (x := n.tdiv d * d) b1 b2]
  by_cases hc : n < n.tdiv d * d
  · have hlow : -9223372036854775807 ≤ n.tdiv d := by
      rcases Int.lt_or_le d 2 with g | g
      · obtain rfl : d = 1 := by omega
        rw [Int.tdiv_one] at hc
        omega
      · have h6 : (n.tdiv d).natAbs ≤ n.natAbs / 2 := by
          rw [hq]
          exact Nat.div_le_div_left (by omega) (by omega)
        omega
    rw [bif_pos hc, wr64 (x := n.tdiv d - 1) (by omega) (by omega), tdiv_over hd hc]; rfl
  · rw [bif_neg hc, tdiv_under hd (by omega)]; rfl
theorem floor_mul' {n d : Int} (hd : 0 < d) : n / d * d ≤ n ∧ n < n / d * d + d := by
  have h1 := Int.mul_ediv_add_emod n d
  have h2 := Int.emod_nonneg n (by omega : d ≠ 0)
  have h3 := Int.emod_lt_of_pos n hd
  rw [Int.mul_comm] at h1
  omega
theorem round_s (fu : Nat) {n d : Int} (hd : 0 < d) (h1 : d ≤ 1000000000000000) (h2 : -1000000000000000000 ≤ n) (h3 : n ≤ 1000000000000000000) : R_Round_r fu (n, (d, ())) = some (rnd n d, ()) := by
  unfold R_Round_r
  simp only
  rw [floor_s fu hd (by omega) (by omega) (by omega)]
  simp only [bindO_some, joinF_eq]
  obtain ⟨b1, b2⟩ := floor_mul' (n := n) hd
  have hq : -1000000000000000001 ≤ n / d ∧ n / d ≤ 1000000000000000000 := by
    constructor
    · rcases Int.lt_or_le (n / d) 0 with g | g
      · have : n / d * d ≤ n / d * 1 := Int.mul_le_mul_of_nonpos_left (by omega) (by omega)
        have h4 : n / d * d - n / d * 1 ≤ 0 := by omega
        have h5 : (n / d + 1) * d ≤ (n / d + 1) * 1 := Int.mul_le_mul_of_nonpos_left (by omega) (by omega)
        rw [Int.add_mul] at h5
        omega
      · omega
    · rcases Int.lt_or_le (n / d) 1 with g | g
      · omega
      · have : n / d * 1 ≤ n / d * d := Int.mul_le_mul_of_nonneg_left (by omega) (by omega)
        omega
  rw [wr64 (x := n / d * d) (by omega) (by omega), wr64 (x := n - n / d * d) (by omega) (by omega), wr64 (x := 2 * (n - n / d * d)) (by omega) (by omega)]
  by_cases hc : d ≤ 2 * (n - n / d * d)
  · rw [bif_pos hc, wr64 (x := n / d + 1) (by omega) (by omega), rnd_up hd hc]; rfl
  · rw [bif_neg hc, rnd_down hd (by omega)]; rfl
theorem nearest_s (fu : Nat) {n d : Int} (hd : 0 < d) (h1 : d ≤ 1000000000000000) (h2 : -1000000000000000000 ≤ n) (h3 : n ≤ 1000000000000000000) : curve_Nearest_r fu (n, (d, ())) = some (rnd n d, ()) := by
  obtain ⟨g1, g2⟩ := tdiv_abs (n := 2 * n + d) (m := 2002000000000000000) (2 * d) (by omega) (by omega)
  unfold curve_Nearest_r rnd
  simp only [joinF_eq]
  rw [wr64 (x := 2 * n) (by omega) (by omega), wr64 (x := 2 * n + d) (by omega) (by omega), wr64 (x := 2 * d) (by omega) (by omega), bif_pos (by omega), bif_pos (by omega), wr64 (x := (2 * n + d).tdiv (2 * d)) (by omega) (by omega)]
  by_cases hc : (2 * n + d).tmod (2 * d) < 0
  · rw [bif_pos hc, wr64 (x := (2 * n + d).tdiv (2 * d) - 1) (by omega) (by omega), tdiv_neg (by omega) hc]; rfl
  · rw [bif_neg hc, tdiv_pos (by omega) (by omega)]; rfl
end Go.Proofs.Ytedjnjgnadbkaaa
/- Bar codes: the value of six widths. -/
set_option maxRecDepth 100000
namespace Go.Proofs.Ytedjnjgnadbkaaa
open Go Go.RowKit
set_option linter.unusedSimpArgs false
set_option linter.unusedSectionVars false
set_option linter.unusedVariables false

abbrev P6 := Int × (Int × (Int × (Int × (Int × Int))))
def tl6 (p : P6) : List Int := [p.1, p.2.1, p.2.2.1, p.2.2.2.1, p.2.2.2.2.1, p.2.2.2.2.2]
theorem pats_eq : ∀ v : Nat, v < 103 → tl6 (pats.getD v (0, (0, (0, (0, (0, 0)))))) = rpats.getD v [] := by decide +kernel
theorem pats_len : pats.length = 103 := by decide +kernel
theorem rpats_len : rpats.length = 108 := by decide +kernel
theorem rpats_six : ∀ v : Nat, v < 108 → (rpats.getD v []).length = 6 := by decide +kernel
theorem rpats_bd : ∀ v : Nat, v < 108 → ∀ i : Nat, i < 6 → 0 ≤ (rpats.getD v []).getD i 0 ∧ (rpats.getD v []).getD i 0 ≤ 4 := by decide +kernel
def tot6 (w : List Int) : Int := w.getD 0 0 + w.getD 1 0 + w.getD 2 0 + w.getD 3 0 + w.getD 4 0 + w.getD 5 0
def ed (w : List Int) (i : Nat) : Int := rnd (11 * (w.getD i 0 + w.getD (i + 1) 0)) (tot6 w)
def pr (v i : Nat) : Int := (rpats.getD v []).getD i 0 + (rpats.getD v []).getD (i + 1) 0
def hitV (w : List Int) (v : Nat) : Prop := ∀ i, i < 4 → pr v i = ed w i
instance (w : List Int) (v : Nat) : Decidable (hitV w v) := by unfold hitV; infer_instance
def gval (w : List Int) : Int := match (List.range 103).find? (fun v => decide (hitV w v)) with
  | some v => v
  | none => -1
theorem find_range {p : Nat → Bool} {n k : Nat} (hk : k < n) (h : p k = true) (hl : ∀ l, l < k → p l = false) : (List.range n).find? p = some k := by
  rw [List.find?_eq_some_iff_append]
  refine ⟨h, List.range k, List.range' (k + 1) (n - k - 1), ?_, fun a ha => by rw [hl a (List.mem_range.1 ha)]; rfl⟩
  rw [List.range_eq_range', List.range_eq_range', show List.range' 0 n = List.range' 0 (k + (n - k)) by rw [Nat.add_sub_cancel' (by omega)], ← List.range'_append_1, Nat.zero_add, show n - k = (n - k - 1) + 1 by omega, List.range'_succ]
  rfl
theorem gval_hit {w : List Int} {k : Nat} (hk : k < 103) (h : hitV w k) (hl : ∀ l, l < k → ¬ hitV w l) : gval w = k := by
  unfold gval
  rw [find_range hk (decide_eq_true h) (fun l q => decide_eq_false (hl l q))]
theorem gval_miss {w : List Int} (hl : ∀ l, l < 103 → ¬ hitV w l) : gval w = -1 := by
  unfold gval
  rw [List.find?_eq_none.2 (fun x hx => by simp [hl x (List.mem_range.1 hx)])]
theorem gval_bd (w : List Int) : -1 ≤ gval w ∧ gval w ≤ 102 := by
  unfold gval
  split
  · rename_i v hv
    have := List.mem_of_find?_eq_some hv
    have := List.mem_range.1 this
    omega
  · omega
/-- six widths at least, each of them in its bounds -/
def okW (w : List Int) : Prop := 6 ≤ w.length ∧ ∀ i, i < w.length → 1 ≤ w.getD i 0 ∧ w.getD i 0 ≤ 1024
theorem tot_bd {w : List Int} (h : okW w) : 6 ≤ tot6 w ∧ tot6 w ≤ 6144 := by
  have h0 := h.2 0 (by have := h.1; omega)
  have h1 := h.2 1 (by have := h.1; omega)
  have h2 := h.2 2 (by have := h.1; omega)
  have h3 := h.2 3 (by have := h.1; omega)
  have h4 := h.2 4 (by have := h.1; omega)
  have h5 := h.2 5 (by have := h.1; omega)
  unfold tot6
  omega
theorem pr_bd {v i : Nat} (hv : v < 103) (hi : i < 4) : 0 ≤ pr v i ∧ pr v i ≤ 8 := by
  have h0 := rpats_bd v (by omega) i (by omega)
  have h1 := rpats_bd v (by omega) (i + 1) (by omega)
  unfold pr
  omega
/-! ### the program -/
theorem value_in {w : List Int} {v : Nat} (hv : v < 103) (E : List Int) (hE : E.length = 4) (hE' : ∀ i, i < 4 → E.getD i 0 = ed w i) (j8 : Int → Option (Int × Unit)) :
    loopF (linear_value_l3 FU (4, E) (v : Int) (pats.getD v (0, (0, (0, (0, (0, 0)))))) j8) FU 0 = if hitV w v then some ((v : Int), ()) else j8 ((v : Int) + 1) := by
  have hp := pats_eq v hv
  generalize hq : pats.getD v (0, (0, (0, (0, (0, 0))))) = p at hp ⊢
  have hlen : E = [E.getD 0 0, E.getD 1 0, E.getD 2 0, E.getD 3 0] := by
    refine List.ext_getElem (by simp [hE]) fun q g1 g2 => ?_
    rw [List.getD_eq_getElem?_getD, List.getD_eq_getElem?_getD, List.getD_eq_getElem?_getD, List.getD_eq_getElem?_getD]
    have : q = 0 ∨ q = 1 ∨ q = 2 ∨ q = 3 := by omega
    rcases this with rfl | rfl | rfl | rfl <;> simp [List.getElem?_eq_getElem, hE]
  have key := findLoop (f := linear_value_l3 FU (4, E) (v : Int) p j8) (n := 4) (fu := FU) (by rw [FU_val]; omega) (p := fun i => pr v i ≠ ed w i) (hit := fun _ => j8 ((v : Int) + 1)) (miss := some ((v : Int), ()))
    (fun j i hi h => by
      unfold linear_value_l3
      have e1 : List.getD (p.1 :: (p.2.1 :: (p.2.2.1 :: (p.2.2.2.1 :: (p.2.2.2.2.1 :: (p.2.2.2.2.2 :: ([] : List Int))))))) i 0 + List.getD (p.1 :: (p.2.1 :: (p.2.2.1 :: (p.2.2.2.1 :: (p.2.2.2.2.1 :: (p.2.2.2.2.2 :: ([] : List Int))))))) (i + 1) 0 = pr v i := by
        unfold pr
        rw [← hp]; rfl
      have e2 := pr_bd hv hi
      have e3 : (List.getD E (Int.toNat (0 : Int)) 0 :: (List.getD E (Int.toNat (1 : Int)) 0 :: (List.getD E (Int.toNat (2 : Int)) 0 :: (List.getD E (Int.toNat (3 : Int)) 0 :: ([] : List Int))))) = E := hlen.symm
      simp only [e3]
      have e4 := hE' i hi
      simp (disch := omega) only [joinF_eq, bindO_some, s_wr, s_td, s_tm, s_pos, s_neg, cond_true, cond_false, Bool.not_true, Bool.not_false, Bool.true_and, Bool.and_true, Bool.false_and, Bool.and_false, bne_self_eq_false, decide_true, decide_false, Int.toNat_natCast, List.length_cons, List.length_nil]
      rw [show (((i : Int) + 1).toNat) = i + 1 by omega, e1, s_wr (by omega) (by omega), e4]
      simp (disch := omega) only [joinF_eq, bindO_some, s_wr, s_td, s_tm, s_pos, s_neg, cond_true, cond_false, Bool.not_true, Bool.not_false, Bool.true_and, Bool.and_true, Bool.false_and, Bool.and_false, bne_self_eq_false, decide_true, decide_false, Int.toNat_natCast])
    (fun j i hi h => by
      have h : pr v i = ed w i := Classical.byContradiction h
      unfold linear_value_l3
      have e1 : List.getD (p.1 :: (p.2.1 :: (p.2.2.1 :: (p.2.2.2.1 :: (p.2.2.2.2.1 :: (p.2.2.2.2.2 :: ([] : List Int))))))) i 0 + List.getD (p.1 :: (p.2.1 :: (p.2.2.1 :: (p.2.2.2.1 :: (p.2.2.2.2.1 :: (p.2.2.2.2.2 :: ([] : List Int))))))) (i + 1) 0 = pr v i := by
        unfold pr
        rw [← hp]; rfl
      have e2 := pr_bd hv hi
      have e3 : (List.getD E (Int.toNat (0 : Int)) 0 :: (List.getD E (Int.toNat (1 : Int)) 0 :: (List.getD E (Int.toNat (2 : Int)) 0 :: (List.getD E (Int.toNat (3 : Int)) 0 :: ([] : List Int))))) = E := hlen.symm
      simp only [e3]
      have e4 := hE' i hi
      simp (disch := omega) only [joinF_eq, bindO_some, s_wr, s_td, s_tm, s_pos, s_neg, cond_true, cond_false, Bool.not_true, Bool.not_false, Bool.true_and, Bool.and_true, Bool.false_and, Bool.and_false, bne_self_eq_false, decide_true, decide_false, Int.toNat_natCast, List.length_cons, List.length_nil]
      rw [show (((i : Int) + 1).toNat) = i + 1 by omega, e1, s_wr (by omega) (by omega), e4]
      simp (disch := omega) only [joinF_eq, bindO_some, s_wr, s_td, s_tm, s_pos, s_neg, cond_true, cond_false, Bool.not_true, Bool.not_false, Bool.true_and, Bool.and_true, Bool.false_and, Bool.and_false, bne_self_eq_false, decide_true, decide_false, Int.toNat_natCast])
    (fun j => by unfold linear_value_l3; simp (disch := omega) only [joinF_eq, bindO_some, s_wr, s_td, s_tm, s_pos, s_neg, cond_true, cond_false, Bool.not_true, Bool.not_false, Bool.true_and, Bool.and_true, Bool.false_and, Bool.and_false, bne_self_eq_false, decide_true, decide_false, Int.toNat_natCast])
  rcases key with ⟨k, h1, h2, _, h4⟩ | ⟨h1, h2⟩
  · rw [h4, if_neg (fun hh => h2 (hh k h1))]
  · have hh : hitV w v := fun i hi => Classical.byContradiction (h1 i hi)
    rw [h2, if_pos hh]
theorem value_s {w : List Int} (hw : okW w) : linear_value_r FU (pats, (w, ())) = some (gval w, ()) := by
  unfold linear_value_r
  have hl := hw.1
  have ht := tot_bd hw
  have b0 := hw.2 0 (by omega)
  have b1 := hw.2 1 (by omega)
  have b2 := hw.2 2 (by omega)
  have b3 := hw.2 3 (by omega)
  have b4 := hw.2 4 (by omega)
  have b5 := hw.2 5 (by omega)
  have z0 : Int.toNat (0 : Int) = 0 := rfl
  have z1 : Int.toNat (1 : Int) = 1 := rfl
  have z2 : Int.toNat (2 : Int) = 2 := rfl
  have z3 : Int.toNat (3 : Int) = 3 := rfl
  have z4 : Int.toNat (4 : Int) = 4 := rfl
  have z5 : Int.toNat (5 : Int) = 5 := rfl
  simp only [z0, z1, z2, z3, z4, z5]
  simp (disch := omega) only [joinF_eq, bindO_some, s_wr, s_td, s_tm, s_pos, s_neg, cond_true, cond_false, Bool.not_true, Bool.not_false, Bool.true_and, Bool.and_true, Bool.false_and, Bool.and_false, bne_self_eq_false, decide_true, decide_false, Int.toNat_natCast]
  show loopF (linear_value_l1 FU (pats, (w, ())) (tot6 w)) FU _ = _
  refine stL3 (n := 4) (by rw [FU_val]; omega) (st := fun i : Nat => ((i : Int), tabL 4 (fun k => if k < (i : Int) then ed w k.toNat else 0))) (by rfl) (fun j i hi => ?_) (fun j => ?_)
  · unfold linear_value_l1
    have c0 := hw.2 i (by omega)
    have c1 := hw.2 (i + 1) (by omega)
    have hr : 11 * (w.getD i 0 + w.getD (i + 1) 0) ≤ 22528 := by omega
    have hr0 : 0 ≤ 11 * (w.getD i 0 + w.getD (i + 1) 0) := by omega
    simp only [tabL_length]
    simp (disch := omega) only [joinF_eq, bindO_some, s_wr, s_td, s_tm, s_pos, s_neg, cond_true, cond_false, Bool.not_true, Bool.not_false, Bool.true_and, Bool.and_true, Bool.false_and, Bool.and_false, bne_self_eq_false, decide_true, decide_false, Int.toNat_natCast]
    rw [show (((i : Int) + 1).toNat) = i + 1 by omega]
    simp (disch := omega) only [joinF_eq, bindO_some, s_wr, s_td, s_tm, s_pos, s_neg, cond_true, cond_false, Bool.not_true, Bool.not_false, Bool.true_and, Bool.and_true, Bool.false_and, Bool.and_false, bne_self_eq_false, decide_true, decide_false, Int.toNat_natCast]
    rw [nearest_s FU (by omega) (by omega) (by omega) (by omega)]
    simp (disch := omega) only [joinF_eq, bindO_some, s_wr, s_td, s_tm, s_pos, s_neg, cond_true, cond_false, Bool.not_true, Bool.not_false, Bool.true_and, Bool.and_true, Bool.false_and, Bool.and_false, bne_self_eq_false, decide_true, decide_false, Int.toNat_natCast]
    congr 1
    refine Prod.ext (by simp) ?_
    show (tabL 4 fun k => if k < (i : Int) then ed w k.toNat else 0).set ((i : Int).toNat) _ = tabL 4 fun k => if k < ((i + 1 : Nat) : Int) then ed w k.toNat else 0
    refine tabL_set (k := (i : Int)) (by omega) ?_ (fun q h0 h1 hne => ?_)
    · rw [if_pos (by omega)]; rfl
    · by_cases c : q < i
      · rw [if_pos c, if_pos (by omega)]
      · rw [if_neg c, if_neg (by omega)]
  · unfold linear_value_l1
    simp (disch := omega) only [joinF_eq, bindO_some, s_wr, s_td, s_tm, s_pos, s_neg, cond_true, cond_false, Bool.not_true, Bool.not_false, Bool.true_and, Bool.and_true, Bool.false_and, Bool.and_false, bne_self_eq_false, decide_true, decide_false, Int.toNat_natCast]
    generalize hE : tabL 4 (fun k => if k < ((4 : Nat) : Int) then ed w k.toNat else 0) = E
    have hE4 : E.length = 4 := by rw [← hE, tabL_length]
    have hEv : ∀ i, i < 4 → E.getD i 0 = ed w i := fun i hi => by
      rw [← hE, tabL_getDN hi, if_pos (by omega), Int.toNat_natCast]
    have key := findLoop (f := linear_value_l2 FU (pats, (w, ())) (((4 : Nat) : Int), E)) (n := 103) (fu := FU) (by rw [FU_val]; omega) (p := hitV w) (hit := fun v => some ((v : Int), ())) (miss := some (-1, ()))
      (fun j v hv h => by
        unfold linear_value_l2
        simp only [pats_len, hE4]
        simp (disch := omega) only [joinF_eq, bindO_some, s_wr, s_td, s_tm, s_pos, s_neg, cond_true, cond_false, Bool.not_true, Bool.not_false, Bool.true_and, Bool.and_true, Bool.false_and, Bool.and_false, bne_self_eq_false, decide_true, decide_false, Int.toNat_natCast, List.length_cons, List.length_nil]
        exact (value_in hv E hE4 hEv j).trans (if_pos h))
      (fun j v hv h => by
        unfold linear_value_l2
        simp only [pats_len, hE4]
        simp (disch := omega) only [joinF_eq, bindO_some, s_wr, s_td, s_tm, s_pos, s_neg, cond_true, cond_false, Bool.not_true, Bool.not_false, Bool.true_and, Bool.and_true, Bool.false_and, Bool.and_false, bne_self_eq_false, decide_true, decide_false, Int.toNat_natCast, List.length_cons, List.length_nil]
        exact (value_in hv E hE4 hEv j).trans (if_neg h))
      (fun j => by
        unfold linear_value_l2
        simp only [pats_len]
        simp (disch := omega) only [joinF_eq, bindO_some, s_wr, s_td, s_tm, s_pos, s_neg, cond_true, cond_false, Bool.not_true, Bool.not_false, Bool.true_and, Bool.and_true, Bool.false_and, Bool.and_false, bne_self_eq_false, decide_true, decide_false, Int.toNat_natCast])
    rcases key with ⟨k, h1, h2, h3, h4⟩ | ⟨h1, h2⟩
    · rw [gval_hit h1 h2 h3]; exact h4
    · rw [gval_miss h1]; exact h2
/-! ### the reference -/
theorem total_s {w : List Int} (h6 : w.length = 6) (hw : okW w) : R_Total_r FU (w, ()) = some (tot6 w, ()) := by
  unfold R_Total_r
  have b0 := hw.2 0 (by omega)
  have b1 := hw.2 1 (by omega)
  have b2 := hw.2 2 (by omega)
  have b3 := hw.2 3 (by omega)
  have b4 := hw.2 4 (by omega)
  have b5 := hw.2 5 (by omega)
  let S : Nat → Int := fun i => ((List.range i).map fun k => w.getD k 0).sum
  have hS : ∀ i, S (i + 1) = S i + w.getD i 0 := fun i => by
    show ((List.range (i + 1)).map fun k => w.getD k 0).sum = _
    rw [List.range_succ, List.map_append, List.sum_append]; simp [S]
  have hb : ∀ i, i ≤ 6 → 0 ≤ S i ∧ S i ≤ 1024 * i := by
    intro i
    induction i with
    | zero => intro _; exact ⟨Int.le_refl _, Int.le_refl _⟩
    | succ i ih =>
      intro hi
      have := ih (by omega)
      have := hw.2 i (by omega)
      rw [hS]
      omega
  refine stL3 (n := 6) (by rw [FU_val]; omega) (st := fun i : Nat => (S i, (i : Int))) rfl (fun j i hi => ?_) (fun j => ?_)
  · unfold R_Total_l1
    have := hb i (by omega)
    have := hw.2 i (by omega)
    simp only [h6]
    simp (disch := omega) only [joinF_eq, bindO_some, s_wr, s_td, s_tm, s_pos, s_neg, cond_true, cond_false, Bool.not_true, Bool.not_false, Bool.true_and, Bool.and_true, Bool.false_and, Bool.and_false, bne_self_eq_false, decide_true, decide_false, Int.toNat_natCast]
    rw [hS]; rfl
  · unfold R_Total_l1
    simp only [h6]
    simp (disch := omega) only [joinF_eq, bindO_some, s_wr, s_td, s_tm, s_pos, s_neg, cond_true, cond_false, Bool.not_true, Bool.not_false, Bool.true_and, Bool.and_true, Bool.false_and, Bool.and_false, bne_self_eq_false, decide_true, decide_false, Int.toNat_natCast]
    show some (S 6, ()) = _
    have : S 6 = tot6 w := by
      rw [hS, hS, hS, hS, hS, hS]
      show 0 + w.getD 0 0 + _ + _ + _ + _ + _ = _
      unfold tot6
      omega
    rw [this]
theorem group_in {w : List Int} (h6 : w.length = 6) (hw : okW w) {v : Nat} (hv : v < 103) (j2 : Int → Option (Int × Unit)) :
    loopF (R_Group_l2 FU (rpats, (w, ())) (tot6 w) (v : Int) j2) FU (true, 0) = if hitV w v then some ((v : Int), ()) else j2 ((v : Int) + 1) := by
  have ht := tot_bd hw
  refine stL3 (n := 4) (by rw [FU_val]; omega) (st := fun i : Nat => (decide (∀ k, k < i → pr v k = ed w k), (i : Int))) (by simp) (fun j i hi => ?_) (fun j => ?_)
  · unfold R_Group_l2 R_Group_j3
    simp (disch := omega) only [joinF_eq, bindO_some, s_wr, s_td, s_tm, s_pos, s_neg, cond_true, cond_false, Bool.not_true, Bool.not_false, Bool.true_and, Bool.and_true, Bool.false_and, Bool.and_false, bne_self_eq_false, decide_true, decide_false, Int.toNat_natCast]
    by_cases hc : ∀ k, k < i → pr v k = ed w k
    · rw [decide_eq_true hc, cond_true]
      have c0 := hw.2 i (by omega)
      have c1 := hw.2 (i + 1) (by omega)
      have d0 := rpats_bd v (by omega) i (by omega)
      have d1 := rpats_bd v (by omega) (i + 1) (by omega)
      have l6 := rpats_six v (by omega)
      simp only [rpats_len, h6]
      simp (disch := omega) only [joinF_eq, bindO_some, s_wr, s_td, s_tm, s_pos, s_neg, cond_true, cond_false, Bool.not_true, Bool.not_false, Bool.true_and, Bool.and_true, Bool.false_and, Bool.and_false, bne_self_eq_false, decide_true, decide_false, Int.toNat_natCast]
      rw [show (((i : Int) + 1).toNat) = i + 1 by omega]
      simp (disch := omega) only [joinF_eq, bindO_some, s_wr, s_td, s_tm, s_pos, s_neg, cond_true, cond_false, Bool.not_true, Bool.not_false, Bool.true_and, Bool.and_true, Bool.false_and, Bool.and_false, bne_self_eq_false, decide_true, decide_false, Int.toNat_natCast]
      rw [round_s FU (by omega) (by omega) (by omega) (by omega)]
      simp (disch := omega) only [joinF_eq, bindO_some, s_wr, s_td, s_tm, s_pos, s_neg, cond_true, cond_false, Bool.not_true, Bool.not_false, Bool.true_and, Bool.and_true, Bool.false_and, Bool.and_false, bne_self_eq_false, decide_true, decide_false, Int.toNat_natCast]
      congr 2
      refine decide_eq_decide.2 ⟨fun h k hk => ?_, fun h => ?_⟩
      · by_cases e : k = i
        · subst e; exact h
        · exact hc k (by omega)
      · exact h i (by omega)
    · rw [decide_eq_false hc, cond_false]
      congr 2
      exact (decide_eq_false fun h => hc fun k hk => h k (by omega)).symm
  · unfold R_Group_l2
    simp (disch := omega) only [joinF_eq, bindO_some, s_wr, s_td, s_tm, s_pos, s_neg, cond_true, cond_false, Bool.not_true, Bool.not_false, Bool.true_and, Bool.and_true, Bool.false_and, Bool.and_false, bne_self_eq_false, decide_true, decide_false, Int.toNat_natCast]
    by_cases hc : hitV w v
    · rw [if_pos hc, decide_eq_true (show ∀ k, k < 4 → pr v k = ed w k from hc), cond_true]
    · rw [if_neg hc, decide_eq_false (show ¬ ∀ k, k < 4 → pr v k = ed w k from hc), cond_false]
theorem group_s {w : List Int} (h6 : w.length = 6) (hw : okW w) : R_Group_r FU (rpats, (w, ())) = some (gval w, ()) := by
  unfold R_Group_r
  rw [show ((rpats, (w, ())) : List (List Int) × (List Int × Unit)).2.1 = w from rfl, total_s h6 hw, bindO_some]
  have key := findLoop (f := R_Group_l1 FU (rpats, (w, ())) (tot6 w)) (n := 103) (fu := FU) (by rw [FU_val]; omega) (p := hitV w) (hit := fun v => some ((v : Int), ())) (miss := some (-1, ()))
    (fun j v hv h => by
      unfold R_Group_l1
      simp (disch := omega) only [joinF_eq, bindO_some, s_wr, s_td, s_tm, s_pos, s_neg, cond_true, cond_false, Bool.not_true, Bool.not_false, Bool.true_and, Bool.and_true, Bool.false_and, Bool.and_false, bne_self_eq_false, decide_true, decide_false, Int.toNat_natCast]
      exact (group_in h6 hw hv j).trans (if_pos h))
    (fun j v hv h => by
      unfold R_Group_l1
      simp (disch := omega) only [joinF_eq, bindO_some, s_wr, s_td, s_tm, s_pos, s_neg, cond_true, cond_false, Bool.not_true, Bool.not_false, Bool.true_and, Bool.and_true, Bool.false_and, Bool.and_false, bne_self_eq_false, decide_true, decide_false, Int.toNat_natCast]
      exact (group_in h6 hw hv j).trans (if_neg h))
    (fun j => by
      unfold R_Group_l1
      simp (disch := omega) only [joinF_eq, bindO_some, s_wr, s_td, s_tm, s_pos, s_neg, cond_true, cond_false, Bool.not_true, Bool.not_false, Bool.true_and, Bool.and_true, Bool.false_and, Bool.and_false, bne_self_eq_false, decide_true, decide_false, Int.toNat_natCast])
  rcases key with ⟨k, h1, h2, h3, h4⟩ | ⟨h1, h2⟩
  · rw [gval_hit h1 h2 h3]; exact h4
  · rw [gval_miss h1]; exact h2
end Go.Proofs.Ytedjnjgnadbkaaa
/- Bar codes: what is read. -/
set_option maxRecDepth 100000
namespace Go.Proofs.Ytedjnjgnadbkaaa
open Go Go.RowKit
set_option linter.unusedSimpArgs false
set_option linter.unusedSectionVars false
set_option linter.unusedVariables false

theorem s_w8 {x : Int} (h0 : 0 ≤ x) (h1 : x ≤ 255) : IntKind.u8.wrap x = x := by
  simp [IntKind.wrap, IntKind.bits, IntKind.signed]
  omega
abbrev RdT := (List UInt8) × (Int × Unit)
def bad : Option RdT := some (([] : List UInt8), ((4 : Int), ()))
/-! ### digits -/
def outB : List Int → List Int
  | [] => []
  | v :: l => (48 + v / 10) :: (48 + v % 10) :: outB l
theorem outB_append : ∀ (l : List Int) (v : Int), outB (l ++ [v]) = outB l ++ [48 + v / 10, 48 + v % 10]
  | [], v => rfl
  | a :: l, v => by
    show _ :: _ :: outB (l ++ [v]) = _
    rw [outB_append l v]; rfl
theorem outB_len : ∀ (l : List Int), (outB l).length = 2 * l.length
  | [] => rfl
  | a :: l => by
    show (outB l).length + 1 + 1 = 2 * (l.length + 1)
    rw [outB_len l]; omega
theorem take_snoc {l : List Int} {i : Nat} (h : i < l.length) : l.take (i + 1) = l.take i ++ [l.getD i 0] := by
  rw [List.take_succ_eq_append_getElem h, List.getD_eq_getElem?_getD, List.getElem?_eq_getElem h]; rfl
def okV (l : List Int) : Prop := l.length ≤ 20 ∧ ∀ i, i < l.length → 0 ≤ l.getD i 0 ∧ l.getD i 0 ≤ 102
def eD (l : List Int) (i : Nat) : Int := if 100 ≤ l.getD i 0 then 4 else 0
theorem dig_wr {v : Int} (h0 : 0 ≤ v) (h1 : v ≤ 102) : IntKind.u8.wrap (IntKind.i64.wrap (48 + IntKind.i64.wrap (Int.tdiv v 10))) = 48 + v / 10 ∧ IntKind.u8.wrap (IntKind.i64.wrap (48 + Int.tmod v 10)) = 48 + v % 10 := by
  refine ⟨?_, ?_⟩
  · simp (disch := omega) only [joinF_eq, bindO_some, s_wr, s_td, s_tm, s_pos, s_neg, cond_true, cond_false, Bool.not_true, Bool.not_false, Bool.true_and, Bool.and_true, Bool.false_and, Bool.and_false, bne_self_eq_false, decide_true, decide_false, Int.toNat_natCast]
    exact s_w8 (by omega) (by omega)
  · simp (disch := omega) only [joinF_eq, bindO_some, s_wr, s_td, s_tm, s_pos, s_neg, cond_true, cond_false, Bool.not_true, Bool.not_false, Bool.true_and, Bool.and_true, Bool.false_and, Bool.and_false, bne_self_eq_false, decide_true, decide_false, Int.toNat_natCast]
    exact s_w8 (by omega) (by omega)
theorem bytes_two (x y : Int) : (bytesOf (x :: y :: ([] : List Int))).length = 2 := rfl
/-- digits of values, and the error -/
def digF (L : List Int) : Option RdT :=
  let l := if L.getD 0 0 = 100 then L.drop 1 else L
  if firstE (eD l) l.length 0 = 0 then (if L.getD 0 0 = 100 ∧ (l = [] ∨ (outB l).getD 0 0 ≠ 48) then bad else some (bytesOf ((outB l).drop (if L.getD 0 0 = 100 then 1 else 0)), ((0 : Int), ()))) else bad
theorem digP_loop {l : List Int} (hl : okV l) (first : Int) : linear_digits_j1 FU (l, first) = if firstE (eD l) l.length 0 = 0 then linear_digits_l2 FU (l, first) (fun _ => none) ((l.length : Int), outB l) else bad := by
  unfold linear_digits_j1
  have key := errGen (f := linear_digits_l2 FU (l, first)) (n := l.length) (st := fun i : Nat => ((i : Int), outB (l.take i))) (E := eD l) (out := fun _ => bad) (fin := linear_digits_l2 FU (l, first) (fun _ => none) ((l.length : Int), outB l))
    (fun j i hi _ => by
      unfold linear_digits_l2
      have hb := hl.2 i hi
      have hn := hl.1
      have hw := dig_wr hb.1 hb.2
      have ho := outB_len (l.take i)
      rw [List.length_take] at ho
      simp (disch := omega) only [joinF_eq, bindO_some, s_wr, s_td, s_tm, s_pos, s_neg, cond_true, cond_false, Bool.not_true, Bool.not_false, Bool.true_and, Bool.and_true, Bool.false_and, Bool.and_false, bne_self_eq_false, decide_true, decide_false, Int.toNat_natCast, List.length_cons, List.length_nil, s_w8]
      unfold eD
      by_cases c : 100 ≤ l.getD i 0
      · rw [if_pos c, if_neg (by omega), s_pos c, cond_true]
        rfl
      · rw [if_neg c, if_pos rfl, s_neg c, cond_false]
        rw [take_snoc hi, outB_append]
        rfl)
    (fun _ j => by
      unfold linear_digits_l2
      rw [List.take_length]
      simp (disch := omega) only [joinF_eq, bindO_some, s_wr, s_td, s_tm, s_pos, s_neg, cond_true, cond_false, Bool.not_true, Bool.not_false, Bool.true_and, Bool.and_true, Bool.false_and, Bool.and_false, bne_self_eq_false, decide_true, decide_false, Int.toNat_natCast]) FU 0 (by omega) (by have := hl.1; rw [FU_val]; omega) (by omega)
  exact key
theorem bytes_drop (l : List Int) (k : Nat) : (bytesOf l).drop k = bytesOf (l.drop k) := (List.map_drop ..).symm
theorem digits_s {L : List Int} (hL : okV L) (hne : 0 < L.length) : linear_digits_r FU (L, ()) = digF L := by
  unfold linear_digits_r digF
  have z0 : Int.toNat (0 : Int) = 0 := rfl
  have z1 : Int.toNat (1 : Int) = 1 := rfl
  have hn := hL.1
  simp only [z0, z1]
  simp (disch := omega) only [joinF_eq, bindO_some, s_wr, s_td, s_tm, s_pos, s_neg, cond_true, cond_false, Bool.not_true, Bool.not_false, Bool.true_and, Bool.and_true, Bool.false_and, Bool.and_false, bne_self_eq_false, decide_true, decide_false, Int.toNat_natCast]
  by_cases c : L.getD 0 0 = 100
  · simp (disch := omega) only [joinF_eq, bindO_some, s_wr, s_td, s_tm, s_pos, s_neg, cond_true, cond_false, Bool.not_true, Bool.not_false, Bool.true_and, Bool.and_true, Bool.false_and, Bool.and_false, bne_self_eq_false, decide_true, decide_false, Int.toNat_natCast]
    rw [List.take_length]
    have hl : okV (L.drop 1) := ⟨by rw [List.length_drop]; omega, fun i hi => by
      rw [List.length_drop] at hi
      rw [List.getD_eq_getElem?_getD, List.getElem?_drop, ← List.getD_eq_getElem?_getD]
      exact hL.2 _ (by omega)⟩
    simp only [if_pos c]
    generalize L.drop 1 = l at hl ⊢
    rw [digP_loop hl]
    by_cases e : firstE (eD l) l.length 0 = 0
    · rw [if_pos e, if_pos e]
      unfold linear_digits_l2 linear_digits_j3
      have ho := outB_len l
      have hn := hl.1
      simp (disch := omega) only [joinF_eq, bindO_some, s_wr, s_td, s_tm, s_pos, s_neg, cond_true, cond_false, Bool.not_true, Bool.not_false, Bool.true_and, Bool.and_true, Bool.false_and, Bool.and_false, bne_self_eq_false, decide_true, decide_false, Int.toNat_natCast]
      by_cases h0 : l = []
      · subst h0
        rw [if_pos ⟨c, .inl rfl⟩]
        rfl
      · have hp : 0 < l.length := List.length_pos_iff.2 h0
        simp (disch := omega) only [joinF_eq, bindO_some, s_wr, s_td, s_tm, s_pos, s_neg, cond_true, cond_false, Bool.not_true, Bool.not_false, Bool.true_and, Bool.and_true, Bool.false_and, Bool.and_false, bne_self_eq_false, decide_true, decide_false, Int.toNat_natCast]
        simp only [z0, z1]
        by_cases h1 : (outB l).getD 0 0 = 48
        · rw [if_neg (by rintro ⟨_, h | h⟩; exact h0 h; exact h h1)]
          simp (disch := omega) only [joinF_eq, bindO_some, s_wr, s_td, s_tm, s_pos, s_neg, cond_true, cond_false, Bool.not_true, Bool.not_false, Bool.true_and, Bool.and_true, Bool.false_and, Bool.and_false, bne_self_eq_false, decide_true, decide_false, Int.toNat_natCast]
          rw [List.take_length]
        · rw [if_pos ⟨c, .inr h1⟩]
          simp (disch := omega) only [joinF_eq, bindO_some, s_wr, s_td, s_tm, s_pos, s_neg, cond_true, cond_false, Bool.not_true, Bool.not_false, Bool.true_and, Bool.and_true, Bool.false_and, Bool.and_false, bne_self_eq_false, decide_true, decide_false, Int.toNat_natCast]
          rfl
    · rw [if_neg e, if_neg e]
  · simp (disch := omega) only [joinF_eq, bindO_some, s_wr, s_td, s_tm, s_pos, s_neg, cond_true, cond_false, Bool.not_true, Bool.not_false, Bool.true_and, Bool.and_true, Bool.false_and, Bool.and_false, bne_self_eq_false, decide_true, decide_false, Int.toNat_natCast]
    simp only [if_neg c]
    rw [digP_loop hL]
    by_cases e : firstE (eD L) L.length 0 = 0
    · rw [if_pos e, if_pos e, if_neg (fun h => c h.1)]
      unfold linear_digits_l2 linear_digits_j3
      have ho := outB_len L
      simp (disch := omega) only [joinF_eq, bindO_some, s_wr, s_td, s_tm, s_pos, s_neg, cond_true, cond_false, Bool.not_true, Bool.not_false, Bool.true_and, Bool.and_true, Bool.false_and, Bool.and_false, bne_self_eq_false, decide_true, decide_false, Int.toNat_natCast]
      simp only [z0]
      rw [List.take_length]
    · rw [if_neg e, if_neg e]
theorem digR_s {L : List Int} (hL : okV L) (hne : 0 < L.length) : law_decoded_j7 FU (decide (L.getD 0 0 = 100)) (if L.getD 0 0 = 100 then L.drop 1 else L) = digF L := by
  unfold law_decoded_j7 digF
  have z0 : Int.toNat (0 : Int) = 0 := rfl
  have z1 : Int.toNat (1 : Int) = 1 := rfl
  have hl : okV (if L.getD 0 0 = 100 then L.drop 1 else L) := by
    split
    · exact ⟨by rw [List.length_drop]; have := hL.1; omega, fun i hi => by
        rw [List.length_drop] at hi
        rw [List.getD_eq_getElem?_getD, List.getElem?_drop, ← List.getD_eq_getElem?_getD]
        exact hL.2 _ (by omega)⟩
    · exact hL
  have hnz : L.getD 0 0 ≠ 100 → (if L.getD 0 0 = 100 then L.drop 1 else L) ≠ [] := fun h e => by
    rw [if_neg h] at e
    subst e
    exact absurd hne (by simp)
  generalize (if L.getD 0 0 = 100 then L.drop 1 else L) = l at hl hnz ⊢
  have key := errGen (f := law_decoded_l8 FU (decide (L.getD 0 0 = 100)) l) (n := l.length) (st := fun i : Nat => (bytesOf (outB (l.take i)), (i : Int))) (E := eD l) (out := fun _ => bad) (fin := law_decoded_l8 FU (decide (L.getD 0 0 = 100)) l (fun _ => none) (bytesOf (outB l), (l.length : Int)))
    (fun j i hi _ => by
      unfold law_decoded_l8
      have hb := hl.2 i hi
      have hn := hl.1
      have hw := dig_wr hb.1 hb.2
      have ho := outB_len (l.take i)
      rw [List.length_take] at ho
      have hbl : (bytesOf (outB (l.take i))).length ≤ 40 := by rw [bytesOf, List.length_map]; omega
      simp (disch := omega) only [joinF_eq, bindO_some, s_wr, s_td, s_tm, s_pos, s_neg, cond_true, cond_false, Bool.not_true, Bool.not_false, Bool.true_and, Bool.and_true, Bool.false_and, Bool.and_false, bne_self_eq_false, decide_true, decide_false, Int.toNat_natCast, bytes_two, s_w8]
      unfold eD
      by_cases c : 100 ≤ l.getD i 0
      · rw [if_pos c, if_neg (by omega), s_pos (show 99 < l.getD i 0 by omega), cond_true]
        rfl
      · rw [if_neg c, if_pos rfl, s_neg (show ¬ 99 < l.getD i 0 by omega), cond_false]
        rw [take_snoc hi, outB_append, show bytesOf (outB (l.take i) ++ [48 + l.getD i 0 / 10, 48 + l.getD i 0 % 10]) = bytesOf (outB (l.take i)) ++ bytesOf [48 + l.getD i 0 / 10, 48 + l.getD i 0 % 10] from List.map_append]
        rfl)
    (fun _ j => by
      unfold law_decoded_l8
      rw [List.take_length]
      simp (disch := omega) only [joinF_eq, bindO_some, s_wr, s_td, s_tm, s_pos, s_neg, cond_true, cond_false, Bool.not_true, Bool.not_false, Bool.true_and, Bool.and_true, Bool.false_and, Bool.and_false, bne_self_eq_false, decide_true, decide_false, Int.toNat_natCast]) FU 0 (by omega) (by have := hl.1; rw [FU_val]; omega) (by omega)
  refine key.trans ?_
  simp only [Nat.sub_zero]
  by_cases e : firstE (eD l) l.length 0 = 0
  · rw [if_pos e, if_pos e]
    unfold law_decoded_l8 law_decoded_j9 law_decoded_j10
    have ho := outB_len l
    have hn := hl.1
    have hb : (bytesOf (outB l)).length = 2 * l.length := by rw [bytesOf, List.length_map, ho]
    simp (disch := omega) only [joinF_eq, bindO_some, s_wr, s_td, s_tm, s_pos, s_neg, cond_true, cond_false, Bool.not_true, Bool.not_false, Bool.true_and, Bool.and_true, Bool.false_and, Bool.and_false, bne_self_eq_false, decide_true, decide_false, Int.toNat_natCast]
    by_cases h0 : l = []
    · have c : L.getD 0 0 = 100 := Classical.byContradiction fun c => hnz c h0
      subst h0
      rw [if_pos ⟨c, .inl rfl⟩]
      rfl
    · have hp : 0 < l.length := List.length_pos_iff.2 h0
      have hbn : ¬ bytesOf (outB l) = [] := fun h => by rw [h] at hb; simp at hb; omega
      rw [decide_eq_false hbn, cond_false]
      by_cases c : L.getD 0 0 = 100
      · rw [decide_eq_true c, cond_true, if_pos c]
        simp (disch := omega) only [joinF_eq, bindO_some, s_wr, s_td, s_tm, s_pos, s_neg, cond_true, cond_false, Bool.not_true, Bool.not_false, Bool.true_and, Bool.and_true, Bool.false_and, Bool.and_false, bne_self_eq_false, decide_true, decide_false, Int.toNat_natCast]
        simp only [z0, z1]
        have hfe : (((bytesOf (outB l)).getD 0 0).toNat : Int) = (outB l).getD 0 0 := by
          cases l with
          | nil => exact absurd rfl h0
          | cons v l =>
            have hv := hl.2 0 (by simp)
            have hv : 0 ≤ v ∧ v ≤ 102 := hv
            show (((UInt8.ofNat (48 + v / 10).toNat)).toNat : Int) = 48 + v / 10
            rw [UInt8.toNat_ofNat']
            omega
        rw [hfe]
        by_cases h1 : (outB l).getD 0 0 = 48
        · rw [if_neg (by rintro ⟨_, h | h⟩; exact h0 h; exact h h1)]
          simp (disch := omega) only [joinF_eq, bindO_some, s_wr, s_td, s_tm, s_pos, s_neg, cond_true, cond_false, Bool.not_true, Bool.not_false, Bool.true_and, Bool.and_true, Bool.false_and, Bool.and_false, bne_self_eq_false, decide_true, decide_false, Int.toNat_natCast]
          rw [List.take_length, bytes_drop]
        · rw [if_pos ⟨c, .inr h1⟩]
          simp (disch := omega) only [joinF_eq, bindO_some, s_wr, s_td, s_tm, s_pos, s_neg, cond_true, cond_false, Bool.not_true, Bool.not_false, Bool.true_and, Bool.and_true, Bool.false_and, Bool.and_false, bne_self_eq_false, decide_true, decide_false, Int.toNat_natCast]
          rfl
      · rw [decide_eq_false c, cond_false, if_neg c, if_neg (fun h => c h.1)]
        rfl
  · rw [if_neg e, if_neg e]
/-! ### the sum -/
def sumW (l : List Int) (k : Nat) : Int := ((List.range k).map fun i : Nat => ((i : Int) + 1) * l.getD i 0).sum
theorem sumW_succ (l : List Int) (k : Nat) : sumW l (k + 1) = sumW l k + ((k : Int) + 1) * l.getD k 0 := by
  unfold sumW
  rw [List.range_succ, List.map_append, List.sum_append]; simp
theorem mulW_bd {k : Nat} {v : Int} (hk : k ≤ 20) (h0 : 0 ≤ v) (h1 : v ≤ 102) : 0 ≤ ((k : Int) + 1) * v ∧ ((k : Int) + 1) * v ≤ 21 * 102 :=
  ⟨Int.mul_nonneg (by omega) h0, Int.mul_le_mul (by omega) h1 h0 (by omega)⟩
theorem sumW_bd {l : List Int} (hl : okV l) : ∀ k, k ≤ l.length → 0 ≤ sumW l k ∧ sumW l k ≤ 2142 * k
  | 0, _ => ⟨Int.le_refl _, Int.le_refl _⟩
  | k + 1, hk => by
    have ih := sumW_bd hl k (by omega)
    have hb := hl.2 k (by omega)
    have := mulW_bd (k := k) (by have := hl.1; omega) hb.1 hb.2
    rw [sumW_succ]
    omega
theorem sum_s {l : List Int} (hl : okV l) : linear_sum_r FU (l, ()) = some (sumW l l.length % 101, ()) := by
  unfold linear_sum_r
  have hn := hl.1
  refine stL3 (n := l.length) (by rw [FU_val]; omega) (st := fun i : Nat => (sumW l i, (i : Int))) rfl (fun j i hi => ?_) (fun j => ?_)
  · unfold linear_sum_l1
    have ih := sumW_bd hl i (by omega)
    have hb := hl.2 i hi
    have hm := mulW_bd (k := i) (by omega) hb.1 hb.2
    simp (disch := omega) only [joinF_eq, bindO_some, s_wr, s_td, s_tm, s_pos, s_neg, cond_true, cond_false, Bool.not_true, Bool.not_false, Bool.true_and, Bool.and_true, Bool.false_and, Bool.and_false, bne_self_eq_false, decide_true, decide_false, Int.toNat_natCast]
    rw [sumW_succ]
    rfl
  · unfold linear_sum_l1
    have ih := sumW_bd hl l.length (by omega)
    simp (disch := omega) only [joinF_eq, bindO_some, s_wr, s_td, s_tm, s_pos, s_neg, cond_true, cond_false, Bool.not_true, Bool.not_false, Bool.true_and, Bool.and_true, Bool.false_and, Bool.and_false, bne_self_eq_false, decide_true, decide_false, Int.toNat_natCast]
end Go.Proofs.Ytedjnjgnadbkaaa
/- Bar codes: reading, by the program and by the reference. -/
set_option maxRecDepth 100000
namespace Go.Proofs.Ytedjnjgnadbkaaa
open Go Go.RowKit
set_option linter.unusedSimpArgs false
set_option linter.unusedSectionVars false
set_option linter.unusedVariables false

theorem getD_drop (l : List Int) (k i : Nat) : (l.drop k).getD i 0 = l.getD (k + i) 0 := by
  rw [List.getD_eq_getElem?_getD, List.getElem?_drop, ← List.getD_eq_getElem?_getD]
theorem getD_take {l : List Int} {k i : Nat} (h : i < k) : (l.take k).getD i 0 = l.getD i 0 := by
  rw [List.getD_eq_getElem?_getD, List.getElem?_take_of_lt h, ← List.getD_eq_getElem?_getD]
theorem gval_take (w : List Int) : gval (w.take 6) = gval w := by
  have h1 : ∀ i, i < 6 → (w.take 6).getD i 0 = w.getD i 0 := fun i hi => getD_take hi
  have h2 : tot6 (w.take 6) = tot6 w := by
    unfold tot6
    rw [h1 0 (by omega), h1 1 (by omega), h1 2 (by omega), h1 3 (by omega), h1 4 (by omega), h1 5 (by omega)]
  have h3 : ∀ v, hitV (w.take 6) v ↔ hitV w v := fun v => by
    constructor
    · intro h i hi
      rw [h i hi]
      unfold ed
      rw [h2, h1 i (by omega), h1 (i + 1) (by omega)]
    · intro h i hi
      rw [h i hi]
      unfold ed
      rw [h2, h1 i (by omega), h1 (i + 1) (by omega)]
  unfold gval
  rw [show (fun v => decide (hitV (w.take 6) v)) = fun v => decide (hitV w v) from funext fun v => decide_eq_decide.2 (h3 v)]
/-- widths that may be read -/
structure WOk (w : List Int) (m : Nat) : Prop where
  len : w.length = 6 * m + 1
  m0 : 4 ≤ m
  m1 : m ≤ 14
  bd : ∀ i, i < w.length → 1 ≤ w.getD i 0 ∧ w.getD i 0 ≤ 1024
def vals (w : List Int) (k : Nat) : List Int := (List.range k).map fun i : Nat => gval (w.drop (6 * i))
theorem vals_len (w : List Int) (k : Nat) : (vals w k).length = k := by simp [vals]
theorem vals_succ (w : List Int) (k : Nat) : vals w (k + 1) = vals w k ++ [gval (w.drop (6 * k))] := by
  unfold vals
  rw [List.range_succ, List.map_append]; rfl
theorem vals_get {w : List Int} {k i : Nat} (h : i < k) : (vals w k).getD i 0 = gval (w.drop (6 * i)) := by
  unfold vals
  rw [List.getD_eq_getElem?_getD, List.getElem?_map, List.getElem?_range h]; rfl
section
variable {w : List Int} {m : Nat} (hw : WOk w m)
include hw
theorem WOk.part {i : Nat} (hi : i < m) : okW (w.drop (6 * i)) := by
  have h1 := hw.len
  refine ⟨by rw [List.length_drop]; omega, fun k hk => ?_⟩
  rw [List.length_drop] at hk
  rw [getD_drop]
  exact hw.bd _ (by omega)
theorem WOk.piece {i : Nat} (hi : i < m) : okW ((w.drop (6 * i)).take 6) ∧ ((w.drop (6 * i)).take 6).length = 6 := by
  have h1 := hw.len
  have hl : ((w.drop (6 * i)).take 6).length = 6 := by rw [List.length_take, List.length_drop]; omega
  refine ⟨⟨by omega, fun k hk => ?_⟩, hl⟩
  rw [getD_take (by omega), getD_drop]
  exact hw.bd _ (by omega)
end
def sumE : Option RdT := some (([] : List UInt8), ((11 : Int), ()))
/-- behind the values -/
def finD (l : List Int) (m : Nat) : Option RdT :=
  if l.getD 0 0 ≠ 101 ∨ l.getD (m - 1) 0 ≠ 102 then bad else
  if sumW ((l.take (m - 2)).drop 1) (m - 3) % 101 ≠ l.getD (m - 2) 0 then sumE else digF ((l.take (m - 2)).drop 1)
/-- what is read of widths in their order -/
def readD (w : List Int) (m : Nat) : Option RdT := if ∀ k, k < m → 0 ≤ gval (w.drop (6 * k)) then finD (vals w m) m else bad
section
variable {w : List Int} {m : Nat} (hw : WOk w m)
include hw
theorem mid_ok (hall : ∀ k, k < m → 0 ≤ gval (w.drop (6 * k))) : okV (((vals w m).take (m - 2)).drop 1) ∧ (((vals w m).take (m - 2)).drop 1).length = m - 3 := by
  have h1 := hw.m0
  have h2 := hw.m1
  have hl : (((vals w m).take (m - 2)).drop 1).length = m - 3 := by rw [List.length_drop, List.length_take, vals_len]; omega
  refine ⟨⟨by omega, fun i hi => ?_⟩, hl⟩
  rw [getD_drop, getD_take (by omega), vals_get (by omega)]
  have := hall (1 + i) (by omega)
  have := gval_bd (w.drop (6 * (1 + i)))
  omega
theorem progW : linear_Decode_j3 FU pats w = readD w m := by
  unfold linear_Decode_j3
  have hlen := hw.len
  have hm0 := hw.m0
  have hm1 := hw.m1
  have key := errGen (f := linear_Decode_l4 FU pats) (n := m) (st := fun i : Nat => (w.drop (6 * i), vals w i)) (E := fun i => if gval (w.drop (6 * i)) < 0 then 4 else 0) (out := fun _ => bad) (fin := linear_Decode_l4 FU pats (fun _ => none) (w.drop (6 * m), vals w m))
    (fun j i hi _ => by
      unfold linear_Decode_l4
      have hl : (w.drop (6 * i)).length = 6 * (m - i) + 1 := by rw [List.length_drop]; omega
      have hv := vals_len w i
      simp (disch := omega) only [joinF_eq, bindO_some, s_wr, s_td, s_tm, s_pos, s_neg, cond_true, cond_false, Bool.not_true, Bool.not_false, Bool.true_and, Bool.and_true, Bool.false_and, Bool.and_false, bne_self_eq_false, decide_true, decide_false, Int.toNat_natCast]
      rw [value_s (hw.part hi)]
      have hb := gval_bd (w.drop (6 * i))
      simp (disch := omega) only [joinF_eq, bindO_some, s_wr, s_td, s_tm, s_pos, s_neg, cond_true, cond_false, Bool.not_true, Bool.not_false, Bool.true_and, Bool.and_true, Bool.false_and, Bool.and_false, bne_self_eq_false, decide_true, decide_false, Int.toNat_natCast, List.length_cons, List.length_nil]
      by_cases c : gval (w.drop (6 * i)) < 0
      · rw [s_pos c, cond_true, if_pos c, if_neg (by omega)]
        rfl
      · rw [s_neg c, cond_false, if_neg c, if_pos rfl]
        rw [vals_succ, List.take_length, show Int.toNat (6 : Int) = 6 from rfl, List.drop_drop]
        rfl)
    (fun _ j => by
      unfold linear_Decode_l4
      have hl : (w.drop (6 * m)).length = 1 := by rw [List.length_drop]; omega
      simp (disch := omega) only [joinF_eq, bindO_some, s_wr, s_td, s_tm, s_pos, s_neg, cond_true, cond_false, Bool.not_true, Bool.not_false, Bool.true_and, Bool.and_true, Bool.false_and, Bool.and_false, bne_self_eq_false, decide_true, decide_false, Int.toNat_natCast]) FU 0 (by omega) (by rw [FU_val]; omega) (by omega)
  have e0 : linear_Decode_l4 FU pats = linear_Decode_l4 FU pats := rfl
  refine Eq.trans (by rfl) (key.trans ?_)
  simp only [Nat.sub_zero]
  unfold readD
  by_cases hall : ∀ k, k < m → 0 ≤ gval (w.drop (6 * k))
  · have h0 : firstE (fun i => if gval (w.drop (6 * i)) < 0 then (4 : Int) else 0) m 0 = 0 := firstE_all m 0 (fun k _ hk => by have := hall k (by omega); rw [if_neg (by omega)])
    rw [if_pos h0, if_pos hall]
    unfold linear_Decode_l4 linear_Decode_j5 finD
    obtain ⟨ho, hol⟩ := mid_ok hw hall
    have hl : (w.drop (6 * m)).length = 1 := by rw [List.length_drop]; omega
    have hv := vals_len w m
    have z0 : Int.toNat (0 : Int) = 0 := rfl
    have z1 : Int.toNat (1 : Int) = 1 := rfl
    generalize hL : vals w m = l at hv ho hol ⊢
    simp only [z0, z1]
    simp (disch := omega) only [joinF_eq, bindO_some, s_wr, s_td, s_tm, s_pos, s_neg, cond_true, cond_false, Bool.not_true, Bool.not_false, Bool.true_and, Bool.and_true, Bool.false_and, Bool.and_false, bne_self_eq_false, decide_true, decide_false, Int.toNat_natCast]
    rw [show Int.toNat ((l.length : Int) - 1) = m - 1 by omega, show Int.toNat ((l.length : Int) - 2) = m - 2 by omega]
    by_cases c0 : l.getD 0 0 = 101
    · by_cases c1 : l.getD (m - 1) 0 = 102
      · rw [if_neg (by rintro (h | h); exact h c0; exact h c1)]
        rw [sum_s ho, hol, digits_s ho (by omega)]
        simp (disch := omega) only [joinF_eq, bindO_some, s_wr, s_td, s_tm, s_pos, s_neg, cond_true, cond_false, Bool.not_true, Bool.not_false, Bool.true_and, Bool.and_true, Bool.false_and, Bool.and_false, bne_self_eq_false, decide_true, decide_false, Int.toNat_natCast]
        by_cases c2 : sumW ((l.take (m - 2)).drop 1) (m - 3) % 101 = l.getD (m - 2) 0
        · rw [if_neg (fun h => h c2)]
          simp (disch := omega) only [joinF_eq, bindO_some, s_wr, s_td, s_tm, s_pos, s_neg, cond_true, cond_false, Bool.not_true, Bool.not_false, Bool.true_and, Bool.and_true, Bool.false_and, Bool.and_false, bne_self_eq_false, decide_true, decide_false, Int.toNat_natCast]
          cases digF ((l.take (m - 2)).drop 1) with
          | none => rfl
          | some r => rfl
        · rw [if_pos c2]
          simp (disch := omega) only [joinF_eq, bindO_some, s_wr, s_td, s_tm, s_pos, s_neg, cond_true, cond_false, Bool.not_true, Bool.not_false, Bool.true_and, Bool.and_true, Bool.false_and, Bool.and_false, bne_self_eq_false, decide_true, decide_false, Int.toNat_natCast]
          rfl
      · rw [if_pos (.inr c1)]
        simp (disch := omega) only [joinF_eq, bindO_some, s_wr, s_td, s_tm, s_pos, s_neg, cond_true, cond_false, Bool.not_true, Bool.not_false, Bool.true_and, Bool.and_true, Bool.false_and, Bool.and_false, bne_self_eq_false, decide_true, decide_false, Int.toNat_natCast]
        rfl
    · rw [if_pos (.inl c0)]
      simp (disch := omega) only [joinF_eq, bindO_some, s_wr, s_td, s_tm, s_pos, s_neg, cond_true, cond_false, Bool.not_true, Bool.not_false, Bool.true_and, Bool.and_true, Bool.false_and, Bool.and_false, bne_self_eq_false, decide_true, decide_false, Int.toNat_natCast]
      rfl
  · rw [if_neg hall]
    obtain ⟨k, hk⟩ := Classical.not_forall.1 hall
    obtain ⟨hk, hneg⟩ := Classical.not_imp.1 hk
    rw [if_neg (fun h => by
      have := firstE_ok m 0 h k (by omega) (by omega)
      rw [if_pos (by omega)] at this
      omega)]
theorem refW : law_decoded_j2 FU rpats w = readD w m := by
  unfold law_decoded_j2
  have hlen := hw.len
  have hm0 := hw.m0
  have hm1 := hw.m1
  refine stL3 (n := m) (by rw [FU_val]; omega) (st := fun i : Nat => (((6 * i : Nat) : Int), vals w i)) rfl (fun j i hi => ?_) (fun j => ?_)
  · unfold law_decoded_l3
    have hv := vals_len w i
    simp (disch := omega) only [joinF_eq, bindO_some, s_wr, s_td, s_tm, s_pos, s_neg, cond_true, cond_false, Bool.not_true, Bool.not_false, Bool.true_and, Bool.and_true, Bool.false_and, Bool.and_false, bne_self_eq_false, decide_true, decide_false, Int.toNat_natCast]
    obtain ⟨p1, p2⟩ := hw.piece hi
    rw [show Int.toNat (((6 * i : Nat) : Int) + 6) = 6 * i + 6 by omega, List.drop_take, show 6 * i + 6 - 6 * i = 6 by omega, group_s p2 p1, gval_take]
    simp (disch := omega) only [joinF_eq, bindO_some, s_wr, s_td, s_tm, s_pos, s_neg, cond_true, cond_false, Bool.not_true, Bool.not_false, Bool.true_and, Bool.and_true, Bool.false_and, Bool.and_false, bne_self_eq_false, decide_true, decide_false, Int.toNat_natCast, List.length_cons, List.length_nil]
    rw [vals_succ]
    congr 2
  · unfold law_decoded_l3
    have hv := vals_len w m
    simp (disch := omega) only [joinF_eq, bindO_some, s_wr, s_td, s_tm, s_pos, s_neg, cond_true, cond_false, Bool.not_true, Bool.not_false, Bool.true_and, Bool.and_true, Bool.false_and, Bool.and_false, bne_self_eq_false, decide_true, decide_false, Int.toNat_natCast]
    unfold readD
    generalize hL : vals w m = l at hv ⊢
    have hget : ∀ k, k < m → l.getD k 0 = gval (w.drop (6 * k)) := fun k hk => by rw [← hL]; exact vals_get hk
    have z0 : Int.toNat (0 : Int) = 0 := rfl
    have z1 : Int.toNat (1 : Int) = 1 := rfl
    have key := findLoop (f := law_decoded_l4 FU (((6 * m : Nat) : Int), l) (l.length : Int)) (n := m) (fu := FU) (by rw [FU_val]; omega) (p := fun k => l.getD k 0 < 0 ∨ l.getD 0 0 ≠ 101 ∨ l.getD (m - 1) 0 ≠ 102) (hit := fun _ => bad) (miss := law_decoded_l4 FU (((6 * m : Nat) : Int), l) (l.length : Int) (fun _ => none) (m : Int))
      (fun j k hk h => by
        unfold law_decoded_l4 law_decoded_j5
        simp only [z0]
        simp (disch := omega) only [joinF_eq, bindO_some, s_wr, s_td, s_tm, s_pos, s_neg, cond_true, cond_false, Bool.not_true, Bool.not_false, Bool.true_and, Bool.and_true, Bool.false_and, Bool.and_false, bne_self_eq_false, decide_true, decide_false, Int.toNat_natCast]
        rw [show Int.toNat ((l.length : Int) - 1) = m - 1 by omega]
        by_cases c0 : l.getD k 0 < 0
        · simp (disch := omega) only [joinF_eq, bindO_some, s_wr, s_td, s_tm, s_pos, s_neg, cond_true, cond_false, Bool.not_true, Bool.not_false, Bool.true_and, Bool.and_true, Bool.false_and, Bool.and_false, bne_self_eq_false, decide_true, decide_false, Int.toNat_natCast]
          rfl
        · by_cases c1 : l.getD 0 0 = 101
          · have c2 : l.getD (m - 1) 0 ≠ 102 := h.elim (fun h => absurd h c0) (fun h => h.elim (fun h => absurd c1 h) id)
            simp (disch := omega) only [joinF_eq, bindO_some, s_wr, s_td, s_tm, s_pos, s_neg, cond_true, cond_false, Bool.not_true, Bool.not_false, Bool.true_and, Bool.and_true, Bool.false_and, Bool.and_false, bne_self_eq_false, decide_true, decide_false, Int.toNat_natCast]
            rfl
          · simp (disch := omega) only [joinF_eq, bindO_some, s_wr, s_td, s_tm, s_pos, s_neg, cond_true, cond_false, Bool.not_true, Bool.not_false, Bool.true_and, Bool.and_true, Bool.false_and, Bool.and_false, bne_self_eq_false, decide_true, decide_false, Int.toNat_natCast]
            rfl)
      (fun j k hk h => by
        unfold law_decoded_l4 law_decoded_j5
        have c0 : ¬ l.getD k 0 < 0 := fun h' => h (.inl h')
        have c1 : l.getD 0 0 = 101 := Classical.byContradiction fun h' => h (.inr (.inl h'))
        have c2 : l.getD (m - 1) 0 = 102 := Classical.byContradiction fun h' => h (.inr (.inr h'))
        simp only [z0]
        simp (disch := omega) only [joinF_eq, bindO_some, s_wr, s_td, s_tm, s_pos, s_neg, cond_true, cond_false, Bool.not_true, Bool.not_false, Bool.true_and, Bool.and_true, Bool.false_and, Bool.and_false, bne_self_eq_false, decide_true, decide_false, Int.toNat_natCast]
        rw [show Int.toNat ((l.length : Int) - 1) = m - 1 by omega]
        simp (disch := omega) only [joinF_eq, bindO_some, s_wr, s_td, s_tm, s_pos, s_neg, cond_true, cond_false, Bool.not_true, Bool.not_false, Bool.true_and, Bool.and_true, Bool.false_and, Bool.and_false, bne_self_eq_false, decide_true, decide_false, Int.toNat_natCast])
      (fun j => by
        unfold law_decoded_l4
        simp (disch := omega) only [joinF_eq, bindO_some, s_wr, s_td, s_tm, s_pos, s_neg, cond_true, cond_false, Bool.not_true, Bool.not_false, Bool.true_and, Bool.and_true, Bool.false_and, Bool.and_false, bne_self_eq_false, decide_true, decide_false, Int.toNat_natCast])
    rcases key with ⟨k, h1, h2, _, h4⟩ | ⟨h1, h2⟩
    · refine h4.trans ?_
      by_cases hall : ∀ k, k < m → 0 ≤ gval (w.drop (6 * k))
      · rw [if_pos hall]
        unfold finD
        have h2 : l.getD 0 0 ≠ 101 ∨ l.getD (m - 1) 0 ≠ 102 := h2.elim (fun h => absurd h (by rw [hget k h1]; have := hall k h1; omega)) id
        rw [if_pos h2]
      · rw [if_neg hall]
    · refine h2.trans ?_
      have hall : ∀ k, k < m → 0 ≤ gval (w.drop (6 * k)) := fun k hk => by
        have := h1 k hk
        rw [hget k hk] at this
        exact Int.not_lt.1 fun h => this (.inl h)
      have c1 : l.getD 0 0 = 101 := Classical.byContradiction fun h' => h1 0 (by omega) (.inr (.inl h'))
      have c2 : l.getD (m - 1) 0 = 102 := Classical.byContradiction fun h' => h1 0 (by omega) (.inr (.inr h'))
      rw [if_pos hall]
      unfold finD
      rw [if_neg (by rintro (h | h); exact h c1; exact h c2)]
      obtain ⟨ho, hol⟩ := mid_ok hw hall
      rw [hL] at ho hol
      have hsb := sumW_bd ho
      rw [hol] at hsb
      have hg1 : ∀ i, i < m - 3 → (((l.take (m - 2)).drop 1)).getD i 0 = l.getD (i + 1) 0 := fun i hi => by rw [getD_drop, getD_take (by omega), Nat.add_comm]
      generalize hM : (l.take (m - 2)).drop 1 = M at ho hol hsb hg1 ⊢
      unfold law_decoded_l4
      simp (disch := omega) only [joinF_eq, bindO_some, s_wr, s_td, s_tm, s_pos, s_neg, cond_true, cond_false, Bool.not_true, Bool.not_false, Bool.true_and, Bool.and_true, Bool.false_and, Bool.and_false, bne_self_eq_false, decide_true, decide_false, Int.toNat_natCast]
      refine stL3 (n := m - 3) (by rw [FU_val]; omega) (st := fun i : Nat => (sumW M i, (i : Int) + 1)) (by rfl) (fun j i hi => ?_) (fun j => ?_)
      · unfold law_decoded_l6
        have b := hsb i (by omega)
        have b2 := ho.2 i (by omega)
        have b3 := mulW_bd (k := i) (by omega) b2.1 b2.2
        have e1 := hg1 i hi
        simp (disch := omega) only [joinF_eq, bindO_some, s_wr, s_td, s_tm, s_pos, s_neg, cond_true, cond_false, Bool.not_true, Bool.not_false, Bool.true_and, Bool.and_true, Bool.false_and, Bool.and_false, bne_self_eq_false, decide_true, decide_false, Int.toNat_natCast]
        rw [show Int.toNat ((i : Int) + 1) = i + 1 by omega, ← e1]
        simp (disch := omega) only [joinF_eq, bindO_some, s_wr, s_td, s_tm, s_pos, s_neg, cond_true, cond_false, Bool.not_true, Bool.not_false, Bool.true_and, Bool.and_true, Bool.false_and, Bool.and_false, bne_self_eq_false, decide_true, decide_false, Int.toNat_natCast]
        rw [sumW_succ]
        rfl
      · unfold law_decoded_l6
        have b := hsb (m - 3) (by omega)
        have e1 := hg1 0 (by omega)
        simp (disch := omega) only [joinF_eq, bindO_some, s_wr, s_td, s_tm, s_pos, s_neg, cond_true, cond_false, Bool.not_true, Bool.not_false, Bool.true_and, Bool.and_true, Bool.false_and, Bool.and_false, bne_self_eq_false, decide_true, decide_false, Int.toNat_natCast]
        rw [show Int.toNat ((l.length : Int) - 2) = m - 2 by omega]
        by_cases c3 : sumW M (m - 3) % 101 = l.getD (m - 2) 0
        · rw [if_neg (fun h => h c3)]
          simp (disch := omega) only [joinF_eq, bindO_some, s_wr, s_td, s_tm, s_pos, s_neg, cond_true, cond_false, Bool.not_true, Bool.not_false, Bool.true_and, Bool.and_true, Bool.false_and, Bool.and_false, bne_self_eq_false, decide_true, decide_false, Int.toNat_natCast]
          have e2 : l.getD (Int.toNat (1 + 0)) 0 = M.getD 0 0 := by rw [e1]; rfl
          rw [e2, ← digR_s ho (by omega)]
          by_cases c4 : M.getD 0 0 = 100
          · rw [decide_eq_true c4, cond_true, if_pos c4]
            congr 1
            rw [← hM, List.drop_drop]
            congr 1
            congr 1
            omega
          · rw [decide_eq_false c4, cond_false, if_neg c4]
            congr 1
        · rw [if_pos c3]
          simp (disch := omega) only [joinF_eq, bindO_some, s_wr, s_td, s_tm, s_pos, s_neg, cond_true, cond_false, Bool.not_true, Bool.not_false, Bool.true_and, Bool.and_true, Bool.false_and, Bool.and_false, bne_self_eq_false, decide_true, decide_false, Int.toNat_natCast]
          rfl
end
end Go.Proofs.Ytedjnjgnadbkaaa
