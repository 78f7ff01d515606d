/- Cells that are kept, also over one or two new blocks. -/
import Derived.Test.YtlbnicapkfmdoaaMem
import Derived.Test.YtlbnicapkfmdoaaReg
namespace Go.Proofs.Ytlbnicapkfmdoaa
open Go.RowKit

theorem cell_al {w : World} {o : Obj} {a : Addr} {v : Value} (h : w.cell? a = some v) : (w.alloc o).cell? a = some v :=
  cell_kept ((Below.refl w.heap.size w).alloc (Nat.le_refl _) o) h
theorem cell_kept1 {w w' : World} {o : Obj} (hb : Below (w.alloc o).heap.size (w.alloc o) w') {a : Addr} {v : Value} (h : w.cell? a = some v) : w'.cell? a = some v :=
  cell_kept hb (cell_al h)
theorem cell_kept2 {w w' : World} {o o' : Obj} (hb : Below ((w.alloc o).alloc o').heap.size ((w.alloc o).alloc o') w') {a : Addr} {v : Value} (h : w.cell? a = some v) : w'.cell? a = some v :=
  cell_kept hb (cell_al (cell_al h))
end Go.Proofs.Ytlbnicapkfmdoaa
