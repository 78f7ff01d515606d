/- Colours as arguments. -/
import Derived.Test.YtdfocbeejgcglaaOpen
set_option maxRecDepth 100000
namespace Go.Proofs.Ytdfocbeejgcglaa
open Go.ChangeShapes Go.WideShapes Go.ChangeAt Go.RowKit Go.Deep

theorem cells_lab : Try.prog.cellsOf 26 = 3 := by kernel_rfl
theorem cells_xyz : Try.prog.cellsOf 23 = 3 := by kernel_rfl
section
variable {H : Type} {enc : TypeId × Value → H} {w : World} {base : Nat} {spare : Nat → Bool} {held : Bool}
theorem arg_lab {v : Value} {d : DataW H} {p : List MemPlace} (hv : Value.okWide Try.prog w .any base 26 v) (h : DataW.Trod enc Try.prog w 0 spare held 26 v d p) :
    ∃ x y z : Int, v = .agg #[.int .i64 x, .int .i64 y, .int .i64 z] := by
  obtain ⟨cs, rfl, hsz⟩ := okWide_struct Try.underlying26 hv
  rw [cells_lab] at hsz
  obtain ⟨u0, u1, u2, rfl⟩ : ∃ u0 u1 u2, cs = #[u0, u1, u2] := by
    obtain ⟨l⟩ := cs
    match l, hsz with | [u0, u1, u2], _ => exact ⟨u0, u1, u2, rfl⟩
  obtain ⟨fuel, hf⟩ := h
  obtain ⟨_, _, g0⟩ := rd_field1 (u := u0) Try.underlying26 hf 0 rfl cells_int rfl
  obtain ⟨_, _, g1⟩ := rd_field1 (u := u1) Try.underlying26 hf 1 rfl cells_int rfl
  obtain ⟨_, _, g2⟩ := rd_field1 (u := u2) Try.underlying26 hf 2 rfl cells_int rfl
  obtain ⟨x, rfl, _⟩ := rd_int Try.underlying3 g0
  obtain ⟨y, rfl, _⟩ := rd_int Try.underlying3 g1
  obtain ⟨z, rfl, _⟩ := rd_int Try.underlying3 g2
  exact ⟨x, y, z, rfl⟩
theorem arg_xyz {v : Value} {d : DataW H} {p : List MemPlace} (hv : Value.okWide Try.prog w .any base 23 v) (h : DataW.Trod enc Try.prog w 0 spare held 23 v d p) :
    ∃ x y z : Int, v = .agg #[.int .i64 x, .int .i64 y, .int .i64 z] := by
  obtain ⟨cs, rfl, hsz⟩ := okWide_struct Try.underlying23 hv
  rw [cells_xyz] at hsz
  obtain ⟨u0, u1, u2, rfl⟩ : ∃ u0 u1 u2, cs = #[u0, u1, u2] := by
    obtain ⟨l⟩ := cs
    match l, hsz with | [u0, u1, u2], _ => exact ⟨u0, u1, u2, rfl⟩
  obtain ⟨fuel, hf⟩ := h
  obtain ⟨_, _, g0⟩ := rd_field1 (u := u0) Try.underlying23 hf 0 rfl cells_int rfl
  obtain ⟨_, _, g1⟩ := rd_field1 (u := u1) Try.underlying23 hf 1 rfl cells_int rfl
  obtain ⟨_, _, g2⟩ := rd_field1 (u := u2) Try.underlying23 hf 2 rfl cells_int rfl
  obtain ⟨x, rfl, _⟩ := rd_int Try.underlying3 g0
  obtain ⟨y, rfl, _⟩ := rd_int Try.underlying3 g1
  obtain ⟨z, rfl, _⟩ := rd_int Try.underlying3 g2
  exact ⟨x, y, z, rfl⟩
end
end Go.Proofs.Ytdfocbeejgcglaa
