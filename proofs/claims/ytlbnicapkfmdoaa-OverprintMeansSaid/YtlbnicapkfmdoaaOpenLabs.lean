/- Slices of colours as arguments. -/
import Derived.Test.YtlbnicapkfmdoaaOpen
import Derived.Test.YtlbnicapkfmdoaaOver6
set_option maxRecDepth 100000
namespace Go.Proofs.Ytlbnicapkfmdoaa
open Go.ChangeShapes Go.WideShapes Go.ChangeAt Go.RowKit Go.Deep

theorem cells_labN : Try.prog.cellsOf 41 = 3 := by kernel_rfl
section
variable {H : Type} {enc : TypeId × Value → H} {w : World} {base : Nat} {spare : Nat → Bool} {held : Bool}
theorem rd_labs {fuel : Nat} {v : Value} {x : DataW H × List MemPlace} (h : DataW.trod enc Try.prog w base spare held fuel 38 [v] = some x) :
    ∃ A c, ∃ ls : List (Int × Int × Int), v = .slice A ls.length c ∧ ls.length ≤ maxLen ∧ Labs w A ls := by
  obtain ⟨A, n, c, rfl, hn, hc, hi⟩ := rd_slice Try.underlying38 (by rw [cells_labN]; omega) h
  obtain ⟨ls, hl, hq⟩ := choose_list (Q := fun i (p : Int × Int × Int) => ∃ b o, A = some ⟨b, o, none⟩ ∧ w.cell? ⟨b, o + i * 3, none⟩ = some (.int .i64 p.1) ∧ w.cell? ⟨b, o + i * 3 + 1, none⟩ = some (.int .i64 p.2.1) ∧ w.cell? ⟨b, o + i * 3 + 2, none⟩ = some (.int .i64 p.2.2)) (n := n) (by
    intro i hil
    obtain ⟨b, o, cs, n', x', hA, hlen, hat, ht⟩ := hi i hil
    rw [cells_labN] at hlen hat
    obtain ⟨u0, u1, u2, rfl⟩ : ∃ u0 u1 u2, cs = [u0, u1, u2] := by match cs, hlen with | [u0, u1, u2], _ => exact ⟨u0, u1, u2, rfl⟩
    obtain ⟨_, _, g0⟩ := rd_field1 (u := u0) Try.underlying41 ht 0 rfl cells_int rfl
    obtain ⟨_, _, g1⟩ := rd_field1 (u := u1) Try.underlying41 ht 1 rfl cells_int rfl
    obtain ⟨_, _, g2⟩ := rd_field1 (u := u2) Try.underlying41 ht 2 rfl cells_int rfl
    obtain ⟨x, rfl, _⟩ := rd_int Try.underlying3 g0
    obtain ⟨y, rfl, _⟩ := rd_int Try.underlying3 g1
    obtain ⟨z, rfl, _⟩ := rd_int Try.underlying3 g2
    exact ⟨(x, y, z), b, o, hA, hat 0 _ rfl, hat 1 _ rfl, hat 2 _ rfl⟩)
  subst hl
  exact ⟨A, c, ls, rfl, by omega, hq⟩
theorem arg_labs {v : Value} {d : DataW H} {p : List MemPlace} (hv : Value.okWide Try.prog w .any base 38 v) (h : DataW.Trod enc Try.prog w 0 spare held 38 v d p) :
    ∃ A c, ∃ ls : List (Int × Int × Int), v = .slice A ls.length c ∧ ls.length ≤ maxLen ∧ Labs w A ls := by
  obtain ⟨a, n, c, rfl⟩ := okWide_slice Try.underlying38 hv
  obtain ⟨fuel, hf⟩ := h
  exact rd_labs hf
end
end Go.Proofs.Ytlbnicapkfmdoaa
