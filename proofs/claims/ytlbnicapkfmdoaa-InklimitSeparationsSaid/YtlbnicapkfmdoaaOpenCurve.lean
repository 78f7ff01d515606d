/- Curves as arguments. -/
import Derived.Test.YtlbnicapkfmdoaaOpen
namespace Go.Proofs.Ytlbnicapkfmdoaa
open Go.ChangeShapes Go.WideShapes Go.ChangeAt Go.RowKit Go.Deep

theorem cells_point : Try.prog.cellsOf 66 = 2 := by kernel_rfl
theorem cells_curve : Try.prog.cellsOf 49 = 1 := by kernel_rfl
theorem cells_points : Try.prog.cellsOf 47 = 1 := by kernel_rfl
section
variable {H : Type} {enc : TypeId × Value → H} {w : World} {base : Nat} {spare : Nat → Bool} {held : Bool}
theorem rd_pts {fuel : Nat} {v : Value} {x : DataW H × List MemPlace} (h : DataW.trod enc Try.prog w base spare held fuel 47 [v] = some x) :
    ∃ A c, ∃ ps : List (Int × Int), v = .slice A ps.length c ∧ ps.length ≤ maxLen ∧ Pts w A ps := by
  obtain ⟨A, n, c, rfl, hn, hc, hi⟩ := rd_slice Try.underlying47 (by rw [cells_point]; omega) h
  obtain ⟨ps, hl, hq⟩ := choose_list (Q := fun i (p : Int × Int) => ∃ b o, A = some ⟨b, o, none⟩ ∧ w.cell? ⟨b, o + i * 2, none⟩ = some (.int .i64 p.1) ∧ w.cell? ⟨b, o + i * 2 + 1, none⟩ = some (.int .i64 p.2)) (n := n) (by
    intro i hil
    obtain ⟨b, o, cs, n', x', hA, hlen, hat, ht⟩ := hi i hil
    rw [cells_point] at hlen hat
    obtain ⟨u0, u1, rfl⟩ : ∃ u0 u1, cs = [u0, u1] := by match cs, hlen with | [u0, u1], _ => exact ⟨u0, u1, rfl⟩
    obtain ⟨_, _, g0⟩ := rd_field1 (u := u0) Try.underlying66 ht 0 rfl cells_int rfl
    obtain ⟨_, _, g1⟩ := rd_field1 (u := u1) Try.underlying66 ht 1 rfl cells_int rfl
    obtain ⟨x, rfl, _⟩ := rd_int Try.underlying3 g0
    obtain ⟨y, rfl, _⟩ := rd_int Try.underlying3 g1
    exact ⟨(x, y), b, o, hA, hat 0 _ rfl, hat 1 _ rfl⟩)
  subst hl
  exact ⟨A, c, ps, rfl, by omega, hq⟩
theorem arg_pts {v : Value} {d : DataW H} {p : List MemPlace} (hv : Value.okWide Try.prog w .any base 47 v) (h : DataW.Trod enc Try.prog w 0 spare held 47 v d p) :
    ∃ A c, ∃ ps : List (Int × Int), v = .slice A ps.length c ∧ ps.length ≤ maxLen ∧ Pts w A ps := by
  obtain ⟨a, n, c, rfl⟩ := okWide_slice Try.underlying47 hv
  obtain ⟨fuel, hf⟩ := h
  exact rd_pts hf
theorem arg_curve {v : Value} {d : DataW H} {p : List MemPlace} (hv : Value.okWide Try.prog w .any base 49 v) (h : DataW.Trod enc Try.prog w 0 spare held 49 v d p) :
    ∃ A c, ∃ ps : List (Int × Int), v = .agg #[.slice A ps.length c] ∧ ps.length ≤ maxLen ∧ Pts w A ps := by
  obtain ⟨cs, rfl, hsz⟩ := okWide_struct Try.underlying49 hv
  rw [cells_curve] at hsz
  obtain ⟨u, rfl⟩ : ∃ u, cs = #[u] := by
    obtain ⟨l⟩ := cs
    match l, hsz with | [u], _ => exact ⟨u, rfl⟩
  obtain ⟨fuel, hf⟩ := h
  obtain ⟨_, _, g0⟩ := rd_field1 (u := u) Try.underlying49 hf 0 rfl cells_points rfl
  obtain ⟨A, c, ps, rfl, h1, h2⟩ := rd_pts g0
  exact ⟨A, c, ps, rfl, h1, h2⟩
end
end Go.Proofs.Ytlbnicapkfmdoaa
