/- CurveTables: for every input each of these laws returns true and leaves its arguments as they were. -/
import Derived.Test.YtlbnicapkfmdoaaCurveLaw2
import Derived.Test.YtlbnicapkfmdoaaOpenCurve
import Derived.Test.YtlbnicapkfmdoaaLaw
namespace Go.Proofs.Ytlbnicapkfmdoaa
open Go.ChangeShapes Go.WideShapes Go.ChangeAt Go.RowKit

set_option maxRecDepth 100000 in
theorem curveTables_lifted (os : Os) (started : os.Started) (H : Type) (enc : TypeId × Value → H) :
    ReturnsInHanded {} Try.checked os 12 .any (Rows.curveTablesSpec.pre6 enc Try.prog Try.f12 Rows.curveTablesRow.domain false) (Rows.curveTablesSpec.post enc Try.prog Try.f12 false true false false) := by
  refine law_lifted started (by kernel_rfl) Try.func12
    (ChangeSpec.witness6 (enc := enc) (C := Try.checked) false ⟨#[], #[.agg #[.slice none 0 0]], []⟩ 8 (by kernel_rfl) (by kernel_rfl) (by kernel_rfl) (by kernel_rfl)) rfl rfl (by kernel_rfl)
    (fun ds h => by rw [Try.params12] at h; match ds, h with | [_], _ => rfl) ?_
  intro W base args ds ps hval hA hsz hlt
  rw [Try.params12] at hA hval hsz
  obtain ⟨v0, vs0, d0, ds0, p0, q0, rfl, rfl, rfl, h0, r0⟩ := trodAll_cons hA
  obtain ⟨rfl, rfl, rfl⟩ := trodAll_nil r0
  have hv0 := hval 0 49 v0 rfl rfl
  obtain ⟨A, c, cps, rfl, hl, hp⟩ := arg_curve hv0 h0
  exact curveTables_walk A cps c W hl hp

theorem curveTables_holds : Rows.CurveTablesSaid :=
  OpenClaim.holds_of_wide 12 Try.f12 rfl rfl rfl rfl rfl rfl rfl ⟨rfl, rfl, rfl, rfl, rfl⟩ rfl rfl rfl rfl rfl (by kernel_rfl) Try.func12 (by kernel_rfl)
    (of_decide_eq_true (by kernel_rfl)) (by unfold Func.isWrapper; first | (rw [if_pos (by decide +kernel)]; kernel_rfl) | (rw [if_neg (by decide +kernel)]; exact ⟨rfl, rfl⟩))
    (fun os started H enc _ => curveTables_lifted os started H enc)
end Go.Proofs.Ytlbnicapkfmdoaa
