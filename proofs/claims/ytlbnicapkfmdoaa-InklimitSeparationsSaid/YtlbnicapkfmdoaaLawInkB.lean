/- InklimitSeparations: for every input each of these laws returns true and leaves its arguments as they were. -/
import Derived.Test.YtlbnicapkfmdoaaInkLaw2
import Derived.Test.YtlbnicapkfmdoaaOpen
import Derived.Test.YtlbnicapkfmdoaaOpenCurve
import Derived.Test.YtlbnicapkfmdoaaLaw
namespace Go.Proofs.Ytlbnicapkfmdoaa
open Go.ChangeShapes Go.WideShapes Go.ChangeAt Go.RowKit

set_option maxRecDepth 100000 in
theorem inklimitSeparations_lifted (os : Os) (started : os.Started) (H : Type) (enc : TypeId × Value → H) :
    ReturnsInHanded {} Try.checked os 7 .any (Rows.inklimitSeparationsSpec.pre6 enc Try.prog Try.f7 Rows.inklimitSeparationsRow.domain false) (Rows.inklimitSeparationsSpec.post enc Try.prog Try.f7 false true false false) := by
  refine law_lifted started (by kernel_rfl) Try.func7
    (ChangeSpec.witness6 (enc := enc) (C := Try.checked) false ⟨#[], #[.slice none 0 0, .agg #[.slice none 0 0], .int .i64 0], []⟩ 8 (by kernel_rfl) (by kernel_rfl) (by kernel_rfl) (by kernel_rfl)) rfl rfl (by kernel_rfl)
    (fun ds h => by rw [Try.params7] at h; match ds, h with | [_, _, _], _ => rfl) ?_
  intro W base args ds ps hval hA hsz hlt
  rw [Try.params7] at hA hval hsz
  obtain ⟨v0, vs0, d0, ds0, p0, q0, rfl, rfl, rfl, h0, r0⟩ := trodAll_cons hA
  obtain ⟨v1, vs1, d1, ds1, p1, q1, rfl, rfl, rfl, h1, r1⟩ := trodAll_cons r0
  obtain ⟨v2, vs2, d2, ds2, p2, q2, rfl, rfl, rfl, h2, r2⟩ := trodAll_cons r1
  obtain ⟨rfl, rfl, rfl⟩ := trodAll_nil r2
  have hv0 := hval 0 32 v0 rfl rfl
  have hv1 := hval 1 49 v1 rfl rfl
  obtain ⟨a2, rfl, rfl, rfl, w2⟩ := open_int Try.underlying3 (hval 2 3 v2 rfl rfl) h2
  obtain ⟨A, c, xs, rfl, hl, hp, _⟩ := arg_ints hv0 h0
  obtain ⟨B, d, ps, rfl, hl', hp'⟩ := arg_curve hv1 h1
  exact inklimitSeparations_walk A B xs ps c d a2 W hl hl' hp hp'

theorem inklimitSeparations_holds : Rows.InklimitSeparationsSaid :=
  OpenClaim.holds_of_wide 7 Try.f7 rfl rfl rfl rfl rfl rfl rfl ⟨rfl, rfl, rfl, rfl, rfl⟩ rfl rfl rfl rfl rfl (by kernel_rfl) Try.func7 (by kernel_rfl)
    (of_decide_eq_true (by kernel_rfl)) (by unfold Func.isWrapper; first | (rw [if_pos (by decide +kernel)]; kernel_rfl) | (rw [if_neg (by decide +kernel)]; exact ⟨rfl, rfl⟩))
    (fun os started H enc _ => inklimitSeparations_lifted os started H enc)
end Go.Proofs.Ytlbnicapkfmdoaa
