/- RefspaceTristimulus: for every input each of these laws returns true and leaves its arguments as they were. -/
import Derived.Test.YtdfocbeejgcglaaRefLaw2
import Derived.Test.YtdfocbeejgcglaaOpenRef
import Derived.Test.YtdfocbeejgcglaaLaw
namespace Go.Proofs.Ytdfocbeejgcglaa
open Go.ChangeShapes Go.WideShapes Go.ChangeAt Go.RowKit

set_option maxRecDepth 100000 in
theorem refspaceTristimulus_lifted (os : Os) (started : os.Started) (H : Type) (enc : TypeId × Value → H) :
    ReturnsInHanded {} Try.checked os 4 .any (Rows.refspaceTristimulusSpec.pre6 enc Try.prog Try.f4 Rows.refspaceTristimulusRow.domain false) (Rows.refspaceTristimulusSpec.post enc Try.prog Try.f4 false true false false) := by
  refine law_lifted started (by kernel_rfl) Try.func4
    (ChangeSpec.witness6 (enc := enc) (C := Try.checked) false ⟨#[], #[.agg #[.int .i64 0, .int .i64 0, .int .i64 0], .agg #[.int .i64 0, .int .i64 0, .int .i64 0]], []⟩ 8 (by kernel_rfl) (by kernel_rfl) (by kernel_rfl) (by kernel_rfl)) rfl rfl (by kernel_rfl)
    (fun ds h => by rw [Try.params4] at h; match ds, h with | [_, _], _ => rfl) ?_
  intro W base args ds ps hval hA hsz hlt
  rw [Try.params4] at hA hval hsz
  obtain ⟨v0, vs0, d0, ds0, p0, q0, rfl, rfl, rfl, h0, r0⟩ := trodAll_cons hA
  obtain ⟨v1, vs1, d1, ds1, p1, q1, rfl, rfl, rfl, h1, r1⟩ := trodAll_cons r0
  obtain ⟨rfl, rfl, rfl⟩ := trodAll_nil r1
  have hv0 := hval 0 26 v0 rfl rfl
  have hv1 := hval 1 23 v1 rfl rfl
  obtain ⟨l, a, b, rfl⟩ := arg_lab hv0 h0
  obtain ⟨x', y', z', rfl⟩ := arg_xyz hv1 h1
  exact refspaceTristimulus_walk l a b x' y' z' W

theorem refspaceTristimulus_holds : Rows.RefspaceTristimulusSaid :=
  OpenClaim.holds_of_wide 4 Try.f4 rfl rfl rfl rfl rfl rfl rfl ⟨rfl, rfl, rfl, rfl, rfl⟩ rfl rfl rfl rfl rfl (by kernel_rfl) Try.func4 (by kernel_rfl)
    (of_decide_eq_true (by kernel_rfl)) (by unfold Func.isWrapper; first | (rw [if_pos (by decide +kernel)]; kernel_rfl) | (rw [if_neg (by decide +kernel)]; exact ⟨rfl, rfl⟩))
    (fun os started H enc _ => refspaceTristimulus_lifted os started H enc)
end Go.Proofs.Ytdfocbeejgcglaa
