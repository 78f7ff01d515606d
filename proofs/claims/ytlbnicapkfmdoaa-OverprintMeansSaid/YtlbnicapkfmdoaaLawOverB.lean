/- OverprintMeans: for every input each of these laws returns true and leaves its arguments as they were. -/
import Derived.Test.YtlbnicapkfmdoaaOverS3
import Derived.Test.YtlbnicapkfmdoaaOpen
import Derived.Test.YtlbnicapkfmdoaaLaw
namespace Go.Proofs.Ytlbnicapkfmdoaa
open Go.ChangeShapes Go.WideShapes Go.ChangeAt Go.RowKit

set_option maxRecDepth 100000 in
theorem overprintMeans_lifted (os : Os) (started : os.Started) (H : Type) (enc : TypeId × Value → H) :
    ReturnsInHanded {} Try.checked os 6 .any (Rows.overprintMeansSpec.pre6 enc Try.prog Try.f6 Rows.overprintMeansRow.domain false) (Rows.overprintMeansSpec.post enc Try.prog Try.f6 false true false false) := by
  refine law_lifted started (by kernel_rfl) Try.func6
    (ChangeSpec.witness6 (enc := enc) (C := Try.checked) false ⟨#[], #[.slice none 0 0, .slice none 0 0], []⟩ 8 (by kernel_rfl) (by kernel_rfl) (by kernel_rfl) (by kernel_rfl)) rfl rfl (by kernel_rfl)
    (fun ds h => by rw [Try.params6] at h; match ds, h with | [_, _], _ => rfl) ?_
  intro W base args ds ps hval hA hsz hlt
  rw [Try.params6] at hA hval hsz
  obtain ⟨v0, vs0, d0, ds0, p0, q0, rfl, rfl, rfl, h0, r0⟩ := trodAll_cons hA
  obtain ⟨v1, vs1, d1, ds1, p1, q1, rfl, rfl, rfl, h1, r1⟩ := trodAll_cons r0
  obtain ⟨rfl, rfl, rfl⟩ := trodAll_nil r1
  have hv0 := hval 0 38 v0 rfl rfl
  have hv1 := hval 1 32 v1 rfl rfl
  obtain ⟨ls, _, r0⟩ := arg_ro eT _ Try.underlying38 cells_labN (by omega) (reads_three Try.underlying41 Try.underlying3 cells_int rfl rfl rfl) hv0 h0
  obtain ⟨ts, _, r1⟩ := arg_ro (eI .i64) _ Try.underlying32 cells_int (by omega) (reads_int Try.underlying3) hv1 h1
  exact (means_f ls ts).yes (argsC2 r0 r1)

theorem overprintMeans_holds : Rows.OverprintMeansSaid :=
  OpenClaim.holds_of_wide 6 Try.f6 rfl rfl rfl rfl rfl rfl rfl ⟨rfl, rfl, rfl, rfl, rfl⟩ rfl rfl rfl rfl rfl (by kernel_rfl) Try.func6 (by kernel_rfl)
    (of_decide_eq_true (by kernel_rfl)) (by unfold Func.isWrapper; first | (rw [if_pos (by decide +kernel)]; kernel_rfl) | (rw [if_neg (by decide +kernel)]; exact ⟨rfl, rfl⟩))
    (fun os started H enc _ => overprintMeans_lifted os started H enc)
end Go.Proofs.Ytlbnicapkfmdoaa
