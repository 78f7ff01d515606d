/- OverprintCombines: for every input each of these laws returns true and leaves its arguments as they were. -/
import Derived.Test.YtlbnicapkfmdoaaOver11
import Derived.Test.YtlbnicapkfmdoaaOpen
import Derived.Test.YtlbnicapkfmdoaaLaw
namespace Go.Proofs.Ytlbnicapkfmdoaa
open Go.ChangeShapes Go.WideShapes Go.ChangeAt Go.RowKit

set_option maxRecDepth 100000 in
theorem overprintCombines_lifted (os : Os) (started : os.Started) (H : Type) (enc : TypeId × Value → H) :
    ReturnsInHanded {} Try.checked os 5 .any (Rows.overprintCombinesSpec.pre6 enc Try.prog Try.f5 Rows.overprintCombinesRow.domain false) (Rows.overprintCombinesSpec.post enc Try.prog Try.f5 false true false false) := by
  refine law_lifted started (by kernel_rfl) Try.func5
    (ChangeSpec.witness6 (enc := enc) (C := Try.checked) false ⟨#[], #[.slice none 0 0, .slice none 0 0, .slice none 0 0], []⟩ 8 (by kernel_rfl) (by kernel_rfl) (by kernel_rfl) (by kernel_rfl)) rfl rfl (by kernel_rfl)
    (fun ds h => by rw [Try.params5] at h; match ds, h with | [_, _, _], _ => rfl) ?_
  intro W base args ds ps hval hA hsz hlt
  rw [Try.params5] at hA hval hsz
  obtain ⟨v0, vs0, d0, ds0, p0, q0, rfl, rfl, rfl, h0, r0⟩ := trodAll_cons hA
  obtain ⟨v1, vs1, d1, ds1, p1, q1, rfl, rfl, rfl, h1, r1⟩ := trodAll_cons r0
  obtain ⟨v2, vs2, d2, ds2, p2, q2, rfl, rfl, rfl, h2, r2⟩ := trodAll_cons r1
  obtain ⟨rfl, rfl, rfl⟩ := trodAll_nil r2
  have hv0 := hval 0 32 v0 rfl rfl
  have hv1 := hval 1 32 v1 rfl rfl
  have hv2 := hval 2 32 v2 rfl rfl
  obtain ⟨A, ca, be, rfl, l0, k0, _⟩ := arg_ints hv0 h0
  obtain ⟨B, cb, ab, rfl, l1, k1, _⟩ := arg_ints hv1 h1
  obtain ⟨C, cc, ki, rfl, l2, k2, _⟩ := arg_ints hv2 h2
  exact overprintCombines_walk A B C be ab ki ca cb cc W l0 l1 l2 k0 k1 k2

theorem overprintCombines_holds : Rows.OverprintCombinesSaid :=
  OpenClaim.holds_of_wide 5 Try.f5 rfl rfl rfl rfl rfl rfl rfl ⟨rfl, rfl, rfl, rfl, rfl⟩ rfl rfl rfl rfl rfl (by kernel_rfl) Try.func5 (by kernel_rfl)
    (of_decide_eq_true (by kernel_rfl)) (by unfold Func.isWrapper; first | (rw [if_pos (by decide +kernel)]; kernel_rfl) | (rw [if_neg (by decide +kernel)]; exact ⟨rfl, rfl⟩))
    (fun os started H enc _ => overprintCombines_lifted os started H enc)
end Go.Proofs.Ytlbnicapkfmdoaa
