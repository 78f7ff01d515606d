/- SheetGaps: for every input each of these laws returns true and leaves its arguments as they were. -/
import Derived.Test.YtnbmldnahacnlaaSheetSV
import Derived.Test.YtnbmldnahacnlaaOpenBits
import Derived.Test.YtnbmldnahacnlaaLaw
namespace Go.Proofs.Ytnbmldnahacnlaa
open Go.ChangeShapes Go.WideShapes Go.ChangeAt Go.RowKit

set_option maxRecDepth 100000 in
theorem sheetGaps_lifted (os : Os) (started : os.Started) (H : Type) (enc : TypeId × Value → H) :
    ReturnsInHanded {} Try.checked os 11 .any (Rows.sheetGapsSpec.pre6 enc Try.prog Try.f11 Rows.sheetGapsRow.domain false) (Rows.sheetGapsSpec.post enc Try.prog Try.f11 false true false false) := by
  refine law_lifted started (by kernel_rfl) Try.func11
    (ChangeSpec.witness6 (enc := enc) (C := Try.checked) false ⟨#[], #[.agg #[.int .i64 0, .int .i64 0, .slice none 0 0], .agg #[.int .i64 0, .int .i64 0, .slice none 0 0], .int .i64 0], []⟩ 8 (by kernel_rfl) (by kernel_rfl) (by kernel_rfl) (by kernel_rfl)) rfl rfl (by kernel_rfl)
    (fun ds h => by rw [Try.params11] at h; match ds, h with | [_, _, _], _ => rfl) ?_
  intro W base args ds ps hval hA hsz hlt
  rw [Try.params11] at hA hval hsz
  obtain ⟨v0, vs0, d0, ds0, p0, q0, rfl, rfl, rfl, h0, r0⟩ := trodAll_cons hA
  obtain ⟨v1, vs1, d1, ds1, p1, q1, rfl, rfl, rfl, h1, r1⟩ := trodAll_cons r0
  obtain ⟨v2, vs2, d2, ds2, p2, q2, rfl, rfl, rfl, h2, r2⟩ := trodAll_cons r1
  obtain ⟨rfl, rfl, rfl⟩ := trodAll_nil r2
  have hv0 := hval 0 87 v0 rfl rfl
  have hv1 := hval 1 87 v1 rfl rfl
  obtain ⟨a2, rfl, rfl, rfl, w2⟩ := open_int Try.underlying3 (hval 2 3 v2 rfl rfl) h2
  obtain ⟨x0, y0, p0, _, q0⟩ := arg_bits Try.underlying87 (by kernel_rfl) rfl rfl rfl hv0 h0
  obtain ⟨x1, y1, p1, _, q1⟩ := arg_bits Try.underlying87 (by kernel_rfl) rfl rfl rfl hv1 h1
  exact (gaps_law x0 y0 p0 x1 y1 p1 a2).yes (argsV3 q0 q1 (rI _ _ _ _))

theorem sheetGaps_holds : Rows.SheetGapsSaid :=
  OpenClaim.holds_of_wide 11 Try.f11 rfl rfl rfl rfl rfl rfl rfl ⟨rfl, rfl, rfl, rfl, rfl⟩ rfl rfl rfl rfl rfl (by kernel_rfl) Try.func11 (by kernel_rfl)
    (of_decide_eq_true (by kernel_rfl)) (by unfold Func.isWrapper; first | (rw [if_pos (by decide +kernel)]; kernel_rfl) | (rw [if_neg (by decide +kernel)]; exact ⟨rfl, rfl⟩))
    (fun os started H enc _ => sheetGaps_lifted os started H enc)
end Go.Proofs.Ytnbmldnahacnlaa
