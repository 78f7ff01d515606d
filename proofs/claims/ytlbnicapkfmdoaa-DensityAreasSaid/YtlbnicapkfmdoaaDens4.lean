/- Walks of the two laws on densities. -/
import Derived.Test.YtlbnicapkfmdoaaDens3
namespace Go.Proofs.Ytlbnicapkfmdoaa
open Go.RowKit

set_option maxHeartbeats 1000000 in
theorem densityLogarithms_walk (x r : Int) (w : World) : Calls Try.prog 3 #[.int .i64 x, .int .i64 r] w fun e w' => e = .returned (.bool true) ∧ w = w' := by
  by_cases hx : 1 ≤ x ∧ x ≤ 1099511627776 <;> by_cases hr : 1 ≤ r ∧ r ≤ 1000000
  · have hL := Lib.hid (show log2F x = (lg x, 0) from if_neg (by omega))
    have hD := Lib.hid (show densF r = (dens r, 0) from if_neg (by omega))
    have w1 := within_mk hx.1 hx.2
    have w2 := within_mk hr.1 hr.2
    obtain ⟨x1, x2⟩ := hx
    obtain ⟨r1, r2⟩ := hr
    go_enter Try.func3, Try.ntmps3
    go_wp2_with (first | (go_at_call 13; refine (densityWorks_any _).mono ?_; rintro e w' ⟨rfl, rfl⟩) | (go_at_call 14; refine (log2_is _ hL.out).mono ?_; rintro e w' ⟨rfl, rfl⟩) | (go_at_call 15; refine (dens_is _ hD.out).mono ?_; rintro e w' ⟨rfl, rfl⟩) | (go_at_call 16; refine (within_any _ _ _ _).mono ?_; rintro e w' ⟨rfl, rfl⟩) | (go_at_call 18; refine (rlog2_any _ _ (by omega) (by omega)).mono ?_; rintro e w' ⟨rfl, rfl⟩) | (go_at_call 19; refine (rdens_any _ _ (by omega) (by omega)).mono ?_; rintro e w' ⟨rfl, rfl⟩))
    go_ret
    exact ⟨rfl, rfl⟩
  · have hL := Lib.hid (show log2F x = (lg x, 0) from if_neg (by omega))
    have hD := Lib.hid (show densF r = (0, 3) from if_pos (by omega))
    have w1 := within_mk hx.1 hx.2
    have w2 : within r 1 1000000 = false := within_not (by omega)
    obtain ⟨x1, x2⟩ := hx
    clear hr
    go_enter Try.func3, Try.ntmps3
    go_wp2_with (first | (go_at_call 13; refine (densityWorks_any _).mono ?_; rintro e w' ⟨rfl, rfl⟩) | (go_at_call 14; refine (log2_is _ hL.out).mono ?_; rintro e w' ⟨rfl, rfl⟩) | (go_at_call 15; refine (dens_is _ hD.out).mono ?_; rintro e w' ⟨rfl, rfl⟩) | (go_at_call 16; refine (within_any _ _ _ _).mono ?_; rintro e w' ⟨rfl, rfl⟩) | (go_at_call 18; refine (rlog2_any _ _ (by omega) (by omega)).mono ?_; rintro e w' ⟨rfl, rfl⟩) | (go_at_call 17; refine (none_any _ _ _ _).mono ?_; rintro e w' ⟨rfl, rfl⟩))
    go_ret
    exact ⟨rfl, rfl⟩
  · have hL := Lib.hid (show log2F x = (0, 3) from if_pos (by omega))
    have hD := Lib.hid (show densF r = (dens r, 0) from if_neg (by omega))
    have w1 : within x 1 1099511627776 = false := within_not (by omega)
    have w2 := within_mk hr.1 hr.2
    obtain ⟨r1, r2⟩ := hr
    clear hx
    go_enter Try.func3, Try.ntmps3
    go_wp2_with (first | (go_at_call 13; refine (densityWorks_any _).mono ?_; rintro e w' ⟨rfl, rfl⟩) | (go_at_call 14; refine (log2_is _ hL.out).mono ?_; rintro e w' ⟨rfl, rfl⟩) | (go_at_call 15; refine (dens_is _ hD.out).mono ?_; rintro e w' ⟨rfl, rfl⟩) | (go_at_call 16; refine (within_any _ _ _ _).mono ?_; rintro e w' ⟨rfl, rfl⟩) | (go_at_call 17; refine (none_any _ _ _ _).mono ?_; rintro e w' ⟨rfl, rfl⟩) | (go_at_call 19; refine (rdens_any _ _ (by omega) (by omega)).mono ?_; rintro e w' ⟨rfl, rfl⟩))
    go_ret
    exact ⟨rfl, rfl⟩
  · have hL := Lib.hid (show log2F x = (0, 3) from if_pos (by omega))
    have hD := Lib.hid (show densF r = (0, 3) from if_pos (by omega))
    have w1 : within x 1 1099511627776 = false := within_not (by omega)
    have w2 : within r 1 1000000 = false := within_not (by omega)
    clear hx hr
    go_enter Try.func3, Try.ntmps3
    go_wp2_with (first | (go_at_call 13; refine (densityWorks_any _).mono ?_; rintro e w' ⟨rfl, rfl⟩) | (go_at_call 14; refine (log2_is _ hL.out).mono ?_; rintro e w' ⟨rfl, rfl⟩) | (go_at_call 15; refine (dens_is _ hD.out).mono ?_; rintro e w' ⟨rfl, rfl⟩) | (go_at_call 16; refine (within_any _ _ _ _).mono ?_; rintro e w' ⟨rfl, rfl⟩) | (go_at_call 17; refine (none_any _ _ _ _).mono ?_; rintro e w' ⟨rfl, rfl⟩))
    go_ret
    exact ⟨rfl, rfl⟩
end Go.Proofs.Ytlbnicapkfmdoaa
