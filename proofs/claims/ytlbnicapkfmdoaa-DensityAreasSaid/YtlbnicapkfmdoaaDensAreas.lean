/- Walk of DensityAreas. -/
import Derived.Test.YtlbnicapkfmdoaaDens4
namespace Go.Proofs.Ytlbnicapkfmdoaa
open Go.RowKit
set_option maxRecDepth 100000 in
set_option maxHeartbeats 1000000 in
theorem areas_ooo (area tint full : Int) (w : World) (hf : full < 1 ∨ 1000000 < full) (ha : area < 0 ∨ 255 < area) (ht : tint < 1 ∨ 1000000 < tint) :
    Calls Try.prog 4 #[.int .i64 area, .int .i64 tint, .int .i64 full] w fun e w' => e = .returned (.bool true) ∧ w = w' := by
    have hT := Lib.hid (show tintF area full = (0, 3) from if_pos (by omega))
    have hA := Lib.hid (show areaF tint full = (0, 3) from if_pos (by omega))
    have hC := Lib.hid (show contrF tint full = (0, 3) from if_pos (by omega))
    have wf : within full 1 1000000 = false := within_not (by omega)
    have wa : within area 0 255 = false := within_not (by omega)
    have wt : within tint 1 1000000 = false := within_not (by omega)
    clear hf ha ht
    go_enter Try.func4, Try.ntmps4
    go_wp2_with (first | (go_at_call 13; refine (densityWorks_any _).mono ?_; rintro e w' ⟨rfl, rfl⟩) | (go_at_call 20; refine (tint_is _ hT.out).mono ?_; rintro e w' ⟨rfl, rfl⟩) | (go_at_call 21; refine (area_is _ hA.out).mono ?_; rintro e w' ⟨rfl, rfl⟩) | (go_at_call 22; refine (contr_is _ hC.out).mono ?_; rintro e w' ⟨rfl, rfl⟩) | (go_at_call 16; refine (within_any _ _ _ _).mono ?_; rintro e w' ⟨rfl, rfl⟩) | (go_at_call 17; refine (none_any _ _ _ _).mono ?_; rintro e w' ⟨rfl, rfl⟩) | (go_at_call 23; refine (round_any _ _ _ (by omega) (by omega) (by omega) (by omega)).mono ?_; rintro e w' ⟨rfl, rfl⟩) | (go_at_call 19; refine (rdens_any _ _ (by omega) (by omega)).mono ?_; rintro e w' ⟨rfl, rfl⟩))
    go_ret
    exact ⟨rfl, rfl⟩
set_option maxRecDepth 100000 in
set_option maxHeartbeats 1000000 in
theorem areas_ooi (area tint full : Int) (w : World) (hf : full < 1 ∨ 1000000 < full) (ha : area < 0 ∨ 255 < area) (ht1 : 1 ≤ tint) (ht2 : tint ≤ 1000000) :
    Calls Try.prog 4 #[.int .i64 area, .int .i64 tint, .int .i64 full] w fun e w' => e = .returned (.bool true) ∧ w = w' := by
    have hT := Lib.hid (show tintF area full = (0, 3) from if_pos (by omega))
    have hA := Lib.hid (show areaF tint full = (0, 3) from (if_neg (by omega)).trans (if_pos (by omega)))
    have hC := Lib.hid (show contrF tint full = (0, 3) from (if_neg (by omega)).trans (if_pos (by omega)))
    have wf : within full 1 1000000 = false := within_not (by omega)
    have wa : within area 0 255 = false := within_not (by omega)
    have wt : within tint 1 1000000 = true := within_mk (by omega) (by omega)
    clear hf ha
    go_enter Try.func4, Try.ntmps4
    go_wp2_with (first | (go_at_call 13; refine (densityWorks_any _).mono ?_; rintro e w' ⟨rfl, rfl⟩) | (go_at_call 20; refine (tint_is _ hT.out).mono ?_; rintro e w' ⟨rfl, rfl⟩) | (go_at_call 21; refine (area_is _ hA.out).mono ?_; rintro e w' ⟨rfl, rfl⟩) | (go_at_call 22; refine (contr_is _ hC.out).mono ?_; rintro e w' ⟨rfl, rfl⟩) | (go_at_call 16; refine (within_any _ _ _ _).mono ?_; rintro e w' ⟨rfl, rfl⟩) | (go_at_call 17; refine (none_any _ _ _ _).mono ?_; rintro e w' ⟨rfl, rfl⟩) | (go_at_call 23; refine (round_any _ _ _ (by omega) (by omega) (by omega) (by omega)).mono ?_; rintro e w' ⟨rfl, rfl⟩) | (go_at_call 19; refine (rdens_any _ _ (by omega) (by omega)).mono ?_; rintro e w' ⟨rfl, rfl⟩))
    go_ret
    exact ⟨rfl, rfl⟩
set_option maxRecDepth 100000 in
set_option maxHeartbeats 1000000 in
theorem areas_oko (area tint full : Int) (w : World) (hf : full < 1 ∨ 1000000 < full) (ha1 : 0 ≤ area) (ha2 : area ≤ 255) (ht : tint < 1 ∨ 1000000 < tint) :
    Calls Try.prog 4 #[.int .i64 area, .int .i64 tint, .int .i64 full] w fun e w' => e = .returned (.bool true) ∧ w = w' := by
    have hT := Lib.hid (show tintF area full = (0, 3) from (if_neg (by omega)).trans (if_pos (by omega)))
    have hA := Lib.hid (show areaF tint full = (0, 3) from if_pos (by omega))
    have hC := Lib.hid (show contrF tint full = (0, 3) from if_pos (by omega))
    have wf : within full 1 1000000 = false := within_not (by omega)
    have wa : within area 0 255 = true := within_mk (by omega) (by omega)
    have wt : within tint 1 1000000 = false := within_not (by omega)
    clear hf ht
    go_enter Try.func4, Try.ntmps4
    go_wp2_with (first | (go_at_call 13; refine (densityWorks_any _).mono ?_; rintro e w' ⟨rfl, rfl⟩) | (go_at_call 20; refine (tint_is _ hT.out).mono ?_; rintro e w' ⟨rfl, rfl⟩) | (go_at_call 21; refine (area_is _ hA.out).mono ?_; rintro e w' ⟨rfl, rfl⟩) | (go_at_call 22; refine (contr_is _ hC.out).mono ?_; rintro e w' ⟨rfl, rfl⟩) | (go_at_call 16; refine (within_any _ _ _ _).mono ?_; rintro e w' ⟨rfl, rfl⟩) | (go_at_call 17; refine (none_any _ _ _ _).mono ?_; rintro e w' ⟨rfl, rfl⟩) | (go_at_call 23; refine (round_any _ _ _ (by omega) (by omega) (by omega) (by omega)).mono ?_; rintro e w' ⟨rfl, rfl⟩) | (go_at_call 19; refine (rdens_any _ _ (by omega) (by omega)).mono ?_; rintro e w' ⟨rfl, rfl⟩))
    go_ret
    exact ⟨rfl, rfl⟩
set_option maxRecDepth 100000 in
set_option maxHeartbeats 1000000 in
theorem areas_oki (area tint full : Int) (w : World) (hf : full < 1 ∨ 1000000 < full) (ha1 : 0 ≤ area) (ha2 : area ≤ 255) (ht1 : 1 ≤ tint) (ht2 : tint ≤ 1000000) :
    Calls Try.prog 4 #[.int .i64 area, .int .i64 tint, .int .i64 full] w fun e w' => e = .returned (.bool true) ∧ w = w' := by
    have hT := Lib.hid (show tintF area full = (0, 3) from (if_neg (by omega)).trans (if_pos (by omega)))
    have hA := Lib.hid (show areaF tint full = (0, 3) from (if_neg (by omega)).trans (if_pos (by omega)))
    have hC := Lib.hid (show contrF tint full = (0, 3) from (if_neg (by omega)).trans (if_pos (by omega)))
    have wf : within full 1 1000000 = false := within_not (by omega)
    have wa : within area 0 255 = true := within_mk (by omega) (by omega)
    have wt : within tint 1 1000000 = true := within_mk (by omega) (by omega)
    clear hf
    go_enter Try.func4, Try.ntmps4
    go_wp2_with (first | (go_at_call 13; refine (densityWorks_any _).mono ?_; rintro e w' ⟨rfl, rfl⟩) | (go_at_call 20; refine (tint_is _ hT.out).mono ?_; rintro e w' ⟨rfl, rfl⟩) | (go_at_call 21; refine (area_is _ hA.out).mono ?_; rintro e w' ⟨rfl, rfl⟩) | (go_at_call 22; refine (contr_is _ hC.out).mono ?_; rintro e w' ⟨rfl, rfl⟩) | (go_at_call 16; refine (within_any _ _ _ _).mono ?_; rintro e w' ⟨rfl, rfl⟩) | (go_at_call 17; refine (none_any _ _ _ _).mono ?_; rintro e w' ⟨rfl, rfl⟩) | (go_at_call 23; refine (round_any _ _ _ (by omega) (by omega) (by omega) (by omega)).mono ?_; rintro e w' ⟨rfl, rfl⟩) | (go_at_call 19; refine (rdens_any _ _ (by omega) (by omega)).mono ?_; rintro e w' ⟨rfl, rfl⟩))
    go_ret
    exact ⟨rfl, rfl⟩
set_option maxRecDepth 100000 in
set_option maxHeartbeats 1000000 in
theorem areas_eoo (area tint full : Int) (w : World) (hf : full = 1000000) (ha : area < 0 ∨ 255 < area) (ht : tint < 1 ∨ 1000000 < tint) :
    Calls Try.prog 4 #[.int .i64 area, .int .i64 tint, .int .i64 full] w fun e w' => e = .returned (.bool true) ∧ w = w' := by
    have hT := Lib.hid (show tintF area full = (0, 3) from if_pos (by omega))
    have hA := Lib.hid (show areaF tint full = (0, 3) from if_pos (by omega))
    have hC := Lib.hid (show contrF tint full = (0, 3) from if_pos (by omega))
    have wf : within full 1 1000000 = true := within_mk (by omega) (by omega)
    have we : (full == 1000000) = true := by simp [hf]
    have wa : within area 0 255 = false := within_not (by omega)
    have wt : within tint 1 1000000 = false := within_not (by omega)
    clear hf ha ht
    go_enter Try.func4, Try.ntmps4
    go_wp2_with (first | (go_at_call 13; refine (densityWorks_any _).mono ?_; rintro e w' ⟨rfl, rfl⟩) | (go_at_call 20; refine (tint_is _ hT.out).mono ?_; rintro e w' ⟨rfl, rfl⟩) | (go_at_call 21; refine (area_is _ hA.out).mono ?_; rintro e w' ⟨rfl, rfl⟩) | (go_at_call 22; refine (contr_is _ hC.out).mono ?_; rintro e w' ⟨rfl, rfl⟩) | (go_at_call 16; refine (within_any _ _ _ _).mono ?_; rintro e w' ⟨rfl, rfl⟩) | (go_at_call 17; refine (none_any _ _ _ _).mono ?_; rintro e w' ⟨rfl, rfl⟩) | (go_at_call 23; refine (round_any _ _ _ (by omega) (by omega) (by omega) (by omega)).mono ?_; rintro e w' ⟨rfl, rfl⟩) | (go_at_call 19; refine (rdens_any _ _ (by omega) (by omega)).mono ?_; rintro e w' ⟨rfl, rfl⟩))
    go_ret
    exact ⟨rfl, rfl⟩
set_option maxRecDepth 100000 in
set_option maxHeartbeats 1000000 in
theorem areas_eoi (area tint full : Int) (w : World) (hf : full = 1000000) (ha : area < 0 ∨ 255 < area) (ht1 : 1 ≤ tint) (ht2 : tint ≤ 1000000) :
    Calls Try.prog 4 #[.int .i64 area, .int .i64 tint, .int .i64 full] w fun e w' => e = .returned (.bool true) ∧ w = w' := by
    have hT := Lib.hid (show tintF area full = (0, 3) from if_pos (by omega))
    have hA := Lib.hid (show areaF tint full = (0, 8) from (if_neg (by omega)).trans ((if_neg (by omega)).trans (if_pos (by omega))))
    have hC := Lib.hid (show contrF tint full = (0, 8) from (if_neg (by omega)).trans ((if_neg (by omega)).trans (if_pos (by omega))))
    have wf : within full 1 1000000 = true := within_mk (by omega) (by omega)
    have we : (full == 1000000) = true := by simp [hf]
    have wa : within area 0 255 = false := within_not (by omega)
    have wt : within tint 1 1000000 = true := within_mk (by omega) (by omega)
    clear hf ha
    go_enter Try.func4, Try.ntmps4
    go_wp2_with (first | (go_at_call 13; refine (densityWorks_any _).mono ?_; rintro e w' ⟨rfl, rfl⟩) | (go_at_call 20; refine (tint_is _ hT.out).mono ?_; rintro e w' ⟨rfl, rfl⟩) | (go_at_call 21; refine (area_is _ hA.out).mono ?_; rintro e w' ⟨rfl, rfl⟩) | (go_at_call 22; refine (contr_is _ hC.out).mono ?_; rintro e w' ⟨rfl, rfl⟩) | (go_at_call 16; refine (within_any _ _ _ _).mono ?_; rintro e w' ⟨rfl, rfl⟩) | (go_at_call 17; refine (none_any _ _ _ _).mono ?_; rintro e w' ⟨rfl, rfl⟩) | (go_at_call 23; refine (round_any _ _ _ (by omega) (by omega) (by omega) (by omega)).mono ?_; rintro e w' ⟨rfl, rfl⟩) | (go_at_call 19; refine (rdens_any _ _ (by omega) (by omega)).mono ?_; rintro e w' ⟨rfl, rfl⟩))
    go_ret
    exact ⟨rfl, rfl⟩
set_option maxRecDepth 100000 in
set_option maxHeartbeats 1000000 in
theorem areas_eko (area tint full : Int) (w : World) (hf : full = 1000000) (ha1 : 0 ≤ area) (ha2 : area ≤ 255) (ht : tint < 1 ∨ 1000000 < tint) :
    Calls Try.prog 4 #[.int .i64 area, .int .i64 tint, .int .i64 full] w fun e w' => e = .returned (.bool true) ∧ w = w' := by
    have hT := Lib.hid (show tintF area full = (0, 8) from (if_neg (by omega)).trans ((if_neg (by omega)).trans (if_pos (by omega))))
    have hA := Lib.hid (show areaF tint full = (0, 3) from if_pos (by omega))
    have hC := Lib.hid (show contrF tint full = (0, 3) from if_pos (by omega))
    have wf : within full 1 1000000 = true := within_mk (by omega) (by omega)
    have we : (full == 1000000) = true := by simp [hf]
    have wa : within area 0 255 = true := within_mk (by omega) (by omega)
    have wt : within tint 1 1000000 = false := within_not (by omega)
    clear hf ht
    go_enter Try.func4, Try.ntmps4
    go_wp2_with (first | (go_at_call 13; refine (densityWorks_any _).mono ?_; rintro e w' ⟨rfl, rfl⟩) | (go_at_call 20; refine (tint_is _ hT.out).mono ?_; rintro e w' ⟨rfl, rfl⟩) | (go_at_call 21; refine (area_is _ hA.out).mono ?_; rintro e w' ⟨rfl, rfl⟩) | (go_at_call 22; refine (contr_is _ hC.out).mono ?_; rintro e w' ⟨rfl, rfl⟩) | (go_at_call 16; refine (within_any _ _ _ _).mono ?_; rintro e w' ⟨rfl, rfl⟩) | (go_at_call 17; refine (none_any _ _ _ _).mono ?_; rintro e w' ⟨rfl, rfl⟩) | (go_at_call 23; refine (round_any _ _ _ (by omega) (by omega) (by omega) (by omega)).mono ?_; rintro e w' ⟨rfl, rfl⟩) | (go_at_call 19; refine (rdens_any _ _ (by omega) (by omega)).mono ?_; rintro e w' ⟨rfl, rfl⟩))
    go_ret
    exact ⟨rfl, rfl⟩
set_option maxRecDepth 100000 in
set_option maxHeartbeats 1000000 in
theorem areas_eki (area tint full : Int) (w : World) (hf : full = 1000000) (ha1 : 0 ≤ area) (ha2 : area ≤ 255) (ht1 : 1 ≤ tint) (ht2 : tint ≤ 1000000) :
    Calls Try.prog 4 #[.int .i64 area, .int .i64 tint, .int .i64 full] w fun e w' => e = .returned (.bool true) ∧ w = w' := by
    have hT := Lib.hid (show tintF area full = (0, 8) from (if_neg (by omega)).trans ((if_neg (by omega)).trans (if_pos (by omega))))
    have hA := Lib.hid (show areaF tint full = (0, 8) from (if_neg (by omega)).trans ((if_neg (by omega)).trans (if_pos (by omega))))
    have hC := Lib.hid (show contrF tint full = (0, 8) from (if_neg (by omega)).trans ((if_neg (by omega)).trans (if_pos (by omega))))
    have wf : within full 1 1000000 = true := within_mk (by omega) (by omega)
    have we : (full == 1000000) = true := by simp [hf]
    have wa : within area 0 255 = true := within_mk (by omega) (by omega)
    have wt : within tint 1 1000000 = true := within_mk (by omega) (by omega)
    clear hf
    go_enter Try.func4, Try.ntmps4
    go_wp2_with (first | (go_at_call 13; refine (densityWorks_any _).mono ?_; rintro e w' ⟨rfl, rfl⟩) | (go_at_call 20; refine (tint_is _ hT.out).mono ?_; rintro e w' ⟨rfl, rfl⟩) | (go_at_call 21; refine (area_is _ hA.out).mono ?_; rintro e w' ⟨rfl, rfl⟩) | (go_at_call 22; refine (contr_is _ hC.out).mono ?_; rintro e w' ⟨rfl, rfl⟩) | (go_at_call 16; refine (within_any _ _ _ _).mono ?_; rintro e w' ⟨rfl, rfl⟩) | (go_at_call 17; refine (none_any _ _ _ _).mono ?_; rintro e w' ⟨rfl, rfl⟩) | (go_at_call 23; refine (round_any _ _ _ (by omega) (by omega) (by omega) (by omega)).mono ?_; rintro e w' ⟨rfl, rfl⟩) | (go_at_call 19; refine (rdens_any _ _ (by omega) (by omega)).mono ?_; rintro e w' ⟨rfl, rfl⟩))
    go_ret
    exact ⟨rfl, rfl⟩
set_option maxRecDepth 100000 in
set_option maxHeartbeats 1000000 in
theorem areas_koo (area tint full : Int) (w : World) (hf1 : 1 ≤ full) (hf2 : full < 1000000) (ha : area < 0 ∨ 255 < area) (ht : tint < 1 ∨ 1000000 < tint) :
    Calls Try.prog 4 #[.int .i64 area, .int .i64 tint, .int .i64 full] w fun e w' => e = .returned (.bool true) ∧ w = w' := by
    have hT := Lib.hid (show tintF area full = (0, 3) from if_pos (by omega))
    have hA := Lib.hid (show areaF tint full = (0, 3) from if_pos (by omega))
    have hC := Lib.hid (show contrF tint full = (0, 3) from if_pos (by omega))
    have wf : within full 1 1000000 = true := within_mk (by omega) (by omega)
    have we : (full == 1000000) = false := by rw [beq_eq_false_iff_ne]; omega
    have wa : within area 0 255 = false := within_not (by omega)
    have wt : within tint 1 1000000 = false := within_not (by omega)
    clear ha ht
    go_enter Try.func4, Try.ntmps4
    go_wp2_with (first | (go_at_call 13; refine (densityWorks_any _).mono ?_; rintro e w' ⟨rfl, rfl⟩) | (go_at_call 20; refine (tint_is _ hT.out).mono ?_; rintro e w' ⟨rfl, rfl⟩) | (go_at_call 21; refine (area_is _ hA.out).mono ?_; rintro e w' ⟨rfl, rfl⟩) | (go_at_call 22; refine (contr_is _ hC.out).mono ?_; rintro e w' ⟨rfl, rfl⟩) | (go_at_call 16; refine (within_any _ _ _ _).mono ?_; rintro e w' ⟨rfl, rfl⟩) | (go_at_call 17; refine (none_any _ _ _ _).mono ?_; rintro e w' ⟨rfl, rfl⟩) | (go_at_call 23; refine (round_any _ _ _ (by omega) (by omega) (by omega) (by omega)).mono ?_; rintro e w' ⟨rfl, rfl⟩) | (go_at_call 19; refine (rdens_any _ _ (by omega) (by omega)).mono ?_; rintro e w' ⟨rfl, rfl⟩))
    go_ret
    exact ⟨rfl, rfl⟩
set_option maxRecDepth 100000 in
set_option maxHeartbeats 1000000 in
theorem areas_kol (area tint full : Int) (w : World) (hf1 : 1 ≤ full) (hf2 : full < 1000000) (ha : area < 0 ∨ 255 < area) (ht1 : 1 ≤ tint) (ht2 : tint < full) :
    Calls Try.prog 4 #[.int .i64 area, .int .i64 tint, .int .i64 full] w fun e w' => e = .returned (.bool true) ∧ w = w' := by
    have hT := Lib.hid (show tintF area full = (0, 3) from if_pos (by omega))
    have hA := Lib.hid (show areaF tint full = (0, 18) from (if_neg (by omega)).trans ((if_neg (by omega)).trans ((if_neg (by omega)).trans (if_pos (by omega)))))
    have hC := Lib.hid (show contrF tint full = (0, 18) from (if_neg (by omega)).trans ((if_neg (by omega)).trans ((if_neg (by omega)).trans (if_pos (by omega)))))
    have wf : within full 1 1000000 = true := within_mk (by omega) (by omega)
    have we : (full == 1000000) = false := by rw [beq_eq_false_iff_ne]; omega
    have wa : within area 0 255 = false := within_not (by omega)
    have wt : within tint 1 1000000 = true := within_mk (by omega) (by omega)
    clear ha
    go_enter Try.func4, Try.ntmps4
    go_wp2_with (first | (go_at_call 13; refine (densityWorks_any _).mono ?_; rintro e w' ⟨rfl, rfl⟩) | (go_at_call 20; refine (tint_is _ hT.out).mono ?_; rintro e w' ⟨rfl, rfl⟩) | (go_at_call 21; refine (area_is _ hA.out).mono ?_; rintro e w' ⟨rfl, rfl⟩) | (go_at_call 22; refine (contr_is _ hC.out).mono ?_; rintro e w' ⟨rfl, rfl⟩) | (go_at_call 16; refine (within_any _ _ _ _).mono ?_; rintro e w' ⟨rfl, rfl⟩) | (go_at_call 17; refine (none_any _ _ _ _).mono ?_; rintro e w' ⟨rfl, rfl⟩) | (go_at_call 23; refine (round_any _ _ _ (by omega) (by omega) (by omega) (by omega)).mono ?_; rintro e w' ⟨rfl, rfl⟩) | (go_at_call 19; refine (rdens_any _ _ (by omega) (by omega)).mono ?_; rintro e w' ⟨rfl, rfl⟩))
    go_ret
    exact ⟨rfl, rfl⟩
set_option maxRecDepth 100000 in
set_option maxHeartbeats 1000000 in
theorem areas_koz (area tint full : Int) (w : World) (hf1 : 1 ≤ full) (hf2 : full < 1000000) (ha : area < 0 ∨ 255 < area) (ht1 : full ≤ tint) (ht2 : tint ≤ 1000000) (hd : dens full = 0) :
    Calls Try.prog 4 #[.int .i64 area, .int .i64 tint, .int .i64 full] w fun e w' => e = .returned (.bool true) ∧ w = w' := by
    have hT := Lib.hid (show tintF area full = (0, 3) from if_pos (by omega))
    have hA := Lib.hid (show areaF tint full = (rnd (255 * (1000000 - tint)) (1000000 - full), 0) from (if_neg (by omega)).trans ((if_neg (by omega)).trans ((if_neg (by omega)).trans (if_neg (by omega)))))
    have hC := Lib.hid (show contrF tint full = (0, 8) from (if_neg (by omega)).trans ((if_neg (by omega)).trans ((if_neg (by omega)).trans ((if_neg (by omega)).trans (if_pos hd)))))
    have wf : within full 1 1000000 = true := within_mk (by omega) (by omega)
    have we : (full == 1000000) = false := by rw [beq_eq_false_iff_ne]; omega
    have wa : within area 0 255 = false := within_not (by omega)
    have wt : within tint 1 1000000 = true := within_mk (by omega) (by omega)
    have wd : (dens full == 0) = true := by simp [hd]
    clear ha hd
    go_enter Try.func4, Try.ntmps4
    go_wp2_with (first | (go_at_call 13; refine (densityWorks_any _).mono ?_; rintro e w' ⟨rfl, rfl⟩) | (go_at_call 20; refine (tint_is _ hT.out).mono ?_; rintro e w' ⟨rfl, rfl⟩) | (go_at_call 21; refine (area_is _ hA.out).mono ?_; rintro e w' ⟨rfl, rfl⟩) | (go_at_call 22; refine (contr_is _ hC.out).mono ?_; rintro e w' ⟨rfl, rfl⟩) | (go_at_call 16; refine (within_any _ _ _ _).mono ?_; rintro e w' ⟨rfl, rfl⟩) | (go_at_call 17; refine (none_any _ _ _ _).mono ?_; rintro e w' ⟨rfl, rfl⟩) | (go_at_call 23; refine (round_any _ _ _ (by omega) (by omega) (by omega) (by omega)).mono ?_; rintro e w' ⟨rfl, rfl⟩) | (go_at_call 19; refine (rdens_any _ _ (by omega) (by omega)).mono ?_; rintro e w' ⟨rfl, rfl⟩))
    go_ret
    exact ⟨rfl, rfl⟩
set_option maxRecDepth 100000 in
set_option maxHeartbeats 1000000 in
theorem areas_kop (area tint full : Int) (w : World) (hf1 : 1 ≤ full) (hf2 : full < 1000000) (ha : area < 0 ∨ 255 < area) (ht1 : full ≤ tint) (ht2 : tint ≤ 1000000) (hd : dens full ≠ 0) :
    Calls Try.prog 4 #[.int .i64 area, .int .i64 tint, .int .i64 full] w fun e w' => e = .returned (.bool true) ∧ w = w' := by
    have hT := Lib.hid (show tintF area full = (0, 3) from if_pos (by omega))
    have hA := Lib.hid (show areaF tint full = (rnd (255 * (1000000 - tint)) (1000000 - full), 0) from (if_neg (by omega)).trans ((if_neg (by omega)).trans ((if_neg (by omega)).trans (if_neg (by omega)))))
    have hC := Lib.hid (show contrF tint full = (rnd (100 * (dens full - dens tint)) (dens full), 0) from (if_neg (by omega)).trans ((if_neg (by omega)).trans ((if_neg (by omega)).trans ((if_neg (by omega)).trans (if_neg hd)))))
    have wf : within full 1 1000000 = true := within_mk (by omega) (by omega)
    have we : (full == 1000000) = false := by rw [beq_eq_false_iff_ne]; omega
    have wa : within area 0 255 = false := within_not (by omega)
    have wt : within tint 1 1000000 = true := within_mk (by omega) (by omega)
    have wd : (dens full == 0) = false := by simp [hd]
    have hd1 : 0 < dens full := by have := (dens_bd hf1 (by omega)).1; omega
    obtain ⟨_, hd2⟩ := dens_bd hf1 (by omega)
    obtain ⟨t1, t2⟩ := dens_bd (r := tint) (by omega) (by omega)
    clear ha hd
    go_enter Try.func4, Try.ntmps4
    go_wp2_with (first | (go_at_call 13; refine (densityWorks_any _).mono ?_; rintro e w' ⟨rfl, rfl⟩) | (go_at_call 20; refine (tint_is _ hT.out).mono ?_; rintro e w' ⟨rfl, rfl⟩) | (go_at_call 21; refine (area_is _ hA.out).mono ?_; rintro e w' ⟨rfl, rfl⟩) | (go_at_call 22; refine (contr_is _ hC.out).mono ?_; rintro e w' ⟨rfl, rfl⟩) | (go_at_call 16; refine (within_any _ _ _ _).mono ?_; rintro e w' ⟨rfl, rfl⟩) | (go_at_call 17; refine (none_any _ _ _ _).mono ?_; rintro e w' ⟨rfl, rfl⟩) | (go_at_call 23; refine (round_any _ _ _ (by omega) (by omega) (by omega) (by omega)).mono ?_; rintro e w' ⟨rfl, rfl⟩) | (go_at_call 19; refine (rdens_any _ _ (by omega) (by omega)).mono ?_; rintro e w' ⟨rfl, rfl⟩))
    go_ret
    exact ⟨rfl, rfl⟩
set_option maxRecDepth 100000 in
set_option maxHeartbeats 1000000 in
theorem areas_kko (area tint full : Int) (w : World) (hf1 : 1 ≤ full) (hf2 : full < 1000000) (ha1 : 0 ≤ area) (ha2 : area ≤ 255) (ht : tint < 1 ∨ 1000000 < tint) :
    Calls Try.prog 4 #[.int .i64 area, .int .i64 tint, .int .i64 full] w fun e w' => e = .returned (.bool true) ∧ w = w' := by
    have hT := Lib.hid (show tintF area full = (1000000 - rnd (area * (1000000 - full)) 255, 0) from (if_neg (by omega)).trans ((if_neg (by omega)).trans (if_neg (by omega))))
    have hA := Lib.hid (show areaF tint full = (0, 3) from if_pos (by omega))
    have hC := Lib.hid (show contrF tint full = (0, 3) from if_pos (by omega))
    have wf : within full 1 1000000 = true := within_mk (by omega) (by omega)
    have we : (full == 1000000) = false := by rw [beq_eq_false_iff_ne]; omega
    have wa : within area 0 255 = true := within_mk (by omega) (by omega)
    have wt : within tint 1 1000000 = false := within_not (by omega)
    obtain ⟨m1, m2⟩ := mul_bd (a := area) (b := 1000000 - full) (m := 255) (n := 1000000) (by omega) (by omega) (by omega) (by omega)
    obtain ⟨r1, r2⟩ := rnd_bd (d := 255) (by omega) m1 m2
    clear ht
    go_enter Try.func4, Try.ntmps4
    go_wp2_with (first | (go_at_call 13; refine (densityWorks_any _).mono ?_; rintro e w' ⟨rfl, rfl⟩) | (go_at_call 20; refine (tint_is _ hT.out).mono ?_; rintro e w' ⟨rfl, rfl⟩) | (go_at_call 21; refine (area_is _ hA.out).mono ?_; rintro e w' ⟨rfl, rfl⟩) | (go_at_call 22; refine (contr_is _ hC.out).mono ?_; rintro e w' ⟨rfl, rfl⟩) | (go_at_call 16; refine (within_any _ _ _ _).mono ?_; rintro e w' ⟨rfl, rfl⟩) | (go_at_call 17; refine (none_any _ _ _ _).mono ?_; rintro e w' ⟨rfl, rfl⟩) | (go_at_call 23; refine (round_any _ _ _ (by omega) (by omega) (by omega) (by omega)).mono ?_; rintro e w' ⟨rfl, rfl⟩) | (go_at_call 19; refine (rdens_any _ _ (by omega) (by omega)).mono ?_; rintro e w' ⟨rfl, rfl⟩))
    go_ret
    exact ⟨rfl, rfl⟩
set_option maxRecDepth 100000 in
set_option maxHeartbeats 1000000 in
theorem areas_kkl (area tint full : Int) (w : World) (hf1 : 1 ≤ full) (hf2 : full < 1000000) (ha1 : 0 ≤ area) (ha2 : area ≤ 255) (ht1 : 1 ≤ tint) (ht2 : tint < full) :
    Calls Try.prog 4 #[.int .i64 area, .int .i64 tint, .int .i64 full] w fun e w' => e = .returned (.bool true) ∧ w = w' := by
    have hT := Lib.hid (show tintF area full = (1000000 - rnd (area * (1000000 - full)) 255, 0) from (if_neg (by omega)).trans ((if_neg (by omega)).trans (if_neg (by omega))))
    have hA := Lib.hid (show areaF tint full = (0, 18) from (if_neg (by omega)).trans ((if_neg (by omega)).trans ((if_neg (by omega)).trans (if_pos (by omega)))))
    have hC := Lib.hid (show contrF tint full = (0, 18) from (if_neg (by omega)).trans ((if_neg (by omega)).trans ((if_neg (by omega)).trans (if_pos (by omega)))))
    have wf : within full 1 1000000 = true := within_mk (by omega) (by omega)
    have we : (full == 1000000) = false := by rw [beq_eq_false_iff_ne]; omega
    have wa : within area 0 255 = true := within_mk (by omega) (by omega)
    have wt : within tint 1 1000000 = true := within_mk (by omega) (by omega)
    obtain ⟨m1, m2⟩ := mul_bd (a := area) (b := 1000000 - full) (m := 255) (n := 1000000) (by omega) (by omega) (by omega) (by omega)
    obtain ⟨r1, r2⟩ := rnd_bd (d := 255) (by omega) m1 m2
    go_enter Try.func4, Try.ntmps4
    go_wp2_with (first | (go_at_call 13; refine (densityWorks_any _).mono ?_; rintro e w' ⟨rfl, rfl⟩) | (go_at_call 20; refine (tint_is _ hT.out).mono ?_; rintro e w' ⟨rfl, rfl⟩) | (go_at_call 21; refine (area_is _ hA.out).mono ?_; rintro e w' ⟨rfl, rfl⟩) | (go_at_call 22; refine (contr_is _ hC.out).mono ?_; rintro e w' ⟨rfl, rfl⟩) | (go_at_call 16; refine (within_any _ _ _ _).mono ?_; rintro e w' ⟨rfl, rfl⟩) | (go_at_call 17; refine (none_any _ _ _ _).mono ?_; rintro e w' ⟨rfl, rfl⟩) | (go_at_call 23; refine (round_any _ _ _ (by omega) (by omega) (by omega) (by omega)).mono ?_; rintro e w' ⟨rfl, rfl⟩) | (go_at_call 19; refine (rdens_any _ _ (by omega) (by omega)).mono ?_; rintro e w' ⟨rfl, rfl⟩))
    go_ret
    exact ⟨rfl, rfl⟩
set_option maxRecDepth 100000 in
set_option maxHeartbeats 1000000 in
theorem areas_kkz (area tint full : Int) (w : World) (hf1 : 1 ≤ full) (hf2 : full < 1000000) (ha1 : 0 ≤ area) (ha2 : area ≤ 255) (ht1 : full ≤ tint) (ht2 : tint ≤ 1000000) (hd : dens full = 0) :
    Calls Try.prog 4 #[.int .i64 area, .int .i64 tint, .int .i64 full] w fun e w' => e = .returned (.bool true) ∧ w = w' := by
    have hT := Lib.hid (show tintF area full = (1000000 - rnd (area * (1000000 - full)) 255, 0) from (if_neg (by omega)).trans ((if_neg (by omega)).trans (if_neg (by omega))))
    have hA := Lib.hid (show areaF tint full = (rnd (255 * (1000000 - tint)) (1000000 - full), 0) from (if_neg (by omega)).trans ((if_neg (by omega)).trans ((if_neg (by omega)).trans (if_neg (by omega)))))
    have hC := Lib.hid (show contrF tint full = (0, 8) from (if_neg (by omega)).trans ((if_neg (by omega)).trans ((if_neg (by omega)).trans ((if_neg (by omega)).trans (if_pos hd)))))
    have wf : within full 1 1000000 = true := within_mk (by omega) (by omega)
    have we : (full == 1000000) = false := by rw [beq_eq_false_iff_ne]; omega
    have wa : within area 0 255 = true := within_mk (by omega) (by omega)
    have wt : within tint 1 1000000 = true := within_mk (by omega) (by omega)
    have wd : (dens full == 0) = true := by simp [hd]
    obtain ⟨m1, m2⟩ := mul_bd (a := area) (b := 1000000 - full) (m := 255) (n := 1000000) (by omega) (by omega) (by omega) (by omega)
    obtain ⟨r1, r2⟩ := rnd_bd (d := 255) (by omega) m1 m2
    clear hd
    go_enter Try.func4, Try.ntmps4
    go_wp2_with (first | (go_at_call 13; refine (densityWorks_any _).mono ?_; rintro e w' ⟨rfl, rfl⟩) | (go_at_call 20; refine (tint_is _ hT.out).mono ?_; rintro e w' ⟨rfl, rfl⟩) | (go_at_call 21; refine (area_is _ hA.out).mono ?_; rintro e w' ⟨rfl, rfl⟩) | (go_at_call 22; refine (contr_is _ hC.out).mono ?_; rintro e w' ⟨rfl, rfl⟩) | (go_at_call 16; refine (within_any _ _ _ _).mono ?_; rintro e w' ⟨rfl, rfl⟩) | (go_at_call 17; refine (none_any _ _ _ _).mono ?_; rintro e w' ⟨rfl, rfl⟩) | (go_at_call 23; refine (round_any _ _ _ (by omega) (by omega) (by omega) (by omega)).mono ?_; rintro e w' ⟨rfl, rfl⟩) | (go_at_call 19; refine (rdens_any _ _ (by omega) (by omega)).mono ?_; rintro e w' ⟨rfl, rfl⟩))
    go_ret
    exact ⟨rfl, rfl⟩
set_option maxRecDepth 100000 in
set_option maxHeartbeats 1000000 in
theorem areas_kkp (area tint full : Int) (w : World) (hf1 : 1 ≤ full) (hf2 : full < 1000000) (ha1 : 0 ≤ area) (ha2 : area ≤ 255) (ht1 : full ≤ tint) (ht2 : tint ≤ 1000000) (hd : dens full ≠ 0) :
    Calls Try.prog 4 #[.int .i64 area, .int .i64 tint, .int .i64 full] w fun e w' => e = .returned (.bool true) ∧ w = w' := by
    have hT := Lib.hid (show tintF area full = (1000000 - rnd (area * (1000000 - full)) 255, 0) from (if_neg (by omega)).trans ((if_neg (by omega)).trans (if_neg (by omega))))
    have hA := Lib.hid (show areaF tint full = (rnd (255 * (1000000 - tint)) (1000000 - full), 0) from (if_neg (by omega)).trans ((if_neg (by omega)).trans ((if_neg (by omega)).trans (if_neg (by omega)))))
    have hC := Lib.hid (show contrF tint full = (rnd (100 * (dens full - dens tint)) (dens full), 0) from (if_neg (by omega)).trans ((if_neg (by omega)).trans ((if_neg (by omega)).trans ((if_neg (by omega)).trans (if_neg hd)))))
    have wf : within full 1 1000000 = true := within_mk (by omega) (by omega)
    have we : (full == 1000000) = false := by rw [beq_eq_false_iff_ne]; omega
    have wa : within area 0 255 = true := within_mk (by omega) (by omega)
    have wt : within tint 1 1000000 = true := within_mk (by omega) (by omega)
    have wd : (dens full == 0) = false := by simp [hd]
    have hd1 : 0 < dens full := by have := (dens_bd hf1 (by omega)).1; omega
    obtain ⟨_, hd2⟩ := dens_bd hf1 (by omega)
    obtain ⟨t1, t2⟩ := dens_bd (r := tint) (by omega) (by omega)
    obtain ⟨m1, m2⟩ := mul_bd (a := area) (b := 1000000 - full) (m := 255) (n := 1000000) (by omega) (by omega) (by omega) (by omega)
    obtain ⟨r1, r2⟩ := rnd_bd (d := 255) (by omega) m1 m2
    clear hd
    go_enter Try.func4, Try.ntmps4
    go_wp2_with (first | (go_at_call 13; refine (densityWorks_any _).mono ?_; rintro e w' ⟨rfl, rfl⟩) | (go_at_call 20; refine (tint_is _ hT.out).mono ?_; rintro e w' ⟨rfl, rfl⟩) | (go_at_call 21; refine (area_is _ hA.out).mono ?_; rintro e w' ⟨rfl, rfl⟩) | (go_at_call 22; refine (contr_is _ hC.out).mono ?_; rintro e w' ⟨rfl, rfl⟩) | (go_at_call 16; refine (within_any _ _ _ _).mono ?_; rintro e w' ⟨rfl, rfl⟩) | (go_at_call 17; refine (none_any _ _ _ _).mono ?_; rintro e w' ⟨rfl, rfl⟩) | (go_at_call 23; refine (round_any _ _ _ (by omega) (by omega) (by omega) (by omega)).mono ?_; rintro e w' ⟨rfl, rfl⟩) | (go_at_call 19; refine (rdens_any _ _ (by omega) (by omega)).mono ?_; rintro e w' ⟨rfl, rfl⟩))
    go_ret
    exact ⟨rfl, rfl⟩
theorem densityAreas_walk (area tint full : Int) (w : World) : Calls Try.prog 4 #[.int .i64 area, .int .i64 tint, .int .i64 full] w fun e w' => e = .returned (.bool true) ∧ w = w' := by
  by_cases ha : area < 0 ∨ 255 < area
  · by_cases hf : full < 1 ∨ 1000000 < full
    · by_cases ht : tint < 1 ∨ 1000000 < tint
      · exact areas_ooo _ _ _ _ hf ha ht
      · exact areas_ooi _ _ _ _ hf ha (by omega) (by omega)
    by_cases he : full = 1000000
    · by_cases ht : tint < 1 ∨ 1000000 < tint
      · exact areas_eoo _ _ _ _ he ha ht
      · exact areas_eoi _ _ _ _ he ha (by omega) (by omega)
    by_cases ht : tint < 1 ∨ 1000000 < tint
    · exact areas_koo _ _ _ _ (by omega) (by omega) ha ht
    by_cases hl : tint < full
    · exact areas_kol _ _ _ _ (by omega) (by omega) ha (by omega) hl
    by_cases hd : dens full = 0
    · exact areas_koz _ _ _ _ (by omega) (by omega) ha (by omega) (by omega) hd
    · exact areas_kop _ _ _ _ (by omega) (by omega) ha (by omega) (by omega) hd
  · by_cases hf : full < 1 ∨ 1000000 < full
    · by_cases ht : tint < 1 ∨ 1000000 < tint
      · exact areas_oko _ _ _ _ hf (by omega) (by omega) ht
      · exact areas_oki _ _ _ _ hf (by omega) (by omega) (by omega) (by omega)
    by_cases he : full = 1000000
    · by_cases ht : tint < 1 ∨ 1000000 < tint
      · exact areas_eko _ _ _ _ he (by omega) (by omega) ht
      · exact areas_eki _ _ _ _ he (by omega) (by omega) (by omega) (by omega)
    by_cases ht : tint < 1 ∨ 1000000 < tint
    · exact areas_kko _ _ _ _ (by omega) (by omega) (by omega) (by omega) ht
    by_cases hl : tint < full
    · exact areas_kkl _ _ _ _ (by omega) (by omega) (by omega) (by omega) (by omega) hl
    by_cases hd : dens full = 0
    · exact areas_kkz _ _ _ _ (by omega) (by omega) (by omega) (by omega) (by omega) (by omega) hd
    · exact areas_kkp _ _ _ _ (by omega) (by omega) (by omega) (by omega) (by omega) (by omega) hd
end Go.Proofs.Ytlbnicapkfmdoaa
