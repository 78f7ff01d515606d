/- Walks of the laws CurveValues, CurveLeastArgument, CurveTables. -/
import Derived.Test.YtlbnicapkfmdoaaCurveW
namespace Go.Proofs.Ytlbnicapkfmdoaa
open Go.RowKit

set_option maxRecDepth 100000 in
set_option maxHeartbeats 4000000 in
theorem curveValues_walk (A : Option Addr) (ps : List (Int × Int)) (c : Nat) (x : Int) (w : World) (hl : ps.length ≤ maxLen) (h : Pts w A ps) :
    Calls Try.prog 9 #[.agg #[.slice A ps.length c], .int .i64 x] w fun e w' => e = .returned (.bool true) ∧ Below w.heap.size w w' := by
  have hacc : Below w.heap.size w (w.alloc (.cells #[.slice A ps.length c] 49)) := (Below.refl _ _).alloc (Nat.le_refl _) _
  have hbox : (w.alloc (.cells #[.slice A ps.length c] 49)).cell? ⟨w.heap.size, 0, none⟩ = some (.slice A ps.length c) := by simp [go_sem]
  by_cases he : curveE ps = 0
  · have hok := curve_ok he
    have he' : (curveE ps != 0) = false := by simp [he]
    have he'' : (curveE ps == 0) = true := by simp [he]
    by_cases hx : 0 ≤ x ∧ x ≤ 65280
    · obtain ⟨hx0, hx1⟩ := hx
      have hF := Lib.hid (show atF ps x = (curveAt ps x, 0) from (if_neg (by omega)).trans (if_neg (by omega)))
      have hw := within_mk hx0 hx1
      clear he
      go_enter Try.func9, Try.ntmps9
      go_wp2_with (first | (go_at_call 42; refine (curveWorks_any _).mono ?_; rintro e wa ⟨rfl, hb⟩; have hbox := cell_kept hb hbox; have hacc := hacc.trans (hb.mono hacc.size)) | (go_at_call 43; refine (at_is _ hl (h.kept hacc) hF.out).mono ?_; rintro e wa ⟨rfl, hb⟩; have hbox := cell_kept hb hbox; have hacc := hacc.trans (hb.mono hacc.size)) | (go_at_call 36; refine (curveErr_any _ _ _ _ hl (h.kept hacc)).mono ?_; rintro e wa ⟨rfl, hb⟩; have hbox := cell_kept hb hbox; have hacc := hacc.trans (hb.mono hacc.size)) | (go_at_call 44; refine (ccheck_any _ _ _ _ hl (h.kept hacc)).mono ?_; rintro e wa ⟨rfl, hb⟩; have hbox := cell_kept hb hbox; have hacc := hacc.trans (hb.mono hacc.size)) | (go_at_call 16; refine (within_any _ _ _ _).mono ?_; rintro e w' ⟨rfl, rfl⟩) | (go_at_call 37; refine (rcurveAt_any _ _ _ _ _ (h.kept hacc) hok hx0 hx1).mono ?_; rintro e wa ⟨rfl, hb⟩; have hbox := cell_kept hb hbox; have hacc := hacc.trans (hb.mono hacc.size)))
      go_ret
      exact ⟨rfl, hacc⟩
    · have hF := Lib.hid (show atF ps x = (0, 3) from (if_neg (by omega)).trans (if_pos (by omega)))
      have hw : within x 0 65280 = false := within_not (by omega)
      clear he hx
      go_enter Try.func9, Try.ntmps9
      go_wp2_with (first | (go_at_call 43; refine (at_is _ hl (h.kept hacc) hF.out).mono ?_; rintro e wa ⟨rfl, hb⟩; have hbox := cell_kept hb hbox; have hacc := hacc.trans (hb.mono hacc.size)) | (go_at_call 42; refine (curveWorks_any _).mono ?_; rintro e wa ⟨rfl, hb⟩; have hbox := cell_kept hb hbox; have hacc := hacc.trans (hb.mono hacc.size)) | (go_at_call 36; refine (curveErr_any _ _ _ _ hl (h.kept hacc)).mono ?_; rintro e wa ⟨rfl, hb⟩; have hbox := cell_kept hb hbox; have hacc := hacc.trans (hb.mono hacc.size)) | (go_at_call 44; refine (ccheck_any _ _ _ _ hl (h.kept hacc)).mono ?_; rintro e wa ⟨rfl, hb⟩; have hbox := cell_kept hb hbox; have hacc := hacc.trans (hb.mono hacc.size)) | (go_at_call 16; refine (within_any _ _ _ _).mono ?_; rintro e w' ⟨rfl, rfl⟩) | (go_at_call 17; refine (none_any _ _ _ _).mono ?_; rintro e w' ⟨rfl, rfl⟩))
      go_ret
      exact ⟨rfl, hacc⟩
  · have he' : (curveE ps != 0) = true := by simp [he]
    have hF := Lib.hid (show atF ps x = (0, curveE ps) from if_pos he)
    clear he
    go_enter Try.func9, Try.ntmps9
    go_wp2_with (first | (go_at_call 43; refine (at_is _ hl (h.kept hacc) hF.out).mono ?_; rintro e wa ⟨rfl, hb⟩; have hbox := cell_kept hb hbox; have hacc := hacc.trans (hb.mono hacc.size)) | (go_at_call 42; refine (curveWorks_any _).mono ?_; rintro e wa ⟨rfl, hb⟩; have hbox := cell_kept hb hbox; have hacc := hacc.trans (hb.mono hacc.size)) | (go_at_call 36; refine (curveErr_any _ _ _ _ hl (h.kept hacc)).mono ?_; rintro e wa ⟨rfl, hb⟩; have hbox := cell_kept hb hbox; have hacc := hacc.trans (hb.mono hacc.size)) | (go_at_call 44; refine (ccheck_any _ _ _ _ hl (h.kept hacc)).mono ?_; rintro e wa ⟨rfl, hb⟩; have hbox := cell_kept hb hbox; have hacc := hacc.trans (hb.mono hacc.size)) | (go_at_call 16; refine (within_any _ _ _ _).mono ?_; rintro e w' ⟨rfl, rfl⟩) | (go_at_call 17; refine (none_any _ _ _ _).mono ?_; rintro e w' ⟨rfl, rfl⟩))
    go_ret
    exact ⟨rfl, hacc⟩

set_option maxRecDepth 100000 in
set_option maxHeartbeats 4000000 in
theorem curveLeastArgument_walk (A : Option Addr) (ps : List (Int × Int)) (c : Nat) (y : Int) (w : World) (hl : ps.length ≤ maxLen) (h : Pts w A ps) :
    Calls Try.prog 10 #[.agg #[.slice A ps.length c], .int .i64 y] w fun e w' => e = .returned (.bool true) ∧ Below w.heap.size w w' := by
  have hacc : Below w.heap.size w (w.alloc (.cells #[.slice A ps.length c] 49)) := (Below.refl _ _).alloc (Nat.le_refl _) _
  have hbox : (w.alloc (.cells #[.slice A ps.length c] 49)).cell? ⟨w.heap.size, 0, none⟩ = some (.slice A ps.length c) := by simp [go_sem]
  by_cases he : curveE ps = 0
  · have hok := curve_ok he
    have he' : (curveE ps != 0) = false := by simp [he]
    by_cases hx : 0 ≤ y ∧ y ≤ 65280
    · obtain ⟨hx0, hx1⟩ := hx
      have hw := within_mk hx0 hx1
      by_cases hr : rinv ps y < 0
      · have hF := Lib.hid (show invF ps y = (0, 8) from (if_neg (by omega)).trans ((if_neg (by omega)).trans (if_pos hr)))
        clear he
        go_enter Try.func10, Try.ntmps10
        go_wp2_with (first | (go_at_call 45; refine (inv_is _ hl (h.kept hacc) hF.out).mono ?_; rintro e wa ⟨rfl, hb⟩; have hbox := cell_kept hb hbox; have hacc := hacc.trans (hb.mono hacc.size)) | (go_at_call 46; refine (rinv_any _ _ _ _ _ (h.kept hacc) hok hx0 hx1).mono ?_; rintro e wa ⟨rfl, hb⟩; have hbox := cell_kept hb hbox; have hacc := hacc.trans (hb.mono hacc.size)) | (go_at_call 42; refine (curveWorks_any _).mono ?_; rintro e wa ⟨rfl, hb⟩; have hbox := cell_kept hb hbox; have hacc := hacc.trans (hb.mono hacc.size)) | (go_at_call 36; refine (curveErr_any _ _ _ _ hl (h.kept hacc)).mono ?_; rintro e wa ⟨rfl, hb⟩; have hbox := cell_kept hb hbox; have hacc := hacc.trans (hb.mono hacc.size)) | (go_at_call 44; refine (ccheck_any _ _ _ _ hl (h.kept hacc)).mono ?_; rintro e wa ⟨rfl, hb⟩; have hbox := cell_kept hb hbox; have hacc := hacc.trans (hb.mono hacc.size)) | (go_at_call 16; refine (within_any _ _ _ _).mono ?_; rintro e w' ⟨rfl, rfl⟩) | (go_at_call 17; refine (none_any _ _ _ _).mono ?_; rintro e w' ⟨rfl, rfl⟩))
        go_ret
        exact ⟨rfl, hacc⟩
      · have hF := Lib.hid (show invF ps y = (rinv ps y, 0) from (if_neg (by omega)).trans ((if_neg (by omega)).trans (if_neg hr)))
        have hr' : 0 ≤ rinv ps y := by omega
        clear he hr
        go_enter Try.func10, Try.ntmps10
        go_wp2_with (first | (go_at_call 45; refine (inv_is _ hl (h.kept hacc) hF.out).mono ?_; rintro e wa ⟨rfl, hb⟩; have hbox := cell_kept hb hbox; have hacc := hacc.trans (hb.mono hacc.size)) | (go_at_call 46; refine (rinv_any _ _ _ _ _ (h.kept hacc) hok hx0 hx1).mono ?_; rintro e wa ⟨rfl, hb⟩; have hbox := cell_kept hb hbox; have hacc := hacc.trans (hb.mono hacc.size)) | (go_at_call 42; refine (curveWorks_any _).mono ?_; rintro e wa ⟨rfl, hb⟩; have hbox := cell_kept hb hbox; have hacc := hacc.trans (hb.mono hacc.size)) | (go_at_call 36; refine (curveErr_any _ _ _ _ hl (h.kept hacc)).mono ?_; rintro e wa ⟨rfl, hb⟩; have hbox := cell_kept hb hbox; have hacc := hacc.trans (hb.mono hacc.size)) | (go_at_call 44; refine (ccheck_any _ _ _ _ hl (h.kept hacc)).mono ?_; rintro e wa ⟨rfl, hb⟩; have hbox := cell_kept hb hbox; have hacc := hacc.trans (hb.mono hacc.size)) | (go_at_call 16; refine (within_any _ _ _ _).mono ?_; rintro e w' ⟨rfl, rfl⟩) | (go_at_call 17; refine (none_any _ _ _ _).mono ?_; rintro e w' ⟨rfl, rfl⟩))
        go_ret
        exact ⟨rfl, hacc⟩
    · have hF := Lib.hid (show invF ps y = (0, 3) from (if_neg (by omega)).trans (if_pos (by omega)))
      have hw : within y 0 65280 = false := within_not (by omega)
      clear he hx
      go_enter Try.func10, Try.ntmps10
      go_wp2_with (first | (go_at_call 45; refine (inv_is _ hl (h.kept hacc) hF.out).mono ?_; rintro e wa ⟨rfl, hb⟩; have hbox := cell_kept hb hbox; have hacc := hacc.trans (hb.mono hacc.size)) | (go_at_call 42; refine (curveWorks_any _).mono ?_; rintro e wa ⟨rfl, hb⟩; have hbox := cell_kept hb hbox; have hacc := hacc.trans (hb.mono hacc.size)) | (go_at_call 36; refine (curveErr_any _ _ _ _ hl (h.kept hacc)).mono ?_; rintro e wa ⟨rfl, hb⟩; have hbox := cell_kept hb hbox; have hacc := hacc.trans (hb.mono hacc.size)) | (go_at_call 44; refine (ccheck_any _ _ _ _ hl (h.kept hacc)).mono ?_; rintro e wa ⟨rfl, hb⟩; have hbox := cell_kept hb hbox; have hacc := hacc.trans (hb.mono hacc.size)) | (go_at_call 16; refine (within_any _ _ _ _).mono ?_; rintro e w' ⟨rfl, rfl⟩) | (go_at_call 17; refine (none_any _ _ _ _).mono ?_; rintro e w' ⟨rfl, rfl⟩))
      go_ret
      exact ⟨rfl, hacc⟩
  · have he' : (curveE ps != 0) = true := by simp [he]
    have hF := Lib.hid (show invF ps y = (0, curveE ps) from if_pos he)
    clear he
    go_enter Try.func10, Try.ntmps10
    go_wp2_with (first | (go_at_call 45; refine (inv_is _ hl (h.kept hacc) hF.out).mono ?_; rintro e wa ⟨rfl, hb⟩; have hbox := cell_kept hb hbox; have hacc := hacc.trans (hb.mono hacc.size)) | (go_at_call 42; refine (curveWorks_any _).mono ?_; rintro e wa ⟨rfl, hb⟩; have hbox := cell_kept hb hbox; have hacc := hacc.trans (hb.mono hacc.size)) | (go_at_call 36; refine (curveErr_any _ _ _ _ hl (h.kept hacc)).mono ?_; rintro e wa ⟨rfl, hb⟩; have hbox := cell_kept hb hbox; have hacc := hacc.trans (hb.mono hacc.size)) | (go_at_call 44; refine (ccheck_any _ _ _ _ hl (h.kept hacc)).mono ?_; rintro e wa ⟨rfl, hb⟩; have hbox := cell_kept hb hbox; have hacc := hacc.trans (hb.mono hacc.size)) | (go_at_call 16; refine (within_any _ _ _ _).mono ?_; rintro e w' ⟨rfl, rfl⟩) | (go_at_call 17; refine (none_any _ _ _ _).mono ?_; rintro e w' ⟨rfl, rfl⟩))
    go_ret
    exact ⟨rfl, hacc⟩
end Go.Proofs.Ytlbnicapkfmdoaa
