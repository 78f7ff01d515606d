/- Walk of the law InklimitLimits. -/
import Derived.Test.YtlbnicapkfmdoaaInkW
namespace Go.Proofs.Ytlbnicapkfmdoaa
open Go.RowKit

theorem limL_length (xs : List Int) (b t : Int) : (limL xs b t).length = xs.length := by
  unfold limL
  split
  · rfl
  · simp

set_option maxRecDepth 100000 in
set_option maxHeartbeats 4000000 in
theorem inklimitLimits_walk (A : Option Addr) (xs : List Int) (c : Nat) (b t : Int) (w : World) (hl : xs.length ≤ maxLen) (h : Ints w A xs) :
    Calls Try.prog 8 #[.slice A xs.length c, .int .i64 b, .int .i64 t] w fun e w' => e = .returned (.bool true) ∧ Below w.heap.size w w' := by
  have hacc := Below.refl w.heap.size w
  have hlm : xs.length ≤ 9223372036854775807 := by have := hl; unfold maxLen at this; omega
  by_cases he : inkE xs = 0
  · obtain ⟨h8, hall⟩ := inkE_ok he
    have hT := Lib.hid (show totalF xs = (xs.sum, 0) from if_neg (by omega))
    have hE : tonesE xs xs.length 255 = 0 := by rw [inkE, if_neg (by omega)] at he; exact he
    have HA := Lib.hid hall
    by_cases hr : b < -1 ∨ (xs.length : Int) ≤ b ∨ t < 0 ∨ 2040 < t
    · have hF := Lib.hid (show limitF xs b t = ([], 3) from (if_neg (by omega)).trans (if_pos hr))
      clear he hall
      by_cases hr2 : -1 ≤ b ∧ b ≤ xs.length - 1
      · have hw1 := within_mk hr2.1 hr2.2
        have hw2 : within t 0 2040 = false := within_not (by omega)
        clear hr hr2
        go_enter Try.func8, Try.ntmps8
        go_wp2_with (first | (go_at_call 33; refine (inklimitWorks_any _).mono ?_; rintro e wa ⟨rfl, hb⟩; have hacc := hacc.trans (hb.mono hacc.size)) | (go_at_call 39; refine (total_is _ hl (h.kept hacc) hT.out).mono ?_; rintro e wa ⟨rfl, rfl⟩) | (go_at_call 40; refine (limit_is _ hl (h.kept hacc) hF.out).mono ?_; rintro e wa ⟨AL, cL, rfl, hi, hb⟩; have hacc := hacc.trans (hb.mono hacc.size)) | (go_at_call 26; refine (tonesErr_any _ _ _ _ _ _ hl (h.kept hacc)).mono ?_; rintro e wb ⟨rfl, rfl⟩) | (go_at_call 41; refine (rtotal_any _ _ _ _ (by omega) HA.out (h.kept hacc)).mono ?_; rintro e wb ⟨rfl, rfl⟩) | (go_at_call 16; refine (within_any _ _ _ _).mono ?_; rintro e w' ⟨rfl, rfl⟩) | (go_at_call 17; refine (none_any _ _ _ _).mono ?_; rintro e w' ⟨rfl, rfl⟩))
        go_ret
        exact ⟨rfl, hacc⟩
      · have hw1 : within b (-1) (xs.length - 1) = false := within_not (by omega)
        clear hr hr2
        go_enter Try.func8, Try.ntmps8
        go_wp2_with (first | (go_at_call 33; refine (inklimitWorks_any _).mono ?_; rintro e wa ⟨rfl, hb⟩; have hacc := hacc.trans (hb.mono hacc.size)) | (go_at_call 39; refine (total_is _ hl (h.kept hacc) hT.out).mono ?_; rintro e wa ⟨rfl, rfl⟩) | (go_at_call 40; refine (limit_is _ hl (h.kept hacc) hF.out).mono ?_; rintro e wa ⟨AL, cL, rfl, hi, hb⟩; have hacc := hacc.trans (hb.mono hacc.size)) | (go_at_call 26; refine (tonesErr_any _ _ _ _ _ _ hl (h.kept hacc)).mono ?_; rintro e wb ⟨rfl, rfl⟩) | (go_at_call 41; refine (rtotal_any _ _ _ _ (by omega) HA.out (h.kept hacc)).mono ?_; rintro e wb ⟨rfl, rfl⟩) | (go_at_call 16; refine (within_any _ _ _ _).mono ?_; rintro e w' ⟨rfl, rfl⟩) | (go_at_call 17; refine (none_any _ _ _ _).mono ?_; rintro e w' ⟨rfl, rfl⟩))
        go_ret
        exact ⟨rfl, hacc⟩
    · obtain ⟨g1, g2, g3, g4⟩ : -1 ≤ b ∧ b < xs.length ∧ 0 ≤ t ∧ t ≤ 2040 := by omega
      have hF := Lib.hid (show limitF xs b t = (limL xs b t, 0) from (if_neg (by omega)).trans (if_neg hr))
      have hw1 : within b (-1) (xs.length - 1) = true := within_mk g1 (by omega)
      have hw2 := within_mk g3 g4
      clear he hall hr
      go_enter Try.func8, Try.ntmps8
      go_wp2_with (first | (go_at_call 33; refine (inklimitWorks_any _).mono ?_; rintro e wa ⟨rfl, hb⟩; have hacc := hacc.trans (hb.mono hacc.size)) | (go_at_call 39; refine (total_is _ hl (h.kept hacc) hT.out).mono ?_; rintro e wa ⟨rfl, rfl⟩) | (go_at_call 40; refine (limit_is _ hl (h.kept hacc) hF.out).mono ?_; rintro e wa ⟨AL, cL, rfl, hi, hb⟩; have hacc := hacc.trans (hb.mono hacc.size)) | (go_at_call 26; refine (tonesErr_any _ _ _ _ _ _ hl (h.kept hacc)).mono ?_; rintro e wb ⟨rfl, rfl⟩) | (go_at_call 41; refine (rtotal_any _ _ _ _ (by omega) HA.out (h.kept hacc)).mono ?_; rintro e wb ⟨rfl, rfl⟩) | (go_at_call 16; refine (within_any _ _ _ _).mono ?_; rintro e w' ⟨rfl, rfl⟩) | (go_at_call 17; refine (none_any _ _ _ _).mono ?_; rintro e w' ⟨rfl, rfl⟩))
      go_at_call 38
      refine (rlimited_any _ _ _ _ _ _ h8 HA.out (h.kept hacc) g1 g2 g3 g4).mono ?_
      rintro e w5 ⟨A5, c5, rfl, hi5, hb⟩
      have hacc := hacc.trans (hb.mono hacc.size)
      have hi' := hi.kept hb
      go_wp2_with fail
      go_at_call 27
      refine (sameInts_yes AL A5 (limL xs b t) cL c5 _ (by rw [limL_length]; exact hl) hi' hi5).mono ?_
      rintro e w6 ⟨rfl, hb⟩
      have hacc := hacc.trans (hb.mono hacc.size)
      go_wp2
      go_ret
      exact ⟨rfl, hacc⟩
  · have he' : (inkE xs != 0) = true := by simp [he]
    have hT := Lib.hid (show totalF xs = (0, inkE xs) from if_pos he)
    have hF := Lib.hid (show limitF xs b t = ([], inkE xs) from if_pos he)
    by_cases h8 : 8 < xs.length
    · have hE : inkE xs = 2 := if_pos h8
      rw [hE] at hT hF
      clear he he'
      go_enter Try.func8, Try.ntmps8
      go_wp2_with (first | (go_at_call 33; refine (inklimitWorks_any _).mono ?_; rintro e wa ⟨rfl, hb⟩; have hacc := hacc.trans (hb.mono hacc.size)) | (go_at_call 39; refine (total_is _ hl (h.kept hacc) hT.out).mono ?_; rintro e wa ⟨rfl, rfl⟩) | (go_at_call 40; refine (limit_is _ hl (h.kept hacc) hF.out).mono ?_; rintro e wa ⟨AL, cL, rfl, hi, hb⟩; have hacc := hacc.trans (hb.mono hacc.size)) | (go_at_call 26; refine (tonesErr_any _ _ _ _ _ _ hl (h.kept hacc)).mono ?_; rintro e wb ⟨rfl, rfl⟩) | (go_at_call 41; refine (rtotal_any _ _ _ _ (by omega) HA.out (h.kept hacc)).mono ?_; rintro e wb ⟨rfl, rfl⟩) | (go_at_call 16; refine (within_any _ _ _ _).mono ?_; rintro e w' ⟨rfl, rfl⟩) | (go_at_call 17; refine (none_any _ _ _ _).mono ?_; rintro e w' ⟨rfl, rfl⟩))
      go_ret
      exact ⟨rfl, hacc⟩
    · have hE : inkE xs = tonesE xs xs.length 255 := if_neg h8
      rw [hE] at hT hF he'
      have h8' : xs.length ≤ 8 := by omega
      clear he h8 hE
      go_enter Try.func8, Try.ntmps8
      go_wp2_with (first | (go_at_call 33; refine (inklimitWorks_any _).mono ?_; rintro e wa ⟨rfl, hb⟩; have hacc := hacc.trans (hb.mono hacc.size)) | (go_at_call 39; refine (total_is _ hl (h.kept hacc) hT.out).mono ?_; rintro e wa ⟨rfl, rfl⟩) | (go_at_call 40; refine (limit_is _ hl (h.kept hacc) hF.out).mono ?_; rintro e wa ⟨AL, cL, rfl, hi, hb⟩; have hacc := hacc.trans (hb.mono hacc.size)) | (go_at_call 26; refine (tonesErr_any _ _ _ _ _ _ hl (h.kept hacc)).mono ?_; rintro e wb ⟨rfl, rfl⟩) | (go_at_call 41; refine (rtotal_any _ _ _ _ (by omega) HA.out (h.kept hacc)).mono ?_; rintro e wb ⟨rfl, rfl⟩) | (go_at_call 16; refine (within_any _ _ _ _).mono ?_; rintro e w' ⟨rfl, rfl⟩) | (go_at_call 17; refine (none_any _ _ _ _).mono ?_; rintro e w' ⟨rfl, rfl⟩))
      go_ret
      exact ⟨rfl, hacc⟩
end Go.Proofs.Ytlbnicapkfmdoaa
