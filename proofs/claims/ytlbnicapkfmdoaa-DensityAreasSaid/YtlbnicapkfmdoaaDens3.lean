/- Walks of Area, Contrast, densityWorks and of the two laws on densities. -/
import Derived.Test.YtlbnicapkfmdoaaDens2
namespace Go.Proofs.Ytlbnicapkfmdoaa
open Go.RowKit

def areaF (tint full : Int) : Int × Int :=
  if tint < 1 ∨ 1000000 < tint then (0, 3) else if full < 1 ∨ 1000000 < full then (0, 3) else if full = 1000000 then (0, 8) else if tint < full then (0, 18)
    else (rnd (255 * (1000000 - tint)) (1000000 - full), 0)
set_option maxHeartbeats 400000 in
theorem area_is {tint full a b : Int} (w : World) (h : areaF tint full = (a, b)) :
    Calls Try.prog 21 #[.int .i64 tint, .int .i64 full] w fun e w' => e = .returned (.tuple #[.int .i64 a, .int .i64 b]) ∧ w = w' := by
  unfold areaF at h
  by_cases h1 : tint < 1
  · rw [if_pos (.inl h1)] at h; cases h
    go_enter Try.func21, Try.ntmps21
    go_wp2; go_ret2; exact ⟨rfl, rfl⟩
  by_cases h2 : 1000000 < tint
  · rw [if_pos (.inr h2)] at h; cases h
    go_enter Try.func21, Try.ntmps21
    go_wp2; go_ret2; exact ⟨rfl, rfl⟩
  rw [if_neg (by omega)] at h
  by_cases h3 : full < 1 ∨ 1000000 < full
  · rw [if_pos h3] at h; cases h
    have hs : solidF full = 3 := by unfold solidF; rw [if_pos h3]
    have HS := Lib.hid hs
    clear hs h3
    go_enter Try.func21, Try.ntmps21
    go_wp2_with (go_at_call 53; refine (solid_is _ HS.out).mono ?_; rintro e w' ⟨rfl, rfl⟩)
    go_ret2; exact ⟨rfl, rfl⟩
  rw [if_neg h3] at h
  by_cases h4 : full = 1000000
  · rw [if_pos h4] at h; cases h
    have hs : solidF full = 8 := by unfold solidF; rw [if_neg h3, if_pos h4]
    have HS := Lib.hid hs
    clear hs h3 h4
    go_enter Try.func21, Try.ntmps21
    go_wp2_with (go_at_call 53; refine (solid_is _ HS.out).mono ?_; rintro e w' ⟨rfl, rfl⟩)
    go_ret2; exact ⟨rfl, rfl⟩
  rw [if_neg h4] at h
  have hs : solidF full = 0 := by unfold solidF; rw [if_neg h3, if_neg h4]
  have HS := Lib.hid hs
  have f1 : 1 ≤ full := by omega
  have f2 : full < 1000000 := by omega
  clear hs h3 h4
  by_cases h5 : tint < full
  · rw [if_pos h5] at h; cases h
    go_enter Try.func21, Try.ntmps21
    go_wp2_with (go_at_call 53; refine (solid_is _ HS.out).mono ?_; rintro e w' ⟨rfl, rfl⟩)
    go_ret2; exact ⟨rfl, rfl⟩
  · rw [if_neg h5] at h; cases h
    go_enter Try.func21, Try.ntmps21
    go_wp2_with (first | (go_at_call 53; refine (solid_is _ HS.out).mono ?_; rintro e w' ⟨rfl, rfl⟩) | (go_at_call 54; refine (nearest_any _ _ _ (by omega) (by omega) (by omega) (by omega)).mono ?_; rintro e w' ⟨rfl, rfl⟩))
    go_ret2; exact ⟨rfl, rfl⟩

def contrF (tint full : Int) : Int × Int :=
  if tint < 1 ∨ 1000000 < tint then (0, 3) else if full < 1 ∨ 1000000 < full then (0, 3) else if full = 1000000 then (0, 8) else if tint < full then (0, 18)
    else if dens full = 0 then (0, 8) else (rnd (100 * (dens full - dens tint)) (dens full), 0)
set_option maxRecDepth 100000 in
set_option maxHeartbeats 400000 in
theorem contr_is {tint full a b : Int} (w : World) (h : contrF tint full = (a, b)) :
    Calls Try.prog 22 #[.int .i64 tint, .int .i64 full] w fun e w' => e = .returned (.tuple #[.int .i64 a, .int .i64 b]) ∧ w = w' := by
  unfold contrF at h
  by_cases h1 : tint < 1
  · rw [if_pos (.inl h1)] at h; cases h
    go_enter Try.func22, Try.ntmps22
    go_wp2; go_ret2; exact ⟨rfl, rfl⟩
  by_cases h2 : 1000000 < tint
  · rw [if_pos (.inr h2)] at h; cases h
    go_enter Try.func22, Try.ntmps22
    go_wp2; go_ret2; exact ⟨rfl, rfl⟩
  rw [if_neg (by omega)] at h
  by_cases h3 : full < 1 ∨ 1000000 < full
  · rw [if_pos h3] at h; cases h
    have hs : solidF full = 3 := by unfold solidF; rw [if_pos h3]
    have HS := Lib.hid hs
    clear hs h3
    go_enter Try.func22, Try.ntmps22
    go_wp2_with (go_at_call 53; refine (solid_is _ HS.out).mono ?_; rintro e w' ⟨rfl, rfl⟩)
    go_ret2; exact ⟨rfl, rfl⟩
  rw [if_neg h3] at h
  by_cases h4 : full = 1000000
  · rw [if_pos h4] at h; cases h
    have hs : solidF full = 8 := by unfold solidF; rw [if_neg h3, if_pos h4]
    have HS := Lib.hid hs
    clear hs h3 h4
    go_enter Try.func22, Try.ntmps22
    go_wp2_with (go_at_call 53; refine (solid_is _ HS.out).mono ?_; rintro e w' ⟨rfl, rfl⟩)
    go_ret2; exact ⟨rfl, rfl⟩
  rw [if_neg h4] at h
  have hs : solidF full = 0 := by unfold solidF; rw [if_neg h3, if_neg h4]
  have HS := Lib.hid hs
  have f1 : 1 ≤ full := by omega
  have f2 : full < 1000000 := by omega
  clear hs h3 h4
  by_cases h5 : tint < full
  · rw [if_pos h5] at h; cases h
    go_enter Try.func22, Try.ntmps22
    go_wp2_with (go_at_call 53; refine (solid_is _ HS.out).mono ?_; rintro e w' ⟨rfl, rfl⟩)
    go_ret2; exact ⟨rfl, rfl⟩
  rw [if_neg h5] at h
  obtain ⟨d1, d2⟩ := dens_bd f1 (by omega)
  obtain ⟨t1, t2⟩ := dens_bd (r := tint) (by omega) (by omega)
  by_cases h6 : dens full = 0
  · rw [if_pos h6] at h; cases h
    have h6' : (dens full == 0) = true := by simp [h6]
    clear h6
    go_enter Try.func22, Try.ntmps22
    go_wp2_with (first | (go_at_call 53; refine (solid_is _ HS.out).mono ?_; rintro e w' ⟨rfl, rfl⟩) | (go_at_call 52; refine (of_any _ _ (by omega) (by omega)).mono ?_; rintro e w' ⟨rfl, rfl⟩))
    go_ret2; exact ⟨rfl, rfl⟩
  · rw [if_neg h6] at h; cases h
    have h6' : (dens full == 0) = false := by simp [h6]
    have h7 : 0 < dens full := by omega
    clear h6
    go_enter Try.func22, Try.ntmps22
    go_wp2_with (first | (go_at_call 53; refine (solid_is _ HS.out).mono ?_; rintro e w' ⟨rfl, rfl⟩) | (go_at_call 52; refine (of_any _ _ (by omega) (by omega)).mono ?_; rintro e w' ⟨rfl, rfl⟩) | (go_at_call 54; refine (nearest_any _ _ _ (by omega) (by omega) (by omega) (by omega)).mono ?_; rintro e w' ⟨rfl, rfl⟩))
    go_ret2; exact ⟨rfl, rfl⟩

theorem densityWorks_any (w : World) : Calls Try.prog 13 #[] w fun e w' => e = .returned (.bool true) ∧ w = w' := by
  have H1 := Lib.hid (show log2F 3 = (103872, 0) by decide +kernel)
  have H2 := Lib.hid (show densF 100000 = (1000, 0) by decide +kernel)
  have H3 := Lib.hid (show tintF 128 100000 = (548235, 0) by decide +kernel)
  have H4 := Lib.hid (show areaF 548235 100000 = (128, 0) by decide +kernel)
  have H5 := Lib.hid (show contrF 548235 100000 = (74, 0) by decide +kernel)
  go_enter Try.func13, Try.ntmps13
  go_wp2_with (first | (go_at_call 14; refine (log2_is _ H1.out).mono ?_; rintro e w' ⟨rfl, rfl⟩) | (go_at_call 15; refine (dens_is _ H2.out).mono ?_; rintro e w' ⟨rfl, rfl⟩) | (go_at_call 20; refine (tint_is _ H3.out).mono ?_; rintro e w' ⟨rfl, rfl⟩) | (go_at_call 21; refine (area_is _ H4.out).mono ?_; rintro e w' ⟨rfl, rfl⟩) | (go_at_call 22; refine (contr_is _ H5.out).mono ?_; rintro e w' ⟨rfl, rfl⟩))
  go_ret
  exact ⟨rfl, rfl⟩
end Go.Proofs.Ytlbnicapkfmdoaa
