/- Walks of value and of the reference's Value. -/
import Derived.Test.YtdfocbeejgcglaaRefPlain
import Derived.Test.YtdfocbeejgcglaaRef2
namespace Go.Proofs.Ytdfocbeejgcglaa
open Go.RowKit

set_option maxRecDepth 20000 in
set_option maxHeartbeats 2000000 in
theorem value_any (f w0 : Int) (w : World) (hw : 80000 ≤ w0) (hw1 : w0 ≤ 120000) :
    Calls Try.prog 69 #[.int .i64 f, .int .i64 w0] w fun e w' => e = .returned (.int .i64 (valV f w0)) ∧ w = w' := by
  obtain ⟨v0, v1⟩ := valV_bd (f := f) (w := w0) (by omega)
  go_enter Try.func69, Try.ntmps69
  go_wp2
  go_loopg [5, 6] 300001 (fun gk l h wr => ∃ L H : Int, wr = w ∧ l = .int .i64 L ∧ h = .int .i64 H ∧ -1 ≤ L ∧ L < valV f w0 ∧ valV f w0 ≤ H ∧ H ≤ 300000 ∧ H - L ≤ gk)
  case atStart => exact ⟨-1, 300000, rfl, rfl, rfl, by omega, by omega, by omega, by omega, by omega⟩
  case round =>
    obtain ⟨L, H, rfl, rfl, rfl, h1, h2, h3, h4, hk⟩ := hrel
    by_cases hlt : 1 < H - L
    · have q0 : (L + H).tdiv 2 = (L + H) / 2 := Int.tdiv_eq_ediv_of_nonneg (by omega)
      have hm0 : 0 ≤ (L + H) / 2 := by omega
      have hm1 : (L + H) / 2 < 300000 := by omega
      have hi := val_iff (f := f) (w := w0) hw hm0 hm1
      have g1 : L < (L + H) / 2 := by omega
      have g2 : (L + H) / 2 < H := by omega
      generalize (L + H) / 2 = m at *
      by_cases hc : valV f w0 ≤ m
      · have hf := hi.2 hc
        clear hi
        go_wp2_with (go_at_call 67; refine (response_any _ _ _ hm0 (by omega) hw hw1).mono ?_; rintro e w' ⟨rfl, rfl⟩)
        go_roundg (gk - 1)
        case measure => omega
        case rel => exact ⟨L, m, rfl, rfl, rfl, h1, h2, hc, by omega, by omega⟩
      · have hf : respV m w0 < f := by have := fun h => hc (hi.1 h); omega
        have hc' : m < valV f w0 := by omega
        clear hi hc
        go_wp2_with (go_at_call 67; refine (response_any _ _ _ hm0 (by omega) hw hw1).mono ?_; rintro e w' ⟨rfl, rfl⟩)
        go_roundg (gk - 1)
        case measure => omega
        case rel => exact ⟨m, H, rfl, rfl, rfl, by omega, hc', h3, h4, by omega⟩
    · have hV := Lib.hid (show H = valV f w0 by omega)
      have hle : H - L ≤ 1 := by omega
      clear hlt
      go_wp2
      go_ret
      exact ⟨ret_int hV.out, rfl⟩

theorem neg_cube {g w0 : Int} : -g * g * g * w0 = -(g * g * g * w0) := by simp only [Int.neg_mul]
theorem cube_bd {g w0 : Int} (h0 : 0 ≤ g) (h1 : g ≤ 17000) (hw : 0 ≤ w0) (hw1 : w0 ≤ 120000) : 0 ≤ g * g * g * w0 ∧ g * g * g * w0 ≤ 589560000000000000 ∧ g * g * g ≤ 4913000000000 ∧ 0 ≤ g * g * g ∧ 0 ≤ g * g ∧ g * g ≤ 289000000 := by
  have m1 := Int.mul_le_mul h1 h1 h0 (by omega)
  have m1' := Int.mul_nonneg h0 h0
  have m2 := Int.mul_le_mul m1 h1 h0 (by omega)
  have m2' := Int.mul_nonneg m1' h0
  have m3 := Int.mul_le_mul m2 hw1 hw (by omega)
  have m3' := Int.mul_nonneg m2' hw
  omega
set_option maxRecDepth 20000 in
set_option maxHeartbeats 2000000 in
theorem rvalue_any (f w0 : Int) (w : World) (hf : -17000 ≤ f) (hf1 : f ≤ 17000) (hw : 80000 ≤ w0) (hw1 : w0 ≤ 120000) :
    Calls Try.prog 28 #[.int .i64 f, .int .i64 w0] w fun e w' => e = .returned (.int .i64 (valV f w0)) ∧ w = w' := by
  have HV := Lib.hid (show valV f w0 = if f ≤ 1379 then 0 else if f < 2069 then min (min (up (8856894509 * w0) 1000000000000) (up ((f - 1379) * 108 * w0) 8410000)) 300000 else min (up (f * f * f * w0) 1000000000000) 300000 from rfl)
  by_cases h1 : f ≤ 1379
  · have hV := Lib.hid (show valV f w0 = 0 from HV.out.trans (if_pos h1))
    go_enter Try.func28, Try.ntmps28
    go_wp2
    go_ret
    exact ⟨ret_int hV.out.symm, rfl⟩
  by_cases h2 : f < 2069
  · have hV := Lib.hid (show valV f w0 = _ from HV.out.trans ((if_neg h1).trans (if_pos h2)))
    have h1' : 1379 < f := by omega
    obtain ⟨m10, m11⟩ := mul_bd (a := (f - 1379) * 108) (b := w0) (m := 74520) (n := 120000) (by omega) (by omega) (by omega) hw1
    have e1 : -(f - 1379) * 108 * w0 = -((f - 1379) * 108 * w0) := by simp only [Int.neg_mul]
    have U1 := Lib.hid (show up (8856894509 * w0) 1000000000000 = -(-8856894509 * w0 / 1000000000000) by unfold up; rw [Int.neg_mul])
    have U2 := Lib.hid (show up ((f - 1379) * 108 * w0) 8410000 = -(-(f - 1379) * 108 * w0 / 8410000) by unfold up; rw [e1])
    have i1 := i64_in (a := -(f - 1379) * 108 * w0) (by omega) (by omega)
    have i2 := i64_in (a := -8856894509 * w0) (by omega) (by omega)
    have j1 : -8942400000 ≤ -(f - 1379) * 108 * w0 := by omega
    have j2 : -(f - 1379) * 108 * w0 ≤ 0 := by omega
    clear h1 HV e1 m10 m11
    go_enter Try.func28, Try.ntmps28
    go_wp2_with (go_at_call 27; refine (floor_any _ _ _ (by omega) (by omega) (by omega) (by omega)).mono ?_; rintro e w' ⟨rfl, rfl⟩)
    all_goals
      go_ret
      exact ⟨ret_int (by rw [hV.out, U1.out, U2.out]; omega), rfl⟩
  · have hV := Lib.hid (show valV f w0 = _ from HV.out.trans ((if_neg h1).trans (if_neg h2)))
    have h2' : 2069 ≤ f := by omega
    obtain ⟨c1, c2, c3, c4, c5, c6⟩ := cube_bd (g := f) (w0 := w0) (by omega) hf1 (by omega) hw1
    have e1 : -f * f * f * w0 = -(f * f * f * w0) := neg_cube
    have e2 : -f * f * f = -(f * f * f) := by simp only [Int.neg_mul]
    have e3 : -f * f = -(f * f) := by simp only [Int.neg_mul]
    have U1 := Lib.hid (show up (f * f * f * w0) 1000000000000 = -(-f * f * f * w0 / 1000000000000) by unfold up; rw [e1])
    have i1 := i64_in (a := -f * f * f * w0) (by omega) (by omega)
    have i2 := i64_in (a := -f * f * f) (by omega) (by omega)
    have i3 := i64_in (a := -f * f) (by omega) (by omega)
    have j1 : -1000000000000000000 ≤ -f * f * f * w0 := by omega
    have j2 : -f * f * f * w0 ≤ 0 := by omega
    clear h1 h2 HV e1 e2 e3 c1 c2 c3 c4 c5 c6
    go_enter Try.func28, Try.ntmps28
    go_wp2_with (go_at_call 27; refine (floor_any _ _ _ (by omega) (by omega) (by omega) (by omega)).mono ?_; rintro e w' ⟨rfl, rfl⟩)
    all_goals
      go_ret
      exact ⟨ret_int (by rw [hV.out, U1.out]; omega), rfl⟩
end Go.Proofs.Ytdfocbeejgcglaa
