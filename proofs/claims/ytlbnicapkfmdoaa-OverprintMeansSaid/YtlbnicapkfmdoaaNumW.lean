/- Nearest, Floor, Round of larger numbers. -/
import Derived.Test.YtlbnicapkfmdoaaNum
namespace Go.Proofs.Ytlbnicapkfmdoaa
open Go.RowKit

set_option maxHeartbeats 400000 in
theorem nearest_w (n d : Int) (w : World) (hd : 0 < d) (h1 : d ≤ 1000000000000000) (h2 : -4000000000000000000 ≤ n) (h3 : n ≤ 4000000000000000000) :
    Calls Try.prog 54 #[.int .i64 n, .int .i64 d] w fun e w' => e = .returned (.int .i64 (rnd n d)) ∧ w = w' := by
  obtain ⟨g1, g2⟩ := tdiv_abs (n := 2 * n + d) (m := 8002000000000000000) (2 * d) (by omega) (by omega)
  go_enter Try.func54, Try.ntmps54
  go_wp2
  · go_ret
    exact ⟨ret_int (tdiv_neg (by omega) ‹_›), rfl⟩
  · go_ret
    exact ⟨ret_int (tdiv_pos (by omega) ‹_›), rfl⟩

set_option maxHeartbeats 400000 in
theorem floor_w (n d : Int) (w : World) (hd : 0 < d) (h1 : d ≤ 1000000000000000) (h2 : -4000000000000000000 ≤ n) (h3 : n ≤ 4000000000000000000) :
    Calls Try.prog 55 #[.int .i64 n, .int .i64 d] w fun e w' => e = .returned (.int .i64 (n / d)) ∧ w = w' := by
  have hq : -n.natAbs ≤ n.tdiv d * d ∧ n.tdiv d * d ≤ n.natAbs := by
    have e1 := Int.tmod_add_mul_tdiv n d
    rw [Int.mul_comm] at e1
    rcases Int.le_total 0 n with h | h
    · have := Int.tmod_nonneg d h
      have : 0 ≤ n.tdiv d * d := Int.mul_nonneg (Int.tdiv_nonneg h (by omega)) (by omega)
      omega
    · have : n.tmod d ≤ 0 := by
        have := Int.tmod_nonneg d (a := -n) (by omega)
        rw [Int.neg_tmod] at this; omega
      have : n.tdiv d * d ≤ 0 := by
        have := Int.mul_nonneg (Int.tdiv_nonneg (a := -n) (b := d) (by omega) (by omega)) (show 0 ≤ d by omega)
        rw [Int.neg_tdiv, Int.neg_mul] at this; omega
      omega
  have hq1 : -4000000000000000000 ≤ n.tdiv d * d := by omega
  have hq2 : n.tdiv d * d ≤ 4000000000000000000 := by omega
  have hqa := Int.natAbs_tdiv_le_natAbs n d
  have hq3 : -4000000000000000000 ≤ n.tdiv d := by omega
  have hq4 : n.tdiv d ≤ 4000000000000000000 := by omega
  clear hq hqa
  go_enter Try.func55, Try.ntmps55
  go_wp2
  · go_ret
    exact ⟨ret_int (tdiv_over (by omega) ‹_›), rfl⟩
  · go_ret
    exact ⟨ret_int (tdiv_under (by omega) ‹_›), rfl⟩

set_option maxHeartbeats 400000 in
theorem round_w (n d : Int) (w : World) (hd : 0 < d) (h1 : d ≤ 1000000000000000) (h2 : -4000000000000000000 ≤ n) (h3 : n ≤ 4000000000000000000) :
    Calls Try.prog 23 #[.int .i64 n, .int .i64 d] w fun e w' => e = .returned (.int .i64 (rnd n d)) ∧ w = w' := by
  have e1 := Int.emod_add_mul_ediv n d
  have e2 := Int.emod_lt_of_pos n hd
  have e3 := Int.emod_nonneg n (by omega : d ≠ 0)
  have e4 := div_abs (n := n) (m := 4000000000000000000) hd (by omega) (by omega) (by omega)
  have hq1 : -4001000000000000000 ≤ n / d * d := by rw [Int.mul_comm] at e1; omega
  have hq2 : n / d * d ≤ 4000000000000000000 := by rw [Int.mul_comm] at e1; omega
  have hq5 : 0 ≤ n - n / d * d := by rw [Int.mul_comm] at e1; omega
  have hq6 : n - n / d * d ≤ 1000000000000000 := by rw [Int.mul_comm] at e1; omega
  have hq3 := e4.1
  have hq4 := e4.2
  clear e1 e2 e3 e4
  go_enter Try.func23, Try.ntmps23
  go_wp2_with (go_at_call 55; refine (floor_w _ _ _ (by omega) (by omega) (by omega) (by omega)).mono ?_; rintro e w' ⟨rfl, rfl⟩)
  · go_ret
    exact ⟨ret_int (rnd_up (by omega) ‹_›), rfl⟩
  · go_ret
    exact ⟨ret_int (rnd_down (by omega) ‹_›), rfl⟩

end Go.Proofs.Ytlbnicapkfmdoaa
