/- Walks of the small functions on numbers that all chapters use: Nearest, Floor, Round, Within, none. -/
import Derived.Test.YtlbnicapkfmdoaaProg
import Derived.Test.YtlbnicapkfmdoaaPlain
import Derived.WalkKit
import Derived.WalkSpells
import Derived.WalkLawsBesides
namespace Go.Proofs.Ytlbnicapkfmdoaa
open Go.RowKit

theorem ret_int {k : IntKind} {a b : Int} (h : a = b) : Ending.returned (.int k a) = .returned (.int k b) := by rw [h]
theorem ret_bool {a b : Bool} (h : a = b) : Ending.returned (.bool a) = .returned (.bool b) := by rw [h]

set_option maxHeartbeats 400000 in
theorem nearest_any (n d : Int) (w : World) (hd : 0 < d) (h1 : d ≤ 1000000000000000) (h2 : -1000000000000000000 ≤ n) (h3 : n ≤ 1000000000000000000) :
    Calls Try.prog 54 #[.int .i64 n, .int .i64 d] w fun e w' => e = .returned (.int .i64 (rnd n d)) ∧ w = w' := by
  obtain ⟨g1, g2⟩ := tdiv_abs (n := 2 * n + d) (m := 2002000000000000000) (2 * d) (by omega) (by omega)
  go_enter Try.func54, Try.ntmps54
  go_wp2
  · go_ret
    exact ⟨ret_int (tdiv_neg (by omega) ‹_›), rfl⟩
  · go_ret
    exact ⟨ret_int (tdiv_pos (by omega) ‹_›), rfl⟩

set_option maxHeartbeats 400000 in
theorem floor_any (n d : Int) (w : World) (hd : 0 < d) (h1 : d ≤ 1000000000000000) (h2 : -1000000000000000000 ≤ n) (h3 : n ≤ 1000000000000000000) :
    Calls Try.prog 55 #[.int .i64 n, .int .i64 d] w fun e w' => e = .returned (.int .i64 (n / d)) ∧ w = w' := by
  have hq : -n.natAbs ≤ n.tdiv d * d ∧ n.tdiv d * d ≤ n.natAbs := by
    have e1 := Int.tmod_add_mul_tdiv n d
    rw [Int.mul_comm] at e1
    rcases Int.le_total 0 n with h | h
    · have := Int.tmod_nonneg d h
      have : 0 ≤ n.tdiv d * d := Int.mul_nonneg (Int.tdiv_nonneg h (by omega)) (by omega)
      omega
    · have : n.tmod d ≤ 0 := by
        have := Int.tmod_nonneg d (a := -n) (by omega)
        rw [Int.neg_tmod] at this; omega
      have : n.tdiv d * d ≤ 0 := by
        have := Int.mul_nonneg (Int.tdiv_nonneg (a := -n) (b := d) (by omega) (by omega)) (show 0 ≤ d by omega)
        rw [Int.neg_tdiv, Int.neg_mul] at this; omega
      omega
  have hq1 : -1000000000000000000 ≤ n.tdiv d * d := by omega
  have hq2 : n.tdiv d * d ≤ 1000000000000000000 := by omega
  have hqa := Int.natAbs_tdiv_le_natAbs n d
  have hq3 : -1000000000000000000 ≤ n.tdiv d := by omega
  have hq4 : n.tdiv d ≤ 1000000000000000000 := by omega
  clear hq hqa
  go_enter Try.func55, Try.ntmps55
  go_wp2
  · go_ret
    exact ⟨ret_int (tdiv_over (by omega) ‹_›), rfl⟩
  · go_ret
    exact ⟨ret_int (tdiv_under (by omega) ‹_›), rfl⟩

set_option maxHeartbeats 400000 in
theorem round_any (n d : Int) (w : World) (hd : 0 < d) (h1 : d ≤ 1000000000000000) (h2 : -1000000000000000000 ≤ n) (h3 : n ≤ 1000000000000000000) :
    Calls Try.prog 23 #[.int .i64 n, .int .i64 d] w fun e w' => e = .returned (.int .i64 (rnd n d)) ∧ w = w' := by
  have e1 := Int.emod_add_mul_ediv n d
  have e2 := Int.emod_lt_of_pos n hd
  have e3 := Int.emod_nonneg n (by omega : d ≠ 0)
  have e4 := div_abs (n := n) (m := 1000000000000000000) hd (by omega) (by omega) (by omega)
  have hq1 : -1001000000000000000 ≤ n / d * d := by rw [Int.mul_comm] at e1; omega
  have hq2 : n / d * d ≤ 1000000000000000000 := by rw [Int.mul_comm] at e1; omega
  have hq3 := e4.1
  have hq4 := e4.2
  clear e1 e2 e3 e4
  go_enter Try.func23, Try.ntmps23
  go_wp2_with (go_at_call 55; refine (floor_any _ _ _ (by omega) (by omega) (by omega) (by omega)).mono ?_; rintro e w' ⟨rfl, rfl⟩)
  · go_ret
    exact ⟨ret_int (rnd_up (by omega) ‹_›), rfl⟩
  · go_ret
    exact ⟨ret_int (rnd_down (by omega) ‹_›), rfl⟩

/-- lo ≤ n ≤ hi, as a Bool -/
def within (n lo hi : Int) : Bool := decide (lo ≤ n) && decide (n ≤ hi)
theorem within_iff {n lo hi : Int} : within n lo hi = true ↔ lo ≤ n ∧ n ≤ hi := by simp [within]
theorem within_mk {n lo hi : Int} (h1 : lo ≤ n) (h2 : n ≤ hi) : within n lo hi = true := by simp [within, h1, h2]
theorem within_not {n lo hi : Int} (h : n < lo ∨ hi < n) : within n lo hi = false := by
  rw [Bool.eq_false_iff]; intro h'; have := within_iff.1 h'; omega

theorem within_any (n a b : Int) (w : World) :
    Calls Try.prog 16 #[.int .i64 n, .int .i64 a, .int .i64 b] w fun e w' => e = .returned (.bool (within n a b)) ∧ w = w' := by
  go_enter Try.func16, Try.ntmps16
  go_wp2
  · go_ret
    refine ⟨ret_bool ?_, rfl⟩
    have h1 : a ≤ n := by assumption
    simp [within, h1]
  · go_ret
    refine ⟨ret_bool ?_, rfl⟩
    have : n < a := by assumption
    exact (within_not (.inl this)).symm

theorem within_yes (n a b : Int) (w : World) (h1 : a ≤ n) (h2 : n ≤ b) :
    Calls Try.prog 16 #[.int .i64 n, .int .i64 a, .int .i64 b] w fun e w' => e = .returned (.bool true) ∧ w = w' :=
  (within_any n a b w).mono fun _ _ ⟨he, hw⟩ => ⟨by rw [he, within_mk h1 h2], hw⟩
theorem within_no (n a b : Int) (w : World) (h : n < a ∨ b < n) :
    Calls Try.prog 16 #[.int .i64 n, .int .i64 a, .int .i64 b] w fun e w' => e = .returned (.bool false) ∧ w = w' :=
  (within_any n a b w).mono fun _ _ ⟨he, hw⟩ => ⟨by rw [he, within_not h], hw⟩

theorem none_any (z : Bool) (g k : Int) (w : World) :
    Calls Try.prog 17 #[.bool z, .int .i64 g, .int .i64 k] w fun e w' => e = .returned (.bool (z && (g == k))) ∧ w = w' := by
  cases z
  · go_enter Try.func17, Try.ntmps17
    go_wp2
    go_ret
    exact ⟨rfl, rfl⟩
  · go_enter Try.func17, Try.ntmps17
    go_wp2
    go_ret
    exact ⟨rfl, rfl⟩
theorem none_yes (g k : Int) (w : World) (h : g = k) :
    Calls Try.prog 17 #[.bool true, .int .i64 g, .int .i64 k] w fun e w' => e = .returned (.bool true) ∧ w = w' :=
  (none_any true g k w).mono fun _ _ ⟨he, hw⟩ => ⟨by rw [he]; simp [h], hw⟩
end Go.Proofs.Ytlbnicapkfmdoaa
