/- Plain facts on whole numbers: rounding, floor division. No program in sight. -/
import Derived.Below
namespace Go.Proofs.Ytnbmldnahacnlaa

/-- n/d rounded half up -/
def rnd (n d : Int) : Int := (2 * n + d) / (2 * d)

theorem div_uniq {a b q r : Int} (hb : 0 < b) (h : r + b * q = a) (h0 : 0 ≤ r) (h1 : r < b) : a / b = q :=
  ((Int.ediv_emod_unique hb).2 ⟨h, h0, h1⟩).1

theorem tdiv_neg {a b : Int} (hb : 0 < b) (h : a.tmod b < 0) : a.tdiv b - 1 = a / b := by
  have h1 := Int.tmod_add_mul_tdiv a b
  have h2 : -b < a.tmod b := by
    have := Int.lt_tmod_of_pos a hb
    omega
  refine (div_uniq (r := a.tmod b + b) hb ?_ (by omega) (by omega)).symm
  rw [Int.mul_sub]; omega

theorem tdiv_pos {a b : Int} (hb : 0 < b) (h : 0 ≤ a.tmod b) : a.tdiv b = a / b := by
  have h1 := Int.tmod_add_mul_tdiv a b
  have h2 : a.tmod b < b := Int.tmod_lt_of_pos a hb
  exact (div_uniq (r := a.tmod b) hb (by omega) (by omega) (by omega)).symm

theorem tdiv_over {a b : Int} (hb : 0 < b) (h : a < a.tdiv b * b) : a.tdiv b - 1 = a / b := by
  have h1 := Int.tmod_add_mul_tdiv a b
  refine tdiv_neg hb ?_
  rw [Int.mul_comm] at h1; omega

theorem tdiv_under {a b : Int} (hb : 0 < b) (h : a.tdiv b * b ≤ a) : a.tdiv b = a / b := by
  have h1 := Int.tmod_add_mul_tdiv a b
  refine tdiv_pos hb ?_
  rw [Int.mul_comm] at h1; omega

/-- the reference's way of rounding -/
theorem rnd_up {n d : Int} (hd : 0 < d) (h : d ≤ 2 * (n - n / d * d)) : n / d + 1 = rnd n d := by
  have h1 := Int.emod_add_mul_ediv n d
  have h2 := Int.emod_lt_of_pos n hd
  have h3 := Int.emod_nonneg n (by omega : d ≠ 0)
  rw [Int.mul_comm] at h1
  refine (div_uniq (r := 2 * (n % d) - d) (by omega) ?_ (by omega) (by omega)).symm
  have e : 2 * d * (n / d + 1) = 2 * (n / d * d) + 2 * d := by rw [Int.mul_add, Int.mul_assoc, Int.mul_comm d]; omega
  omega

theorem rnd_down {n d : Int} (hd : 0 < d) (h : 2 * (n - n / d * d) < d) : n / d = rnd n d := by
  have h1 := Int.emod_add_mul_ediv n d
  have h2 := Int.emod_lt_of_pos n hd
  have h3 := Int.emod_nonneg n (by omega : d ≠ 0)
  rw [Int.mul_comm] at h1
  refine (div_uniq (r := 2 * (n % d) + d) (by omega) ?_ (by omega) (by omega)).symm
  have e : 2 * d * (n / d) = 2 * (n / d * d) := by rw [Int.mul_assoc, Int.mul_comm d]
  omega

theorem div_bound {n d a b : Int} (hd : 0 < d) (h1 : a * d ≤ n) (h2 : n ≤ b * d) : a ≤ n / d ∧ n / d ≤ b := by
  constructor
  · exact (Int.le_ediv_iff_mul_le hd).2 h1
  · have := Int.ediv_le_ediv hd h2
    rwa [Int.mul_ediv_cancel _ (by omega)] at this

theorem div_abs {n d m : Int} (hd : 0 < d) (h1 : -m ≤ n) (h2 : n ≤ m) (hm : 0 ≤ m) : -m ≤ n / d ∧ n / d ≤ m := by
  refine div_bound hd ?_ ?_
  · have : m * 1 ≤ m * d := Int.mul_le_mul_of_nonneg_left (by omega) hm
    rw [Int.neg_mul]; omega
  · have : m * 1 ≤ m * d := Int.mul_le_mul_of_nonneg_left (by omega) hm
    omega

theorem tdiv_abs {n m : Int} (d : Int) (h1 : -m ≤ n) (h2 : n ≤ m) : -m ≤ n.tdiv d ∧ n.tdiv d ≤ m := by
  have := Int.natAbs_tdiv_le_natAbs n d
  omega

theorem mul_bd {a b m n : Int} (h0 : 0 ≤ a) (h1 : a ≤ m) (h2 : 0 ≤ b) (h3 : b ≤ n) : 0 ≤ a * b ∧ a * b ≤ m * n :=
  ⟨Int.mul_nonneg h0 h2, Int.mul_le_mul h1 h3 h2 (by omega)⟩
theorem rnd_bd {n d m : Int} (hd : 0 < d) (h0 : 0 ≤ n) (h1 : n ≤ m) : 0 ≤ rnd n d ∧ rnd n d ≤ m + 1 := by
  unfold rnd
  have hd2 : 0 < 2 * d := by omega
  refine ⟨Int.ediv_nonneg (by omega) (by omega), ?_⟩
  have h2 : m * 1 ≤ m * d := Int.mul_le_mul_of_nonneg_left (by omega) (by omega)
  refine (div_bound (a := 0) (b := m + 1) hd2 (by omega) ?_).2
  rw [Int.add_mul, Int.mul_left_comm]
  omega

end Go.Proofs.Ytnbmldnahacnlaa
