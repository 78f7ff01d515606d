/- Walks of density.of, Log2, Density, Tint, Area, Contrast, of the reference's Density and of densityWorks. -/
import Derived.Test.YtlbnicapkfmdoaaDens
namespace Go.Proofs.Ytlbnicapkfmdoaa
open Go.RowKit

theorem lgS_mono {y o y' o' : Int} (h0 : 1073741824 ≤ y) (h : o < o' ∨ o = o' ∧ y ≤ y') (j : Nat) :
    1073741824 ≤ (lgS y o j).1 ∧ ((lgS y o j).2 < (lgS y' o' j).2 ∨ (lgS y o j).2 = (lgS y' o' j).2 ∧ (lgS y o j).1 ≤ (lgS y' o' j).1) := by
  induction j with
  | zero => exact ⟨h0, h⟩
  | succ j ih =>
    simp only [lgS]
    generalize lgS y o j = s at *
    generalize lgS y' o' j = s' at *
    obtain ⟨p, q⟩ := s
    obtain ⟨p', q'⟩ := s'
    simp only at ih ⊢
    obtain ⟨i1, i2⟩ := ih
    have a1 : 1073741824 * p ≤ p * p := Int.mul_le_mul_of_nonneg_right i1 (by omega)
    have key : q = q' → p ≤ p' → p * p ≤ p' * p' := fun _ hp => Int.mul_le_mul hp hp (by omega) (by omega)
    generalize p * p = z at *
    generalize p' * p' = z' at *
    split <;> split <;> simp only <;> rcases i2 with hq | ⟨hq, hp⟩
    all_goals first | omega | (have := key hq hp; omega)
theorem lg_mono {x y : Int} (h0 : 1 ≤ x) (h : x ≤ y) (hy : y ≤ 1099511627776) : lg x ≤ lg y := by
  have a := log2_bits h0
  have b := log2_bits (x := y) (by omega)
  have ka := (bits_41 h0 (by omega) a).2
  have kb := (bits_41 (by omega) hy b).2
  unfold lg
  generalize Nat.log2 x.toNat = K at *
  generalize Nat.log2 y.toNat = L at *
  obtain ⟨a1, a2⟩ := a
  obtain ⟨b1, b2⟩ := b
  have a2 := a2 (by omega)
  have b2 := b2 (by omega)
  rw [Nat.add_sub_cancel] at a2 b2
  have ya := (lgY_bd a2 a1 (by omega)).1
  have hKL : K ≤ L := by
    rcases Nat.lt_or_ge L K with hlt | hge
    · have := ipow_mono (a := L + 1) (b := K) (by omega)
      omega
    · exact hge
  have hst : (K : Int) < L ∨ (K : Int) = L ∧ lgY x K ≤ lgY y L := by
    rcases Nat.lt_or_ge K L with hlt | hge
    · left; omega
    · obtain rfl : K = L := by omega
      right
      refine ⟨rfl, ?_⟩
      unfold lgY
      exact Int.ediv_le_ediv (by omega) (Int.mul_le_mul_of_nonneg_right h (Int.le_of_lt (Int.pow_pos (by omega))))
  have := (lgS_mono ya hst 16).2
  omega

def dens (r : Int) : Int := rnd ((lg 1000000 - lg r) * 30103) 6553600
theorem dens_bd {r : Int} (h0 : 1 ≤ r) (h1 : r ≤ 1000000) : 0 ≤ dens r ∧ dens r ≤ 100000 := by
  have a := lg_bd r h0 (by omega)
  have b := lg_bd 1000000 (by omega) (by omega)
  have c := lg_mono h0 h1 (by omega)
  unfold dens rnd
  omega

set_option maxHeartbeats 400000 in
theorem of_any (r : Int) (w : World) (h0 : 1 ≤ r) (h1 : r ≤ 1000000) :
    Calls Try.prog 52 #[.int .i64 r] w fun e w' => e = .returned (.int .i64 (dens r)) ∧ w = w' := by
  obtain ⟨a1, a2⟩ := lg_bd r h0 (by omega)
  obtain ⟨b1, b2⟩ := lg_bd 1000000 (by omega) (by omega)
  go_enter Try.func52, Try.ntmps52
  go_wp2_with (first | (go_at_call 51; refine (log_any _ _ (by omega) (by omega)).mono ?_; rintro e w' ⟨rfl, rfl⟩) | (go_at_call 54; refine (nearest_any _ _ _ (by omega) (by omega) (by omega) (by omega)).mono ?_; rintro e w' ⟨rfl, rfl⟩))
  go_ret
  exact ⟨rfl, rfl⟩
set_option maxHeartbeats 400000 in
theorem rdens_any (r : Int) (w : World) (h0 : 1 ≤ r) (h1 : r ≤ 1000000) :
    Calls Try.prog 19 #[.int .i64 r] w fun e w' => e = .returned (.int .i64 (dens r)) ∧ w = w' := by
  obtain ⟨a1, a2⟩ := lg_bd r h0 (by omega)
  obtain ⟨b1, b2⟩ := lg_bd 1000000 (by omega) (by omega)
  go_enter Try.func19, Try.ntmps19
  go_wp2_with (first | (go_at_call 18; refine (rlog2_any _ _ (by omega) (by omega)).mono ?_; rintro e w' ⟨rfl, rfl⟩) | (go_at_call 23; refine (round_any _ _ _ (by omega) (by omega) (by omega) (by omega)).mono ?_; rintro e w' ⟨rfl, rfl⟩))
  go_ret
  exact ⟨rfl, rfl⟩

def log2F (x : Int) : Int × Int := if x < 1 ∨ 1099511627776 < x then (0, 3) else (lg x, 0)
theorem log2_is {x a b : Int} (w : World) (h : log2F x = (a, b)) :
    Calls Try.prog 14 #[.int .i64 x] w fun e w' => e = .returned (.tuple #[.int .i64 a, .int .i64 b]) ∧ w = w' := by
  unfold log2F at h
  by_cases h1 : x < 1
  · rw [if_pos (.inl h1)] at h; cases h
    go_enter Try.func14, Try.ntmps14
    go_wp2; go_ret2; exact ⟨rfl, rfl⟩
  by_cases h2 : 1099511627776 < x
  · rw [if_pos (.inr h2)] at h; cases h
    go_enter Try.func14, Try.ntmps14
    go_wp2; go_ret2; exact ⟨rfl, rfl⟩
  · rw [if_neg (by omega)] at h; cases h
    go_enter Try.func14, Try.ntmps14
    go_wp2_with (go_at_call 51; refine (log_any _ _ (by omega) (by omega)).mono ?_; rintro e w' ⟨rfl, rfl⟩)
    go_ret2; exact ⟨rfl, rfl⟩

def densF (x : Int) : Int × Int := if x < 1 ∨ 1000000 < x then (0, 3) else (dens x, 0)
theorem dens_is {x a b : Int} (w : World) (h : densF x = (a, b)) :
    Calls Try.prog 15 #[.int .i64 x] w fun e w' => e = .returned (.tuple #[.int .i64 a, .int .i64 b]) ∧ w = w' := by
  unfold densF at h
  by_cases h1 : x < 1
  · rw [if_pos (.inl h1)] at h; cases h
    go_enter Try.func15, Try.ntmps15
    go_wp2; go_ret2; exact ⟨rfl, rfl⟩
  by_cases h2 : 1000000 < x
  · rw [if_pos (.inr h2)] at h; cases h
    go_enter Try.func15, Try.ntmps15
    go_wp2; go_ret2; exact ⟨rfl, rfl⟩
  · rw [if_neg (by omega)] at h; cases h
    go_enter Try.func15, Try.ntmps15
    go_wp2_with (go_at_call 52; refine (of_any _ _ (by omega) (by omega)).mono ?_; rintro e w' ⟨rfl, rfl⟩)
    go_ret2; exact ⟨rfl, rfl⟩

def solidF (x : Int) : Int := if x < 1 ∨ 1000000 < x then 3 else if x = 1000000 then 8 else 0
theorem solid_is {x a : Int} (w : World) (h : solidF x = a) :
    Calls Try.prog 53 #[.int .i64 x] w fun e w' => e = .returned (.int .i64 a) ∧ w = w' := by
  unfold solidF at h
  by_cases h1 : x < 1
  · rw [if_pos (.inl h1)] at h; cases h
    go_enter Try.func53, Try.ntmps53
    go_wp2; go_ret; exact ⟨rfl, rfl⟩
  by_cases h2 : 1000000 < x
  · rw [if_pos (.inr h2)] at h; cases h
    go_enter Try.func53, Try.ntmps53
    go_wp2; go_ret; exact ⟨rfl, rfl⟩
  rw [if_neg (by omega)] at h
  by_cases h3 : x = 1000000
  · subst h3; rw [if_pos rfl] at h; cases h
    go_enter Try.func53, Try.ntmps53
    go_wp2; go_ret; exact ⟨rfl, rfl⟩
  · rw [if_neg h3] at h; cases h
    have h4 : x < 1000000 := by omega
    clear h3
    go_enter Try.func53, Try.ntmps53
    go_wp2; go_ret; exact ⟨rfl, rfl⟩

def tintF (area full : Int) : Int × Int :=
  if area < 0 ∨ 255 < area then (0, 3) else if full < 1 ∨ 1000000 < full then (0, 3) else if full = 1000000 then (0, 8) else (1000000 - rnd (area * (1000000 - full)) 255, 0)
theorem mul_bd {a b m n : Int} (h0 : 0 ≤ a) (h1 : a ≤ m) (h2 : 0 ≤ b) (h3 : b ≤ n) : 0 ≤ a * b ∧ a * b ≤ m * n :=
  ⟨Int.mul_nonneg h0 h2, Int.mul_le_mul h1 h3 h2 (by omega)⟩
theorem rnd_bd {n d m : Int} (hd : 0 < d) (h0 : 0 ≤ n) (h1 : n ≤ m) : 0 ≤ rnd n d ∧ rnd n d ≤ m + 1 := by
  unfold rnd
  have hd2 : 0 < 2 * d := by omega
  refine ⟨Int.ediv_nonneg (by omega) (by omega), ?_⟩
  have h2 : m * 1 ≤ m * d := Int.mul_le_mul_of_nonneg_left (by omega) (by omega)
  refine (div_bound (a := 0) (b := m + 1) hd2 (by omega) ?_).2
  rw [Int.add_mul, Int.mul_left_comm]
  omega
set_option maxHeartbeats 400000 in
theorem tint_is {area full a b : Int} (w : World) (h : tintF area full = (a, b)) :
    Calls Try.prog 20 #[.int .i64 area, .int .i64 full] w fun e w' => e = .returned (.tuple #[.int .i64 a, .int .i64 b]) ∧ w = w' := by
  unfold tintF at h
  by_cases h1 : area < 0
  · rw [if_pos (.inl h1)] at h; cases h
    go_enter Try.func20, Try.ntmps20
    go_wp2; go_ret2; exact ⟨rfl, rfl⟩
  by_cases h2 : 255 < area
  · rw [if_pos (.inr h2)] at h; cases h
    go_enter Try.func20, Try.ntmps20
    go_wp2; go_ret2; exact ⟨rfl, rfl⟩
  rw [if_neg (by omega)] at h
  by_cases h3 : full < 1 ∨ 1000000 < full
  · rw [if_pos h3] at h; cases h
    have hs : solidF full = 3 := by unfold solidF; rw [if_pos h3]
    have HS := Lib.hid hs
    clear hs h3
    go_enter Try.func20, Try.ntmps20
    go_wp2_with (go_at_call 53; refine (solid_is _ HS.out).mono ?_; rintro e w' ⟨rfl, rfl⟩)
    go_ret2; exact ⟨rfl, rfl⟩
  rw [if_neg h3] at h
  by_cases h4 : full = 1000000
  · rw [if_pos h4] at h; cases h
    have hs : solidF full = 8 := by unfold solidF; rw [if_neg h3, if_pos h4]
    have HS := Lib.hid hs
    clear hs h3 h4
    go_enter Try.func20, Try.ntmps20
    go_wp2_with (go_at_call 53; refine (solid_is _ HS.out).mono ?_; rintro e w' ⟨rfl, rfl⟩)
    go_ret2; exact ⟨rfl, rfl⟩
  · rw [if_neg h4] at h; cases h
    have hs : solidF full = 0 := by unfold solidF; rw [if_neg h3, if_neg h4]
    have HS := Lib.hid hs
    obtain ⟨m1, m2⟩ := mul_bd (a := area) (b := 1000000 - full) (m := 255) (n := 1000000) (by omega) (by omega) (by omega) (by omega)
    obtain ⟨r1, r2⟩ := rnd_bd (d := 255) (by omega) m1 m2
    have f1 : 1 ≤ full := by omega
    have f2 : full ≤ 1000000 := by omega
    clear hs h3 h4
    go_enter Try.func20, Try.ntmps20
    go_wp2_with (first | (go_at_call 53; refine (solid_is _ HS.out).mono ?_; rintro e w' ⟨rfl, rfl⟩) | (go_at_call 54; refine (nearest_any _ _ _ (by omega) (by omega) (by omega) (by omega)).mono ?_; rintro e w' ⟨rfl, rfl⟩))
    go_ret2; exact ⟨rfl, rfl⟩
end Go.Proofs.Ytlbnicapkfmdoaa
