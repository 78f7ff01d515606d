/- The least value with at least a response: the reference's formula. -/
import Derived.Test.YtdfocbeejgcglaaOr
namespace Go.Proofs.Ytdfocbeejgcglaa

/-- a/b rounded up -/
def up (a b : Int) : Int := -(-a / b)
theorem up_le {a b m : Int} (hb : 0 < b) : up a b ≤ m ↔ a ≤ m * b := by
  unfold up
  have h := Int.le_ediv_iff_mul_le (a := -m) (b := -a) hb
  rw [Int.neg_mul] at h
  omega
theorem up_nonneg {a b : Int} (hb : 0 < b) (h : 0 ≤ a) : 0 ≤ up a b := by
  have := (up_le (a := a) (b := b) (m := -1) hb).1
  rcases (show up a b < 0 ∨ 0 ≤ up a b by omega) with h1 | h1
  · have := this (by omega); omega
  · exact h1
def valV (f w : Int) : Int := if f ≤ 1379 then 0 else if f < 2069 then min (min (up (8856894509 * w) 1000000000000) (up ((f - 1379) * 108 * w) 8410000)) 300000 else min (up (f * f * f * w) 1000000000000) 300000
theorem valV_bd {f w : Int} (hw : 0 ≤ w) : 0 ≤ valV f w ∧ valV f w ≤ 300000 := by
  unfold valV
  split
  · omega
  · split
    · have h1 := up_nonneg (a := 8856894509 * w) (b := 1000000000000) (by omega) (by omega)
      have h2 := up_nonneg (a := (f - 1379) * 108 * w) (b := 8410000) (by omega) (Int.mul_nonneg (by omega) hw)
      omega
    · have h1 := up_nonneg (a := f * f * f * w) (b := 1000000000000) (by omega) (Int.mul_nonneg (Int.mul_nonneg (Int.mul_nonneg (by omega) (by omega)) (by omega)) hw)
      omega
theorem root_iff {v w : Int} (hv : 0 ≤ v) (hv1 : v ≤ 300000) (hw : 80000 ≤ w) (g : Nat) : g ≤ rootV v w ↔ (g : Int) * g * g * w ≤ v * 1000000000000 := by
  obtain ⟨h1, h2, h3⟩ := rootV_spec hv hv1 hw
  have hp : ∀ n, cubeP v w (n + 1) = true → cubeP v w n = true := fun n => cubeP_anti (by omega) n
  constructor
  · intro h
    exact of_decide_eq_true (anti hp _ h h1)
  · intro h
    rcases Nat.lt_or_ge (rootV v w) g with h4 | h4
    · have := anti hp g (show rootV v w + 1 ≤ g by omega) (decide_eq_true h)
      rw [h2] at this; cases this
    · exact h4
theorem val_iff {f w m : Int} (hw : 80000 ≤ w) (hm : 0 ≤ m) (hm1 : m < 300000) : f ≤ respV m w ↔ valV f w ≤ m := by
  have hr := root_iff (v := m) (w := w) hm (by omega) hw
  have h20 := hr 2069
  rw [show ((2069 : Nat) : Int) * (2069 : Nat) * (2069 : Nat) = 8856894509 by decide] at h20
  have hq : ∀ k : Int, k ≤ m * 8410000 / (108 * w) ↔ k * (108 * w) ≤ m * 8410000 := fun k => Int.le_ediv_iff_mul_le (by omega)
  unfold respV valV
  have q0 := (hq 0).2 (by omega)
  by_cases h1 : f ≤ 1379
  · rw [if_pos h1]
    split <;> omega
  rw [if_neg h1]
  by_cases h2 : f < 2069
  · rw [if_pos h2]
    have u1 := up_le (a := 8856894509 * w) (b := 1000000000000) (m := m) (by omega)
    have u2 := up_le (a := (f - 1379) * 108 * w) (b := 8410000) (m := m) (by omega)
    have q1 := hq (f - 1379)
    rw [← Int.mul_assoc] at q1
    split <;> omega
  · rw [if_neg h2]
    have u1 := up_le (a := f * f * f * w) (b := 1000000000000) (m := m) (by omega)
    have hf := hr f.toNat
    rw [Int.toNat_of_nonneg (by omega)] at hf
    split
    · have q2 : ¬ 690 ≤ m * 8410000 / (108 * w) := by rw [hq]; omega
      omega
    · omega
end Go.Proofs.Ytdfocbeejgcglaa
