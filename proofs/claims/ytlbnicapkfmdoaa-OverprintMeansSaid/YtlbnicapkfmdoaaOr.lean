/- The bitwise or of small numbers; a root found bit by bit. -/
import Derived.Test.YtlbnicapkfmdoaaNum
namespace Go.Proofs.Ytlbnicapkfmdoaa
open Go.RowKit

theorem or_i64 (a b : Nat) (ha : a < 9223372036854775808) (hb : b < 9223372036854775808) : bits .or .i64 a b = ((a ||| b : Nat) : Int) := by
  have h := Nat.or_lt_two_pow (n := 63) (x := a) (y := b) (by omega) (by omega)
  unfold bits
  simp
  rw [Nat.mod_eq_of_lt (by show a < 2 ^ 64; omega), Nat.mod_eq_of_lt (by show b < 2 ^ 64; omega), IntKind.wrap_i64]
  omega
theorem or_bit (m k : Nat) (h : m * 2 ^ (k + 1) < 4611686018427387904) (hk : k < 60) : bits .or .i64 ((m * 2 ^ (k + 1) : Nat) : Int) ((2 ^ k : Nat) : Int) = ((m * 2 ^ (k + 1) + 2 ^ k : Nat) : Int) := by
  have h2 : 2 ^ k < 2 ^ (k + 1) := by rw [Nat.pow_succ]; have := Nat.two_pow_pos k; omega
  have h3 : 2 ^ k ≤ 2 ^ 60 := Nat.pow_le_pow_right (by omega) (by omega)
  rw [or_i64 _ _ (by omega) (by omega), Nat.mul_comm m, Nat.two_pow_add_eq_or_of_lt h2]
/-- the greatest number with p, bit by bit -/
def bsr (p : Nat → Bool) : Nat → Nat → Nat
  | 0, f => f
  | k + 1, f => bsr p k (if p (f + 2 ^ k) = true then f + 2 ^ k else f)
theorem bsr_spec {p : Nat → Bool} (hp : ∀ n, p (n + 1) = true → p n = true) : ∀ k f, p f = true → p (f + 2 ^ k) = false → p (bsr p k f) = true ∧ p (bsr p k f + 1) = false ∧ f ≤ bsr p k f ∧ bsr p k f < f + 2 ^ k
  | 0, f, h0, h1 => ⟨h0, h1, Nat.le_refl _, by simp [bsr]⟩
  | k + 1, f, h0, h1 => by
    unfold bsr
    have e : 2 ^ (k + 1) = 2 ^ k + 2 ^ k := by rw [Nat.pow_succ]; omega
    by_cases hc : p (f + 2 ^ k) = true
    · rw [if_pos hc]
      obtain ⟨g1, g2, g3, g4⟩ := bsr_spec hp k (f + 2 ^ k) hc (by rw [Nat.add_assoc, ← e]; exact h1)
      exact ⟨g1, g2, by omega, by omega⟩
    · rw [if_neg hc]
      obtain ⟨g1, g2, g3, g4⟩ := bsr_spec hp k f h0 (by simpa using hc)
      exact ⟨g1, g2, by omega, by omega⟩
theorem anti {p : Nat → Bool} (hp : ∀ n, p (n + 1) = true → p n = true) {a : Nat} : ∀ b, a ≤ b → p b = true → p a = true := by
  intro b hab hb
  obtain ⟨d, rfl⟩ : ∃ d, b = a + d := ⟨b - a, by omega⟩
  clear hab
  induction d with
  | zero => exact hb
  | succ d ih => exact ih (hp _ hb)
theorem root_one {p : Nat → Bool} (hp : ∀ n, p (n + 1) = true → p n = true) {a b : Nat} (h1 : p a = true) (h2 : p (a + 1) = false) (h3 : p b = true) (h4 : p (b + 1) = false) : a = b := by
  rcases Nat.lt_trichotomy a b with h | h | h
  · have := anti hp b (show a + 1 ≤ b by omega) h3; rw [h2] at this; cases this
  · exact h
  · have := anti hp a (show b + 1 ≤ a by omega) h1; rw [h4] at this; cases this

/-- the numbers whose cube, times w, is at most v billions of thousands -/
def cubeP (v w : Int) (g : Nat) : Bool := decide ((g : Int) * g * g * w ≤ v * 1000000000000)
theorem cube_up (a b : Nat) (h : a ≤ b) : a * a * a ≤ b * b * b := Nat.mul_le_mul (Nat.mul_le_mul h h) h
theorem cubeP_anti {v w : Int} (hw : 0 ≤ w) (n : Nat) (h : cubeP v w (n + 1) = true) : cubeP v w n = true := by
  unfold cubeP at *
  have h := of_decide_eq_true h
  refine decide_eq_true (Int.le_trans ?_ h)
  have := cube_up n (n + 1) (by omega)
  exact Int.mul_le_mul_of_nonneg_right (by have := Int.ofNat_le.2 this; simpa using this) hw
def rootV (v w : Int) : Nat := bsr (cubeP v w) 15 0
def respV (v w : Int) : Int := if (rootV v w : Int) < 2069 then v * 8410000 / (108 * w) + 1379 else rootV v w
theorem rootV_spec {v w : Int} (hv : 0 ≤ v) (hv1 : v ≤ 300000) (hw : 80000 ≤ w) : cubeP v w (rootV v w) = true ∧ cubeP v w (rootV v w + 1) = false ∧ rootV v w < 32768 := by
  obtain ⟨g1, g2, g3, g4⟩ := bsr_spec (p := cubeP v w) (fun n => cubeP_anti (by omega) n) 15 0 (by unfold cubeP; exact decide_eq_true (by simp; omega)) (by unfold cubeP; exact decide_eq_false (by show ¬ (32768 : Int) * 32768 * 32768 * w ≤ _; omega))
  exact ⟨g1, g2, by unfold rootV; omega⟩
end Go.Proofs.Ytlbnicapkfmdoaa
