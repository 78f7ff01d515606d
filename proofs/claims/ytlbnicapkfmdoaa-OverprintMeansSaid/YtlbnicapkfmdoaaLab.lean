/- Walks of refspace.Check and of the reference's LabErr. -/
import Derived.Test.YtlbnicapkfmdoaaMem
namespace Go.Proofs.Ytlbnicapkfmdoaa
open Go.RowKit

/-- the error of a colour -/
def labE (l a b : Int) : Int := if within l 0 10000 && (within a (-12800) 12800 && within b (-12800) 12800) then 0 else 3
theorem labE_ok {l a b : Int} (h0 : 0 ≤ l ∧ l ≤ 10000) (h1 : -12800 ≤ a ∧ a ≤ 12800) (h2 : -12800 ≤ b ∧ b ≤ 12800) : labE l a b = 0 := by
  unfold labE; rw [within_mk h0.1 h0.2, within_mk h1.1 h1.2, within_mk h2.1 h2.2]; rfl
theorem labE_in {l a b : Int} (h : labE l a b = 0) : (0 ≤ l ∧ l ≤ 10000) ∧ (-12800 ≤ a ∧ a ≤ 12800) ∧ -12800 ≤ b ∧ b ≤ 12800 := by
  unfold labE at h
  split at h
  · rename_i h'
    simp only [Bool.and_eq_true] at h'
    exact ⟨within_iff.1 h'.1, within_iff.1 h'.2.1, within_iff.1 h'.2.2⟩
  · cases h
theorem labE_not {l a b : Int} (h : ¬ ((0 ≤ l ∧ l ≤ 10000) ∧ (-12800 ≤ a ∧ a ≤ 12800) ∧ -12800 ≤ b ∧ b ≤ 12800)) : labE l a b = 3 := by
  unfold labE
  rw [if_neg]
  intro h'
  simp only [Bool.and_eq_true] at h'
  exact h ⟨within_iff.1 h'.1, within_iff.1 h'.2.1, within_iff.1 h'.2.2⟩
set_option maxHeartbeats 1000000 in
theorem labcheck_any (l a b : Int) (w : World) : Calls Try.prog 60 #[.agg #[.int .i64 l, .int .i64 a, .int .i64 b]] w fun e w' => e = .returned (.int .i64 (labE l a b)) ∧ Below w.heap.size w w' := by
  rcases (show l < 0 ∨ (0 ≤ l ∧ 10000 < l) ∨ (0 ≤ l ∧ l ≤ 10000 ∧ a < -12800) ∨ (0 ≤ l ∧ l ≤ 10000 ∧ -12800 ≤ a ∧ 12800 < a) ∨ (0 ≤ l ∧ l ≤ 10000 ∧ -12800 ≤ a ∧ a ≤ 12800 ∧ b < -12800) ∨ (0 ≤ l ∧ l ≤ 10000 ∧ -12800 ≤ a ∧ a ≤ 12800 ∧ -12800 ≤ b ∧ 12800 < b) ∨ (0 ≤ l ∧ l ≤ 10000 ∧ -12800 ≤ a ∧ a ≤ 12800 ∧ -12800 ≤ b ∧ b ≤ 12800) by omega) with g | ⟨g1, g2⟩ | ⟨g1, g2, g3⟩ | ⟨g1, g2, g3, g4⟩ | ⟨g1, g2, g3, g4, g5⟩ | ⟨g1, g2, g3, g4, g5, g6⟩ | ⟨g1, g2, g3, g4, g5, g6⟩
  all_goals
    have hE := Lib.hid (show labE l a b = _ from by first | exact labE_ok ⟨by omega, by omega⟩ ⟨by omega, by omega⟩ ⟨by omega, by omega⟩ | exact labE_not (by omega))
    go_enter Try.func60, Try.ntmps60
    go_wp2
    go_ret
    exact ⟨ret_int hE.out.symm, (by repeat (first | assumption | exact Below.refl _ _ | refine below_drewN ?_ _ | refine Below.drew ?_ | refine Below.setCell ?_ (by first | exact Nat.le_refl _ | assumption | (simp; done) | (simp; omega) | omega) _ | refine Below.alloc ?_ (by first | exact Nat.le_refl _ | assumption | (simp; done) | omega | exact Below.size (by assumption) | (simp; omega)) _))⟩
set_option maxHeartbeats 1000000 in
theorem labErr_any (l a b : Int) (w : World) : Calls Try.prog 32 #[.agg #[.int .i64 l, .int .i64 a, .int .i64 b]] w fun e w' => e = .returned (.int .i64 (labE l a b)) ∧ Below w.heap.size w w' := by
  unfold labE
  cases h0 : within l 0 10000 <;> cases h1 : within a (-12800) 12800 <;> cases h2 : within b (-12800) 12800
  all_goals
    go_enter Try.func32, Try.ntmps32
    go_wp2_with (go_at_call 16; refine (within_any _ _ _ _).mono ?_; rintro e w' ⟨rfl, rfl⟩)
    go_ret
    exact ⟨rfl, (by repeat (first | assumption | exact Below.refl _ _ | refine below_drewN ?_ _ | refine Below.drew ?_ | refine Below.setCell ?_ (by first | exact Nat.le_refl _ | assumption | (simp; done) | (simp; omega) | omega) _ | refine Below.alloc ?_ (by first | exact Nat.le_refl _ | assumption | (simp; done) | omega | exact Below.size (by assumption) | (simp; omega)) _))⟩

/-- a colour within its bounds -/
structure LabOk (l a b : Int) : Prop where
  l0 : 0 ≤ l
  l1 : l ≤ 10000
  a0 : -12800 ≤ a
  a1 : a ≤ 12800
  b0 : -12800 ≤ b
  b1 : b ≤ 12800
theorem labOk {l a b : Int} (h : labE l a b = 0) : LabOk l a b := by
  obtain ⟨⟨h1, h2⟩, ⟨h3, h4⟩, h5, h6⟩ := labE_in h
  exact ⟨h1, h2, h3, h4, h5, h6⟩
theorem labE_cases (l a b : Int) : labE l a b = 0 ∨ labE l a b = 3 := by unfold labE; split <;> simp
end Go.Proofs.Ytlbnicapkfmdoaa
