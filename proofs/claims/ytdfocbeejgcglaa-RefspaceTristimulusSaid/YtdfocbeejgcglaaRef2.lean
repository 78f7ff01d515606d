/- Walks of the small functions of refspace and of the reference: Response, Check, CheckXYZ, CheckWhite, LabErr, XYZErr, cut. -/
import Derived.Test.YtdfocbeejgcglaaRef1
namespace Go.Proofs.Ytdfocbeejgcglaa
open Go.RowKit

set_option maxRecDepth 20000 in
set_option maxHeartbeats 2000000 in
theorem rresponse_any (v w0 : Int) (w : World) (hv : 0 ≤ v) (hv1 : v ≤ 300000) (hw : 80000 ≤ w0) (hw1 : w0 ≤ 120000) :
    Calls Try.prog 22 #[.int .i64 v, .int .i64 w0] w fun e w' => e = .returned (.int .i64 (respV v w0)) ∧ w = w' := by
  have HV := Lib.hid (show respV v w0 = if (rootV v w0 : Int) < 2069 then v * 8410000 / (108 * w0) + 1379 else rootV v w0 from rfl)
  have HR := rootV_spec hv hv1 hw
  have HR3 := HR.2.2
  have hr := Lib.hid HR
  clear HR
  go_enter Try.func22, Try.ntmps22
  go_wp2
  go_loopg [5] 32768 (fun gk f wr => ∃ F : Nat, wr = w ∧ f = .int .i64 F ∧ F + gk = 32768 ∧ F ≤ rootV v w0)
  case atStart => exact ⟨0, rfl, rfl, rfl, Nat.zero_le _⟩
  case round =>
    obtain ⟨F, rfl, rfl, hk, hF⟩ := hrel
    have s0 : (0 : Int) ≤ (F : Int) + 1 := by omega
    have s1 : (F : Int) + 1 ≤ 32768 := by omega
    have m1 := Int.mul_le_mul s1 s1 s0 (by omega)
    have m1' := Int.mul_nonneg s0 s0
    have m2 := Int.mul_le_mul m1 s1 s0 (by omega)
    have m2' := Int.mul_nonneg m1' s0
    have m3 := Int.mul_le_mul m2 hw1 (by omega) (by omega)
    have m3' := Int.mul_nonneg m2' (show 0 ≤ w0 by omega)
    have i0 := i64_in (a := (F : Int) + 1) (by omega) (by omega)
    have i1 := i64_in (a := ((F : Int) + 1) * (F + 1)) (by omega) (by omega)
    have i2 := i64_in (a := ((F : Int) + 1) * (F + 1) * (F + 1)) (by omega) (by omega)
    have i3 := i64_in (a := ((F : Int) + 1) * (F + 1) * (F + 1) * w0) (by omega) (by omega)
    clear m1 m1' m2 m2' m3 m3'
    by_cases hlt : F < rootV v w0
    · have hc : ((F : Int) + 1) * (F + 1) * (F + 1) * w0 ≤ v * 1000000000000 := by
        have := anti (p := cubeP v w0) (fun n => cubeP_anti (by omega) n) (a := F + 1) _ (by omega) hr.out.1
        exact of_decide_eq_true this
      go_wp2
      go_roundg (gk - 1)
      case measure => omega
      case rel => exact ⟨F + 1, rfl, rfl, by omega, by omega⟩
    · have hFR : F = rootV v w0 := by omega
      have hc : v * 1000000000000 < ((F : Int) + 1) * (F + 1) * (F + 1) * w0 := by
        have := hr.out.2.1
        rw [← hFR] at this
        have := of_decide_eq_false this
        have e : (((F + 1 : Nat) : Int)) = (F : Int) + 1 := by omega
        rw [e] at this
        omega
      have hRF := Lib.hid hFR.symm
      clear hFR hlt hF hk s0 s1 HR3
      by_cases hge : (F : Int) < 2069
      · have hV := Lib.hid (show respV v w0 = v * 8410000 / (108 * w0) + 1379 from HV.out.trans (by rw [hRF.out]; exact if_pos hge))
        have q0 : 0 ≤ v * 8410000 / (108 * w0) := Int.ediv_nonneg (by omega) (by omega)
        have q1 : v * 8410000 / (108 * w0) ≤ v * 8410000 := Int.ediv_le_self _ (by omega)
        go_wp2_with (go_at_call 27; refine (floor_any _ _ _ (by omega) (by omega) (by omega) (by omega)).mono ?_; rintro e w' ⟨rfl, rfl⟩)
        go_ret
        exact ⟨ret_int hV.out.symm, rfl⟩
      · have hge' : (2069 : Int) ≤ F := by omega
        have hV := Lib.hid (show respV v w0 = F from HV.out.trans (by rw [hRF.out]; exact if_neg hge))
        clear hge
        go_wp2
        go_ret
        exact ⟨ret_int hV.out.symm, rfl⟩

def respF (v w0 : Int) : Int × Int := if v < 0 ∨ 300000 < v ∨ w0 < 80000 ∨ 120000 < w0 then (0, 3) else (respV v w0, 0)
theorem resp_is {v w0 p q : Int} (w : World) (hF : respF v w0 = (p, q)) :
    Calls Try.prog 16 #[.int .i64 v, .int .i64 w0] w fun e w' => e = .returned (.tuple #[.int .i64 p, .int .i64 q]) ∧ w = w' := by
  unfold respF at hF
  by_cases hc : v < 0 ∨ 300000 < v ∨ w0 < 80000 ∨ 120000 < w0
  · rw [if_pos hc] at hF
    obtain ⟨rfl, rfl⟩ := Prod.mk.inj hF
    rcases (show v < 0 ∨ (0 ≤ v ∧ 300000 < v) ∨ (0 ≤ v ∧ v ≤ 300000 ∧ w0 < 80000) ∨ (0 ≤ v ∧ v ≤ 300000 ∧ 80000 ≤ w0 ∧ 120000 < w0) by omega) with g | ⟨g1, g2⟩ | ⟨g1, g2, g3⟩ | ⟨g1, g2, g3, g4⟩
    all_goals
      clear hc
      go_enter Try.func16, Try.ntmps16
      go_wp2
      go_ret2
      exact ⟨rfl, rfl⟩
  · rw [if_neg hc] at hF
    obtain ⟨rfl, rfl⟩ := Prod.mk.inj hF
    clear hF
    obtain ⟨g1, g2, g3, g4⟩ : 0 ≤ v ∧ v ≤ 300000 ∧ 80000 ≤ w0 ∧ w0 ≤ 120000 := by omega
    clear hc
    go_enter Try.func16, Try.ntmps16
    go_wp2_with (go_at_call 67; refine (response_any _ _ _ g1 g2 g3 g4).mono ?_; rintro e w' ⟨rfl, rfl⟩)
    go_ret2
    exact ⟨rfl, rfl⟩

theorem cut_any (v l h : Int) (w : World) : Calls Try.prog 68 #[.int .i64 v, .int .i64 l, .int .i64 h] w fun e w' => e = .returned (.int .i64 (max l (min h v))) ∧ w = w' := by
  go_enter Try.func68, Try.ntmps68
  go_wp2
  all_goals
    go_ret
    exact ⟨ret_int (by omega), rfl⟩

/-- the error of a colour -/
def labE (l a b : Int) : Int := if within l 0 10000 && (within a (-12800) 12800 && within b (-12800) 12800) then 0 else 3
theorem labE_ok {l a b : Int} (h0 : 0 ≤ l ∧ l ≤ 10000) (h1 : -12800 ≤ a ∧ a ≤ 12800) (h2 : -12800 ≤ b ∧ b ≤ 12800) : labE l a b = 0 := by
  unfold labE; rw [within_mk h0.1 h0.2, within_mk h1.1 h1.2, within_mk h2.1 h2.2]; rfl
theorem labE_in {l a b : Int} (h : labE l a b = 0) : (0 ≤ l ∧ l ≤ 10000) ∧ (-12800 ≤ a ∧ a ≤ 12800) ∧ -12800 ≤ b ∧ b ≤ 12800 := by
  unfold labE at h
  split at h
  · rename_i h'
    simp only [Bool.and_eq_true] at h'
    exact ⟨within_iff.1 h'.1, within_iff.1 h'.2.1, within_iff.1 h'.2.2⟩
  · cases h
theorem labE_not {l a b : Int} (h : ¬ ((0 ≤ l ∧ l ≤ 10000) ∧ (-12800 ≤ a ∧ a ≤ 12800) ∧ -12800 ≤ b ∧ b ≤ 12800)) : labE l a b = 3 := by
  unfold labE
  rw [if_neg]
  intro h'
  simp only [Bool.and_eq_true] at h'
  exact h ⟨within_iff.1 h'.1, within_iff.1 h'.2.1, within_iff.1 h'.2.2⟩
set_option maxHeartbeats 1000000 in
theorem labcheck_any (l a b : Int) (w : World) : Calls Try.prog 26 #[.agg #[.int .i64 l, .int .i64 a, .int .i64 b]] w fun e w' => e = .returned (.int .i64 (labE l a b)) ∧ Below w.heap.size w w' := by
  rcases (show l < 0 ∨ (0 ≤ l ∧ 10000 < l) ∨ (0 ≤ l ∧ l ≤ 10000 ∧ a < -12800) ∨ (0 ≤ l ∧ l ≤ 10000 ∧ -12800 ≤ a ∧ 12800 < a) ∨ (0 ≤ l ∧ l ≤ 10000 ∧ -12800 ≤ a ∧ a ≤ 12800 ∧ b < -12800) ∨ (0 ≤ l ∧ l ≤ 10000 ∧ -12800 ≤ a ∧ a ≤ 12800 ∧ -12800 ≤ b ∧ 12800 < b) ∨ (0 ≤ l ∧ l ≤ 10000 ∧ -12800 ≤ a ∧ a ≤ 12800 ∧ -12800 ≤ b ∧ b ≤ 12800) by omega) with g | ⟨g1, g2⟩ | ⟨g1, g2, g3⟩ | ⟨g1, g2, g3, g4⟩ | ⟨g1, g2, g3, g4, g5⟩ | ⟨g1, g2, g3, g4, g5, g6⟩ | ⟨g1, g2, g3, g4, g5, g6⟩
  all_goals
    have hE := Lib.hid (show labE l a b = _ from by first | exact labE_ok ⟨by omega, by omega⟩ ⟨by omega, by omega⟩ ⟨by omega, by omega⟩ | exact labE_not (by omega))
    go_enter Try.func26, Try.ntmps26
    go_wp2
    go_ret
    exact ⟨ret_int hE.out.symm, (by repeat (first | assumption | exact Below.refl _ _ | refine below_drewN ?_ _ | refine Below.drew ?_ | refine Below.setCell ?_ (by first | exact Nat.le_refl _ | assumption | (simp; done) | (simp; omega) | omega) _ | refine Below.alloc ?_ (by first | exact Nat.le_refl _ | assumption | (simp; done) | omega | exact Below.size (by assumption) | (simp; omega)) _))⟩
set_option maxHeartbeats 1000000 in
theorem labErr_any (l a b : Int) (w : World) : Calls Try.prog 25 #[.agg #[.int .i64 l, .int .i64 a, .int .i64 b]] w fun e w' => e = .returned (.int .i64 (labE l a b)) ∧ Below w.heap.size w w' := by
  unfold labE
  cases h0 : within l 0 10000 <;> cases h1 : within a (-12800) 12800 <;> cases h2 : within b (-12800) 12800
  all_goals
    go_enter Try.func25, Try.ntmps25
    go_wp2_with (go_at_call 20; refine (within_any _ _ _ _).mono ?_; rintro e w' ⟨rfl, rfl⟩)
    go_ret
    exact ⟨rfl, (by repeat (first | assumption | exact Below.refl _ _ | refine below_drewN ?_ _ | refine Below.drew ?_ | refine Below.setCell ?_ (by first | exact Nat.le_refl _ | assumption | (simp; done) | (simp; omega) | omega) _ | refine Below.alloc ?_ (by first | exact Nat.le_refl _ | assumption | (simp; done) | omega | exact Below.size (by assumption) | (simp; omega)) _))⟩

/-- the error of three numbers from low to high -/
def xyzE (x y z l u : Int) : Int := if within x l u && (within y l u && within z l u) then 0 else 3
theorem xyzE_ok {x y z l u : Int} (h0 : l ≤ x ∧ x ≤ u) (h1 : l ≤ y ∧ y ≤ u) (h2 : l ≤ z ∧ z ≤ u) : xyzE x y z l u = 0 := by
  unfold xyzE; rw [within_mk h0.1 h0.2, within_mk h1.1 h1.2, within_mk h2.1 h2.2]; rfl
theorem xyzE_in {x y z l u : Int} (h : xyzE x y z l u = 0) : (l ≤ x ∧ x ≤ u) ∧ (l ≤ y ∧ y ≤ u) ∧ l ≤ z ∧ z ≤ u := by
  unfold xyzE at h
  split at h
  · rename_i h'
    simp only [Bool.and_eq_true] at h'
    exact ⟨within_iff.1 h'.1, within_iff.1 h'.2.1, within_iff.1 h'.2.2⟩
  · cases h
theorem xyzE_not {x y z l u : Int} (h : ¬ ((l ≤ x ∧ x ≤ u) ∧ (l ≤ y ∧ y ≤ u) ∧ l ≤ z ∧ z ≤ u)) : xyzE x y z l u = 3 := by
  unfold xyzE
  rw [if_neg]
  intro h'
  simp only [Bool.and_eq_true] at h'
  exact h ⟨within_iff.1 h'.1, within_iff.1 h'.2.1, within_iff.1 h'.2.2⟩
set_option maxHeartbeats 1000000 in
theorem xyzErr_any (x y z l h : Int) (w : World) : Calls Try.prog 17 #[.agg #[.int .i64 x, .int .i64 y, .int .i64 z], .int .i64 l, .int .i64 h] w fun e w' => e = .returned (.int .i64 (xyzE x y z l h)) ∧ Below w.heap.size w w' := by
  unfold xyzE
  cases h0 : within x l h <;> cases h1 : within y l h <;> cases h2 : within z l h
  all_goals
    go_enter Try.func17, Try.ntmps17
    go_wp2_with (go_at_call 20; refine (within_any _ _ _ _).mono ?_; rintro e w' ⟨rfl, rfl⟩)
    go_ret
    exact ⟨rfl, (by repeat (first | assumption | exact Below.refl _ _ | refine below_drewN ?_ _ | refine Below.drew ?_ | refine Below.setCell ?_ (by first | exact Nat.le_refl _ | assumption | (simp; done) | (simp; omega) | omega) _ | refine Below.alloc ?_ (by first | exact Nat.le_refl _ | assumption | (simp; done) | omega | exact Below.size (by assumption) | (simp; omega)) _))⟩

set_option maxRecDepth 20000 in
set_option maxHeartbeats 2000000 in
theorem xyzcheck_any (x y z : Int) (w : World) : Calls Try.prog 18 #[.agg #[.int .i64 x, .int .i64 y, .int .i64 z]] w fun e w' => e = .returned (.int .i64 (xyzE x y z 0 300000)) ∧ Below w.heap.size w w' := by
  have i0 : ∀ w, (Instr.index 95 (.agg #[.int .i64 x, .int .i64 y, .int .i64 z]) (.int .i64 0)).run Try.prog w = .ok (.int .i64 x) w := fun _ => by kernel_rfl
  have i1 : ∀ w, (Instr.index 95 (.agg #[.int .i64 x, .int .i64 y, .int .i64 z]) (.int .i64 1)).run Try.prog w = .ok (.int .i64 y) w := fun _ => by kernel_rfl
  have i2 : ∀ w, (Instr.index 95 (.agg #[.int .i64 x, .int .i64 y, .int .i64 z]) (.int .i64 2)).run Try.prog w = .ok (.int .i64 z) w := fun _ => by kernel_rfl
  go_enter Try.func18, Try.ntmps18
  go_wp2
  go_loopg [4, 12] 3 (fun gk _ i wr => ∃ k : Nat, k + gk = 3 ∧ i = .int .i64 k ∧ Below w.heap.size w wr ∧ Hid ((1 ≤ k → 0 ≤ x ∧ x ≤ 300000) ∧ (2 ≤ k → 0 ≤ y ∧ y ≤ 300000) ∧ (3 ≤ k → 0 ≤ z ∧ z ≤ 300000)))
  case atStart => exact ⟨0, rfl, rfl, (by repeat (first | assumption | exact Below.refl _ _ | refine below_drewN ?_ _ | refine Below.drew ?_ | refine Below.setCell ?_ (by first | exact Nat.le_refl _ | assumption | (simp; done) | (simp; omega) | omega) _ | refine Below.alloc ?_ (by first | exact Nat.le_refl _ | assumption | (simp; done) | omega | exact Below.size (by assumption) | (simp; omega)) _)), ⟨by omega, by omega, by omega⟩⟩
  case round =>
    obtain ⟨k, hk, rfl, hbel, hh⟩ := hrel
    have hh1 := hh.out.1
    have hh2 := hh.out.2.1
    have hh3 := hh.out.2.2
    have z0 : ((0 : Nat) : Int) = 0 := rfl
    have z1 : ((1 : Nat) : Int) = 1 := rfl
    have z2 : ((2 : Nat) : Int) = 2 := rfl
    have z3 : ((3 : Nat) : Int) = 3 := rfl
    rcases (show k = 0 ∨ k = 1 ∨ k = 2 ∨ k = 3 by omega) with rfl | rfl | rfl | rfl
    · rcases (show x < 0 ∨ (0 ≤ x ∧ 300000 < x) ∨ (0 ≤ x ∧ x ≤ 300000) by omega) with g | ⟨g, g'⟩ | ⟨g, g'⟩
      · have hE := Lib.hid (show xyzE x y z 0 300000 = 3 from xyzE_not (by omega))
        clear hh1 hh2 hh3
        go_wp2
        go_ret
        exact ⟨ret_int hE.out.symm, hbel⟩
      · have hE := Lib.hid (show xyzE x y z 0 300000 = 3 from xyzE_not (by omega))
        clear hh1 hh2 hh3
        go_wp2
        go_ret
        exact ⟨ret_int hE.out.symm, hbel⟩
      · have hN : (1 ≤ 1 → 0 ≤ x ∧ x ≤ 300000) ∧ (2 ≤ 1 → 0 ≤ y ∧ y ≤ 300000) ∧ (3 ≤ 1 → 0 ≤ z ∧ z ≤ 300000) := ⟨by omega, by omega, by omega⟩
        have HN := Lib.hid hN
        clear hh1 hh2 hh3 hN
        go_wp2
        go_roundg (gk - 1)
        case measure => omega
        case rel => exact ⟨1, by omega, rfl, hbel, HN⟩
    · rcases (show y < 0 ∨ (0 ≤ y ∧ 300000 < y) ∨ (0 ≤ y ∧ y ≤ 300000) by omega) with g | ⟨g, g'⟩ | ⟨g, g'⟩
      · have hE := Lib.hid (show xyzE x y z 0 300000 = 3 from xyzE_not (by omega))
        clear hh1 hh2 hh3
        go_wp2
        go_ret
        exact ⟨ret_int hE.out.symm, hbel⟩
      · have hE := Lib.hid (show xyzE x y z 0 300000 = 3 from xyzE_not (by omega))
        clear hh1 hh2 hh3
        go_wp2
        go_ret
        exact ⟨ret_int hE.out.symm, hbel⟩
      · have hN : (1 ≤ 2 → 0 ≤ x ∧ x ≤ 300000) ∧ (2 ≤ 2 → 0 ≤ y ∧ y ≤ 300000) ∧ (3 ≤ 2 → 0 ≤ z ∧ z ≤ 300000) := ⟨by omega, by omega, by omega⟩
        have HN := Lib.hid hN
        clear hh1 hh2 hh3 hN
        go_wp2
        go_roundg (gk - 1)
        case measure => omega
        case rel => exact ⟨2, by omega, rfl, hbel, HN⟩
    · rcases (show z < 0 ∨ (0 ≤ z ∧ 300000 < z) ∨ (0 ≤ z ∧ z ≤ 300000) by omega) with g | ⟨g, g'⟩ | ⟨g, g'⟩
      · have hE := Lib.hid (show xyzE x y z 0 300000 = 3 from xyzE_not (by omega))
        clear hh1 hh2 hh3
        go_wp2
        go_ret
        exact ⟨ret_int hE.out.symm, hbel⟩
      · have hE := Lib.hid (show xyzE x y z 0 300000 = 3 from xyzE_not (by omega))
        clear hh1 hh2 hh3
        go_wp2
        go_ret
        exact ⟨ret_int hE.out.symm, hbel⟩
      · have hN : (1 ≤ 3 → 0 ≤ x ∧ x ≤ 300000) ∧ (2 ≤ 3 → 0 ≤ y ∧ y ≤ 300000) ∧ (3 ≤ 3 → 0 ≤ z ∧ z ≤ 300000) := ⟨by omega, by omega, by omega⟩
        have HN := Lib.hid hN
        clear hh1 hh2 hh3 hN
        go_wp2
        go_roundg (gk - 1)
        case measure => omega
        case rel => exact ⟨3, by omega, rfl, hbel, HN⟩
    · have hE := Lib.hid (show xyzE x y z 0 300000 = 0 from xyzE_ok (hh1 (by omega)) (hh2 (by omega)) (hh3 (by omega)))
      clear hh1 hh2 hh3
      go_wp2
      go_ret
      exact ⟨ret_int hE.out.symm, hbel⟩

set_option maxRecDepth 20000 in
set_option maxHeartbeats 2000000 in
theorem white_any (x y z : Int) (w : World) : Calls Try.prog 19 #[.agg #[.int .i64 x, .int .i64 y, .int .i64 z]] w fun e w' => e = .returned (.int .i64 (xyzE x y z 80000 120000)) ∧ Below w.heap.size w w' := by
  have i0 : ∀ w, (Instr.index 95 (.agg #[.int .i64 x, .int .i64 y, .int .i64 z]) (.int .i64 0)).run Try.prog w = .ok (.int .i64 x) w := fun _ => by kernel_rfl
  have i1 : ∀ w, (Instr.index 95 (.agg #[.int .i64 x, .int .i64 y, .int .i64 z]) (.int .i64 1)).run Try.prog w = .ok (.int .i64 y) w := fun _ => by kernel_rfl
  have i2 : ∀ w, (Instr.index 95 (.agg #[.int .i64 x, .int .i64 y, .int .i64 z]) (.int .i64 2)).run Try.prog w = .ok (.int .i64 z) w := fun _ => by kernel_rfl
  go_enter Try.func19, Try.ntmps19
  go_wp2
  go_loopg [4, 12] 3 (fun gk _ i wr => ∃ k : Nat, k + gk = 3 ∧ i = .int .i64 k ∧ Below w.heap.size w wr ∧ Hid ((1 ≤ k → 80000 ≤ x ∧ x ≤ 120000) ∧ (2 ≤ k → 80000 ≤ y ∧ y ≤ 120000) ∧ (3 ≤ k → 80000 ≤ z ∧ z ≤ 120000)))
  case atStart => exact ⟨0, rfl, rfl, (by repeat (first | assumption | exact Below.refl _ _ | refine below_drewN ?_ _ | refine Below.drew ?_ | refine Below.setCell ?_ (by first | exact Nat.le_refl _ | assumption | (simp; done) | (simp; omega) | omega) _ | refine Below.alloc ?_ (by first | exact Nat.le_refl _ | assumption | (simp; done) | omega | exact Below.size (by assumption) | (simp; omega)) _)), ⟨by omega, by omega, by omega⟩⟩
  case round =>
    obtain ⟨k, hk, rfl, hbel, hh⟩ := hrel
    have hh1 := hh.out.1
    have hh2 := hh.out.2.1
    have hh3 := hh.out.2.2
    have z0 : ((0 : Nat) : Int) = 0 := rfl
    have z1 : ((1 : Nat) : Int) = 1 := rfl
    have z2 : ((2 : Nat) : Int) = 2 := rfl
    have z3 : ((3 : Nat) : Int) = 3 := rfl
    rcases (show k = 0 ∨ k = 1 ∨ k = 2 ∨ k = 3 by omega) with rfl | rfl | rfl | rfl
    · rcases (show x < 80000 ∨ (80000 ≤ x ∧ 120000 < x) ∨ (80000 ≤ x ∧ x ≤ 120000) by omega) with g | ⟨g, g'⟩ | ⟨g, g'⟩
      · have hE := Lib.hid (show xyzE x y z 80000 120000 = 3 from xyzE_not (by omega))
        clear hh1 hh2 hh3
        go_wp2
        go_ret
        exact ⟨ret_int hE.out.symm, hbel⟩
      · have hE := Lib.hid (show xyzE x y z 80000 120000 = 3 from xyzE_not (by omega))
        clear hh1 hh2 hh3
        go_wp2
        go_ret
        exact ⟨ret_int hE.out.symm, hbel⟩
      · have hN : (1 ≤ 1 → 80000 ≤ x ∧ x ≤ 120000) ∧ (2 ≤ 1 → 80000 ≤ y ∧ y ≤ 120000) ∧ (3 ≤ 1 → 80000 ≤ z ∧ z ≤ 120000) := ⟨by omega, by omega, by omega⟩
        have HN := Lib.hid hN
        clear hh1 hh2 hh3 hN
        go_wp2
        go_roundg (gk - 1)
        case measure => omega
        case rel => exact ⟨1, by omega, rfl, hbel, HN⟩
    · rcases (show y < 80000 ∨ (80000 ≤ y ∧ 120000 < y) ∨ (80000 ≤ y ∧ y ≤ 120000) by omega) with g | ⟨g, g'⟩ | ⟨g, g'⟩
      · have hE := Lib.hid (show xyzE x y z 80000 120000 = 3 from xyzE_not (by omega))
        clear hh1 hh2 hh3
        go_wp2
        go_ret
        exact ⟨ret_int hE.out.symm, hbel⟩
      · have hE := Lib.hid (show xyzE x y z 80000 120000 = 3 from xyzE_not (by omega))
        clear hh1 hh2 hh3
        go_wp2
        go_ret
        exact ⟨ret_int hE.out.symm, hbel⟩
      · have hN : (1 ≤ 2 → 80000 ≤ x ∧ x ≤ 120000) ∧ (2 ≤ 2 → 80000 ≤ y ∧ y ≤ 120000) ∧ (3 ≤ 2 → 80000 ≤ z ∧ z ≤ 120000) := ⟨by omega, by omega, by omega⟩
        have HN := Lib.hid hN
        clear hh1 hh2 hh3 hN
        go_wp2
        go_roundg (gk - 1)
        case measure => omega
        case rel => exact ⟨2, by omega, rfl, hbel, HN⟩
    · rcases (show z < 80000 ∨ (80000 ≤ z ∧ 120000 < z) ∨ (80000 ≤ z ∧ z ≤ 120000) by omega) with g | ⟨g, g'⟩ | ⟨g, g'⟩
      · have hE := Lib.hid (show xyzE x y z 80000 120000 = 3 from xyzE_not (by omega))
        clear hh1 hh2 hh3
        go_wp2
        go_ret
        exact ⟨ret_int hE.out.symm, hbel⟩
      · have hE := Lib.hid (show xyzE x y z 80000 120000 = 3 from xyzE_not (by omega))
        clear hh1 hh2 hh3
        go_wp2
        go_ret
        exact ⟨ret_int hE.out.symm, hbel⟩
      · have hN : (1 ≤ 3 → 80000 ≤ x ∧ x ≤ 120000) ∧ (2 ≤ 3 → 80000 ≤ y ∧ y ≤ 120000) ∧ (3 ≤ 3 → 80000 ≤ z ∧ z ≤ 120000) := ⟨by omega, by omega, by omega⟩
        have HN := Lib.hid hN
        clear hh1 hh2 hh3 hN
        go_wp2
        go_roundg (gk - 1)
        case measure => omega
        case rel => exact ⟨3, by omega, rfl, hbel, HN⟩
    · have hE := Lib.hid (show xyzE x y z 80000 120000 = 0 from xyzE_ok (hh1 (by omega)) (hh2 (by omega)) (hh3 (by omega)))
      clear hh1 hh2 hh3
      go_wp2
      go_ret
      exact ⟨ret_int hE.out.symm, hbel⟩
end Go.Proofs.Ytdfocbeejgcglaa
