/- Walks of Far, Square, Distance of refspace and of the reference's Far. -/
import Derived.Test.YtdfocbeejgcglaaRef2
namespace Go.Proofs.Ytdfocbeejgcglaa
open Go.RowKit

theorem sq_bd {d m : Int} (h : -m ≤ d) (h' : d ≤ m) : 0 ≤ d * d ∧ d * d ≤ m * m := by
  have e1 : (d.natAbs : Int) * d.natAbs = d * d := Int.natAbs_mul_self
  have e3 : (d.natAbs : Int) ≤ m := by omega
  have := Int.mul_le_mul e3 e3 (by omega) (by omega)
  have h0 : 0 ≤ (d.natAbs : Int) * d.natAbs := Int.mul_nonneg (by omega) (by omega)
  omega
def farV (l a b l' a' b' : Int) : Int := (l - l') * (l - l') + (a - a') * (a - a') + (b - b') * (b - b')
/-- a colour within its bounds -/
structure LabOk (l a b : Int) : Prop where
  l0 : 0 ≤ l
  l1 : l ≤ 10000
  a0 : -12800 ≤ a
  a1 : a ≤ 12800
  b0 : -12800 ≤ b
  b1 : b ≤ 12800
theorem labOk {l a b : Int} (h : labE l a b = 0) : LabOk l a b := by
  obtain ⟨⟨h1, h2⟩, ⟨h3, h4⟩, h5, h6⟩ := labE_in h
  exact ⟨h1, h2, h3, h4, h5, h6⟩
theorem labE_cases (l a b : Int) : labE l a b = 0 ∨ labE l a b = 3 := by unfold labE; split <;> simp
theorem farV_bd {l a b l' a' b' : Int} (h : LabOk l a b) (h' : LabOk l' a' b') : 0 ≤ farV l a b l' a' b' ∧ farV l a b l' a' b' ≤ 1410720000 := by
  obtain ⟨h1, h2, h3, h4, h5, h6⟩ := h
  obtain ⟨k1, k2, k3, k4, k5, k6⟩ := h'
  have s1 := sq_bd (d := l - l') (m := 10000) (by omega) (by omega)
  have s2 := sq_bd (d := a - a') (m := 25600) (by omega) (by omega)
  have s3 := sq_bd (d := b - b') (m := 25600) (by omega) (by omega)
  unfold farV
  omega
set_option maxHeartbeats 1000000 in
theorem far_any {l a b l' a' b' : Int} (w : World) (h : LabOk l a b) (h' : LabOk l' a' b') :
    Calls Try.prog 71 #[.agg #[.int .i64 l, .int .i64 a, .int .i64 b], .agg #[.int .i64 l', .int .i64 a', .int .i64 b']] w fun e w' => e = .returned (.int .i64 (farV l a b l' a' b')) ∧ Below w.heap.size w w' := by
  have hV := Lib.hid (show farV l a b l' a' b' = (l - l') * (l - l') + (a - a') * (a - a') + (b - b') * (b - b') from rfl)
  obtain ⟨h1, h2, h3, h4, h5, h6⟩ := h
  obtain ⟨k1, k2, k3, k4, k5, k6⟩ := h'
  obtain ⟨s1, s1'⟩ := sq_bd (d := l - l') (m := 10000) (by omega) (by omega)
  obtain ⟨s2, s2'⟩ := sq_bd (d := a - a') (m := 25600) (by omega) (by omega)
  obtain ⟨s3, s3'⟩ := sq_bd (d := b - b') (m := 25600) (by omega) (by omega)
  have i1 := i64_in (a := l - l') (by omega) (by omega)
  have i2 := i64_in (a := a - a') (by omega) (by omega)
  have i3 := i64_in (a := b - b') (by omega) (by omega)
  have i4 := i64_in (a := (l - l') * (l - l')) (by omega) (by omega)
  have i5 := i64_in (a := (a - a') * (a - a')) (by omega) (by omega)
  have i6 := i64_in (a := (b - b') * (b - b')) (by omega) (by omega)
  have i7 := i64_in (a := (l - l') * (l - l') + (a - a') * (a - a')) (by omega) (by omega)
  have i8 := i64_in (a := (l - l') * (l - l') + (a - a') * (a - a') + (b - b') * (b - b')) (by omega) (by omega)
  clear s1 s1' s2 s2' s3 s3'
  go_enter Try.func71, Try.ntmps71
  go_upto_region 1 with fail
  go_quiet (fail)
  go_wp2
  go_ret
  exact ⟨ret_int hV.out.symm, (by repeat (first | assumption | exact Below.refl _ _ | refine below_drewN ?_ _ | refine Below.drew ?_ | refine Below.setCell ?_ (by first | exact Nat.le_refl _ | assumption | (simp; done) | (simp; omega) | omega) _ | refine Below.alloc ?_ (by first | exact Nat.le_refl _ | assumption | (simp; done) | omega | exact Below.size (by assumption) | (simp; omega)) _))⟩
set_option maxHeartbeats 1000000 in
theorem rfar_any {l a b l' a' b' : Int} (w : World) (h : LabOk l a b) (h' : LabOk l' a' b') :
    Calls Try.prog 33 #[.agg #[.int .i64 l, .int .i64 a, .int .i64 b], .agg #[.int .i64 l', .int .i64 a', .int .i64 b']] w fun e w' => e = .returned (.int .i64 (farV l a b l' a' b')) ∧ Below w.heap.size w w' := by
  have hV := Lib.hid (show farV l a b l' a' b' = (l - l') * (l - l') + (a - a') * (a - a') + (b - b') * (b - b') from rfl)
  obtain ⟨h1, h2, h3, h4, h5, h6⟩ := h
  obtain ⟨k1, k2, k3, k4, k5, k6⟩ := h'
  obtain ⟨s1, s1'⟩ := sq_bd (d := l - l') (m := 10000) (by omega) (by omega)
  obtain ⟨s2, s2'⟩ := sq_bd (d := a - a') (m := 25600) (by omega) (by omega)
  obtain ⟨s3, s3'⟩ := sq_bd (d := b - b') (m := 25600) (by omega) (by omega)
  have i1 := i64_in (a := l - l') (by omega) (by omega)
  have i2 := i64_in (a := a - a') (by omega) (by omega)
  have i3 := i64_in (a := b - b') (by omega) (by omega)
  have i4 := i64_in (a := (l - l') * (l - l')) (by omega) (by omega)
  have i5 := i64_in (a := (a - a') * (a - a')) (by omega) (by omega)
  have i6 := i64_in (a := (b - b') * (b - b')) (by omega) (by omega)
  have i7 := i64_in (a := (l - l') * (l - l') + (a - a') * (a - a')) (by omega) (by omega)
  have i8 := i64_in (a := (l - l') * (l - l') + (a - a') * (a - a') + (b - b') * (b - b')) (by omega) (by omega)
  clear s1 s1' s2 s2' s3 s3'
  go_enter Try.func33, Try.ntmps33
  go_wp2
  go_ret
  exact ⟨ret_int hV.out.symm, (by repeat (first | assumption | exact Below.refl _ _ | refine below_drewN ?_ _ | refine Below.drew ?_ | refine Below.setCell ?_ (by first | exact Nat.le_refl _ | assumption | (simp; done) | (simp; omega) | omega) _ | refine Below.alloc ?_ (by first | exact Nat.le_refl _ | assumption | (simp; done) | omega | exact Below.size (by assumption) | (simp; omega)) _))⟩

def sqF (l a b l' a' b' : Int) : Int × Int := if labE l a b ≠ 0 ∨ labE l' a' b' ≠ 0 then (0, 3) else (farV l a b l' a' b', 0)
set_option maxHeartbeats 1000000 in
theorem square_is {l a b l' a' b' p q : Int} (w : World) (hF : sqF l a b l' a' b' = (p, q)) :
    Calls Try.prog 30 #[.agg #[.int .i64 l, .int .i64 a, .int .i64 b], .agg #[.int .i64 l', .int .i64 a', .int .i64 b']] w fun e w' => e = .returned (.tuple #[.int .i64 p, .int .i64 q]) ∧ Below w.heap.size w w' := by
  unfold sqF at hF
  have hacc : Below w.heap.size w ((w.alloc (.cells #[.int .i64 l, .int .i64 a, .int .i64 b] 26)).alloc (.cells #[.int .i64 l', .int .i64 a', .int .i64 b'] 26)) := (by repeat (first | assumption | exact Below.refl _ _ | refine below_drewN ?_ _ | refine Below.drew ?_ | refine Below.setCell ?_ (by first | exact Nat.le_refl _ | assumption | (simp; done) | (simp; omega) | omega) _ | refine Below.alloc ?_ (by first | exact Nat.le_refl _ | assumption | (simp; done) | omega | exact Below.size (by assumption) | (simp; omega)) _))
  have p0 : ((w.alloc (.cells #[.int .i64 l, .int .i64 a, .int .i64 b] 26)).alloc (.cells #[.int .i64 l', .int .i64 a', .int .i64 b'] 26)).cell? ⟨w.heap.size, 0, none⟩ = some (.int .i64 l) := by simp [go_sem]
  have p1 : ((w.alloc (.cells #[.int .i64 l, .int .i64 a, .int .i64 b] 26)).alloc (.cells #[.int .i64 l', .int .i64 a', .int .i64 b'] 26)).cell? ⟨w.heap.size, 1, none⟩ = some (.int .i64 a) := by simp [go_sem]
  have p2 : ((w.alloc (.cells #[.int .i64 l, .int .i64 a, .int .i64 b] 26)).alloc (.cells #[.int .i64 l', .int .i64 a', .int .i64 b'] 26)).cell? ⟨w.heap.size, 2, none⟩ = some (.int .i64 b) := by simp [go_sem]
  have q0 : ((w.alloc (.cells #[.int .i64 l, .int .i64 a, .int .i64 b] 26)).alloc (.cells #[.int .i64 l', .int .i64 a', .int .i64 b'] 26)).cell? ⟨w.heap.size + 1, 0, none⟩ = some (.int .i64 l') := by simp [go_sem]
  have q1 : ((w.alloc (.cells #[.int .i64 l, .int .i64 a, .int .i64 b] 26)).alloc (.cells #[.int .i64 l', .int .i64 a', .int .i64 b'] 26)).cell? ⟨w.heap.size + 1, 1, none⟩ = some (.int .i64 a') := by simp [go_sem]
  have q2 : ((w.alloc (.cells #[.int .i64 l, .int .i64 a, .int .i64 b] 26)).alloc (.cells #[.int .i64 l', .int .i64 a', .int .i64 b'] 26)).cell? ⟨w.heap.size + 1, 2, none⟩ = some (.int .i64 b') := by simp [go_sem]
  rcases labE_cases l a b with he | he
  · rcases labE_cases l' a' b' with he' | he'
    · rw [if_neg (by omega)] at hF
      obtain ⟨rfl, rfl⟩ := Prod.mk.inj hF
      have ho := labOk he
      have ho' := labOk he'
      have x1 : (labE l a b != 0) = false := by simp [he]
      have x2 : (labE l' a' b' != 0) = false := by simp [he']
      clear hF he he'
      go_enter Try.func30, Try.ntmps30
      go_wp2_with (first | (go_at_call 26; refine (labcheck_any _ _ _ _).mono ?_; rintro e wa ⟨rfl, hb⟩; have p0 := cell_kept hb p0; have p1 := cell_kept hb p1; have p2 := cell_kept hb p2; have q0 := cell_kept hb q0; have q1 := cell_kept hb q1; have q2 := cell_kept hb q2; have hacc := hacc.trans (hb.mono hacc.size); clear hb) | (go_at_call 71; refine (far_any _ ho ho').mono ?_; rintro e wb ⟨rfl, hb⟩; have p0 := cell_kept hb p0; have p1 := cell_kept hb p1; have p2 := cell_kept hb p2; have q0 := cell_kept hb q0; have q1 := cell_kept hb q1; have q2 := cell_kept hb q2; have hacc := hacc.trans (hb.mono hacc.size); clear hb))
      go_ret2
      exact ⟨rfl, hacc⟩
    · rw [if_pos (by omega)] at hF
      obtain ⟨rfl, rfl⟩ := Prod.mk.inj hF
      have x1 : (labE l a b != 0) = false := by simp [he]
      have x2 : (labE l' a' b' != 0) = true := by simp [he']
      have X3 := Lib.hid he'
      clear hF he he'
      go_enter Try.func30, Try.ntmps30
      go_wp2_with (first | (go_at_call 26; refine (labcheck_any _ _ _ _).mono ?_; rintro e wa ⟨rfl, hb⟩; have p0 := cell_kept hb p0; have p1 := cell_kept hb p1; have p2 := cell_kept hb p2; have q0 := cell_kept hb q0; have q1 := cell_kept hb q1; have q2 := cell_kept hb q2; have hacc := hacc.trans (hb.mono hacc.size); clear hb) | (go_at_call 71; refine (far_any _ ho ho').mono ?_; rintro e wb ⟨rfl, hb⟩; have p0 := cell_kept hb p0; have p1 := cell_kept hb p1; have p2 := cell_kept hb p2; have q0 := cell_kept hb q0; have q1 := cell_kept hb q1; have q2 := cell_kept hb q2; have hacc := hacc.trans (hb.mono hacc.size); clear hb))
      go_ret2
      exact ⟨by rw [X3.out] <;> rfl, hacc⟩
  · rw [if_pos (by omega)] at hF
    obtain ⟨rfl, rfl⟩ := Prod.mk.inj hF
    have x1 : (labE l a b != 0) = true := by simp [he]
    have X3 := Lib.hid he
    clear hF he
    go_enter Try.func30, Try.ntmps30
    go_wp2_with (first | (go_at_call 26; refine (labcheck_any _ _ _ _).mono ?_; rintro e wa ⟨rfl, hb⟩; have p0 := cell_kept hb p0; have p1 := cell_kept hb p1; have p2 := cell_kept hb p2; have q0 := cell_kept hb q0; have q1 := cell_kept hb q1; have q2 := cell_kept hb q2; have hacc := hacc.trans (hb.mono hacc.size); clear hb) | (go_at_call 71; refine (far_any _ ho ho').mono ?_; rintro e wb ⟨rfl, hb⟩; have p0 := cell_kept hb p0; have p1 := cell_kept hb p1; have p2 := cell_kept hb p2; have q0 := cell_kept hb q0; have q1 := cell_kept hb q1; have q2 := cell_kept hb q2; have hacc := hacc.trans (hb.mono hacc.size); clear hb))
    go_ret2
    exact ⟨by rw [X3.out] <;> rfl, hacc⟩

def sqP (s : Int) (n : Nat) : Bool := decide ((n : Int) * n ≤ s)
theorem sqP_anti {s : Int} (n : Nat) (h : sqP s (n + 1) = true) : sqP s n = true := by
  unfold sqP at *
  have h := of_decide_eq_true h
  refine decide_eq_true (Int.le_trans ?_ h)
  have := Nat.mul_le_mul (show n ≤ n + 1 by omega) (show n ≤ n + 1 by omega)
  have := Int.ofNat_le.2 this
  simpa using this
def distV (s : Int) : Nat := bsr (sqP s) 17 0
theorem distV_spec {s : Int} (h0 : 0 ≤ s) (h1 : s ≤ 1410720000) : sqP s (distV s) = true ∧ sqP s (distV s + 1) = false ∧ distV s < 131072 := by
  obtain ⟨g1, g2, g3, g4⟩ := bsr_spec (p := sqP s) sqP_anti 17 0 (by unfold sqP; exact decide_eq_true (by simp; omega)) (by unfold sqP; exact decide_eq_false (by show ¬ (131072 : Int) * 131072 ≤ _; omega))
  exact ⟨g1, g2, by unfold distV; omega⟩
def distF (l a b l' a' b' : Int) : Int × Int := if labE l a b ≠ 0 ∨ labE l' a' b' ≠ 0 then (0, 3) else (distV (farV l a b l' a' b'), 0)
set_option maxRecDepth 20000 in
set_option maxHeartbeats 2000000 in
theorem distance_is {l a b l' a' b' p q : Int} (w : World) (hF : distF l a b l' a' b' = (p, q)) :
    Calls Try.prog 31 #[.agg #[.int .i64 l, .int .i64 a, .int .i64 b], .agg #[.int .i64 l', .int .i64 a', .int .i64 b']] w fun e w' => e = .returned (.tuple #[.int .i64 p, .int .i64 q]) ∧ Below w.heap.size w w' := by
  unfold distF at hF
  have hacc : Below w.heap.size w ((w.alloc (.cells #[.int .i64 l, .int .i64 a, .int .i64 b] 26)).alloc (.cells #[.int .i64 l', .int .i64 a', .int .i64 b'] 26)) := (by repeat (first | assumption | exact Below.refl _ _ | refine below_drewN ?_ _ | refine Below.drew ?_ | refine Below.setCell ?_ (by first | exact Nat.le_refl _ | assumption | (simp; done) | (simp; omega) | omega) _ | refine Below.alloc ?_ (by first | exact Nat.le_refl _ | assumption | (simp; done) | omega | exact Below.size (by assumption) | (simp; omega)) _))
  have p0 : ((w.alloc (.cells #[.int .i64 l, .int .i64 a, .int .i64 b] 26)).alloc (.cells #[.int .i64 l', .int .i64 a', .int .i64 b'] 26)).cell? ⟨w.heap.size, 0, none⟩ = some (.int .i64 l) := by simp [go_sem]
  have p1 : ((w.alloc (.cells #[.int .i64 l, .int .i64 a, .int .i64 b] 26)).alloc (.cells #[.int .i64 l', .int .i64 a', .int .i64 b'] 26)).cell? ⟨w.heap.size, 1, none⟩ = some (.int .i64 a) := by simp [go_sem]
  have p2 : ((w.alloc (.cells #[.int .i64 l, .int .i64 a, .int .i64 b] 26)).alloc (.cells #[.int .i64 l', .int .i64 a', .int .i64 b'] 26)).cell? ⟨w.heap.size, 2, none⟩ = some (.int .i64 b) := by simp [go_sem]
  have q0 : ((w.alloc (.cells #[.int .i64 l, .int .i64 a, .int .i64 b] 26)).alloc (.cells #[.int .i64 l', .int .i64 a', .int .i64 b'] 26)).cell? ⟨w.heap.size + 1, 0, none⟩ = some (.int .i64 l') := by simp [go_sem]
  have q1 : ((w.alloc (.cells #[.int .i64 l, .int .i64 a, .int .i64 b] 26)).alloc (.cells #[.int .i64 l', .int .i64 a', .int .i64 b'] 26)).cell? ⟨w.heap.size + 1, 1, none⟩ = some (.int .i64 a') := by simp [go_sem]
  have q2 : ((w.alloc (.cells #[.int .i64 l, .int .i64 a, .int .i64 b] 26)).alloc (.cells #[.int .i64 l', .int .i64 a', .int .i64 b'] 26)).cell? ⟨w.heap.size + 1, 2, none⟩ = some (.int .i64 b') := by simp [go_sem]
  by_cases hc : labE l a b ≠ 0 ∨ labE l' a' b' ≠ 0
  · rw [if_pos hc] at hF
    obtain ⟨rfl, rfl⟩ := Prod.mk.inj hF
    have HS := Lib.hid (show sqF l a b l' a' b' = (0, 3) from if_pos hc)
    clear hF hc
    go_enter Try.func31, Try.ntmps31
    go_wp2_with (go_at_call 30; refine (square_is _ HS.out).mono ?_; rintro e wa ⟨rfl, hb⟩; have p0 := cell_kept hb p0; have p1 := cell_kept hb p1; have p2 := cell_kept hb p2; have q0 := cell_kept hb q0; have q1 := cell_kept hb q1; have q2 := cell_kept hb q2; have hacc := hacc.trans (hb.mono hacc.size); clear hb)
    go_ret2
    exact ⟨rfl, hacc⟩
  · rw [if_neg hc] at hF
    obtain ⟨rfl, rfl⟩ := Prod.mk.inj hF
    have HS := Lib.hid (show sqF l a b l' a' b' = (farV l a b l' a' b', 0) from if_neg hc)
    obtain ⟨f0, f1⟩ := farV_bd (labOk (show labE l a b = 0 by omega)) (labOk (show labE l' a' b' = 0 by omega))
    clear hF hc
    generalize farV l a b l' a' b' = s at *
    have HR := distV_spec f0 f1
    have hr := Lib.hid HR
    clear HR
    go_enter Try.func31, Try.ntmps31
    go_wp2_with (go_at_call 30; refine (square_is _ HS.out).mono ?_; rintro e wa ⟨rfl, hb⟩; have p0 := cell_kept hb p0; have p1 := cell_kept hb p1; have p2 := cell_kept hb p2; have q0 := cell_kept hb q0; have q1 := cell_kept hb q1; have q2 := cell_kept hb q2; have hacc := hacc.trans (hb.mono hacc.size); clear hb)
    go_loopg [8, 9, 10] 17 (fun gk f b _ wr => ∃ (m F : Nat), wr = wa ∧ f = .int .i64 F ∧ F = m * 2 ^ gk ∧ F < 131072 ∧ gk ≤ 17 ∧ b = .int .i64 (2 ^ gk / 2 : Nat) ∧ Hid (bsr (sqP s) gk F = distV s))
    case atStart => exact ⟨0, 0, rfl, rfl, rfl, by omega, by omega, rfl, rfl⟩
    case round =>
      obtain ⟨m, F, rfl, rfl, hF, hF1, hk, rfl, hB⟩ := hrel
      cases gk with
      | zero =>
        have hFR : F = distV s := hB.out
        have hRF := Lib.hid hFR.symm
        clear hFR hB hF hk hF1
        have z : ((2 ^ 0 / 2 : Nat) : Int) = 0 := rfl
        rw [z]
        clear z
        go_wp2
        go_ret2
        exact ⟨by rw [hRF.out] <;> rfl, hacc⟩
      | succ k =>
        have hp : 2 ^ (k + 1) ≤ 2 ^ 17 := Nat.pow_le_pow_right (by omega) hk
        have e : 2 ^ (k + 1) = 2 ^ k + 2 ^ k := by rw [Nat.pow_succ]; omega
        have hor := or_bit m k (by omega) (by omega)
        have hFB : F + 2 ^ k < 131072 := by
          have hm : m * 2 ^ (k + 1) < 2 ^ 17 := by omega
          have : m < 2 ^ (17 - (k + 1)) := by
            refine Nat.lt_of_mul_lt_mul_right (a := 2 ^ (k + 1)) ?_
            rw [← Nat.pow_add]; rwa [show 17 - (k + 1) + (k + 1) = 17 by omega]
          have h3 : (m + 1) * 2 ^ (k + 1) ≤ 2 ^ (17 - (k + 1)) * 2 ^ (k + 1) := Nat.mul_le_mul_right _ (by omega)
          rw [← Nat.pow_add, show 17 - (k + 1) + (k + 1) = 17 by omega, Nat.add_mul] at h3
          have := Nat.two_pow_pos k
          omega
        rw [← hF] at hor
        have hb0 := Nat.two_pow_pos k
        have z : ((2 ^ (k + 1) / 2 : Nat) : Int) = ((2 ^ k : Nat) : Int) := by rw [e]; congr 1; omega
        have hm1 : F + 2 ^ k = (2 * m + 1) * 2 ^ k := by rw [hF, e, Nat.mul_add, Nat.add_mul, Nat.mul_assoc]; omega
        have hm2 : F = 2 * m * 2 ^ k := by rw [hF, e, Nat.mul_add, Nat.mul_assoc]; omega
        rw [z]
        have hz2 : ((2 ^ k : Nat) : Int) / 2 = ((2 ^ k / 2 : Nat) : Int) := by simp
        have hB := Lib.hid (show bsr (sqP s) k (if sqP s (F + 2 ^ k) = true then F + 2 ^ k else F) = distV s from hB.out)
        have HM1 := Lib.hid hm1
        have HM2 := Lib.hid hm2
        generalize hB2 : 2 ^ k = B at *
        have HZ := Lib.hid hz2
        have HB2 := Lib.hid hB2
        clear hm1 hm2 hF hp e z hz2
        generalize hG : F + B = G at *
        have s0 : (0 : Int) ≤ (G : Int) := by omega
        have s1 : (G : Int) ≤ 131071 := by omega
        have m1 := Int.mul_le_mul s1 s1 s0 (by omega)
        have m1' := Int.mul_nonneg s0 s0
        have i1 := i64_in (a := (G : Int) * G) (by omega) (by omega)
        have hBp : (0 : Int) < (B : Int) := by omega
        clear m1 m1' hG hB2
        by_cases hc : (G : Int) * G ≤ s
        · have HC := Lib.hid (show sqP s G = true from decide_eq_true hc)
          go_wp2
          go_roundg k
          case measure => omega
          case rel => exact ⟨2 * m + 1, G, rfl, rfl, by rw [HB2.out]; exact HM1.out, by omega, by omega, by rw [HB2.out, ← HZ.out], (by have := hB.out; rw [HC.out] at this; exact this)⟩
        · have hc' : s < (G : Int) * G := by omega
          have HC := Lib.hid (show sqP s G = false from decide_eq_false hc)
          clear hc
          go_wp2
          go_roundg k
          case measure => omega
          case rel => exact ⟨2 * m, F, rfl, rfl, by rw [HB2.out]; exact HM2.out, by omega, by omega, by rw [HB2.out, ← HZ.out], (by have := hB.out; rw [HC.out] at this; exact this)⟩
end Go.Proofs.Ytdfocbeejgcglaa
