/- Walks of refspace.response and R.Response. -/
import Derived.Test.YtdfocbeejgcglaaOr
import Derived.Test.YtdfocbeejgcglaaMem
import Derived.Deep.LoopGhost
namespace Go.Proofs.Ytdfocbeejgcglaa
open Go.RowKit

set_option maxRecDepth 20000 in
set_option maxHeartbeats 2000000 in
theorem response_any (v w0 : Int) (w : World) (hv : 0 ≤ v) (hv1 : v ≤ 300000) (hw : 80000 ≤ w0) (hw1 : w0 ≤ 120000) :
    Calls Try.prog 67 #[.int .i64 v, .int .i64 w0] w fun e w' => e = .returned (.int .i64 (respV v w0)) ∧ w = w' := by
  have HV := Lib.hid (show respV v w0 = if (rootV v w0 : Int) < 2069 then v * 8410000 / (108 * w0) + 1379 else rootV v w0 from rfl)
  have HR := rootV_spec hv hv1 hw
  have HR3 := HR.2.2
  have hr := Lib.hid HR
  clear HR
  go_enter Try.func67, Try.ntmps67
  go_wp2
  go_loopg [5, 6, 7] 15 (fun gk f b _ wr => ∃ (m F : Nat), wr = w ∧ f = .int .i64 F ∧ F = m * 2 ^ gk ∧ F < 32768 ∧ gk ≤ 15 ∧ b = .int .i64 (2 ^ gk / 2 : Nat) ∧ Hid (bsr (cubeP v w0) gk F = rootV v w0))
  case atStart => exact ⟨0, 0, rfl, rfl, rfl, by omega, by omega, rfl, rfl⟩
  case round =>
    obtain ⟨m, F, rfl, rfl, hF, hF1, hk, rfl, hB⟩ := hrel
    cases gk with
    | zero =>
      have hFR : F = rootV v w0 := hB.out
      have hRF := Lib.hid hFR.symm
      clear hFR hB hF
      have z : ((2 ^ 0 / 2 : Nat) : Int) = 0 := rfl
      rw [z]
      clear z
      by_cases hlt : (F : Int) < 2069
      · have hV := Lib.hid (show respV v w0 = v * 8410000 / (108 * w0) + 1379 from HV.out.trans (by rw [hRF.out]; exact if_pos hlt))
        have q0 : 0 ≤ v * 8410000 / (108 * w0) := Int.ediv_nonneg (by omega) (by omega)
        have q1 : v * 8410000 / (108 * w0) ≤ v * 8410000 := Int.ediv_le_self _ (by omega)
        have qt : (v * 8410000).tdiv (108 * w0) = v * 8410000 / (108 * w0) := Int.tdiv_eq_ediv_of_nonneg (by omega)
        generalize v * 8410000 / (108 * w0) = q at *
        go_wp2
        go_ret
        exact ⟨ret_int hV.out.symm, rfl⟩
      · have hge : (2069 : Int) ≤ F := by omega
        have hV := Lib.hid (show respV v w0 = F from HV.out.trans (by rw [hRF.out]; exact if_neg hlt))
        clear hlt
        go_wp2
        go_ret
        exact ⟨ret_int hV.out.symm, rfl⟩
    | succ k =>
      have hp : 2 ^ (k + 1) ≤ 2 ^ 15 := Nat.pow_le_pow_right (by omega) hk
      have e : 2 ^ (k + 1) = 2 ^ k + 2 ^ k := by rw [Nat.pow_succ]; omega
      have hor := or_bit m k (by omega) (by omega)
      have hFB : F + 2 ^ k < 32768 := by
        have hm : m * 2 ^ (k + 1) < 2 ^ 15 := by omega
        have : m < 2 ^ (15 - (k + 1)) := by
          refine Nat.lt_of_mul_lt_mul_right (a := 2 ^ (k + 1)) ?_
          rw [← Nat.pow_add]; rwa [show 15 - (k + 1) + (k + 1) = 15 by omega]
        have h3 : (m + 1) * 2 ^ (k + 1) ≤ 2 ^ (15 - (k + 1)) * 2 ^ (k + 1) := Nat.mul_le_mul_right _ (by omega)
        rw [← Nat.pow_add, show 15 - (k + 1) + (k + 1) = 15 by omega, Nat.add_mul] at h3
        have := Nat.two_pow_pos k
        omega
      rw [← hF] at hor
      have hb0 := Nat.two_pow_pos k
      have z : ((2 ^ (k + 1) / 2 : Nat) : Int) = ((2 ^ k : Nat) : Int) := by rw [e]; congr 1; omega
      have hm1 : F + 2 ^ k = (2 * m + 1) * 2 ^ k := by rw [hF, e, Nat.mul_add, Nat.add_mul, Nat.mul_assoc]; omega
      have hm2 : F = 2 * m * 2 ^ k := by rw [hF, e, Nat.mul_add, Nat.mul_assoc]; omega
      rw [z]
      have hz2 : ((2 ^ k : Nat) : Int) / 2 = ((2 ^ k / 2 : Nat) : Int) := by simp
      have hB := Lib.hid (show bsr (cubeP v w0) k (if cubeP v w0 (F + 2 ^ k) = true then F + 2 ^ k else F) = rootV v w0 from hB.out)
      have HM1 := Lib.hid hm1
      have HM2 := Lib.hid hm2
      generalize hB2 : 2 ^ k = B at *
      have HZ := Lib.hid hz2
      have HB2 := Lib.hid hB2
      clear hm1 hm2 hF hp e z hz2
      generalize hG : F + B = G at *
      have HG := Lib.hid hG
      have s0 : (0 : Int) ≤ (G : Int) := by omega
      have s1 : (G : Int) ≤ 32767 := by omega
      have m1 := Int.mul_le_mul s1 s1 s0 (by omega)
      have m1' := Int.mul_nonneg s0 s0
      have m2 := Int.mul_le_mul m1 s1 s0 (by omega)
      have m2' := Int.mul_nonneg m1' s0
      have m3 := Int.mul_le_mul m2 hw1 (by omega) (by omega)
      have m3' := Int.mul_nonneg m2' (show 0 ≤ w0 by omega)
      have i1 := i64_in (a := (G : Int) * G) (by omega) (by omega)
      have i2 := i64_in (a := (G : Int) * G * G) (by omega) (by omega)
      have i3 := i64_in (a := (G : Int) * G * G * w0) (by omega) (by omega)
      have hBp : (0 : Int) < (B : Int) := by omega
      clear m1 m1' m2 m2' m3 m3'
      by_cases hc : (G : Int) * G * G * w0 ≤ v * 1000000000000
      · have HC := Lib.hid (show cubeP v w0 G = true from decide_eq_true hc)
        clear hG hB2
        go_wp2
        go_roundg k
        case measure => omega
        case rel => exact ⟨2 * m + 1, G, rfl, rfl, by rw [HB2.out]; exact HM1.out, by omega, by omega, by rw [HB2.out, ← HZ.out], (by have := hB.out; rw [HC.out] at this; exact this)⟩
      · have hc' : v * 1000000000000 < (G : Int) * G * G * w0 := by omega
        have HC := Lib.hid (show cubeP v w0 G = false from decide_eq_false hc)
        clear hG hB2 hc
        go_wp2
        go_roundg k
        case measure => omega
        case rel => exact ⟨2 * m, F, rfl, rfl, by rw [HB2.out]; exact HM2.out, by omega, by omega, by rw [HB2.out, ← HZ.out], (by have := hB.out; rw [HC.out] at this; exact this)⟩
end Go.Proofs.Ytdfocbeejgcglaa
