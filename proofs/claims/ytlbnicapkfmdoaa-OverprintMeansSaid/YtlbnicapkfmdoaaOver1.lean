/- Walks of overprint.kind and Combine. -/
import Derived.Test.YtlbnicapkfmdoaaOwn2
import Derived.Test.YtlbnicapkfmdoaaKp
namespace Go.Proofs.Ytlbnicapkfmdoaa
open Go.RowKit

def combV (k b a : Int) : Int := if k = 0 then a else if k = 1 then (if 0 < a then a else b) else if k = 2 then max b a else 255 - rnd ((255 - b) * (255 - a)) 255
def kindV (k : Int) : Value := if k = 0 then .func (.func 70) #[] #[] else if k = 1 then .func (.func 71) #[] #[] else if k = 2 then .func (.func 72) #[] #[] else .func (.func 73) #[] #[]
theorem kind_0 (w : World) : Calls Try.prog 57 #[.int .i64 0] w fun e w' => e = .returned (.func (.func 70) #[] #[]) ∧ w = w' := by
  go_enter Try.func57, Try.ntmps57
  go_wp2
  go_ret
  exact ⟨rfl, rfl⟩
theorem kind_1 (w : World) : Calls Try.prog 57 #[.int .i64 1] w fun e w' => e = .returned (.func (.func 71) #[] #[]) ∧ w = w' := by
  go_enter Try.func57, Try.ntmps57
  go_wp2
  go_ret
  exact ⟨rfl, rfl⟩
theorem kind_2 (w : World) : Calls Try.prog 57 #[.int .i64 2] w fun e w' => e = .returned (.func (.func 72) #[] #[]) ∧ w = w' := by
  go_enter Try.func57, Try.ntmps57
  go_wp2
  go_ret
  exact ⟨rfl, rfl⟩
theorem kind_3 (w : World) : Calls Try.prog 57 #[.int .i64 3] w fun e w' => e = .returned (.func (.func 73) #[] #[]) ∧ w = w' := by
  go_enter Try.func57, Try.ntmps57
  go_wp2
  go_ret
  exact ⟨rfl, rfl⟩
theorem kind_no (k : Int) (w : World) (h : k < 0 ∨ 3 < k) : Calls Try.prog 57 #[.int .i64 k] w fun e w' => e = .returned .nilFunc ∧ w = w' := by
  have h0 : (k == 0) = false := by rw [beq_eq_false_iff_ne]; omega
  have h1 : (k == 1) = false := by rw [beq_eq_false_iff_ne]; omega
  have h2 : (k == 2) = false := by rw [beq_eq_false_iff_ne]; omega
  have h3 : (k == 3) = false := by rw [beq_eq_false_iff_ne]; omega
  clear h
  go_enter Try.func57, Try.ntmps57
  go_wp2
  go_ret
  exact ⟨rfl, rfl⟩
theorem comb_0 (b a : Int) (w : World) : Calls Try.prog 70 #[.int .i64 b, .int .i64 a] w fun e w' => e = .returned (.int .i64 (combV 0 b a)) ∧ w = w' := by
  go_enter Try.func70, Try.ntmps70
  go_wp2
  go_ret
  exact ⟨rfl, rfl⟩
theorem comb_1 (b a : Int) (w : World) : Calls Try.prog 71 #[.int .i64 b, .int .i64 a] w fun e w' => e = .returned (.int .i64 (combV 1 b a)) ∧ w = w' := by
  by_cases h : 0 < a
  · have hV := Lib.hid (show combV 1 b a = a from if_pos h)
    go_enter Try.func71, Try.ntmps71
    go_wp2
    go_ret
    exact ⟨ret_int hV.out.symm, rfl⟩
  · have hV := Lib.hid (show combV 1 b a = b from if_neg h)
    have h' : a ≤ 0 := by omega
    clear h
    go_enter Try.func71, Try.ntmps71
    go_wp2
    go_ret
    exact ⟨ret_int hV.out.symm, rfl⟩
theorem comb_2 (b a : Int) (w : World) : Calls Try.prog 72 #[.int .i64 b, .int .i64 a] w fun e w' => e = .returned (.int .i64 (combV 2 b a)) ∧ w = w' := by
  have hV := Lib.hid (show combV 2 b a = max b a from rfl)
  obtain ⟨m, hm⟩ : ∃ m, m = max b a := ⟨_, rfl⟩
  have k1 : (if b < a then a else b) = m := by omega
  have HM := Lib.hid hm
  clear hm
  go_enter Try.func72, Try.ntmps72
  go_wp2
  go_ret
  exact ⟨ret_int (by rw [hV.out, HM.out]), rfl⟩
theorem comb_3 (b a : Int) (w : World) (hb : 0 ≤ b) (hb1 : b ≤ 255) (ha : 0 ≤ a) (ha1 : a ≤ 255) : Calls Try.prog 73 #[.int .i64 b, .int .i64 a] w fun e w' => e = .returned (.int .i64 (combV 3 b a)) ∧ w = w' := by
  have hV := Lib.hid (show combV 3 b a = 255 - rnd ((255 - b) * (255 - a)) 255 from rfl)
  obtain ⟨m1, m2⟩ := mul_bd (a := 255 - b) (b := 255 - a) (m := 255) (n := 255) (by omega) (by omega) (by omega) (by omega)
  obtain ⟨r1, r2⟩ := rnd_bd (d := 255) (by omega) m1 m2
  go_enter Try.func73, Try.ntmps73
  go_wp2_with (go_at_call 54; refine (nearest_any _ _ _ (by omega) (by omega) (by omega) (by omega)).mono ?_; rintro e w' ⟨rfl, rfl⟩)
  go_ret
  exact ⟨ret_int hV.out.symm, rfl⟩
theorem combV_bd {k b a : Int} (hb : 0 ≤ b) (hb1 : b ≤ 255) (ha : 0 ≤ a) (ha1 : a ≤ 255) : -1 ≤ combV k b a ∧ combV k b a ≤ 255 := by
  obtain ⟨m1, m2⟩ := mul_bd (a := 255 - b) (b := 255 - a) (m := 255) (n := 255) (by omega) (by omega) (by omega) (by omega)
  have r1 : 0 ≤ rnd ((255 - b) * (255 - a)) 255 ∧ rnd ((255 - b) * (255 - a)) 255 ≤ 256 := by
    generalize (255 - b) * (255 - a) = p at *
    unfold rnd
    omega
  unfold combV
  split
  · omega
  · split
    · split <;> omega
    · split <;> omega
def combAt (be ab ki : List Int) (i : Nat) : Int := combV (ki.getD i 0) (be.getD i 0) (ab.getD i 0)
def combL (be ab ki : List Int) : List Int := (List.range be.length).map (combAt be ab ki)
theorem combL_length (be ab ki : List Int) : (combL be ab ki).length = be.length := by simp [combL]
/-- the error of Combine -/
def combE (be ab ki : List Int) : Int := if 8 < be.length then 2 else if tonesE be be.length 255 ≠ 0 then tonesE be be.length 255 else if tonesE ab be.length 255 ≠ 0 then tonesE ab be.length 255 else tonesE ki be.length 3
def combF (be ab ki : List Int) : List Int × Int := if combE be ab ki ≠ 0 then ([], combE be ab ki) else (combL be ab ki, 0)
theorem tonesE_ok {xs : List Int} {n m : Int} (h : tonesE xs n m = 0) : (xs.length : Int) = n ∧ xs.all (fun v => within v 0 m) = true := by
  unfold tonesE at h
  by_cases h1 : (xs.length : Int) ≠ n
  · rw [if_pos h1] at h; cases h
  · rw [if_neg h1] at h
    refine ⟨by omega, ?_⟩
    by_cases h2 : xs.all (fun v => within v 0 m) = true
    · exact h2
    · rw [if_neg h2] at h; cases h
theorem all_get {xs : List Int} {m : Int} (h : xs.all (fun v => within v 0 m) = true) {i : Nat} {x : Int} (hx : xs[i]? = some x) : 0 ≤ x ∧ x ≤ m :=
  within_iff.1 (List.all_eq_true.1 h x (List.mem_of_getElem? hx))
end Go.Proofs.Ytlbnicapkfmdoaa
