/- Walks of inklimit.sum, check, Total and of the reference's Total. -/
import Derived.Test.YtlbnicapkfmdoaaOwn2
namespace Go.Proofs.Ytlbnicapkfmdoaa
open Go.RowKit

theorem sum_snoc {xs : List Int} {k : Nat} {x : Int} (hx : xs[k]? = some x) : (xs.take (k + 1)).sum = (xs.take k).sum + x := by
  rw [List.take_add_one, hx]; simp
theorem all_take {xs : List Int} {p : Int → Bool} (h : xs.all p = true) (k : Nat) : (xs.take k).all p = true := by
  rw [List.all_eq_true] at h ⊢
  intro x hx
  exact h x (List.mem_of_mem_take hx)
theorem sum_bd {xs : List Int} {m : Int} (h : xs.all (fun v => within v 0 m) = true) : 0 ≤ xs.sum ∧ xs.sum ≤ xs.length * m := by
  induction xs with
  | nil => simp
  | cons x xs ih =>
    simp only [List.all_cons, Bool.and_eq_true] at h
    have h1 := within_iff.1 h.1
    have h2 := ih h.2
    simp only [List.sum_cons, List.length_cons, Int.natCast_add, Int.add_mul]
    omega
theorem tones_ok {xs : List Int} {n m : Int} (h : tonesE xs n m = 0) : (xs.length : Int) = n ∧ xs.all (fun v => within v 0 m) = true := by
  unfold tonesE at h
  by_cases h1 : (xs.length : Int) = n
  · rw [if_neg (by omega)] at h
    by_cases h2 : xs.all (fun v => within v 0 m) = true
    · exact ⟨h1, h2⟩
    · rw [if_neg h2] at h; omega
  · rw [if_pos h1] at h; omega
theorem tones_in {xs : List Int} {m : Int} (h : xs.all (fun v => within v 0 m) = true) {i : Nat} {x : Int} (hx : xs[i]? = some x) : 0 ≤ x ∧ x ≤ m :=
  within_iff.1 (List.all_eq_true.1 h x (List.mem_of_getElem? hx))

set_option maxHeartbeats 400000 in
theorem isum_any (A : Option Addr) (xs : List Int) (c : Nat) (w : World) (hl : xs.length ≤ 1000000) (hall : xs.all (fun v => within v 0 255) = true) (h : Ints w A xs) :
    Calls Try.prog 65 #[.slice A xs.length c] w fun e w' => e = .returned (.int .i64 xs.sum) ∧ w = w' := by
  have HA := Lib.hid hall
  clear hall
  go_enter Try.func65, Try.ntmps65
  go_wp2
  go_loop [3, 5, 8] (fun s _ i => ∃ k : Nat, k ≤ xs.length ∧ i = .int .i64 k ∧ s = .int .i64 (xs.take k).sum) (fun _ _ i => xs.length - (intOf i).toNat)
  case atStart => exact ⟨0, Nat.zero_le _, rfl, rfl⟩
  case round =>
    obtain ⟨k, hk, rfl, rfl⟩ := hrel
    by_cases hlt : k < xs.length
    · obtain ⟨b, o, x, rfl, hx, hc⟩ := h.at hlt
      have hb := sum_bd (all_take HA.out k)
      rw [List.length_take, Nat.min_eq_left hk] at hb
      have hx1 := tones_in HA.out hx.out
      have hs := Lib.hid (sum_snoc hx.out)
      have HI := Lib.hid h
      clear h
      obtain ⟨s, hs'⟩ : ∃ s, s = (xs.take k).sum := ⟨_, rfl⟩
      rw [← hs'] at hb hs ⊢
      have hb0 := hb.1
      have hb1 : s ≤ 1000000000 := by omega
      clear hb hs'
      go_wp2
      go_round
      case rel => exact ⟨k + 1, by omega, by go_num, by rw [hs.out]⟩
      case measure => simp [intOf]; omega
    · obtain rfl : k = xs.length := by omega
      go_wp2
      go_ret
      exact ⟨rfl, rfl⟩
set_option maxHeartbeats 400000 in
theorem rtotal_any (A : Option Addr) (xs : List Int) (c : Nat) (w : World) (hl : xs.length ≤ 1000000) (hall : xs.all (fun v => within v 0 255) = true) (h : Ints w A xs) :
    Calls Try.prog 41 #[.slice A xs.length c] w fun e w' => e = .returned (.int .i64 xs.sum) ∧ w = w' := by
  have HA := Lib.hid hall
  clear hall
  go_enter Try.func41, Try.ntmps41
  go_wp2
  go_loop [3, 5, 8] (fun s _ i => ∃ k : Nat, k ≤ xs.length ∧ i = .int .i64 k ∧ s = .int .i64 (xs.take k).sum) (fun _ _ i => xs.length - (intOf i).toNat)
  case atStart => exact ⟨0, Nat.zero_le _, rfl, rfl⟩
  case round =>
    obtain ⟨k, hk, rfl, rfl⟩ := hrel
    by_cases hlt : k < xs.length
    · obtain ⟨b, o, x, rfl, hx, hc⟩ := h.at hlt
      have hb := sum_bd (all_take HA.out k)
      rw [List.length_take, Nat.min_eq_left hk] at hb
      have hx1 := tones_in HA.out hx.out
      have hs := Lib.hid (sum_snoc hx.out)
      have HI := Lib.hid h
      clear h
      obtain ⟨s, hs'⟩ : ∃ s, s = (xs.take k).sum := ⟨_, rfl⟩
      rw [← hs'] at hb hs ⊢
      have hb0 := hb.1
      have hb1 : s ≤ 1000000000 := by omega
      clear hb hs'
      go_wp2
      go_round
      case rel => exact ⟨k + 1, by omega, by go_num, by rw [hs.out]⟩
      case measure => simp [intOf]; omega
    · obtain rfl : k = xs.length := by omega
      go_wp2
      go_ret
      exact ⟨rfl, rfl⟩

/-- the error of tones that a limit takes -/
def inkE (xs : List Int) : Int := if 8 < xs.length then 2 else tonesE xs xs.length 255
theorem icheck_any (A : Option Addr) (xs : List Int) (c : Nat) (w : World) (hl : xs.length ≤ maxLen) (h : Ints w A xs) :
    Calls Try.prog 64 #[.slice A xs.length c] w fun e w' => e = .returned (.int .i64 (inkE xs)) ∧ w = w' := by
  by_cases h8 : 8 < xs.length
  · have hE := Lib.hid (show inkE xs = 2 from if_pos h8)
    go_enter Try.func64, Try.ntmps64
    go_wp2
    go_ret
    exact ⟨ret_int hE.out.symm, rfl⟩
  · have hE := Lib.hid (show inkE xs = tonesE xs xs.length 255 from if_neg h8)
    have h8' : xs.length ≤ 8 := by omega
    clear h8
    go_enter Try.func64, Try.ntmps64
    go_wp2_with (go_at_call 56; refine (tones_any _ _ _ _ _ hl h).mono ?_; rintro e w' ⟨rfl, rfl⟩)
    go_ret
    exact ⟨ret_int hE.out.symm, rfl⟩
theorem inkE_ok {xs : List Int} (h : inkE xs = 0) : xs.length ≤ 8 ∧ xs.all (fun v => within v 0 255) = true := by
  unfold inkE at h
  by_cases h8 : 8 < xs.length
  · rw [if_pos h8] at h; omega
  · rw [if_neg h8] at h
    exact ⟨by omega, (tones_ok h).2⟩
def totalF (xs : List Int) : Int × Int := if inkE xs ≠ 0 then (0, inkE xs) else (xs.sum, 0)
theorem total_is {A : Option Addr} {xs : List Int} {c : Nat} {p q : Int} (w : World) (hl : xs.length ≤ maxLen) (h : Ints w A xs) (hF : totalF xs = (p, q)) :
    Calls Try.prog 39 #[.slice A xs.length c] w fun e w' => e = .returned (.tuple #[.int .i64 p, .int .i64 q]) ∧ w = w' := by
  unfold totalF at hF
  by_cases he : inkE xs = 0
  · rw [if_neg (by omega)] at hF
    cases hF
    obtain ⟨h8, hall⟩ := inkE_ok he
    have he' : (inkE xs != 0) = false := by simp [he]
    clear he
    go_enter Try.func39, Try.ntmps39
    go_wp2_with (first | (go_at_call 64; refine (icheck_any _ _ _ _ hl h).mono ?_; rintro e w' ⟨rfl, rfl⟩) | (go_at_call 65; refine (isum_any _ _ _ _ (by omega) hall h).mono ?_; rintro e w' ⟨rfl, rfl⟩))
    go_ret2
    exact ⟨rfl, rfl⟩
  · rw [if_pos he] at hF
    cases hF
    have he' : (inkE xs != 0) = true := by simp [he]
    clear he
    go_enter Try.func39, Try.ntmps39
    go_wp2_with (go_at_call 64; refine (icheck_any _ _ _ _ hl h).mono ?_; rintro e w' ⟨rfl, rfl⟩)
    go_ret2
    exact ⟨rfl, rfl⟩
end Go.Proofs.Ytlbnicapkfmdoaa
