/- Walks of check, Weights, R.Weight, R.Power. -/
import Derived.Test.YtlbnicapkfmdoaaOver4
import Derived.Test.YtlbnicapkfmdoaaNumW
import Derived.Test.YtlbnicapkfmdoaaOr
namespace Go.Proofs.Ytlbnicapkfmdoaa
open Go.RowKit

def checkE (ts : List Int) : Int := if 6 < ts.length then 2 else if ts.length = 0 then 1 else tonesE ts ts.length 255
theorem ocheck_any {A : Option Addr} {ts : List Int} {c : Nat} (w : World) (hl : ts.length ≤ maxLen) (hA : Ints w A ts) :
    Calls Try.prog 58 #[.slice A ts.length c] w fun e w' => e = .returned (.int .i64 (checkE ts)) ∧ w = w' := by
  have hl' := hl
  unfold maxLen at hl'
  by_cases h6 : 6 < ts.length
  · have hE := Lib.hid (show checkE ts = 2 from if_pos h6)
    have h6' : (6 : Int) < (ts.length : Int) := by omega
    clear h6
    go_enter Try.func58, Try.ntmps58
    go_wp2
    go_ret
    exact ⟨ret_int hE.out.symm, rfl⟩
  by_cases h0 : ts.length = 0
  · have hE := Lib.hid (show checkE ts = 1 from (if_neg h6).trans (if_pos h0))
    have h6' : (ts.length : Int) ≤ 6 := by omega
    have h0' : ((ts.length : Int) == 0) = true := by simp [h0]
    have hd : decide ((6 : Int) < (ts.length : Int)) = false := by simp; omega
    clear h6 h0
    go_enter Try.func58, Try.ntmps58
    go_wp2
    go_ret
    exact ⟨ret_int hE.out.symm, rfl⟩
  · have hE := Lib.hid (show checkE ts = tonesE ts ts.length 255 from (if_neg h6).trans (if_neg h0))
    have h6' : (ts.length : Int) ≤ 6 := by omega
    have h0' : ((ts.length : Int) == 0) = false := by rw [beq_eq_false_iff_ne]; omega
    have hd : decide ((6 : Int) < (ts.length : Int)) = false := by simp; omega
    clear h6 h0
    go_enter Try.func58, Try.ntmps58
    go_wp2_with (go_at_call 56; refine (tones_any A ts _ _ _ hl hA).mono ?_; rintro e w' ⟨rfl, rfl⟩)
    go_ret
    exact ⟨ret_int hE.out.symm, rfl⟩
theorem checkE_ok {ts : List Int} (h : checkE ts = 0) : ts.length ≤ 6 ∧ 0 < ts.length ∧ (∀ v ∈ ts, 0 ≤ v ∧ v ≤ 255) := by
  unfold checkE at h
  by_cases h6 : 6 < ts.length
  · rw [if_pos h6] at h; cases h
  rw [if_neg h6] at h
  by_cases h0 : ts.length = 0
  · rw [if_pos h0] at h; cases h
  rw [if_neg h0] at h
  refine ⟨by omega, by omega, fun v hv => ?_⟩
  exact within_iff.1 (List.all_eq_true.1 (tonesE_ok h).2 v hv)
def weightsF (ts : List Int) : List Int × Int := if checkE ts ≠ 0 then ([], checkE ts) else (shareL ts, 0)
theorem weights_is {A : Option Addr} {ts : List Int} {c : Nat} {p : List Int} {q : Int} (w : World) (hl : ts.length ≤ maxLen) (hA : Ints w A ts) (hF : weightsF ts = (p, q)) :
    Calls Try.prog 28 #[.slice A ts.length c] w (OutInts p q w) := by
  unfold weightsF at hF
  by_cases he : checkE ts = 0
  · rw [if_neg (by omega)] at hF
    obtain ⟨rfl, rfl⟩ := Prod.mk.inj hF
    obtain ⟨h1, h2, h3⟩ := checkE_ok he
    have x1 : (checkE ts != 0) = false := by simp [he]
    have H3 := Lib.hid h3
    clear hF he h3
    go_enter Try.func28, Try.ntmps28
    go_wp2_with (first | (go_at_call 58; refine (ocheck_any _ hl hA).mono ?_; rintro e w' ⟨rfl, rfl⟩) | (go_at_call 59; refine (shares_any _ hA h1 H3.out).mono ?_; rintro e w' ⟨B, d, rfl, hi, hb⟩))
    go_ret2
    exact ⟨B, d, rfl, hi, hb⟩
  · rw [if_pos he] at hF
    obtain ⟨rfl, rfl⟩ := Prod.mk.inj hF
    have x1 : (checkE ts != 0) = true := by simpa using he
    clear hF he
    go_enter Try.func28, Try.ntmps28
    go_wp2_with (go_at_call 58; refine (ocheck_any _ hl hA).mono ?_; rintro e w' ⟨rfl, rfl⟩)
    go_ret2
    exact ⟨_, _, rfl, Ints.nil _ _, Below.refl _ _⟩

theorem pow_mono {b : Int} (h0 : 0 ≤ b) (h1 : b ≤ 255) : ∀ k : Nat, 0 ≤ b ^ k ∧ b ^ k ≤ 255 ^ k
  | 0 => by simp
  | k + 1 => by
    obtain ⟨g0, g1⟩ := pow_mono h0 h1 k
    rw [Int.pow_succ, Int.pow_succ]
    exact ⟨Int.mul_nonneg g0 h0, Int.mul_le_mul g1 h1 h0 (by have := pow255_pos k; omega)⟩
theorem and_i64 (a b : Nat) (ha : a < 9223372036854775808) (hb : b < 9223372036854775808) : bits .and .i64 a b = ((a &&& b : Nat) : Int) := by
  have h := Nat.and_lt_two_pow (n := 63) a (y := b) (by omega)
  unfold bits
  simp
  rw [Nat.mod_eq_of_lt (by show a < 2 ^ 64; omega), Nat.mod_eq_of_lt (by show b < 2 ^ 64; omega), IntKind.wrap_i64]
  omega
theorem bit_of (s k : Nat) (hs : s < 9223372036854775808) : bits .and .i64 ((s : Int) / 2 ^ k) 1 = ((s / 2 ^ k % 2 : Nat) : Int) := by
  have e : (s : Int) / 2 ^ k = ((s / 2 ^ k : Nat) : Int) := by simp
  have h1 : s / 2 ^ k ≤ s := Nat.div_le_self _ _
  rw [e, show (1 : Int) = ((1 : Nat) : Int) from rfl, and_i64 _ _ (by omega) (by omega), Nat.and_one_is_mod]
theorem wtL_take {ts : List Int} {k : Nat} {x : Int} (h : ts[k]? = some x) (s : Nat) : wtL (ts.take (k + 1)) s = wtL (ts.take k) s * (if s / 2 ^ k % 2 = 1 then x else 255 - x) := by
  have hk := (List.getElem?_eq_some_iff.1 h).1
  rw [List.take_add_one, h]
  show wtL (ts.take k ++ [x]) s = _
  rw [wtL_snoc, List.length_take, Nat.min_eq_left (by omega)]
set_option maxHeartbeats 1000000 in
theorem power_any (b : Int) (n : Nat) (w : World) (hn : n ≤ 6) (hb : 0 ≤ b) (hb1 : b ≤ 255) :
    Calls Try.prog 30 #[.int .i64 b, .int .i64 n] w fun e w' => e = .returned (.int .i64 (b ^ n)) ∧ w = w' := by
  go_enter Try.func30, Try.ntmps30
  go_wp2
  go_loopg [5, 7] n (fun gk p i wr => ∃ k : Nat, k + gk = n ∧ wr = w ∧ i = .int .i64 k ∧ p = .int .i64 (b ^ k))
  case atStart => exact ⟨0, by omega, rfl, rfl, by simp⟩
  case round =>
    obtain ⟨k, hgk, rfl, rfl, rfl⟩ := hrel
    by_cases hlt : k < n
    · obtain ⟨h0, h1⟩ := pow_mono hb hb1 k
      have h2 := pow255_le (k := k) (by omega)
      have hs := Lib.hid (Int.pow_succ b k)
      obtain ⟨m1, m2⟩ := mul_bd (a := b ^ k) (b := b) (m := 274941996890625) (n := 255) h0 (by omega) hb hb1
      obtain ⟨p, hp⟩ : ∃ p, p = b ^ k := ⟨_, rfl⟩
      rw [← hp] at m1 m2 h0 ⊢
      have HP := Lib.hid hp
      clear h1 h2 hp
      go_wp2
      go_roundg (gk - 1)
      case measure => omega
      case rel => exact ⟨k + 1, by omega, rfl, by go_num, by rw [hs.out, HP.out]⟩
    · obtain rfl : k = n := by omega
      go_wp2
      go_ret
      exact ⟨rfl, rfl⟩
set_option maxHeartbeats 2000000 in
theorem weight_any {A : Option Addr} {ts : List Int} {c : Nat} (s : Nat) (w : World) (hn : ts.length ≤ 6) (ht : ∀ v ∈ ts, 0 ≤ v ∧ v ≤ 255) (hs : s < 64) (hA : Ints w A ts) :
    Calls Try.prog 31 #[.slice A ts.length c, .int .i64 s] w fun e w' => e = .returned (.int .i64 (wtL ts s)) ∧ w = w' := by
  have HT := Lib.hid ht
  clear ht
  go_enter Try.func31, Try.ntmps31
  go_wp2
  go_loopg [5, 10] ts.length (fun gk p i wr => ∃ k : Nat, k + gk = ts.length ∧ wr = w ∧ i = .int .i64 k ∧ p = .int .i64 (wtL (ts.take k) s) ∧ Hid (0 ≤ wtL (ts.take k) s ∧ wtL (ts.take k) s ≤ 255 ^ k))
  case atStart => exact ⟨0, by omega, rfl, rfl, rfl, by simp [wtL], by simp [wtL]⟩
  case round =>
    obtain ⟨k, hgk, rfl, rfl, rfl, hb⟩ := hrel
    by_cases hlt : k < ts.length
    · obtain ⟨b1, o1, x, rfl, hx, hc1⟩ := hA.at (i := k) hlt
      obtain ⟨x0, x1⟩ := HT.out x (List.mem_of_getElem? hx.out)
      obtain ⟨g0, g1⟩ := hb.out
      have g2 := pow255_le (k := k) (by omega)
      have hbit := bit_of s k (by omega)
      have hst := wtL_take hx.out s
      have hr : s / 2 ^ k % 2 = 0 ∨ s / 2 ^ k % 2 = 1 := by omega
      obtain ⟨m1, m2⟩ := mul_bd (a := wtL (ts.take k) s) (b := x) (m := 274941996890625) (n := 255) g0 (by omega) x0 x1
      obtain ⟨m3, m4⟩ := mul_bd (a := wtL (ts.take k) s) (b := 255 - x) (m := 274941996890625) (n := 255) g0 (by omega) (by omega) (by omega)
      have hp1 : wtL (ts.take k) s * x ≤ 255 ^ (k + 1) := by rw [Int.pow_succ]; exact Int.mul_le_mul g1 x1 x0 (by omega)
      have hp2 : wtL (ts.take k) s * (255 - x) ≤ 255 ^ (k + 1) := by rw [Int.pow_succ]; exact Int.mul_le_mul g1 (by omega) (by omega) (by omega)
      have hk0 : (0 : Int) ≤ (k : Int) := by omega
      have hk1 : (k : Int) < (ts.length : Int) := by omega
      have HR := Lib.hid hp1
      have HR2 := Lib.hid hp2
      have HST := Lib.hid hst
      have HG := Lib.hid hgk
      have HM1 := Lib.hid m1
      have HM3 := Lib.hid m3
      have HAA := Lib.hid hA
      clear hp1 hp2 g1 g2 hst hgk hA hb
      rcases hr with h | h
      · have hB : (bits .and .i64 ((s : Int) / 2 ^ k) 1 == 1) = false := by rw [hbit, h]; rfl
        have HH := Lib.hid h
        clear hbit h
        go_wp2
        go_roundg (gk - 1)
        case measure => have := HG.out; omega
        case rel => exact ⟨k + 1, by have := HG.out; omega, rfl, by go_num, by rw [HST.out, if_neg (by rw [HH.out]; omega)], by rw [HST.out, if_neg (by rw [HH.out]; omega)]; exact ⟨HM3.out, HR2.out⟩⟩
      · have hB : (bits .and .i64 ((s : Int) / 2 ^ k) 1 == 1) = true := by rw [hbit, h]; rfl
        have HH := Lib.hid h
        clear hbit h
        go_wp2
        go_roundg (gk - 1)
        case measure => have := HG.out; omega
        case rel => exact ⟨k + 1, by have := HG.out; omega, rfl, by go_num, by rw [HST.out, if_pos HH.out], by rw [HST.out, if_pos HH.out]; exact ⟨HM1.out, HR.out⟩⟩
    · obtain rfl : k = ts.length := by omega
      rw [List.take_length]
      go_wp2
      go_ret
      exact ⟨rfl, rfl⟩
end Go.Proofs.Ytlbnicapkfmdoaa
