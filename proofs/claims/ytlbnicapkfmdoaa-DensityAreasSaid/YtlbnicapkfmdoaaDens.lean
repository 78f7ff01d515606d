/- Walks of math/bits.Len64, density.log, density.of and the package's functions, and of the reference's logarithm. -/
import Derived.Test.YtlbnicapkfmdoaaNum
import Derived.Lib.Hide
namespace Go.Proofs.Ytlbnicapkfmdoaa
open Go.RowKit

/-- x needs k bits -/
def bitsAre (x : Int) (k : Nat) : Prop := x < 2 ^ k ∧ (0 < k → (2 : Int) ^ (k - 1) ≤ x)
def lenTab : ByteArray := { data := #[0, 1, 2, 2, 3, 3, 3, 3, 4, 4, 4, 4, 4, 4, 4, 4, 5, 5, 5, 5, 5, 5, 5, 5, 5, 5, 5, 5, 5, 5, 5, 5, 6, 6, 6, 6, 6, 6, 6, 6, 6, 6, 6, 6, 6, 6, 6, 6, 6, 6, 6, 6, 6, 6, 6, 6, 6, 6, 6, 6, 6, 6, 6, 6, 7, 7, 7, 7, 7, 7, 7, 7, 7, 7, 7, 7, 7, 7, 7, 7, 7, 7, 7, 7, 7, 7, 7, 7, 7, 7, 7, 7, 7, 7, 7, 7, 7, 7, 7, 7, 7, 7, 7, 7, 7, 7, 7, 7, 7, 7, 7, 7, 7, 7, 7, 7, 7, 7, 7, 7, 7, 7, 7, 7, 7, 7, 7, 7, 8, 8, 8, 8, 8, 8, 8, 8, 8, 8, 8, 8, 8, 8, 8, 8, 8, 8, 8, 8, 8, 8, 8, 8, 8, 8, 8, 8, 8, 8, 8, 8, 8, 8, 8, 8, 8, 8, 8, 8, 8, 8, 8, 8, 8, 8, 8, 8, 8, 8, 8, 8, 8, 8, 8, 8, 8, 8, 8, 8, 8, 8, 8, 8, 8, 8, 8, 8, 8, 8, 8, 8, 8, 8, 8, 8, 8, 8, 8, 8, 8, 8, 8, 8, 8, 8, 8, 8, 8, 8, 8, 8, 8, 8, 8, 8, 8, 8, 8, 8, 8, 8, 8, 8, 8, 8, 8, 8, 8, 8, 8, 8, 8, 8, 8, 8, 8, 8, 8, 8, 8, 8, 8, 8, 8, 8, 8, 8] }
theorem lenTab_size : lenTab.size = 256 := by decide +kernel
theorem lenTab_ok : ∀ i : Fin 256, (lenTab[i.val]'(by rw [lenTab_size]; exact i.isLt)).toNat ≤ 8 ∧ (i.val : Nat) < 2 ^ (lenTab[i.val]'(by rw [lenTab_size]; exact i.isLt)).toNat ∧
    (0 < (lenTab[i.val]'(by rw [lenTab_size]; exact i.isLt)).toNat → 2 ^ ((lenTab[i.val]'(by rw [lenTab_size]; exact i.isLt)).toNat - 1) ≤ i.val) := by decide +kernel
theorem lenTab_bits {x : Int} (h0 : 0 ≤ x) (h1 : x < 256) (h : x.toNat < lenTab.size) : bitsAre x (lenTab[x.toNat]'h).toNat ∧ (lenTab[x.toNat]'h).toNat ≤ 8 := by
  obtain ⟨n, rfl⟩ := Int.eq_ofNat_of_zero_le h0
  have := lenTab_ok ⟨n, by omega⟩
  simp only [Int.toNat_natCast] at *
  refine ⟨⟨?_, ?_⟩, this.1⟩
  · exact_mod_cast this.2.1
  · intro hk
    exact_mod_cast this.2.2 hk
theorem bitsAre_shift {x : Int} {k m : Nat} (h0 : (2 : Int) ^ m ≤ x) (h : bitsAre (x / 2 ^ m) k) : bitsAre x (k + m) := by
  have hp : (0 : Int) < 2 ^ m := Int.pow_pos (by omega)
  have e1 := Int.emod_add_mul_ediv x (2 ^ m)
  have e2 := Int.emod_lt_of_pos x hp
  have e3 := Int.emod_nonneg x (by omega : (2 : Int) ^ m ≠ 0)
  obtain ⟨h1, h2⟩ := h
  have hx1 : 1 ≤ x / 2 ^ m := (Int.le_ediv_iff_mul_le hp).2 (by omega)
  have hk : 0 < k := by
    rcases Nat.eq_zero_or_pos k with rfl | hk
    · simp at h1; omega
    · exact hk
  constructor
  · rw [Int.pow_add]
    have : (2 : Int) ^ m * (x / 2 ^ m + 1) ≤ 2 ^ m * 2 ^ k := Int.mul_le_mul_of_nonneg_left (by omega) (by omega)
    rw [Int.mul_add] at this
    rw [Int.mul_comm (2 ^ k)]
    omega
  · intro _
    rw [show k + m - 1 = (k - 1) + m from by omega, Int.pow_add]
    have : (2 : Int) ^ m * 2 ^ (k - 1) ≤ 2 ^ m * (x / 2 ^ m) := Int.mul_le_mul_of_nonneg_left (h2 hk) (by omega)
    rw [Int.mul_comm (2 ^ (k - 1))]
    omega


theorem len_close {x : Int} (y : Int) (m : Nat) (h0 : 0 ≤ y) (h1 : y < 256) (hy : y = x / 2 ^ m) (hx : (2 : Int) ^ m ≤ x) (hm : m ≤ 56) (h : y.toNat < lenTab.size) :
    ∃ k : Nat, Ending.returned (.int .i64 (wrap64 ((m : Int) + wrap64 ↑(lenTab[y.toNat]'h).toNat))) = .returned (.int .i64 k) ∧ Hid (bitsAre x k ∧ k ≤ 64) := by
  obtain ⟨hb, h8⟩ := lenTab_bits h0 h1 h
  refine ⟨(lenTab[y.toNat]'h).toNat + m, ret_int ?_, bitsAre_shift hx (hy ▸ hb), by omega⟩
  simp only [wrap64]; omega
theorem len_close0 {x : Int} (h0 : 0 ≤ x) (h1 : x < 256) (h : x.toNat < lenTab.size) :
    ∃ k : Nat, Ending.returned (.int .i64 (wrap64 (wrap64 ↑(lenTab[x.toNat]'h).toNat))) = .returned (.int .i64 k) ∧ Hid (bitsAre x k ∧ k ≤ 64) := by
  obtain ⟨hb, h8⟩ := lenTab_bits h0 h1 h
  refine ⟨(lenTab[x.toNat]'h).toNat, ret_int ?_, hb, by omega⟩
  simp only [wrap64]; omega

set_option maxRecDepth 100000 in
set_option maxHeartbeats 1000000 in
theorem len64_any (x : Int) (w : World) (h0 : 0 ≤ x) (h1 : x ≤ 18446744073709551615) :
    Calls Try.prog 69 #[.int .u64 x] w fun e w' => (∃ k : Nat, e = .returned (.int .i64 k) ∧ Hid (bitsAre x k ∧ k ≤ 64)) ∧ w = w' := by
  go_enter Try.func69, Try.ntmps69
  go_wp2
  all_goals go_ret
  · exact ⟨len_close _ 56 (by omega) (by omega) (by omega) (by omega) (by omega) (by rw [lenTab_size]; omega), rfl⟩
  · exact ⟨len_close _ 48 (by omega) (by omega) (by omega) (by omega) (by omega) (by rw [lenTab_size]; omega), rfl⟩
  · exact ⟨len_close _ 40 (by omega) (by omega) (by omega) (by omega) (by omega) (by rw [lenTab_size]; omega), rfl⟩
  · exact ⟨len_close _ 32 (by omega) (by omega) (by omega) (by omega) (by omega) (by rw [lenTab_size]; omega), rfl⟩
  · exact ⟨len_close _ 24 (by omega) (by omega) (by omega) (by omega) (by omega) (by rw [lenTab_size]; omega), rfl⟩
  · exact ⟨len_close _ 16 (by omega) (by omega) (by omega) (by omega) (by omega) (by rw [lenTab_size]; omega), rfl⟩
  · exact ⟨len_close _ 8 (by omega) (by omega) (by omega) (by omega) (by omega) (by rw [lenTab_size]; omega), rfl⟩
  · exact ⟨len_close0 (by omega) (by omega) (by rw [lenTab_size]; omega), rfl⟩

/-- sixteen times squared: the digits of the logarithm -/
def lgS (y o : Int) : Nat → Int × Int
  | 0 => (y, o)
  | j + 1 => if 2147483648 ≤ (lgS y o j).1 * (lgS y o j).1 / 1073741824 then ((lgS y o j).1 * (lgS y o j).1 / 1073741824 / 2, 2 * (lgS y o j).2 + 1)
    else ((lgS y o j).1 * (lgS y o j).1 / 1073741824, 2 * (lgS y o j).2)
theorem lgS_yes {a b y o : Int} {j : Nat} (h : lgS a b j = (y, o)) (ht : 2147483648 ≤ y * y / 1073741824) : lgS a b (j + 1) = (y * y / 1073741824 / 2, 2 * o + 1) := by
  simp only [lgS, h]; rw [if_pos ht]
theorem lgS_no {a b y o : Int} {j : Nat} (h : lgS a b j = (y, o)) (ht : y * y / 1073741824 < 2147483648) : lgS a b (j + 1) = (y * y / 1073741824, 2 * o) := by
  simp only [lgS, h]; rw [if_neg (by omega)]
def lgY (x : Int) (K : Nat) : Int := x * 2 ^ (63 - K) / 8589934592
def lg (x : Int) : Int := (lgS (lgY x (Nat.log2 x.toNat)) (Nat.log2 x.toNat) 16).2
theorem sq_bd {y : Int} (h0 : 1073741824 ≤ y) (h1 : y < 2147483648) : 1073741824 ≤ y * y / 1073741824 ∧ y * y / 1073741824 < 4294967296 ∧ y * y < 4611686018427387904 ∧ 0 ≤ y * y := by
  have a1 : 1073741824 * y ≤ y * y := Int.mul_le_mul_of_nonneg_right h0 (by omega)
  have a2 : y * y ≤ 2147483647 * y := Int.mul_le_mul_of_nonneg_right (by omega) (by omega)
  omega
theorem lgS_bd {y o : Int} (h0 : 1073741824 ≤ y) (h1 : y < 2147483648) (ho : 0 ≤ o) (ho' : o ≤ 41) (j : Nat) :
    1073741824 ≤ (lgS y o j).1 ∧ (lgS y o j).1 < 2147483648 ∧ 0 ≤ (lgS y o j).2 ∧ (lgS y o j).2 + 1 ≤ 42 * 2 ^ j := by
  induction j with
  | zero => simp [lgS]; omega
  | succ j ih =>
    obtain ⟨a, b, c, d⟩ := ih
    have := sq_bd a b
    simp only [lgS, Int.pow_succ]
    split <;> simp <;> omega
theorem log2_of {x : Int} {k : Nat} (h : bitsAre x k) (hx : 1 ≤ x) : 1 ≤ k ∧ Nat.log2 x.toNat = k - 1 := by
  obtain ⟨h1, h2⟩ := h
  have hk : 0 < k := by
    rcases Nat.eq_zero_or_pos k with rfl | hk
    · simp at h1; omega
    · exact hk
  refine ⟨hk, (Nat.log2_eq_iff (by omega)).2 ?_⟩
  have h2' := h2 hk
  obtain ⟨n, rfl⟩ := Int.eq_ofNat_of_zero_le (show 0 ≤ x by omega)
  rw [Int.toNat_natCast, show k - 1 + 1 = k from by omega]
  exact ⟨by exact_mod_cast h2', by exact_mod_cast h1⟩
theorem pow_split (a b : Nat) (h : a ≤ b) : (2 : Int) ^ b = 2 ^ a * 2 ^ (b - a) := by rw [← Int.pow_add]; congr 1; omega
theorem lgY_low {x : Int} {K : Nat} (h : K ≤ 30) : lgY x K = x * 2 ^ (30 - K) := by
  unfold lgY
  rw [show 63 - K = (30 - K) + 33 from by omega, Int.pow_add, ← Int.mul_assoc]
  exact Int.mul_ediv_cancel _ (by decide)
theorem lgY_high {x : Int} {K : Nat} (h : 30 ≤ K) (h' : K ≤ 63) : lgY x K = x / 2 ^ (K - 30) := by
  unfold lgY
  rw [show (8589934592 : Int) = 2 ^ (K - 30) * 2 ^ (63 - K) from by rw [← Int.pow_add, show K - 30 + (63 - K) = 33 from by omega]; rfl]
  exact Int.mul_ediv_mul_of_pos_left _ _ (Int.pow_pos (by omega))
theorem lgY_bd {x : Int} {K : Nat} (h1 : (2 : Int) ^ K ≤ x) (h2 : x < 2 ^ (K + 1)) (hK : K ≤ 63) :
    1073741824 ≤ lgY x K ∧ lgY x K < 2147483648 ∧ 0 ≤ x * 2 ^ (63 - K) ∧ x * 2 ^ (63 - K) ≤ 18446744073709551615 := by
  have hp : (0 : Int) < 2 ^ (63 - K) := Int.pow_pos (by omega)
  have a1 : (2 : Int) ^ K * 2 ^ (63 - K) ≤ x * 2 ^ (63 - K) := Int.mul_le_mul_of_nonneg_right h1 (by omega)
  have a2 : x * 2 ^ (63 - K) < 2 ^ (K + 1) * 2 ^ (63 - K) := Int.mul_lt_mul_of_pos_right h2 hp
  rw [← Int.pow_add, show K + (63 - K) = 63 from by omega] at a1
  rw [← Int.pow_add, show K + 1 + (63 - K) = 64 from by omega] at a2
  unfold lgY
  omega

theorem ipow_mono {a b : Nat} (h : a ≤ b) : (2 : Int) ^ a ≤ 2 ^ b := by exact_mod_cast Nat.pow_le_pow_right (n := 2) (by omega) h
theorem bits_41 {x : Int} {k : Nat} (h0 : 1 ≤ x) (h1 : x ≤ 1099511627776) (h : bitsAre x k) : 1 ≤ k ∧ k ≤ 41 := by
  refine ⟨(log2_of h h0).1, ?_⟩
  rcases Nat.lt_or_ge 41 k with hk | hk
  · have := h.2 (by omega)
    have := ipow_mono (a := 41) (b := k - 1) (by omega)
    omega
  · exact hk
theorem or_one {a : Int} (h : 0 ≤ a) (h' : a < 4611686018427387904) : bits .or .i64 (a * 2) 1 = a * 2 + 1 := by
  obtain ⟨n, rfl⟩ := Int.eq_ofNat_of_zero_le h
  have ofI : ∀ m : Nat, m < 9223372036854775808 → (BitVec.ofInt 64 (m : Int)).toNat = m := fun m hm => by
    rw [BitVec.ofInt_natCast, BitVec.toNat_ofNat]; exact Nat.mod_eq_of_lt (by omega)
  show IntKind.i64.wrap ((BitVec.ofInt 64 ((n * 2 : Nat) : Int) ||| BitVec.ofInt 64 ((1 : Nat) : Int)).toNat : Int) = _
  rw [BitVec.toNat_or, ofI _ (by omega), ofI _ (by omega), Nat.mul_comm n 2, show 2 * n ||| 1 = 2 * n + 1 from (Nat.two_pow_add_eq_or_of_lt (i := 1) (b := 1) (by omega) n).symm, IntKind.wrap_i64]
  omega

set_option maxHeartbeats 1000000 in
theorem log_any (x : Int) (w : World) (h0 : 1 ≤ x) (h1 : x ≤ 1099511627776) :
    Calls Try.prog 51 #[.int .i64 x] w fun e w' => (e = .returned (.int .i64 (lg x))) ∧ w = w' := by
  go_enter Try.func51, Try.ntmps51
  go_wp2_with (go_at_call 69; refine (len64_any _ _ (by omega) (by omega)).mono ?_; rintro e w' ⟨⟨k, rfl, hk⟩, rfl⟩; have hk2 : 1 ≤ k ∧ k ≤ 41 := bits_41 h0 h1 hk.out.1)
  obtain ⟨hk1, hk2⟩ := hk2
  obtain ⟨_, hlog⟩ := log2_of hk.out.1 h0
  obtain ⟨b1, b2⟩ := hk.out.1
  have b2 := b2 (by omega)
  obtain ⟨y1, y2, y3, y4⟩ := lgY_bd (K := k - 1) b2 (by rw [show k - 1 + 1 = k from by omega]; exact b1) (by omega)
  have hsl : IntKind.u64.wrap (x * 2 ^ (63 - (k - 1))) / 8589934592 = lgY x (k - 1) := by
    unfold lgY
    rw [IntKind.wrap_u64]
    rw [Int.emod_eq_of_lt y3 (by omega)]
  rw [hsl]
  have HL := Lib.hid hlog
  clear hsl hlog b1 b2 hk y3 y4
  go_loop [4, 5, 17] (fun y o i => ∃ j : Nat, j ≤ 16 ∧ i = .int .i64 j ∧ y = .int .u64 (lgS (lgY x (k - 1)) (k - 1 : Nat) j).1 ∧ o = .int .i64 (lgS (lgY x (k - 1)) (k - 1 : Nat) j).2) (fun _ _ i => 16 - (intOf i).toNat)
  case atStart => exact ⟨0, by omega, rfl, rfl, by simp only [lgS]; go_num⟩
  case round =>
    obtain ⟨j, hj, rfl, rfl, rfl⟩ := hrel
    obtain ⟨c1, c2, c3, c4⟩ := lgS_bd (o := ((k - 1 : Nat) : Int)) y1 y2 (by omega) (by omega) j
    by_cases hlt : j < 16
    · have hpw : (2 : Int) ^ j ≤ 65536 := ipow_mono hj
      obtain ⟨d1, d2, d3, d4⟩ := sq_bd c1 c2
      generalize hs : lgS (lgY x (k - 1)) (k - 1 : Nat) j = s at *
      obtain ⟨y, o⟩ := s
      simp only at c1 c2 c3 c4 d1 d2 d3 d4 ⊢
      have ho : o ≤ 2752512 := by omega
      have HS := Lib.hid hs
      clear hs
      have hor := or_one (a := o) (by omega) (by omega)
      clear c4 hpw
      go_wp2
      · have ht : 2147483648 ≤ y * y / 1073741824 := by assumption
        have H2 : lgS (lgY x (k - 1)) (k - 1 : Nat) (j + 1) = (y * y / 1073741824 / 2, 2 * o + 1) := lgS_yes HS.out ht
        go_round
        case rel => exact ⟨j + 1, by omega, by go_num, by rw [H2], by rw [H2, Int.mul_comm 2 o]⟩
        case measure => simp [intOf]; omega
      · have ht : y * y / 1073741824 < 2147483648 := by assumption
        have H2 : lgS (lgY x (k - 1)) (k - 1 : Nat) (j + 1) = (y * y / 1073741824, 2 * o) := lgS_no HS.out ht
        go_round
        case rel => exact ⟨j + 1, by omega, by go_num, by rw [H2], by rw [H2, Int.mul_comm 2 o]⟩
        case measure => simp [intOf]; omega
    · obtain rfl : j = 16 := by omega
      go_wp2
      go_ret
      exact ⟨ret_int (by unfold lg; rw [HL.out]), rfl⟩

theorem log2_bits {x : Int} (h0 : 1 ≤ x) : bitsAre x (Nat.log2 x.toNat + 1) := by
  obtain ⟨n, rfl⟩ := Int.eq_ofNat_of_zero_le (show 0 ≤ x by omega)
  rw [Int.toNat_natCast]
  have := (Nat.log2_eq_iff (n := n) (k := n.log2) (by omega)).1 rfl
  constructor
  · exact_mod_cast this.2
  · intro _
    rw [Nat.add_sub_cancel]
    exact_mod_cast this.1
theorem lg_bd (x : Int) (h0 : 1 ≤ x) (h1 : x ≤ 1099511627776) : 0 ≤ lg x ∧ lg x ≤ 2752512 := by
  have hb := log2_bits h0
  have hk := bits_41 h0 h1 hb
  obtain ⟨b1, b2⟩ := hb
  have b2 := b2 (by omega)
  rw [Nat.add_sub_cancel] at b2
  obtain ⟨y1, y2, y3, y4⟩ := lgY_bd (K := Nat.log2 x.toNat) b2 b1 (by omega)
  obtain ⟨c1, c2, c3, c4⟩ := lgS_bd (o := ((Nat.log2 x.toNat : Nat) : Int)) y1 y2 (by omega) (by omega) 16
  unfold lg
  omega
theorem shr_more {x : Int} {K j : Nat} (h : (2 : Int) ^ K ≤ x) (hj : j < K) : 1 < x / 2 ^ j := by
  have h1 := ipow_mono (a := j + 1) (b := K) (by omega)
  have hp : (0 : Int) < 2 ^ j := Int.pow_pos (by omega)
  rw [Int.pow_succ] at h1
  have : 2 ≤ x / 2 ^ j := (Int.le_ediv_iff_mul_le hp).2 (by omega)
  omega
theorem shr_last {x : Int} {K : Nat} (h : x < 2 ^ (K + 1)) : x / 2 ^ K ≤ 1 := by
  have hp : (0 : Int) < 2 ^ K := Int.pow_pos (by omega)
  rw [Int.pow_succ] at h
  have : x / 2 ^ K < 2 := (Int.ediv_lt_iff_lt_mul hp).2 (by omega)
  omega
theorem oq_bd {o q : Int} {i : Nat} (h0 : 0 ≤ o) (h1 : o + 1 ≤ 42 * 2 ^ i) (hi : i ≤ 16) (hq : q = 2 ^ (16 - i)) : 0 ≤ o * q ∧ o * q ≤ 2752512 := by
  have hp : (0 : Int) < q := by rw [hq]; exact Int.pow_pos (by omega)
  refine ⟨Int.mul_nonneg h0 (by omega), ?_⟩
  have a1 : (o + 1) * q ≤ 42 * 2 ^ i * q := Int.mul_le_mul_of_nonneg_right h1 (by omega)
  rw [Int.add_mul, Int.mul_assoc, hq, ← Int.pow_add, show i + (16 - i) = 16 from by omega] at a1
  rw [hq] at hp ⊢
  omega

set_option maxHeartbeats 1000000 in
theorem rlog2_any (x : Int) (w : World) (h0 : 1 ≤ x) (h1 : x ≤ 1099511627776) :
    Calls Try.prog 18 #[.int .i64 x] w fun e w' => (e = .returned (.int .i64 (lg x))) ∧ w = w' := by
  have hb := log2_bits h0
  have hk2 := (bits_41 h0 h1 hb).2
  have hlg : lg x = (lgS (lgY x (Nat.log2 x.toNat)) (Nat.log2 x.toNat) 16).2 := rfl
  generalize Nat.log2 x.toNat = K at *
  obtain ⟨b1, b2⟩ := hb
  have b2 := b2 (by omega)
  rw [Nat.add_sub_cancel] at b2
  obtain ⟨y1, y2, y3, y4⟩ := lgY_bd (K := K) b2 b1 (by omega)
  have HL := Lib.hid hlg
  have HB1 := Lib.hid b1
  have HB2 := Lib.hid b2
  clear b1 b2 y3 y4 hlg
  go_enter Try.func18, Try.ntmps18
  go_wp2
  go_loop [3] (fun i => ∃ j : Nat, j ≤ K ∧ i = .int .i64 j) (fun i => K - (intOf i).toNat)
  case atStart => exact ⟨0, by omega, rfl⟩
  case round =>
    obtain ⟨j, hj, rfl⟩ := hrel
    by_cases hlt : j < K
    · have hm := shr_more HB2.out hlt
      go_wp2
      go_round
      case rel => exact ⟨j + 1, by omega, by go_num⟩
      case measure => simp [intOf]; omega
    · obtain rfl : j = K := by omega
      have hl := shr_last HB1.out
      have hl0 : 0 ≤ x / 2 ^ j := Int.ediv_nonneg (by omega) (Int.le_of_lt (Int.pow_pos (by omega)))
      go_wp2
      · have h30 : j ≤ 30 := by omega
        have hx : wrap64 (x * 2 ^ (30 - j)) = lgY x j := by
          rw [← lgY_low h30]; simp only [wrap64]; omega
        rw [hx]
        clear hx hl hl0 hlt h30
        go_loop [4, 5, 6] (fun y o t => ∃ (i : Nat) (q ov : Int), i ≤ 16 ∧ Hid (q = 2 ^ (16 - i)) ∧ Hid (ov = (lgS (lgY x j) j i).2 * q) ∧ t = .int .i64 (q / 2) ∧ y = .int .i64 (lgS (lgY x j) j i).1 ∧ o = .int .i64 ov) (fun _ _ t => (intOf t).toNat)
        case atStart => exact ⟨0, 65536, 65536 * j, by omega, rfl, by simp only [lgS]; exact Int.mul_comm _ _, rfl, rfl, rfl⟩
        case round =>
          obtain ⟨i, q, ov, hi, hq, hov, rfl, rfl, rfl⟩ := hrel
          obtain ⟨c1, c2, c3, c4⟩ := lgS_bd (o := (j : Int)) y1 y2 (by omega) (by omega) i
          obtain ⟨e1, e2⟩ := oq_bd c3 c4 hi hq.out
          rw [← hov.out] at e1 e2
          by_cases hlt : i < 16
          · obtain ⟨q', rfl⟩ : ∃ q', q = 2 * q' := ⟨2 ^ (15 - i), by rw [hq.out, show 16 - i = 15 - i + 1 from by omega, Int.pow_succ]; omega⟩
            have hq2 : q' = 2 ^ (16 - (i + 1)) := by
              have := hq.out
              rw [show 16 - i = (16 - (i + 1)) + 1 from by omega, Int.pow_succ] at this; omega
            have hq3 : 0 < q' := by rw [hq2]; exact Int.pow_pos (by omega)
            have hq4 : q' ≤ 65536 := by rw [hq2]; exact ipow_mono (b := 16) (by omega)
            have HQ := Lib.hid hq2
            clear hq2 hq
            obtain ⟨d1, d2, d3, d4⟩ := sq_bd c1 c2
            generalize hs : lgS (lgY x j) j i = s at *
            obtain ⟨y, o⟩ := s
            have HS := Lib.hid hs
            clear hs
            simp only at c1 c2 c3 c4 d1 d2 d3 d4 ⊢
            have hov' := hov.out
            simp only at hov'
            have HV := Lib.hid hov'
            rw [show 2 * q' / 2 = q' from by omega]
            clear c4 hov hov'
            go_wp2
            · have ht : 2147483648 ≤ y * y / 1073741824 := by assumption
              have H2 := lgS_yes HS.out ht
              go_round
              case rel => exact ⟨i + 1, q', ov + q', by omega, HQ.out, by rw [H2, HV.out]; exact (by rw [Int.add_mul, Int.one_mul, Int.mul_left_comm o 2 q', Int.mul_assoc] : o * (2 * q') + q' = (2 * o + 1) * q'), by first | rfl | go_num, by rw [H2], by go_num⟩
              case measure => simp [intOf]; omega
            · have ht : y * y / 1073741824 < 2147483648 := by assumption
              have H2 := lgS_no HS.out ht
              go_round
              case rel => exact ⟨i + 1, q', ov, by omega, HQ.out, by rw [H2, HV.out]; exact (by rw [Int.mul_left_comm o 2 q', Int.mul_assoc] : o * (2 * q') = 2 * o * q'), by first | rfl | go_num, by rw [H2], by first | rfl | go_num⟩
              case measure => simp [intOf]; omega
          · obtain rfl : i = 16 := by omega
            obtain rfl : q = 1 := hq.out
            go_wp2
            go_ret
            exact ⟨ret_int (by rw [HL.out, hov.out, Int.mul_one]), rfl⟩
      · have h30 : 30 ≤ j := by omega
        rw [← lgY_high h30 (by omega)]
        clear hl hl0 hlt h30
        go_loop [4, 5, 6] (fun y o t => ∃ (i : Nat) (q ov : Int), i ≤ 16 ∧ Hid (q = 2 ^ (16 - i)) ∧ Hid (ov = (lgS (lgY x j) j i).2 * q) ∧ t = .int .i64 (q / 2) ∧ y = .int .i64 (lgS (lgY x j) j i).1 ∧ o = .int .i64 ov) (fun _ _ t => (intOf t).toNat)
        case atStart => exact ⟨0, 65536, 65536 * j, by omega, rfl, by simp only [lgS]; exact Int.mul_comm _ _, rfl, rfl, rfl⟩
        case round =>
          obtain ⟨i, q, ov, hi, hq, hov, rfl, rfl, rfl⟩ := hrel
          obtain ⟨c1, c2, c3, c4⟩ := lgS_bd (o := (j : Int)) y1 y2 (by omega) (by omega) i
          obtain ⟨e1, e2⟩ := oq_bd c3 c4 hi hq.out
          rw [← hov.out] at e1 e2
          by_cases hlt : i < 16
          · obtain ⟨q', rfl⟩ : ∃ q', q = 2 * q' := ⟨2 ^ (15 - i), by rw [hq.out, show 16 - i = 15 - i + 1 from by omega, Int.pow_succ]; omega⟩
            have hq2 : q' = 2 ^ (16 - (i + 1)) := by
              have := hq.out
              rw [show 16 - i = (16 - (i + 1)) + 1 from by omega, Int.pow_succ] at this; omega
            have hq3 : 0 < q' := by rw [hq2]; exact Int.pow_pos (by omega)
            have hq4 : q' ≤ 65536 := by rw [hq2]; exact ipow_mono (b := 16) (by omega)
            have HQ := Lib.hid hq2
            clear hq2 hq
            obtain ⟨d1, d2, d3, d4⟩ := sq_bd c1 c2
            generalize hs : lgS (lgY x j) j i = s at *
            obtain ⟨y, o⟩ := s
            have HS := Lib.hid hs
            clear hs
            simp only at c1 c2 c3 c4 d1 d2 d3 d4 ⊢
            have hov' := hov.out
            simp only at hov'
            have HV := Lib.hid hov'
            rw [show 2 * q' / 2 = q' from by omega]
            clear c4 hov hov'
            go_wp2
            · have ht : 2147483648 ≤ y * y / 1073741824 := by assumption
              have H2 := lgS_yes HS.out ht
              go_round
              case rel => exact ⟨i + 1, q', ov + q', by omega, HQ.out, by rw [H2, HV.out]; exact (by rw [Int.add_mul, Int.one_mul, Int.mul_left_comm o 2 q', Int.mul_assoc] : o * (2 * q') + q' = (2 * o + 1) * q'), by first | rfl | go_num, by rw [H2], by go_num⟩
              case measure => simp [intOf]; omega
            · have ht : y * y / 1073741824 < 2147483648 := by assumption
              have H2 := lgS_no HS.out ht
              go_round
              case rel => exact ⟨i + 1, q', ov, by omega, HQ.out, by rw [H2, HV.out]; exact (by rw [Int.mul_left_comm o 2 q', Int.mul_assoc] : o * (2 * q') = 2 * o * q'), by first | rfl | go_num, by rw [H2], by first | rfl | go_num⟩
              case measure => simp [intOf]; omega
          · obtain rfl : i = 16 := by omega
            obtain rfl : q = 1 := hq.out
            go_wp2
            go_ret
            exact ⟨ret_int (by rw [HL.out, hov.out, Int.mul_one]), rfl⟩
end Go.Proofs.Ytlbnicapkfmdoaa
