/- PressPresets: for every input this law returns true and leaves its arguments as they were. -/
import Derived.Test.YtedjnjgnadbkaaaZPP5
import Derived.Below
import Derived.WalkKit
import Derived.WalkSpells
import Derived.Test.YtedjnjgnadbkaaaRows
import Derived.ProofKit
import Derived.SizedLaws
import Derived.BigQuiet
import Derived.Deep.QuietTactic
import Derived.Deep.Slices
import Derived.OpenShut
/- Plain facts on whole numbers: rounding, floor division. No program in sight. -/
namespace Go.Proofs.Ytedjnjgnadbkaaa

/-- n/d rounded half up -/
def rnd (n d : Int) : Int := (2 * n + d) / (2 * d)

theorem div_uniq {a b q r : Int} (hb : 0 < b) (h : r + b * q = a) (h0 : 0 ≤ r) (h1 : r < b) : a / b = q :=
  ((Int.ediv_emod_unique hb).2 ⟨h, h0, h1⟩).1

theorem tdiv_neg {a b : Int} (hb : 0 < b) (h : a.tmod b < 0) : a.tdiv b - 1 = a / b := by
  have h1 := Int.tmod_add_mul_tdiv a b
  have h2 : -b < a.tmod b := by
    have := Int.lt_tmod_of_pos a hb
    omega
  refine (div_uniq (r := a.tmod b + b) hb ?_ (by omega) (by omega)).symm
  rw [Int.mul_sub]; omega

theorem tdiv_pos {a b : Int} (hb : 0 < b) (h : 0 ≤ a.tmod b) : a.tdiv b = a / b := by
  have h1 := Int.tmod_add_mul_tdiv a b
  have h2 : a.tmod b < b := Int.tmod_lt_of_pos a hb
  exact (div_uniq (r := a.tmod b) hb (by omega) (by omega) (by omega)).symm

theorem tdiv_over {a b : Int} (hb : 0 < b) (h : a < a.tdiv b * b) : a.tdiv b - 1 = a / b := by
  have h1 := Int.tmod_add_mul_tdiv a b
  refine tdiv_neg hb ?_
  rw [Int.mul_comm] at h1; omega

theorem tdiv_under {a b : Int} (hb : 0 < b) (h : a.tdiv b * b ≤ a) : a.tdiv b = a / b := by
  have h1 := Int.tmod_add_mul_tdiv a b
  refine tdiv_pos hb ?_
  rw [Int.mul_comm] at h1; omega

/-- the reference's way of rounding -/
theorem rnd_up {n d : Int} (hd : 0 < d) (h : d ≤ 2 * (n - n / d * d)) : n / d + 1 = rnd n d := by
  have h1 := Int.emod_add_mul_ediv n d
  have h2 := Int.emod_lt_of_pos n hd
  have h3 := Int.emod_nonneg n (by omega : d ≠ 0)
  rw [Int.mul_comm] at h1
  refine (div_uniq (r := 2 * (n % d) - d) (by omega) ?_ (by omega) (by omega)).symm
  have e : 2 * d * (n / d + 1) = 2 * (n / d * d) + 2 * d := by rw [Int.mul_add, Int.mul_assoc, Int.mul_comm d]; omega
  omega

theorem rnd_down {n d : Int} (hd : 0 < d) (h : 2 * (n - n / d * d) < d) : n / d = rnd n d := by
  have h1 := Int.emod_add_mul_ediv n d
  have h2 := Int.emod_lt_of_pos n hd
  have h3 := Int.emod_nonneg n (by omega : d ≠ 0)
  rw [Int.mul_comm] at h1
  refine (div_uniq (r := 2 * (n % d) + d) (by omega) ?_ (by omega) (by omega)).symm
  have e : 2 * d * (n / d) = 2 * (n / d * d) := by rw [Int.mul_assoc, Int.mul_comm d]
  omega

theorem tdiv_abs {n m : Int} (d : Int) (h1 : -m ≤ n) (h2 : n ≤ m) : -m ≤ n.tdiv d ∧ n.tdiv d ≤ m := by
  have := Int.natAbs_tdiv_le_natAbs n d
  omega

theorem mul_bd {a b m n : Int} (h0 : 0 ≤ a) (h1 : a ≤ m) (h2 : 0 ≤ b) (h3 : b ≤ n) : 0 ≤ a * b ∧ a * b ≤ m * n :=
  ⟨Int.mul_nonneg h0 h2, Int.mul_le_mul h1 h3 h2 (by omega)⟩
end Go.Proofs.Ytedjnjgnadbkaaa
/- Bits of bytes, bitmaps as lists of bytes. No program in sight. -/
namespace Go.Proofs.Ytedjnjgnadbkaaa
open Go Go.RowKit

/-- the pixel j of a byte, from the left -/
def bitAt (v : Int) (j : Nat) : Bool := v / 2 ^ (7 - j) % 2 == 1
theorem fin_byte {p : Int → Prop} (h : ∀ v : Fin 256, p (v.val : Int)) {v : Int} (h0 : 0 ≤ v) (h1 : v ≤ 255) : p v := by
  have := h ⟨v.toNat, by omega⟩
  rwa [show ((⟨v.toNat, by omega⟩ : Fin 256).val : Int) = v from Int.toNat_of_nonneg h0] at this
theorem shl_bit {v : Int} (h0 : 0 ≤ v) (h1 : v ≤ 255) {k : Nat} (hk : k < 8) : bits .and .u8 (IntKind.wrap .u8 (v * 2 ^ k)) 128 = (if bitAt v k = true then 128 else 0) :=
  fin_byte (p := fun v => ∀ k : Fin 8, bits .and .u8 (IntKind.wrap .u8 (v * 2 ^ k.val)) 128 = (if bitAt v k.val = true then 128 else 0)) (by decide +kernel) h0 h1 ⟨k, hk⟩
theorem and_mask {v : Int} (h0 : 0 ≤ v) (h1 : v ≤ 255) {k : Nat} (hk : k < 8) : bits .and .u8 v (128 / 2 ^ k) = (if bitAt v k = true then 128 / 2 ^ k else 0) :=
  fin_byte (p := fun v => ∀ k : Fin 8, bits .and .u8 v (128 / 2 ^ k.val) = (if bitAt v k.val = true then 128 / 2 ^ k.val else 0)) (by decide +kernel) h0 h1 ⟨k, hk⟩
theorem mask_ne {k : Nat} (hk : k < 8) : (128 : Int) / 2 ^ k ≠ 0 := (show ∀ k : Fin 8, (128 : Int) / 2 ^ k.val ≠ 0 by decide) ⟨k, hk⟩
/-- the lowest u bits of a byte -/
def lowOk (v : Int) (u : Nat) : Bool := v % 2 ^ u == 0
theorem and_low {v : Int} (h0 : 0 ≤ v) (h1 : v ≤ 255) {u : Nat} (hu : u < 8) : bits .and .u8 v (2 ^ u - 1) = v % 2 ^ u :=
  fin_byte (p := fun v => ∀ u : Fin 8, bits .and .u8 v (2 ^ u.val - 1) = v % 2 ^ u.val) (by decide +kernel) h0 h1 ⟨u, hu⟩
theorem low_bits {v : Int} (h0 : 0 ≤ v) (h1 : v ≤ 255) {u : Nat} (hu : u < 8) : lowOk v u = true ↔ ∀ k, k < 8 → 8 - u ≤ k → bitAt v k = false := by
  have h := fin_byte (p := fun v => ∀ u : Fin 8, lowOk v u.val = true ↔ ∀ k : Fin 8, 8 - u.val ≤ k.val → bitAt v k.val = false) (by decide +kernel) h0 h1 ⟨u, hu⟩
  exact h.trans ⟨fun g k hk hu => g ⟨k, hk⟩ hu, fun g k hu => g k.val k.isLt hu⟩
theorem wrap_pow {u : Nat} (hu : u < 8) : IntKind.wrap .u8 (IntKind.wrap .u8 (1 * 2 ^ u) - 1) = 2 ^ u - 1 := (show ∀ u : Fin 8, IntKind.wrap .u8 (IntKind.wrap .u8 (1 * 2 ^ u.val) - 1) = 2 ^ u.val - 1 by decide +kernel) ⟨u, hu⟩
/-- bytes -/
def Bytes (ds : List Int) : Prop := ∀ d ∈ ds, 0 ≤ d ∧ d ≤ 255
/-- a row's bytes -/
def strideN (w : Nat) : Nat := (w + 7) / 8
def tailOk (w h : Nat) (ds : List Int) : Bool := (List.range h).all fun y => lowOk (ds.getD (y * strideN w + strideN w - 1) 0) (8 * strideN w - w)
def bitsE (w h : Int) (ds : List Int) : Int := if 1 ≤ w ∧ w ≤ 1024 ∧ 1 ≤ h ∧ h ≤ 1024 then (if ds.length = strideN w.toNat * h.toNat then (if tailOk w.toNat h.toNat ds = true then 0 else 4) else 4) else 3
/-- no pixel beyond a row's end, byte by byte -/
def pixOk (w n i : Nat) (d : Int) (k : Nat) : Bool := !(decide (w ≤ i % n * 8 + k) && bitAt d k)
def byteOk (w n i : Nat) (d : Int) : Bool := (List.range 8).all (pixOk w n i d)
def rowsOk (w n : Nat) (ds : List Int) (m : Nat) : Bool := (List.range m).all fun i => byteOk w n i (ds.getD i 0)
theorem rows_tail {w h : Nat} {ds : List Int} (hb : Bytes ds) (hw : 1 ≤ w) (hl : ds.length = strideN w * h) : rowsOk w (strideN w) ds ds.length = tailOk w h ds := by
  have hn : 1 ≤ strideN w ∧ w ≤ 8 * strideN w ∧ 8 * strideN w ≤ w + 7 := by unfold strideN; omega
  unfold tailOk
  generalize strideN w = n at *
  obtain ⟨n0, n2, n3⟩ := hn
  have hg : ∀ i, i < ds.length → 0 ≤ ds.getD i 0 ∧ ds.getD i 0 ≤ 255 := fun i hi => by
    rw [List.getD_eq_getElem?_getD, List.getElem?_eq_getElem hi]
    exact hb _ (List.getElem_mem hi)
  rw [Bool.eq_iff_iff]
  constructor
  · intro ha
    refine List.all_eq_true.2 fun y hy => ?_
    have hy := List.mem_range.1 hy
    have h1 : (y + 1) * n ≤ h * n := Nat.mul_le_mul_right n hy
    rw [Nat.add_mul, Nat.one_mul, Nat.mul_comm h n] at h1
    have hi : y * n + n - 1 < ds.length := by omega
    have hmod : (y * n + n - 1) % n = n - 1 := by
      rw [show y * n + n - 1 = (n - 1) + n * y by rw [Nat.mul_comm y n]; omega, Nat.add_mul_mod_self_left, Nat.mod_eq_of_lt (by omega)]
    have hrow := List.all_eq_true.1 ha (y * n + n - 1) (List.mem_range.2 hi)
    obtain ⟨g0, g1⟩ := hg _ hi
    refine (low_bits g0 g1 (u := 8 * n - w) (by omega)).2 fun k hk hu => ?_
    have := List.all_eq_true.1 hrow k (List.mem_range.2 hk)
    unfold pixOk at this
    rw [hmod, show decide (w ≤ (n - 1) * 8 + k) = true by simp; omega] at this
    simpa using this
  · intro ha
    refine List.all_eq_true.2 fun i hi => List.all_eq_true.2 fun k hk => ?_
    have hi := List.mem_range.1 hi
    have hk := List.mem_range.1 hk
    unfold pixOk
    by_cases hw : w ≤ i % n * 8 + k
    · have hm : i % n < n := Nat.mod_lt _ (by omega)
      have hmod : i % n = n - 1 := by omega
      have hdm := Nat.div_add_mod i n
      have hy : i / n < h := by
        apply Nat.div_lt_of_lt_mul
        omega
      have hrow := List.all_eq_true.1 ha (i / n) (List.mem_range.2 hy)
      have he : i / n * n + n - 1 = i := by rw [Nat.mul_comm]; omega
      rw [he] at hrow
      obtain ⟨g0, g1⟩ := hg _ hi
      have := (low_bits g0 g1 (u := 8 * n - w) (by omega)).1 hrow k hk (by omega)
      rw [this]
      simp
    · rw [show decide (w ≤ i % n * 8 + k) = false by simp; omega]
      rfl
end Go.Proofs.Ytedjnjgnadbkaaa
/- Strips: what the small functions compute. -/
namespace Go.Proofs.Ytedjnjgnadbkaaa
open Go Go.RowKit

theorem within_r (fu : Nat) (x lo hi : Int) : R_Within_r fu (x, (lo, (hi, ()))) = some (decide (lo ≤ x) && decide (x ≤ hi), ()) := by
  unfold R_Within_r
  by_cases h : lo ≤ x
  · rw [bif_pos h, decide_eq_true h]; rfl
  · rw [bif_neg h, decide_eq_false h]; rfl
theorem none_r (fu : Nat) (z : Bool) (g w : Int) : law_none_r fu (z, (g, (w, ()))) = some (z && decide (g = w), ()) := by
  unfold law_none_r
  cases z <;> rfl
theorem big_r (fu : Nat) (w h : Int) (ds : List Int) : law_big_r fu ((w, (h, ds)), ()) = some (decide (48 < w) || decide (24 < h), ()) := by
  unfold law_big_r
  by_cases g : 48 < w
  · rw [bif_pos g, decide_eq_true g]; rfl
  · rw [bif_neg g, decide_eq_false g]; rfl
/-- a row's bytes -/
def strd (w : Int) : Int := (w + 7) / 8
theorem stride_r (fu : Nat) {w : Int} (h0 : 0 ≤ w) (h1 : w ≤ 1000000) : bitmap_stride_r fu (w, ()) = some (strd w, ()) := by
  unfold bitmap_stride_r strd
  simp only
  rw [wr64 (x := w + 7) (by omega) (by omega), Int.tdiv_eq_ediv_of_nonneg (by omega), wr64 (x := (w + 7) / 8) (by omega) (by omega)]
theorem strd_N {w : Int} (h0 : 0 ≤ w) : strd w = (strideN w.toNat : Int) := by
  unfold strd strideN
  omega
/-- the pixel (x, y) -/
def pixB (w h : Int) (ds : List Int) (x y : Int) : Bool := decide (0 ≤ x ∧ x < w ∧ 0 ≤ y ∧ y < h) && bitAt (ds.getD (y * strd w + x / 8).toNat 0) (x % 8).toNat
theorem at_ok {w h : Int} (hw : 0 ≤ w) {x y : Int} {l : Nat} (hx0 : 0 ≤ x) (hx1 : x < w) (hy0 : 0 ≤ y) (hy1 : y < h) (hl : (l : Int) = strd w * h) : 0 ≤ y * strd w ∧ 0 ≤ y * strd w + x / 8 ∧ y * strd w + x / 8 < l := by
  have h1 : x / 8 < strd w := by unfold strd; omega
  have h2 : y * strd w ≤ (h - 1) * strd w := Int.mul_le_mul_of_nonneg_right (by omega) (by unfold strd; omega)
  have h3 : (h - 1) * strd w = strd w * h - strd w := by rw [Int.sub_mul, Int.one_mul, Int.mul_comm]
  have h4 : 0 ≤ y * strd w := Int.mul_nonneg hy0 (by unfold strd; omega)
  omega
theorem Bytes.at {ds : List Int} (h : Bytes ds) (i : Nat) : 0 ≤ ds.getD i 0 ∧ ds.getD i 0 ≤ 255 := by
  rw [List.getD_eq_getElem?_getD]
  cases e : ds[i]? with
  | none => simp
  | some d => exact h d (List.mem_of_getElem? e)
theorem is_r (fu : Nat) {w h : Int} {ds : List Int} (hw0 : 0 ≤ w) (hw1 : w ≤ 1024) (hh : h ≤ 1024) (hl : (ds.length : Int) = strd w * h) (hb : Bytes ds) (x y : Int) : bitmap_Is_r fu ((w, (h, ds)), (x, (y, ()))) = some (pixB w h ds x y, ()) := by
  unfold bitmap_Is_r pixB
  simp only
  by_cases h1 : 0 ≤ x
  · rw [bif_pos h1]
    by_cases h2 : x < w
    · rw [bif_pos h2]
      by_cases h3 : 0 ≤ y
      · rw [bif_pos h3]
        by_cases h4 : y < h
        · rw [bif_pos h4, stride_r fu hw0 (by omega)]
          simp only [bindO_some]
          obtain ⟨g0, g1, g2⟩ := at_ok hw0 h1 h2 h3 h4 hl
          have hs : strd w * h ≤ 128 * 1024 := by
            have a1 : strd w ≤ 128 := by unfold strd; omega
            have a2 : 0 ≤ strd w := by unfold strd; omega
            have := Int.mul_le_mul a1 hh (by omega : 0 ≤ h) (by omega : (0 : Int) ≤ 128)
            omega
          rw [Int.tdiv_eq_ediv_of_nonneg h1, Int.tmod_eq_emod_of_nonneg h1, wr64 (x := x / 8) (by omega) (by omega), wr64 (x := y * strd w) (by omega) (by omega), wr64 (x := y * strd w + x / 8) (by omega) (by omega)]
          rw [bif_and g1 g2, bif_and (by omega) (by omega), and_mask (hb.at _).1 (hb.at _).2 (by omega)]
          rw [decide_eq_true (show 0 ≤ x ∧ x < w ∧ 0 ≤ y ∧ y < h from ⟨h1, h2, h3, h4⟩), Bool.true_and]
          have := mask_ne (k := (x % 8).toNat) (by omega)
          cases bitAt (ds.getD (y * strd w + x / 8).toNat 0) (x % 8).toNat with
          | true => rw [if_pos rfl, decide_eq_true this]
          | false => rw [if_neg (by simp)]; rfl
        · rw [bif_neg h4, decide_eq_false (by omega)]; rfl
      · rw [bif_neg h3, decide_eq_false (by omega)]; rfl
    · rw [bif_neg h2, decide_eq_false (by omega)]; rfl
  · rw [bif_neg h1, decide_eq_false (by omega)]; rfl
theorem bit_r (fu : Nat) {w h : Int} {ds : List Int} (hw0 : 1 ≤ w) (hw1 : w ≤ 1024) (hh0 : 1 ≤ h) (hh : h ≤ 1024) (hl : (ds.length : Int) = strd w * h) (hb : Bytes ds) (x y : Int) : R_Bit_r fu ((w, (h, ds)), (x, (y, ()))) = some (pixB w h ds x y, ()) := by
  unfold R_Bit_r
  simp only [joinF_eq, within_r, bindO_some]
  rw [wr64 (x := w - 1) (by omega) (by omega), wr64 (x := h - 1) (by omega) (by omega)]
  by_cases h1 : 0 ≤ x ∧ x < w
  · rw [decide_eq_true h1.1, decide_eq_true (show x ≤ w - 1 by omega)]
    by_cases h2 : 0 ≤ y ∧ y < h
    · rw [decide_eq_true h2.1, decide_eq_true (show y ≤ h - 1 by omega)]
      show R_Bit_j1 fu ((w, (h, ds)), (x, (y, ()))) false = _
      unfold R_Bit_j1 pixB
      simp only [cond_false]
      have hs : strd w * h ≤ 128 * 1024 := by
        have a1 : strd w ≤ 128 := by unfold strd; omega
        have a2 : 0 ≤ strd w := by unfold strd; omega
        have := Int.mul_le_mul a1 hh (by omega : 0 ≤ h) (by omega : (0 : Int) ≤ 128)
        omega
      obtain ⟨g0, g1, g2⟩ := at_ok (w := w) (by omega) h1.1 h1.2 h2.1 h2.2 hl
      have e1 : IntKind.i64.wrap (Int.tdiv (IntKind.i64.wrap (w + 7)) 8) = strd w := by
        rw [wr64 (x := w + 7) (by omega) (by omega), Int.tdiv_eq_ediv_of_nonneg (by omega), wr64 (x := (w + 7) / 8) (by omega) (by omega)]; rfl
      have h10 := h1.1
      rw [e1, Int.tdiv_eq_ediv_of_nonneg h1.1, Int.tmod_eq_emod_of_nonneg h1.1, wr64 (x := x / 8) (by omega) (by omega), wr64 (x := y * strd w) (by omega) (by omega), wr64 (x := y * strd w + x / 8) (by omega) (by omega)]
      rw [bif_and g1 g2, bif_and (by omega) (by omega), shl_bit (hb.at _).1 (hb.at _).2 (by omega)]
      rw [decide_eq_true (show 0 ≤ x ∧ x < w ∧ 0 ≤ y ∧ y < h from ⟨h1.1, h1.2, h2.1, h2.2⟩), Bool.true_and]
      cases bitAt (ds.getD (y * strd w + x / 8).toNat 0) (x % 8).toNat <;> rfl
    · have : (decide (0 ≤ y) && decide (y ≤ h - 1)) = false := by
        rw [← Bool.not_eq_true, Bool.and_eq_true]
        simp; omega
      rw [this]
      show R_Bit_j1 fu ((w, (h, ds)), (x, (y, ()))) true = _
      unfold R_Bit_j1 pixB
      rw [decide_eq_false (show ¬ (0 ≤ x ∧ x < w ∧ 0 ≤ y ∧ y < h) by omega)]; rfl
  · have : (decide (0 ≤ x) && decide (x ≤ w - 1)) = false := by
      rw [← Bool.not_eq_true, Bool.and_eq_true]
      simp; omega
    rw [this]
    show R_Bit_j1 fu ((w, (h, ds)), (x, (y, ()))) true = _
    unfold R_Bit_j1 pixB
    rw [decide_eq_false (show ¬ (0 ≤ x ∧ x < w ∧ 0 ≤ y ∧ y < h) by omega)]; rfl
end Go.Proofs.Ytedjnjgnadbkaaa
/- Strips: Check and BitsErr. -/
namespace Go.Proofs.Ytedjnjgnadbkaaa
open Go Go.RowKit

theorem and_neg_lo {v : Int} : (decide (1 ≤ v) && decide (v ≤ 1024)) = decide (1 ≤ v ∧ v ≤ 1024) := by
  by_cases h : 1 ≤ v <;> by_cases h' : v ≤ 1024 <;> simp [h, h']
theorem check_r {fu : Nat} (hf : 18446744073709551616 ≤ fu) {w h : Int} {ds : List Int} (hb : Bytes ds) : bitmap_Check_r fu ((w, (h, ds)), ()) = some (bitsE w h ds, ()) := by
  unfold bitmap_Check_r bitsE
  simp only [joinF_eq]
  have bad : ∀ p : Prop, ¬ (1 ≤ w ∧ w ≤ 1024 ∧ 1 ≤ h ∧ h ≤ 1024) → bitmap_Check_j1 fu ((w, (h, ds)), ()) true = some (if 1 ≤ w ∧ w ≤ 1024 ∧ 1 ≤ h ∧ h ≤ 1024 then (if ds.length = strideN w.toNat * h.toNat then (if tailOk w.toNat h.toNat ds = true then 0 else 4) else 4) else 3, ()) := by
    intro _ hn
    rw [if_neg hn]; rfl
  by_cases h1 : w < 1
  · rw [bif_pos h1]; exact bad True (by omega)
  rw [bif_neg h1]
  by_cases h2 : 1024 < w
  · rw [bif_pos h2]; exact bad True (by omega)
  rw [bif_neg h2]
  by_cases h3 : h < 1
  · rw [bif_pos h3]; exact bad True (by omega)
  rw [bif_neg h3]
  by_cases h4 : 1024 < h
  · rw [decide_eq_true h4]; exact bad True (by omega)
  rw [decide_eq_false h4, if_pos (by omega)]
  clear bad
  unfold bitmap_Check_j1
  simp only [cond_false]
  rw [stride_r fu (by omega) (by omega)]
  simp only [bindO_some, joinF_eq]
  have hs0 : 1 ≤ strd w ∧ strd w ≤ 128 ∧ w ≤ 8 * strd w ∧ 8 * strd w ≤ w + 7 := by unfold strd; omega
  have hN : strd w = (strideN w.toNat : Int) := strd_N (by omega)
  have hs : 0 ≤ strd w * h ∧ strd w * h ≤ 128 * 1024 := ⟨Int.mul_nonneg (by omega) (by omega), by
    have := Int.mul_le_mul hs0.2.1 (show h ≤ 1024 by omega) (by omega : 0 ≤ h) (by omega : (0 : Int) ≤ 128)
    omega⟩
  rw [wr64 (x := strd w * h) (by omega) (by omega), wr64 (x := 8 * strd w) (by omega) (by omega), wr64 (x := 8 * strd w - w) (by omega) (by omega)]
  have hmul : strd w * h = ((strideN w.toNat * h.toNat : Nat) : Int) := by rw [hN, Int.natCast_mul]; congr 1; omega
  by_cases hl : ds.length = strideN w.toNat * h.toNat
  · rw [bif_neg (by rw [hmul, hl]; simp), if_pos hl, bif_and (by omega) (by omega)]
    have e4 : IntKind.u8.wrap (IntKind.u8.wrap (1 * 2 ^ (8 * strd w - w).toNat) - 1) = 2 ^ (8 * strd w - w).toNat - 1 := wrap_pow (by omega)
    rw [e4]
    have hu : (8 * strd w - w).toNat = 8 * strideN w.toNat - w.toNat := by omega
    by_cases hz : w = 8 * strd w
    · have : (2 : Int) ^ (8 * strd w - w).toNat - 1 = 0 := by rw [show (8 * strd w - w).toNat = 0 by omega]; rfl
      rw [this, bif_neg (by simp)]
      have ht : tailOk w.toNat h.toNat ds = true := by
        refine List.all_eq_true.2 fun y _ => ?_
        rw [show 8 * strideN w.toNat - w.toNat = 0 by omega]
        unfold lowOk
        simp [Int.emod_one]
      rw [if_pos ht]; rfl
    · have hne : (2 : Int) ^ (8 * strd w - w).toNat - 1 ≠ 0 := by
        have : ∀ u : Fin 8, 0 < u.val → (2 : Int) ^ u.val - 1 ≠ 0 := by decide
        exact this ⟨(8 * strd w - w).toNat, by omega⟩ (by show 0 < (8 * strd w - w).toNat; omega)
      rw [bif_pos hne]
      let p : Nat → Bool := fun y => lowOk (ds.getD (y * strideN w.toNat + strideN w.toNat - 1) 0) (8 * strideN w.toNat - w.toNat)
      have := loopF_spec (f := bitmap_Check_l3 fu ((w, (h, ds)), ()) (strd w) (2 ^ (8 * strd w - w).toNat - 1) (bitmap_Check_j2 fu)) (fun y : Int => (h - y).toNat) (fun y => 0 ≤ y ∧ y ≤ h) (fun y => some (if allFrom p h.toNat y.toNat = true then 0 else 4, ())) (fun j y ⟨i0, i1⟩ hj => ?_) fu 0 ⟨by omega, by omega⟩ (by omega)
      · rw [this]
        show some (if allFrom p h.toNat 0 = true then (0 : Int) else 4, ()) = _
        rw [allFrom_zero]; rfl
      · unfold bitmap_Check_l3
        simp only
        by_cases hy : y < h
        · obtain ⟨g0, g1, g2⟩ := at_ok (w := w) (h := h) (x := w - 1) (y := y) (l := ds.length) (by omega) (by omega) (by omega) i0 hy (by rw [hmul, hl])
          have g3 : y * strd w + strd w ≤ strd w * h := by
            have := Int.mul_le_mul_of_nonneg_right (show y + 1 ≤ h by omega) (show 0 ≤ strd w by omega)
            rw [Int.add_mul, Int.one_mul, Int.mul_comm h] at this
            exact this
          rw [bif_pos hy, wr64 (x := y * strd w) (by omega) (by omega), wr64 (x := y * strd w + strd w) (by omega) (by omega), wr64 (x := y * strd w + strd w - 1) (by omega) (by omega), bif_and (by omega) (by rw [hl, ← hmul]; omega)]
          rw [and_low (hb.at _).1 (hb.at _).2 (by omega), allFrom_lt (by omega)]
          have ei : (y * strd w + strd w - 1).toNat = y.toNat * strideN w.toNat + strideN w.toNat - 1 := by
            have : y * strd w = ((y.toNat * strideN w.toNat : Nat) : Int) := by rw [hN, Int.natCast_mul]; congr 1; omega
            omega
          have ep : p y.toNat = decide (ds.getD (y * strd w + strd w - 1).toNat 0 % 2 ^ (8 * strd w - w).toNat = 0) := by
            show lowOk _ _ = _
            unfold lowOk
            rw [ei, hu]; rfl
          by_cases hd : ds.getD (y * strd w + strd w - 1).toNat 0 % 2 ^ (8 * strd w - w).toNat = 0
          · rw [bif_neg (by simpa using hd), wr64 (x := y + 1) (by omega) (by omega), hj (y + 1) ⟨by omega, by omega⟩ (by omega), ep, decide_eq_true hd, Bool.true_and]
            rw [show (y + 1).toNat = y.toNat + 1 by omega]
          · rw [bif_pos hd, ep, decide_eq_false hd, Bool.false_and]; rfl
        · rw [bif_neg hy, allFrom_ge (by omega)]; rfl
  · rw [bif_pos (by rw [hmul]; omega), if_neg hl]
theorem bitsErr_r {fu : Nat} (hf : 18446744073709551616 ≤ fu) {w h : Int} {ds : List Int} (hb : Bytes ds) : R_BitsErr_r fu ((w, (h, ds)), ()) = some (bitsE w h ds, ()) := by
  unfold R_BitsErr_r bitsE
  simp only [joinF_eq, within_r, bindO_some, and_neg_lo]
  by_cases h1 : 1 ≤ w ∧ w ≤ 1024
  · rw [decide_eq_true h1]
    by_cases h2 : 1 ≤ h ∧ h ≤ 1024
    · rw [decide_eq_true h2, if_pos (by omega)]
      show R_BitsErr_j1 fu ((w, (h, ds)), ()) false = _
      unfold R_BitsErr_j1
      simp only [cond_false]
      have e1 : IntKind.i64.wrap (Int.tdiv (IntKind.i64.wrap (w + 7)) 8) = strd w := by
        rw [wr64 (x := w + 7) (by omega) (by omega), Int.tdiv_eq_ediv_of_nonneg (by omega), wr64 (x := (w + 7) / 8) (by omega) (by omega)]; rfl
      have hs0 : 1 ≤ strd w ∧ strd w ≤ 128 ∧ w ≤ 8 * strd w ∧ 8 * strd w ≤ w + 7 := by unfold strd; omega
      have hN : strd w = (strideN w.toNat : Int) := strd_N (by omega)
      have hs : 0 ≤ strd w * h ∧ strd w * h ≤ 128 * 1024 := ⟨Int.mul_nonneg (by omega) (by omega), by
        have := Int.mul_le_mul hs0.2.1 (show h ≤ 1024 by omega) (by omega : 0 ≤ h) (by omega : (0 : Int) ≤ 128)
        omega⟩
      have hmul : strd w * h = ((strideN w.toNat * h.toNat : Nat) : Int) := by rw [hN, Int.natCast_mul]; congr 1; omega
      rw [e1, wr64 (x := strd w * h) (by omega) (by omega)]
      by_cases hl : ds.length = strideN w.toNat * h.toNat
      · rw [bif_neg (by rw [hmul, hl]; simp), if_pos hl, ← rows_tail hb (by omega) hl]
        unfold rowsOk
        rw [← allFrom_zero]
        let p : Nat → Bool := fun i => byteOk w.toNat (strideN w.toNat) i (ds.getD i 0)
        refine loopF_spec (f := R_BitsErr_l2 fu ((w, (h, ds)), ()) (strd w)) (fun i : Int => ((ds.length : Int) - i).toNat) (fun i => 0 ≤ i ∧ i ≤ ds.length) (fun i => some (if allFrom p ds.length i.toNat = true then 0 else 4, ())) (fun j i ⟨i0, i1⟩ hj => ?_) fu 0 ⟨by omega, by omega⟩ (by omega)
        unfold R_BitsErr_l2
        simp only
        by_cases hi : i < ds.length
        · rw [bif_pos hi, bif_and i0 hi, allFrom_lt (by omega)]
          let q : Nat → Bool := pixOk w.toNat (strideN w.toNat) i.toNat (ds.getD i.toNat 0)
          have hp : p i.toNat = allFrom q 8 0 := by rw [allFrom_zero]; rfl
          rw [hp]
          refine (loopF_spec (f := R_BitsErr_l3 fu ((w, (h, ds)), ()) (strd w) i (ds.getD i.toNat 0) j) (fun k : Int => (8 - k).toNat) (fun k => 0 ≤ k ∧ k ≤ 8) (fun k => some (if (allFrom q 8 k.toNat && allFrom p ds.length (i.toNat + 1)) = true then 0 else 4, ())) (fun j' k ⟨k0, k1⟩ hj' => ?_) fu 0 ⟨by omega, by omega⟩ (by omega))
          unfold R_BitsErr_l3
          simp only
          by_cases hk : k < 8
          · rw [bif_pos hk, allFrom_lt (by omega)]
            simp only [joinF_eq]
            rw [bif_pos (by omega), Int.tmod_eq_emod_of_nonneg i0]
            have em : i % strd w = ((i.toNat % strideN w.toNat : Nat) : Int) := by rw [hN, Int.natCast_emod, Int.toNat_of_nonneg i0]
            have hlt : i.toNat % strideN w.toNat < strideN w.toNat := Nat.mod_lt _ (by omega)
            rw [em, wr64 (x := ((i.toNat % strideN w.toNat : Nat) : Int) * 8) (by omega) (by omega), wr64 (x := ((i.toNat % strideN w.toNat : Nat) : Int) * 8 + k) (by omega) (by omega)]
            have good : q k.toNat = true → R_BitsErr_j4 fu k j' false = some (if (q k.toNat && allFrom q 8 (k.toNat + 1) && allFrom p ds.length (i.toNat + 1)) = true then 0 else 4, ()) := by
              intro hq
              unfold R_BitsErr_j4
              simp only [cond_false]
              rw [wr64 (x := k + 1) (by omega) (by omega), hj' (k + 1) ⟨by omega, by omega⟩ (by omega), hq, Bool.true_and]
              rw [show (k + 1).toNat = k.toNat + 1 by omega]
            by_cases hle : w ≤ ((i.toNat % strideN w.toNat : Nat) : Int) * 8 + k
            · rw [bif_pos hle, bif_and k0 (by omega), shl_bit (hb.at _).1 (hb.at _).2 (by omega)]
              have hq : q k.toNat = !bitAt (ds.getD i.toNat 0) k.toNat := by
                show pixOk _ _ _ _ _ = _
                unfold pixOk
                rw [decide_eq_true (by omega), Bool.true_and]
              cases hbt : bitAt (ds.getD i.toNat 0) k.toNat with
              | true =>
                rw [hbt] at hq
                rw [if_pos rfl, hq]; rfl
              | false =>
                rw [hbt] at hq
                rw [if_neg (by simp)]
                exact good hq
            · rw [bif_neg hle]
              refine good ?_
              show pixOk _ _ _ _ _ = _
              unfold pixOk
              rw [decide_eq_false (by omega)]; rfl
          · rw [bif_neg hk, allFrom_ge (i := k.toNat) (by omega), Bool.true_and, wr64 (x := i + 1) (by omega) (by omega), hj (i + 1) ⟨by omega, by omega⟩ (by omega)]
            rw [show (i + 1).toNat = i.toNat + 1 by omega]
        · rw [bif_neg hi, allFrom_ge (by omega)]; rfl
      · rw [bif_pos (by rw [hmul]; omega), if_neg hl]
    · rw [decide_eq_false h2, if_neg (by omega)]; rfl
  · rw [decide_eq_false h1, if_neg (by omega)]; rfl
end Go.Proofs.Ytedjnjgnadbkaaa
/- Rewriting of residual programs by facts of arithmetic. No program in sight. -/
namespace Go.Proofs.Ytedjnjgnadbkaaa
open Go Go.RowKit
theorem s_pos {p : Prop} [Decidable p] (h : p) : decide p = true := decide_eq_true h
theorem s_neg {p : Prop} [Decidable p] (h : ¬ p) : decide p = false := decide_eq_false h
theorem s_wr {x : Int} (h0 : -9223372036854775808 ≤ x) (h1 : x ≤ 9223372036854775807) : IntKind.i64.wrap x = x := wr64 h0 h1
theorem s_td {a b : Int} (h : 0 ≤ a) : Int.tdiv a b = a / b := Int.tdiv_eq_ediv_of_nonneg h
theorem s_tm {a b : Int} (h : 0 ≤ a) : Int.tmod a b = a % b := Int.tmod_eq_emod_of_nonneg h
/-- the first error of n steps from step i on -/
def firstE (E : Nat → Int) : Nat → Nat → Int
  | 0, _ => 0
  | n + 1, i => if E i = 0 then firstE E n (i + 1) else E i
theorem firstE_step {E : Nat → Int} {i m : Nat} (hi : i < m) : firstE E (m - i) i = if E i = 0 then firstE E (m - (i + 1)) (i + 1) else E i := by
  rw [show m - i = (m - (i + 1)) + 1 by omega, firstE]
theorem firstE_ok {E : Nat → Int} : ∀ (n i : Nat), firstE E n i = 0 → ∀ k, i ≤ k → k < i + n → E k = 0
  | 0, _, _, _, _, _ => by omega
  | n + 1, i, h0, k, h1, h2 => by
    rw [firstE] at h0
    by_cases c : E i = 0
    · rw [if_pos c] at h0
      by_cases e : k = i
      · subst e; exact c
      · exact firstE_ok n (i + 1) h0 k (by omega) (by omega)
    · rw [if_neg c] at h0
      exact absurd h0 c
section
variable {α : Type} {n : Nat} {G G' : Int → α}
end
end Go.Proofs.Ytedjnjgnadbkaaa
/- Numbers: what the small functions compute. -/
namespace Go.Proofs.Ytedjnjgnadbkaaa
open Go Go.RowKit
set_option linter.unusedSimpArgs false
set_option linter.unusedSectionVars false
set_option linter.unusedVariables false

theorem floor_s (fu : Nat) {n d : Int} (hd : 0 < d) (h1 : d ≤ 9223372036854775807) (h2 : -9223372036854775808 ≤ n) (h3 : n ≤ 9223372036854775807) : R_Floor_r fu (n, (d, ())) = some (n / d, ()) := by
  unfold R_Floor_r
  simp only [joinF_eq]
  rw [bif_pos (by omega)]
  have hm := Int.tmod_add_mul_tdiv n d
  have hm1 := Int.natAbs_tmod n d
  have h4 : n.tdiv d * d = n - n.tmod d := by rw [Int.mul_comm]; omega
  have h5 : (n.tmod d).natAbs ≤ n.natAbs := by rw [hm1]; exact Nat.mod_le _ _
  have hb : -9223372036854775808 ≤ n.tdiv d * d ∧ n.tdiv d * d ≤ 9223372036854775807 := by
    rcases Int.le_total 0 n with hn | hn
    · have := Int.tmod_nonneg d hn; omega
    · have := Int.tmod_nonneg (a := -n) d (by omega)
      rw [Int.neg_tmod] at this
      omega
  obtain ⟨b1, b2⟩ := hb
  have hq := Int.natAbs_tdiv n d
  have hq' : (n.tdiv d).natAbs ≤ n.natAbs := by rw [hq]; exact Nat.div_le_self _ _
  have hq3 : n.tdiv d ≤ 9223372036854775807 := by
    rcases Int.le_total 0 n with hn | hn
    · omega
    · have := Int.tdiv_nonneg (a := -n) (b := d) (by omega) (by omega)
      rw [Int.neg_tdiv] at this
      omega
  rw [wr64 (x := n.tdiv d) (by omega) hq3, wr64 (x := n.tdiv d * d) b1 b2]
  by_cases hc : n < n.tdiv d * d
  · have hlow : -9223372036854775807 ≤ n.tdiv d := by
      rcases Int.lt_or_le d 2 with g | g
      · obtain rfl : d = 1 := by omega
        rw [Int.tdiv_one] at hc
        omega
      · have h6 : (n.tdiv d).natAbs ≤ n.natAbs / 2 := by
          rw [hq]
          exact Nat.div_le_div_left (by omega) (by omega)
        omega
    rw [bif_pos hc, wr64 (x := n.tdiv d - 1) (by omega) (by omega), tdiv_over hd hc]; rfl
  · rw [bif_neg hc, tdiv_under hd (by omega)]; rfl
theorem floor_mul' {n d : Int} (hd : 0 < d) : n / d * d ≤ n ∧ n < n / d * d + d := by
  have h1 := Int.mul_ediv_add_emod n d
  have h2 := Int.emod_nonneg n (by omega : d ≠ 0)
  have h3 := Int.emod_lt_of_pos n hd
  rw [Int.mul_comm] at h1
  omega
theorem round_s (fu : Nat) {n d : Int} (hd : 0 < d) (h1 : d ≤ 1000000000000000) (h2 : -1000000000000000000 ≤ n) (h3 : n ≤ 1000000000000000000) : R_Round_r fu (n, (d, ())) = some (rnd n d, ()) := by
  unfold R_Round_r
  simp only
  rw [floor_s fu hd (by omega) (by omega) (by omega)]
  simp only [bindO_some, joinF_eq]
  obtain ⟨b1, b2⟩ := floor_mul' (n := n) hd
  have hq : -1000000000000000001 ≤ n / d ∧ n / d ≤ 1000000000000000000 := by
    constructor
    · rcases Int.lt_or_le (n / d) 0 with g | g
      · have : n / d * d ≤ n / d * 1 := Int.mul_le_mul_of_nonpos_left (by omega) (by omega)
        have h4 : n / d * d - n / d * 1 ≤ 0 := by omega
        have h5 : (n / d + 1) * d ≤ (n / d + 1) * 1 := Int.mul_le_mul_of_nonpos_left (by omega) (by omega)
        rw [Int.add_mul] at h5
        omega
      · omega
    · rcases Int.lt_or_le (n / d) 1 with g | g
      · omega
      · have : n / d * 1 ≤ n / d * d := Int.mul_le_mul_of_nonneg_left (by omega) (by omega)
        omega
  rw [wr64 (x := n / d * d) (by omega) (by omega), wr64 (x := n - n / d * d) (by omega) (by omega), wr64 (x := 2 * (n - n / d * d)) (by omega) (by omega)]
  by_cases hc : d ≤ 2 * (n - n / d * d)
  · rw [bif_pos hc, wr64 (x := n / d + 1) (by omega) (by omega), rnd_up hd hc]; rfl
  · rw [bif_neg hc, rnd_down hd (by omega)]; rfl
theorem nearest_s (fu : Nat) {n d : Int} (hd : 0 < d) (h1 : d ≤ 1000000000000000) (h2 : -1000000000000000000 ≤ n) (h3 : n ≤ 1000000000000000000) : curve_Nearest_r fu (n, (d, ())) = some (rnd n d, ()) := by
  obtain ⟨g1, g2⟩ := tdiv_abs (n := 2 * n + d) (m := 2002000000000000000) (2 * d) (by omega) (by omega)
  unfold curve_Nearest_r rnd
  simp only [joinF_eq]
  rw [wr64 (x := 2 * n) (by omega) (by omega), wr64 (x := 2 * n + d) (by omega) (by omega), wr64 (x := 2 * d) (by omega) (by omega), bif_pos (by omega), bif_pos (by omega), wr64 (x := (2 * n + d).tdiv (2 * d)) (by omega) (by omega)]
  by_cases hc : (2 * n + d).tmod (2 * d) < 0
  · rw [bif_pos hc, wr64 (x := (2 * n + d).tdiv (2 * d) - 1) (by omega) (by omega), tdiv_neg (by omega) hc]; rfl
  · rw [bif_neg hc, tdiv_pos (by omega) (by omega)]; rfl
end Go.Proofs.Ytedjnjgnadbkaaa
/- Loops by their first error, by what is found, by a postcondition. No program in sight. -/
namespace Go.Proofs.Ytedjnjgnadbkaaa
open Go Go.RowKit
set_option linter.unusedSimpArgs false
set_option linter.unusedSectionVars false
set_option linter.unusedVariables false
section
variable {β : Type} {f : (Int → Option β) → Int → Option β} {n fu : Nat} (hn : n < fu)
include hn
end
theorem firstE_all {E : Nat → Int} : ∀ (m i0 : Nat), (∀ k, i0 ≤ k → k < i0 + m → E k = 0) → firstE E m i0 = 0
  | 0, _, _ => rfl
  | m + 1, i0, h => by
    rw [firstE, if_pos (h i0 (Nat.le_refl _) (by omega))]
    exact firstE_all m (i0 + 1) fun k g1 g2 => h k (by omega) (by omega)
/-- a loop through the states st 0, st 1, .. that is left at the first error -/
theorem errGen {X β : Type} {f : (X → Option β) → X → Option β} {n : Nat} {st : Nat → X} {E : Nat → Int} {out : Int → Option β} {fin : Option β}
    (step : ∀ j (i : Nat), i < n → (∀ k, k < i → E k = 0) → f j (st i) = if E i = 0 then j (st (i + 1)) else out (E i)) (last : (∀ k, k < n → E k = 0) → ∀ j, f j (st n) = fin) :
    ∀ (fu i : Nat), i ≤ n → n - i < fu → (∀ k, k < i → E k = 0) → loopF f fu (st i) = if firstE E (n - i) i = 0 then fin else out (firstE E (n - i) i)
  | 0, i, _, h, _ => by omega
  | fu + 1, i, h0, h1, hE => by
    rw [loopF]
    by_cases hi : i < n
    · rw [step _ i hi hE, firstE_step hi]
      by_cases e : E i = 0
      · rw [if_pos e]
        simp only [if_pos e]
        exact errGen step last fu (i + 1) (by omega) (by omega) fun k hk => by
          by_cases q : k = i
          · rw [q]; exact e
          · exact hE k (by omega)
      · rw [if_neg e]
        simp only [if_neg e]
    · have e : i = n := by omega
      subst e
      rw [last hE, Nat.sub_self]; rfl
end Go.Proofs.Ytedjnjgnadbkaaa
/- Pixels counted between two columns, row by row and one after another. No program in sight. -/
namespace Go.Proofs.Ytedjnjgnadbkaaa
open Go Go.RowKit
set_option linter.unusedVariables false
def zc (f t w : Int) (P : Int → Int → Bool) : Nat → Int
  | 0 => 0
  | k + 1 => zc f t w P k + (bif decide (f ≤ (k : Int) % w ∧ (k : Int) % w < t) && P ((k : Int) % w) ((k : Int) / w) then 1 else 0)
theorem zc_bd (f t w : Int) (P : Int → Int → Bool) : ∀ k : Nat, 0 ≤ zc f t w P k ∧ zc f t w P k ≤ k
  | 0 => by simp [zc]
  | k + 1 => by
    have := zc_bd f t w P k
    rw [zc]
    cases (decide (f ≤ (k : Int) % w ∧ (k : Int) % w < t) && P ((k : Int) % w) ((k : Int) / w)) <;> simp only [cond_true, cond_false] <;> omega
section
variable {f t w : Int} {P : Int → Int → Bool} (hw : 0 < w)
include hw
theorem rowdiv {y x : Nat} (hx : (x : Int) < w) : ((y * w.toNat + x : Nat) : Int) % w = x ∧ ((y * w.toNat + x : Nat) : Int) / w = y := by
  have e : ((y * w.toNat + x : Nat) : Int) = (x : Int) + y * w := by
    rw [Int.natCast_add, Int.natCast_mul, Int.toNat_of_nonneg (by omega)]; omega
  rw [e]
  constructor
  · rw [Int.add_mul_emod_self_right, Int.emod_eq_of_lt (by omega) hx]
  · rw [Int.add_mul_ediv_right _ _ (by omega), Int.ediv_eq_zero_of_lt (by omega) hx, Int.zero_add]
theorem zc_at {y x : Nat} (hx : (x : Int) < w) : zc f t w P (y * w.toNat + (x + 1)) = zc f t w P (y * w.toNat + x) + (bif decide (f ≤ (x : Int) ∧ (x : Int) < t) && P x y then 1 else 0) := by
  rw [← Nat.add_assoc, zc, (rowdiv hw hx).1, (rowdiv hw hx).2]
theorem zc_out {y x : Nat} (hx : (x : Int) < w) (ho : (x : Int) < f ∨ t ≤ (x : Int)) : zc f t w P (y * w.toNat + (x + 1)) = zc f t w P (y * w.toNat + x) := by
  rw [zc_at hw hx, decide_eq_false (by omega), Bool.false_and]; simp
theorem zc_pre (hf : f ≤ w) (y : Nat) : ∀ x : Nat, (x : Int) ≤ f → zc f t w P (y * w.toNat + x) = zc f t w P (y * w.toNat)
  | 0, _ => rfl
  | x + 1, h => by rw [zc_out hw (by omega) (.inl (by omega)), zc_pre hf y x (by omega)]
theorem zc_post (y : Nat) {a : Nat} (ha : t ≤ (a : Int)) : ∀ x : Nat, a + x ≤ w.toNat → zc f t w P (y * w.toNat + (a + x)) = zc f t w P (y * w.toNat + a)
  | 0, _ => rfl
  | x + 1, h => by rw [← Nat.add_assoc a x 1, zc_out hw (by omega) (.inr (by omega)), zc_post y ha x (by omega)]
theorem zc_row (y : Nat) {a : Nat} (ha : t ≤ (a : Int)) (haw : (a : Int) ≤ w) : zc f t w P ((y + 1) * w.toNat) = zc f t w P (y * w.toNat + a) := by
  rw [Nat.succ_mul]
  have := zc_post (f := f) (P := P) hw y ha (w.toNat - a) (by omega)
  rw [show a + (w.toNat - a) = w.toNat by omega] at this
  exact this
theorem za_mid (h0 : 0 ≤ f) (hft : f ≤ t) (htw : t ≤ w) (y : Nat) : ∀ x : Nat, f ≤ (x : Int) → (x : Int) ≤ t → zc f t w (fun _ _ => true) (y * w.toNat + x) = zc f t w (fun _ _ => true) (y * w.toNat) + (x - f)
  | 0, h, _ => by
    have : f = 0 := by omega
    rw [Nat.add_zero]; omega
  | x + 1, h1, h2 => by
    by_cases c : f ≤ (x : Int)
    · rw [zc_at hw (by omega), decide_eq_true (by omega : f ≤ (x : Int) ∧ (x : Int) < t), za_mid h0 hft htw y x c (by omega)]
      simp only [Bool.and_self, cond_true]
      omega
    · rw [zc_out hw (by omega) (.inl (by omega)), zc_pre hw (by omega) y x (by omega)]
      omega
theorem za_all (h0 : 0 ≤ f) (hft : f ≤ t) (htw : t ≤ w) : ∀ y : Nat, zc f t w (fun _ _ => true) (y * w.toNat) = (t - f) * y
  | 0 => by rw [Nat.zero_mul]; simp [zc]
  | y + 1 => by
    rw [zc_row hw y (a := t.toNat) (by omega) (by omega), za_mid hw h0 hft htw y t.toNat (by omega) (by omega), za_all h0 hft htw y, Int.natCast_add, Int.mul_add, Int.toNat_of_nonneg (by omega)]
    omega
end
/-- the columns of a zone -/
def zF (w zs z : Int) : Int := z * w / zs
theorem zF_bd {w zs z : Int} (hz0 : 0 < zs) (hw : zs ≤ w) (h0 : 0 ≤ z) (h1 : z < zs) : 0 ≤ zF w zs z ∧ zF w zs z + 1 ≤ zF w zs (z + 1) ∧ zF w zs (z + 1) ≤ w := by
  unfold zF
  have a : 0 ≤ z * w := Int.mul_nonneg h0 (by omega)
  refine ⟨Int.ediv_nonneg a (by omega), ?_, ?_⟩
  · rw [Int.le_ediv_iff_mul_le hz0, Int.add_mul, Int.add_mul, Int.one_mul, Int.one_mul]
    have := Int.ediv_mul_le (z * w) (show zs ≠ 0 by omega)
    omega
  · refine Int.ediv_le_of_le_mul hz0 ?_
    rw [Int.mul_comm w zs]
    exact Int.mul_le_mul_of_nonneg_right (by omega) (by omega)
/-- the load of a zone -/
def zLoad (w h zs : Int) (P : Int → Int → Bool) (z : Int) : Int := rnd (8 * zc (zF w zs z) (zF w zs (z + 1)) w P (w.toNat * h.toNat)) ((zF w zs (z + 1) - zF w zs z) * h)
def zKey (w h zs : Int) (P : Int → Int → Bool) (tg z : Int) : Int := min 1000 (rnd (tg * (8 + zLoad w h zs P z)) 128)
theorem zc_le {f t w : Int} {P : Int → Int → Bool} : ∀ k : Nat, zc f t w P k ≤ zc f t w (fun _ _ => true) k
  | 0 => Int.le_refl _
  | k + 1 => by
    have := zc_le (f := f) (t := t) (w := w) (P := P) k
    rw [zc, zc]
    cases decide (f ≤ (k : Int) % w ∧ (k : Int) % w < t) <;> cases P ((k : Int) % w) ((k : Int) / w) <;> simp only [Bool.and_true, Bool.and_false, cond_true, cond_false] <;> omega
theorem zLoad_bd {w h zs z : Int} {P : Int → Int → Bool} (hz0 : 0 < zs) (hw : zs ≤ w) (hh : 1 ≤ h) (h0 : 0 ≤ z) (h1 : z < zs) : 0 ≤ zLoad w h zs P z ∧ zLoad w h zs P z ≤ 9 := by
  obtain ⟨b0, b1, b2⟩ := zF_bd hz0 hw h0 h1
  unfold zLoad
  have hall := za_all (f := zF w zs z) (t := zF w zs (z + 1)) (w := w) (by omega) b0 (by omega) b2 h.toNat
  have hle := zc_le (f := zF w zs z) (t := zF w zs (z + 1)) (w := w) (P := P) (h.toNat * w.toNat)
  rw [hall, Int.toNat_of_nonneg (by omega)] at hle
  rw [Nat.mul_comm w.toNat h.toNat]
  have hb := (zc_bd (zF w zs z) (zF w zs (z + 1)) w P (h.toNat * w.toNat)).1
  have hd : 1 * 1 ≤ (zF w zs (z + 1) - zF w zs z) * h := Int.mul_le_mul (by omega) hh (by omega) (by omega)
  generalize (zF w zs (z + 1) - zF w zs z) * h = d at hle hd ⊢
  generalize zc (zF w zs z) (zF w zs (z + 1)) w P (h.toNat * w.toNat) = n at hle hb ⊢
  unfold rnd
  exact ⟨Int.ediv_nonneg (by omega) (by omega), Int.ediv_le_of_le_mul (by omega) (by omega)⟩
/-! ### two loops -/
/-- a loop that goes on while there is no error -/
theorem wantLoop {β : Type} {f : (Int × Int → Option β) → Int × Int → Option β} {n : Nat} {E : Nat → Int} {K : Int → Option β} (step : ∀ j (i : Nat), i < n → f j (0, (i : Int)) = j (E i, (i : Int) + 1)) (stop : ∀ j w (i : Nat), i ≤ n → w ≠ 0 ∨ i = n → f j (w, (i : Int)) = K w) :
    ∀ (fu i : Nat) (w : Int), i ≤ n → n - i < fu → loopF f fu (w, (i : Int)) = K (if w = 0 then firstE E (n - i) i else w)
  | 0, i, w, _, h => by omega
  | fu + 1, i, w, h0, h1 => by
    rw [loopF]
    by_cases c : w ≠ 0 ∨ i = n
    · rw [stop _ w i h0 c]
      by_cases hw : w = 0
      · have : i = n := c.resolve_left (fun h => h hw)
        subst this
        rw [if_pos hw, hw, Nat.sub_self]; rfl
      · rw [if_neg hw]
    · have hw : w = 0 := Classical.byContradiction fun h => c (.inl h)
      have hi : i < n := by
        have : i ≠ n := fun h => c (.inr h)
        omega
      subst hw
      rw [step _ i hi, show (i : Int) + 1 = ((i + 1 : Nat) : Int) by omega, wantLoop step stop fu (i + 1) (E i) (by omega) (by omega), firstE_step hi, if_pos rfl]
theorem stLoopP {X β : Type} {f : (X → Option β) → X → Option β} {n fu : Nat} (hn : n < fu) {st : Nat → X} {x0 : X} {fin : Option β} (h0 : st 0 = x0)
    (step : ∀ j (i : Nat), i < n → f j (st i) = j (st (i + 1))) (last : ∀ j, f j (st n) = fin) : loopF f fu x0 = fin := by
  have key := errGen (f := f) (n := n) (st := st) (E := fun _ => 0) (out := fun _ => none) (fin := fin) (fun j i hi _ => by rw [if_pos rfl]; exact step j i hi) (fun _ => last) fu 0 (by omega) (by omega) (by omega)
  rw [if_pos (firstE_all _ _ fun _ _ _ => rfl), h0] at key
  exact key
theorem range_snoc {α : Type} (F : Nat → α) (n : Nat) : (List.range n).map F ++ F n :: [] = (List.range (n + 1)).map F := by
  rw [List.range_succ, List.map_append]; rfl
theorem range_getD {α : Type} {F : Nat → α} {n i : Nat} {d : α} (h : i < n) : ((List.range n).map F).getD i d = F i := by
  rw [List.getD_eq_getElem?_getD, List.getElem?_map, List.getElem?_range h]; rfl
theorem range_len {α : Type} (F : Nat → α) (n : Nat) : ((List.range n).map F).length = n := by rw [List.length_map, List.length_range]
end Go.Proofs.Ytedjnjgnadbkaaa
/- PressPresets: what press.Presets computes. -/
set_option maxRecDepth 100000
set_option linter.unusedVariables false
namespace Go.Proofs.Ytedjnjgnadbkaaa
open Go Go.RowKit
abbrev BmT := Int × (Int × List Int)
theorem bitsE_dim {w h : Int} {ds : List Int} (h0 : bitsE w h ds = 0) : 1 ≤ w ∧ w ≤ 1024 ∧ 1 ≤ h ∧ h ≤ 1024 ∧ (ds.length : Int) = strd w * h := by
  unfold bitsE at h0
  split at h0
  · rename_i hr
    split at h0
    · rename_i hl
      refine ⟨hr.1, hr.2.1, hr.2.2.1, hr.2.2.2, ?_⟩
      rw [hl, strd_N (by omega), Int.natCast_mul, Int.toNat_of_nonneg (by omega : 0 ≤ h)]
    · omega
  · omega
def bmE (l : List BmT) (i : Nat) : Int := bitsE (l.getD i (0, (0, []))).1 (l.getD i (0, (0, []))).2.1 (l.getD i (0, (0, []))).2.2
def fitE (l : List BmT) (zs : Int) (i : Nat) : Int := if (l.getD i (0, (0, []))).1 < zs then 19 else 0
def tgE (tg : List Int) (i : Nat) : Int := if 0 ≤ tg.getD i 0 ∧ tg.getD i 0 ≤ 24000 then 0 else 3
def ppErr (l : List BmT) (zs : Int) (tg : List Int) : Int :=
  if 8 < l.length then 2 else if l.length = 0 then 1 else
  if firstE (bmE l) l.length 0 = 0 then
    (if 1 ≤ zs ∧ zs ≤ 16 then
      (if tg.length = l.length then (if firstE (tgE tg) tg.length 0 = 0 then firstE (fitE l zs) l.length 0 else firstE (tgE tg) tg.length 0) else 4) else 3)
  else firstE (bmE l) l.length 0
def bmP (b : BmT) : Int → Int → Bool := pixB b.1 b.2.1 b.2.2
def ldRow (l : List BmT) (zs : Int) (i : Nat) (n : Nat) : List Int := (List.range n).map fun z : Nat => zLoad (l.getD i (0, (0, []))).1 (l.getD i (0, (0, []))).2.1 zs (bmP (l.getD i (0, (0, [])))) z
def kyRow (l : List BmT) (zs : Int) (tg : List Int) (i : Nat) (n : Nat) : List Int := (List.range n).map fun z : Nat => zKey (l.getD i (0, (0, []))).1 (l.getD i (0, (0, []))).2.1 zs (bmP (l.getD i (0, (0, [])))) (tg.getD i 0) z
def ldAll (l : List BmT) (zs : Int) (n : Nat) : List (List Int) := (List.range n).map fun i : Nat => ldRow l zs i zs.toNat
def kyAll (l : List BmT) (zs : Int) (tg : List Int) (n : Nat) : List (List Int) := (List.range n).map fun i : Nat => kyRow l zs tg i zs.toNat
theorem mul_bd2 {a b : Nat} (ha : a ≤ 1024) (hb : b ≤ 1024) : a * b ≤ 1048576 := Nat.le_trans (Nat.mul_le_mul ha hb) (by decide)
section
variable {fu : Nat} (hf : 18446744073709551616 ≤ fu) {l : List BmT} {zs : Int} {tg : List Int} {i : Nat} {w h : Int} {ds : List Int} (hi : i < l.length) (hg : l.getD i (0, (0, [])) = (w, (h, ds))) (h0 : bitsE w h ds = 0) (hb : Bytes ds)
include hf hi hg h0 hb
theorem pp_l8 {y : Nat} (hy : (y : Int) < h) {f t : Int} (hf0 : 0 ≤ f) (hft : f ≤ t) (htw : t ≤ w) (j15) :
    loopF (press_Presets_l8 fu (l, (zs, (tg, ()))) i t (zc f t w (pixB w h ds) (y * w.toNat), (y : Int)) y j15) fu (zc f t w (pixB w h ds) (y * w.toNat), f) = j15 (zc f t w (pixB w h ds) ((y + 1) * w.toNat), (y : Int) + 1) := by
  obtain ⟨d1, d2, d3, d4, d5⟩ := bitsE_dim h0
  have hyw := mul_bd2 (a := y) (b := w.toNat) (by omega) (by omega)
  have hw0 : 0 < w := by omega
  refine stLoopP (n := (t - f).toNat) (by omega) (st := fun k => (zc f t w (pixB w h ds) (y * w.toNat + (f.toNat + k)), f + (k : Int))) ?_ (fun j k hk => ?_) (fun j => ?_)
  · simp only [Nat.add_zero, zc_pre hw0 (show f ≤ w by omega) y f.toNat (by omega)]
    rw [show f + ((0 : Nat) : Int) = f by omega]
  · have hz := zc_bd f t w (pixB w h ds) (y * w.toNat + (f.toNat + k))
    have hz2 : (((y * w.toNat + (f.toNat + k) : Nat)) : Int) ≤ 2097152 := by omega
    unfold press_Presets_l8
    simp only [joinF_eq]
    rw [bif_pos (by omega), bif_and (by omega) (by omega), Int.toNat_natCast, hg, is_r fu (by omega) d2 d4 d5 hb]
    simp only [bindO_some]
    have e := zc_at (f := f) (t := t) (P := pixB w h ds) hw0 (y := y) (x := f.toNat + k) (by omega)
    have ex : ((f.toNat + k : Nat) : Int) = f + (k : Int) := by omega
    rw [ex, decide_eq_true (show f ≤ f + (k : Int) ∧ f + (k : Int) < t by omega), Bool.true_and] at e
    unfold press_Presets_j9
    cases hp : pixB w h ds (f + (k : Int)) y with
    | true =>
      rw [hp] at e
      simp only [cond_true] at e ⊢
      rw [s_wr (by omega) (by omega), s_wr (by omega) (by omega), ← e, show f + (k : Int) + 1 = f + ((k + 1 : Nat) : Int) by omega]
      rfl
    | false =>
      rw [hp] at e
      simp only [cond_false, Int.add_zero] at e ⊢
      rw [s_wr (by omega) (by omega), ← e, show f + (k : Int) + 1 = f + ((k + 1 : Nat) : Int) by omega]
      rfl
  · unfold press_Presets_l8
    simp only
    rw [bif_neg (by omega), s_wr (by omega) (by omega), show f.toNat + (t - f).toNat = t.toNat by omega, ← zc_row hw0 y (a := t.toNat) (by omega) (by omega)]
omit hf h0 hb in
theorem pp_l7e {z : Nat} (hzs : 1 ≤ zs ∧ zs ≤ 16) (hzw : zs ≤ w) (hz : (z : Int) < zs) (htl : tg.length = l.length) (htb : 0 ≤ tg.getD i 0 ∧ tg.getD i 0 ≤ 24000) {kr lr : List Int} (hkr : kr.length = z) (hlr : lr.length = z) (j8) (j) {n f t : Int}
    (hn : 0 ≤ n ∧ n ≤ 1048576) (hd1 : 1 ≤ (t - f) * h) (hd2 : (t - f) * h ≤ 1048576) (htf : 0 ≤ t - f ∧ t - f ≤ 1024) {v : Int} (hv : rnd (8 * n) ((t - f) * h) = v) (hv0 : 0 ≤ v) (hv1 : v ≤ 9) :
    press_Presets_l7 fu (l, (zs, (tg, ()))) i ((z : Int), (kr, lr)) f t (w, (h, ds)) j8 j (n, h) = j8 ((z : Int) + 1, (kr ++ min 1000 (rnd (tg.getD i 0 * (8 + v)) 128) :: [], lr ++ v :: [])) := by
  have hm : 0 ≤ tg.getD i 0 * (8 + v) ∧ tg.getD i 0 * (8 + v) ≤ 24000 * 17 := mul_bd htb.1 htb.2 (by omega) (by omega)
  generalize hgt : tg.getD i 0 = g at hm htb ⊢
  have hl1 : kr.length ≤ 16 := by omega
  have hl2 : lr.length ≤ 16 := by omega
  unfold press_Presets_l7
  simp only [Int.toNat_natCast, hg, hgt]
  rw [bif_neg (Int.lt_irrefl h), bif_and (by omega) (by omega), s_wr (x := 8 * n) (by omega) (by omega), s_wr (x := t - f) (by omega) (by omega), s_wr (x := (t - f) * h) (by omega) (by omega), nearest_s fu (by omega) (by omega) (by omega) (by omega), hv, bindO_some]
  simp only [List.length_cons, List.length_nil]
  rw [bif_pos (by omega), bif_and (by omega) (by omega), s_wr (x := 8 + v) (by omega) (by omega), s_wr (x := g * (8 + v)) (by omega) (by omega), nearest_s fu (by omega) (by omega) (by omega) (by omega), bindO_some]
  simp only
  rw [bif_pos (by omega), s_wr (by omega) (by omega)]
theorem pp_l7 {z : Nat} (hzs : 1 ≤ zs ∧ zs ≤ 16) (hzw : zs ≤ w) (hz : (z : Int) < zs) (htl : tg.length = l.length) (htb : 0 ≤ tg.getD i 0 ∧ tg.getD i 0 ≤ 24000) {kr lr : List Int} (hkr : kr.length = z) (hlr : lr.length = z) (j8) :
    loopF (press_Presets_l7 fu (l, (zs, (tg, ()))) i ((z : Int), (kr, lr)) (zF w zs z) (zF w zs (z + 1)) (w, (h, ds)) j8) fu (0, 0) = j8 ((z : Int) + 1, (kr ++ zKey w h zs (pixB w h ds) (tg.getD i 0) z :: [], lr ++ zLoad w h zs (pixB w h ds) z :: [])) := by
  obtain ⟨d1, d2, d3, d4, d5⟩ := bitsE_dim h0
  obtain ⟨b0, b1, b2⟩ := zF_bd (z := (z : Int)) (by omega) hzw (by omega) hz
  have hlb := zLoad_bd (P := pixB w h ds) (by omega) hzw d3 (show (0 : Int) ≤ z by omega) hz
  refine stLoopP (n := h.toNat) (by omega) (st := fun y => (zc (zF w zs z) (zF w zs (z + 1)) w (pixB w h ds) (y * w.toNat), (y : Int))) (by rw [Nat.zero_mul]; rfl) (fun j y hy => ?_) (fun j => ?_)
  · unfold press_Presets_l7
    simp only
    rw [bif_pos (by omega), pp_l8 hf hi hg h0 hb (by omega) b0 (by omega) b2 j, Int.natCast_succ]
  · have hcb := zc_bd (zF w zs z) (zF w zs (z + 1)) w (pixB w h ds) (h.toNat * w.toNat)
    have hwh := mul_bd2 (a := h.toNat) (b := w.toNat) (by omega) (by omega)
    have hd : 1 * 1 ≤ (zF w zs (z + 1) - zF w zs z) * h := Int.mul_le_mul (by omega) d3 (by omega) (by omega)
    have hd2 : (zF w zs (z + 1) - zF w zs z) * h ≤ 1024 * 1024 := Int.mul_le_mul (by omega) d4 (by omega) (by omega)
    have e1 : rnd (8 * zc (zF w zs z) (zF w zs (z + 1)) w (pixB w h ds) (h.toNat * w.toNat)) ((zF w zs (z + 1) - zF w zs z) * h) = zLoad w h zs (pixB w h ds) z := by
      unfold zLoad
      rw [Nat.mul_comm]
    have key := pp_l7e (fu := fu) hi hg hzs hzw hz htl htb hkr hlr j8 j (by omega) (by omega) (by omega) (by omega) e1 hlb.1 hlb.2
    simp only [Int.toNat_of_nonneg (show 0 ≤ h by omega)]
    exact key
theorem pp_l6 (hzs : 1 ≤ zs ∧ zs ≤ 16) (hzw : zs ≤ w) (htl : tg.length = l.length) (htb : 0 ≤ tg.getD i 0 ∧ tg.getD i 0 ≤ 24000) (hll : l.length ≤ 8) {ka la : List (List Int)} (hka : ka.length = i) (hla : la.length = i) (j5) :
    loopF (press_Presets_l6 fu (l, (zs, (tg, ()))) ((i : Int), (ka, la)) i j5) fu (0, ([], [])) = j5 ((i : Int) + 1, (ka ++ kyRow l zs tg i zs.toNat :: [], la ++ ldRow l zs i zs.toNat :: [])) := by
  obtain ⟨d1, d2, d3, d4, d5⟩ := bitsE_dim h0
  have hw0 : 0 < w := by omega
  have ek : ∀ n, kyRow l zs tg i n = (List.range n).map fun z : Nat => zKey w h zs (pixB w h ds) (tg.getD i 0) z := fun n => by unfold kyRow; rw [hg]; rfl
  have el : ∀ n, ldRow l zs i n = (List.range n).map fun z : Nat => zLoad w h zs (pixB w h ds) z := fun n => by unfold ldRow; rw [hg]; rfl
  rw [ek, el]
  refine stLoopP (n := zs.toNat) (by omega) (st := fun n => ((n : Int), ((List.range n).map fun z : Nat => zKey w h zs (pixB w h ds) (tg.getD i 0) z, (List.range n).map fun z : Nat => zLoad w h zs (pixB w h ds) z))) rfl (fun j n hn => ?_) (fun j => ?_)
  · have m1 : 0 ≤ (n : Int) * w ∧ (n : Int) * w ≤ 16 * 1024 := mul_bd (by omega) (by omega) (by omega) d2
    have m2 : 0 ≤ ((n : Int) + 1) * w ∧ ((n : Int) + 1) * w ≤ 16 * 1024 := mul_bd (by omega) (by omega) (by omega) d2
    obtain ⟨b0, b1, b2⟩ := zF_bd (z := (n : Int)) (by omega) hzw (by omega) (show (n : Int) < zs by omega)
    have z1 : IntKind.i64.wrap (Int.tdiv (IntKind.i64.wrap ((n : Int) * w)) zs) = zF w zs n := by
      rw [s_wr (x := (n : Int) * w) (by omega) (by omega), s_td (by omega)]
      exact s_wr (x := zF w zs n) (by omega) (by omega)
    have z2 : IntKind.i64.wrap (Int.tdiv (IntKind.i64.wrap (IntKind.i64.wrap ((n : Int) + 1) * w)) zs) = zF w zs (n + 1) := by
      rw [s_wr (x := (n : Int) + 1) (by omega) (by omega), s_wr (x := ((n : Int) + 1) * w) (by omega) (by omega), s_td (by omega)]
      exact s_wr (x := zF w zs (n + 1)) (by omega) (by omega)
    unfold press_Presets_l6
    simp only
    rw [bif_pos (by omega), bif_and (by omega) (by omega), bif_pos (by omega), bif_and (by omega) (by omega), bif_pos (by omega), bif_and (by omega) (by omega), Int.toNat_natCast, hg]
    simp only
    rw [z1, z2, pp_l7 hf hi hg h0 hb hzs hzw (by omega) htl htb (range_len _ _) (range_len _ _) j, range_snoc, range_snoc]
    rfl
  · unfold press_Presets_l6
    simp only
    rw [bif_neg (by omega), bif_pos (by simp only [List.length_cons, List.length_nil]; omega), bif_pos (by simp only [List.length_cons, List.length_nil]; omega), s_wr (by omega) (by omega)]
end
end Go.Proofs.Ytedjnjgnadbkaaa
/- PressPresets: the function's whole answer. -/
set_option maxRecDepth 100000
set_option linter.unusedVariables false
namespace Go.Proofs.Ytedjnjgnadbkaaa
open Go Go.RowKit
theorem fitE_ok {l : List BmT} {zs : Int} {i : Nat} (h : fitE l zs i = 0) : zs ≤ (l.getD i (0, (0, []))).1 := by
  unfold fitE at h
  split at h <;> omega
theorem tgE_ok {tg : List Int} {i : Nat} (h : tgE tg i = 0) : 0 ≤ tg.getD i 0 ∧ tg.getD i 0 ≤ 24000 := by
  unfold tgE at h
  split at h
  · assumption
  · omega
theorem bm_mem {l : List BmT} {i : Nat} (hi : i < l.length) (hB : ∀ b ∈ l, Bytes b.2.2) : Bytes (l.getD i (0, (0, []))).2.2 := by
  rw [List.getD_eq_getElem?_getD, List.getElem?_eq_getElem hi]
  exact hB _ (List.getElem_mem hi)
section
variable {fu : Nat} (hf : 18446744073709551616 ≤ fu) {l : List BmT} {zs : Int} {tg : List Int} (hB : ∀ b ∈ l, Bytes b.2.2)
include hf hB
theorem pp_l5 (hll : l.length ≤ 8) (hbm : ∀ i, i < l.length → bmE l i = 0) (hzs : 1 ≤ zs ∧ zs ≤ 16) (htl : tg.length = l.length) (htg : ∀ i, i < l.length → 0 ≤ tg.getD i 0 ∧ tg.getD i 0 ≤ 24000) :
    loopF (press_Presets_l5 fu (l, (zs, (tg, ())))) fu (0, ([], [])) = if firstE (fitE l zs) l.length 0 = 0 then some (ldAll l zs l.length, (kyAll l zs tg l.length, (0, ()))) else some ([], ([], (firstE (fitE l zs) l.length 0, ()))) := by
  have key := errGen (f := press_Presets_l5 fu (l, (zs, (tg, ())))) (n := l.length) (st := fun i : Nat => ((i : Int), (kyAll l zs tg i, ldAll l zs i))) (E := fitE l zs) (out := fun e => some ([], ([], (e, ())))) (fin := some (ldAll l zs l.length, (kyAll l zs tg l.length, (0, ()))))
    (fun j i hi hE => ?_) (fun hE j => ?_) fu 0 (by omega) (by omega) (fun k hk => absurd hk (Nat.not_lt_zero _))
  · exact key
  · unfold press_Presets_l5
    simp only [Int.toNat_natCast]
    rw [bif_pos (by omega), bif_and (by omega) (by omega)]
    by_cases c : (l.getD i (0, (0, []))).1 < zs
    · have e : fitE l zs i = 19 := if_pos c
      rw [bif_pos c, e]; rfl
    · have e : fitE l zs i = 0 := if_neg c
      rw [bif_neg c, if_pos e]
      have hb := hbm i hi
      have hby := bm_mem hi hB
      unfold bmE at hb
      rcases hg : l.getD i (0, (0, [])) with ⟨w, h, ds⟩
      rw [hg] at hb hby c
      simp only at hb hby c
      rw [pp_l6 hf hi hg hb hby hzs (by omega) htl (htg i hi) hll (show (kyAll l zs tg i).length = i from range_len _ _) (show (ldAll l zs i).length = i from range_len _ _) j, kyAll, ldAll, range_snoc (fun i => kyRow l zs tg i zs.toNat), range_snoc (fun i => ldRow l zs i zs.toNat), Int.natCast_succ]
      rfl
  · unfold press_Presets_l5
    simp only
    rw [bif_neg (by omega)]
omit hB in
theorem pp_l3 (hll : l.length ≤ 8) (hbm : ∀ i, i < l.length → bmE l i = 0) (hzs : 1 ≤ zs ∧ zs ≤ 16) (htl : tg.length = l.length) :
    loopF (press_Presets_l3 fu (l, (zs, (tg, ())))) fu 0 = if firstE (tgE tg) tg.length 0 = 0 then loopF (press_Presets_l5 fu (l, (zs, (tg, ())))) fu (0, ([], [])) else some ([], ([], (firstE (tgE tg) tg.length 0, ()))) := by
  have key := errGen (f := press_Presets_l3 fu (l, (zs, (tg, ())))) (n := tg.length) (st := fun i : Nat => (i : Int)) (E := tgE tg) (out := fun e => some ([], ([], (e, ())))) (fin := loopF (press_Presets_l5 fu (l, (zs, (tg, ())))) fu (0, ([], [])))
    (fun j i hi hE => ?_) (fun hE j => ?_) fu 0 (by omega) (by omega) (fun k hk => absurd hk (Nat.not_lt_zero _))
  · exact key
  · unfold press_Presets_l3 press_Presets_j4
    simp only [Int.toNat_natCast, joinF_eq]
    rw [bif_pos (by omega), bif_and (by omega) (by omega)]
    by_cases c1 : tg.getD i 0 < 0
    · have e : tgE tg i = 3 := if_neg (by omega)
      rw [bif_pos c1, e]; rfl
    · rw [bif_neg c1]
      by_cases c2 : 24000 < tg.getD i 0
      · have e : tgE tg i = 3 := if_neg (by omega)
        rw [s_pos c2, e]; rfl
      · have e : tgE tg i = 0 := if_pos (by omega)
        rw [s_neg c2, if_pos e, s_wr (by omega) (by omega), Int.natCast_succ]; rfl
  · unfold press_Presets_l3
    simp only
    rw [bif_neg (by omega)]
theorem presets_r : press_Presets_r fu (l, (zs, (tg, ()))) = if ppErr l zs tg = 0 then some (ldAll l zs l.length, (kyAll l zs tg l.length, (0, ()))) else some ([], ([], (ppErr l zs tg, ()))) := by
  unfold press_Presets_r ppErr
  simp only
  by_cases c1 : 8 < l.length
  · rw [s_pos (by omega)]; simp only [if_pos c1]; rfl
  rw [s_neg (by omega)]
  simp only [if_neg c1, cond_false]
  by_cases c2 : l.length = 0
  · rw [s_pos (by omega)]; simp only [if_pos c2]; rfl
  rw [s_neg (by omega)]
  simp only [if_neg c2, cond_false]
  have key := errGen (f := press_Presets_l1 fu (l, (zs, (tg, ())))) (n := l.length) (st := fun i : Nat => (i : Int)) (E := bmE l) (out := fun e => some ([], ([], (e, ())))) (fin := if 1 ≤ zs ∧ zs ≤ 16 then (if tg.length = l.length then loopF (press_Presets_l3 fu (l, (zs, (tg, ())))) fu 0 else some ([], ([], (4, ())))) else some ([], ([], (3, ()))))
    (fun j i hi hE => ?_) (fun hE j => ?_) fu 0 (by omega) (by omega) (fun k hk => absurd hk (Nat.not_lt_zero _))
  · refine key.trans ?_
    rw [Nat.sub_zero]
    by_cases e1 : firstE (bmE l) l.length 0 = 0
    · simp only [if_pos e1]
      have hbm : ∀ i, i < l.length → bmE l i = 0 := fun i hi => firstE_ok _ _ e1 i (by omega) (by omega)
      by_cases c3 : 1 ≤ zs ∧ zs ≤ 16
      · simp only [if_pos c3]
        by_cases c4 : tg.length = l.length
        · simp only [if_pos c4]
          rw [pp_l3 hf (by omega) hbm c3 c4]
          by_cases e2 : firstE (tgE tg) tg.length 0 = 0
          · have e2' : firstE (tgE tg) l.length 0 = 0 := by rw [← c4]; exact e2
            simp only [if_pos e2]
            exact pp_l5 hf hB (by omega) hbm c3 c4 fun i hi => tgE_ok (firstE_ok _ _ e2 i (by omega) (by omega))
          · simp only [if_neg e2]
        · simp only [if_neg c4]; rfl
      · simp only [if_neg c3]; rfl
    · simp only [if_neg e1]
  · have hby := bm_mem hi hB
    unfold press_Presets_l1
    simp only [Int.toNat_natCast]
    rw [bif_pos (by omega), bif_and (by omega) (by omega)]
    unfold bmE
    rcases hg : l.getD i (0, (0, [])) with ⟨w, h, ds⟩
    rw [hg] at hby
    simp only at hby ⊢
    rw [check_r hf hby]
    simp only [bindO_some]
    by_cases c : bitsE w h ds = 0
    · rw [bif_neg (fun g => g c), if_pos c, s_wr (by omega) (by omega), Int.natCast_succ]
    · rw [bif_pos c, if_neg c]
  · unfold press_Presets_l1 press_Presets_j2
    simp only [joinF_eq]
    rw [bif_neg (by omega)]
    by_cases c3 : 1 ≤ zs ∧ zs ≤ 16
    · rw [bif_neg (by omega), s_neg (by omega), if_pos c3]
      simp only [cond_false]
      by_cases c4 : tg.length = l.length
      · rw [bif_neg (by omega), if_pos c4]
      · rw [bif_pos (by omega), if_neg c4]
    · rw [if_neg c3]
      by_cases c5 : zs < 1
      · rw [bif_pos c5]; rfl
      · rw [bif_neg c5, s_pos (by omega)]; rfl
end
end Go.Proofs.Ytedjnjgnadbkaaa
/- PressPresets: the law's residual program answers true for every input. -/
set_option maxRecDepth 100000
set_option linter.unusedVariables false
namespace Go.Proofs.Ytedjnjgnadbkaaa
open Go Go.RowKit
theorem ldAll_at {l : List BmT} {zs : Int} {i : Nat} (hi : i < l.length) : (ldAll l zs l.length).getD i [] = ldRow l zs i zs.toNat := range_getD hi
theorem kyAll_at {l : List BmT} {zs : Int} {tg : List Int} {i : Nat} (hi : i < l.length) : (kyAll l zs tg l.length).getD i [] = kyRow l zs tg i zs.toNat := range_getD hi
section
variable {fu : Nat} (hf : 18446744073709551616 ≤ fu)
include hf
theorem tones_r {tg : List Int} (htl : tg.length ≤ 9223372036854775807) {n : Int} : R_TonesErr_r fu (tg, (n, (24000, ()))) = some (if (tg.length : Int) = n then firstE (tgE tg) tg.length 0 else 4, ()) := by
  unfold R_TonesErr_r
  simp only
  by_cases c : (tg.length : Int) = n
  · rw [bif_neg (fun h => h c), if_pos c]
    have key := errGen (f := R_TonesErr_l1 fu (tg, (n, (24000, ())))) (n := tg.length) (st := fun i : Nat => (i : Int)) (E := tgE tg) (out := fun e => some (e, ())) (fin := some (0, ()))
      (fun j i hi hE => ?_) (fun hE j => ?_) fu 0 (by omega) (by omega) (fun k hk => absurd hk (Nat.not_lt_zero _))
    · refine key.trans ?_
      rw [Nat.sub_zero]
      split
      · rename_i e; rw [e]
      · rfl
    · unfold R_TonesErr_l1
      simp only [Int.toNat_natCast]
      rw [bif_pos (by omega), bif_and (by omega) (by omega), within_r]
      simp only [bindO_some]
      by_cases g : 0 ≤ tg.getD i 0 ∧ tg.getD i 0 ≤ 24000
      · have e : tgE tg i = 0 := if_pos g
        rw [s_pos g.1, s_pos g.2, if_pos e, s_wr (by omega) (by omega), Int.natCast_succ]; rfl
      · have e : tgE tg i = 3 := if_neg g
        have e2 : (decide (0 ≤ tg.getD i 0) && decide (tg.getD i 0 ≤ 24000)) = false := by
          rw [← Bool.not_eq_true, Bool.and_eq_true, decide_eq_true_iff, decide_eq_true_iff]; exact g
        rw [e2, e]; rfl
    · unfold R_TonesErr_l1
      simp only
      rw [bif_neg (by omega)]
  · rw [bif_pos c, if_neg c]
section
variable {l : List BmT} {zs : Int} {tg : List Int} {i : Nat} {w h : Int} {ds : List Int} (hi : i < l.length) (hg : l.getD i (0, (0, [])) = (w, (h, ds))) (h0 : bitsE w h ds = 0) (hb : Bytes ds) (hzs : 1 ≤ zs ∧ zs ≤ 16) (hzw : zs ≤ w) (htl : tg.length = l.length) (htb : 0 ≤ tg.getD i 0 ∧ tg.getD i 0 ≤ 24000) (hll : l.length ≤ 8)
include hi hg h0 hb hzs hzw htl htb hll
omit hf hi hg htl htb hll in
theorem lw_l13s {z : Nat} (hz : (z : Int) < zs) (j16) (j) {k : Nat} (hk : (k : Int) < w * h) (v2 v3) :
    law_PressPresets_l13 fu (l, (zs, (tg, ()))) v2 v3 i (w, (h, ds)) z j16 j (zc (zF w zs z) (zF w zs (z + 1)) w (fun _ _ => true) k, (zc (zF w zs z) (zF w zs (z + 1)) w (pixB w h ds) k, (k : Int))) =
      j (zc (zF w zs z) (zF w zs (z + 1)) w (fun _ _ => true) (k + 1), (zc (zF w zs z) (zF w zs (z + 1)) w (pixB w h ds) (k + 1), ((k + 1 : Nat) : Int))) := by
  obtain ⟨d1, d2, d3, d4, d5⟩ := bitsE_dim h0
  obtain ⟨b0, b1, b2⟩ := zF_bd (z := (z : Int)) (by omega) hzw (by omega) hz
  have m1 : 0 ≤ (z : Int) * w ∧ (z : Int) * w ≤ 16 * 1024 := mul_bd (by omega) (by omega) (by omega) d2
  have m2 : 0 ≤ ((z : Int) + 1) * w ∧ ((z : Int) + 1) * w ≤ 16 * 1024 := mul_bd (by omega) (by omega) (by omega) d2
  have m3 : 0 ≤ w * h ∧ w * h ≤ 1024 * 1024 := mul_bd (by omega) d2 (by omega) d4
  have hx0 : 0 ≤ (k : Int) % w := Int.emod_nonneg _ (by omega)
  have hx1 : (k : Int) % w < w := Int.emod_lt_of_pos _ (by omega)
  have hy0 : 0 ≤ (k : Int) / w := Int.ediv_nonneg (by omega) (by omega)
  have hy1 : (k : Int) / w ≤ k := Int.ediv_le_self _ (by omega)
  have ha := zc_bd (zF w zs z) (zF w zs (z + 1)) w (fun _ _ => true) k
  have hn := zc_bd (zF w zs z) (zF w zs (z + 1)) w (pixB w h ds) k
  unfold law_PressPresets_l13
  simp only [joinF_eq]
  rw [s_wr (x := w * h) (by omega) (by omega), bif_pos hk, bif_pos (by omega), s_wr (x := (z : Int) * w) (by omega) (by omega), floor_s fu (by omega) (by omega) (by omega) (by omega)]
  simp only [bindO_some]
  rw [s_wr (x := (z : Int) + 1) (by omega) (by omega), s_wr (x := ((z : Int) + 1) * w) (by omega) (by omega), floor_s fu (by omega) (by omega) (by omega) (by omega)]
  simp only [bindO_some]
  rw [s_tm (by omega)]
  show (bif decide (zF w zs z ≤ (k : Int) % w) then _ else _) = _
  have key : ∀ b : Bool, b = decide (zF w zs z ≤ (k : Int) % w ∧ (k : Int) % w < zF w zs (z + 1)) → law_PressPresets_j15 fu (w, (h, ds)) (zc (zF w zs z) (zF w zs (z + 1)) w (fun _ _ => true) k, (zc (zF w zs z) (zF w zs (z + 1)) w (pixB w h ds) k, (k : Int))) k ((k : Int) % w) (law_PressPresets_j14 fu j) (b, (zc (zF w zs z) (zF w zs (z + 1)) w (fun _ _ => true) k, zc (zF w zs z) (zF w zs (z + 1)) w (pixB w h ds) k)) = j (zc (zF w zs z) (zF w zs (z + 1)) w (fun _ _ => true) (k + 1), (zc (zF w zs z) (zF w zs (z + 1)) w (pixB w h ds) (k + 1), ((k + 1 : Nat) : Int))) := by
    intro b hb'
    unfold law_PressPresets_j15 law_PressPresets_j14
    simp only
    rw [zc, zc, ← hb', Int.natCast_succ]
    cases b with
    | false =>
      simp only [cond_false, Bool.false_and, Int.add_zero]
      rw [s_wr (by omega) (by omega)]
    | true =>
      simp only [cond_true, Bool.true_and]
      rw [bif_pos (by omega), s_td (by omega), s_wr (x := (k : Int) / w) (by omega) (by omega), bit_r fu (by omega) d2 d3 d4 d5 hb]
      simp only [bindO_some]
      rw [s_wr (x := zc _ _ _ (fun _ _ => true) k + 1) (by omega) (by omega), s_wr (x := (k : Int) + 1) (by omega) (by omega)]
      cases pixB w h ds ((k : Int) % w) ((k : Int) / w) with
      | false => simp only [cond_false, Int.add_zero]
      | true =>
        simp only [cond_true]
        rw [s_wr (by omega) (by omega)]
  by_cases c : zF w zs z ≤ (k : Int) % w
  · rw [bif_pos c]
    exact key _ (by
      show decide ((k : Int) % w < zF w zs (z + 1)) = _
      by_cases c2 : (k : Int) % w < zF w zs (z + 1)
      · rw [decide_eq_true c2, decide_eq_true ⟨c, c2⟩]
      · rw [decide_eq_false c2, decide_eq_false fun h => c2 h.2])
  · rw [bif_neg c]
    exact key _ (by rw [decide_eq_false fun h => c h.1])
omit hf hg h0 hb hzw hll in
theorem lw_l13e {z : Nat} (hz : (z : Int) < zs) (j16) (j) {a n v : Int} (ha : 1 ≤ a ∧ a ≤ 1048576) (hn : 0 ≤ n ∧ n ≤ 1048576) (hwh : w * h ≤ 1048576) (hwh0 : 0 ≤ w * h) (hv : rnd (8 * n) a = v) (hv0 : 0 ≤ v ∧ v ≤ 9) (e1 : (ldRow l zs i zs.toNat).getD z 0 = v) (e2 : (kyRow l zs tg i zs.toNat).getD z 0 = min 1000 (rnd (tg.getD i 0 * (8 + v)) 128)) (e3 : (ldRow l zs i zs.toNat).length = zs.toNat) (e4 : (kyRow l zs tg i zs.toNat).length = zs.toNat) :
    law_PressPresets_l13 fu (l, (zs, (tg, ()))) (ldAll l zs l.length) (kyAll l zs tg l.length) i (w, (h, ds)) z j16 j (a, (n, w * h)) = j16 ((z : Int) + 1) := by
  have hm : 0 ≤ tg.getD i 0 * (8 + v) ∧ tg.getD i 0 * (8 + v) ≤ 24000 * 17 := mul_bd htb.1 htb.2 (by omega) (by omega)
  have hl1 : (ldAll l zs l.length).length = l.length := range_len _ _
  have hl2 : (kyAll l zs tg l.length).length = l.length := range_len _ _
  generalize hgt : tg.getD i 0 = g at hm htb e2
  unfold law_PressPresets_l13
  simp only [joinF_eq, Int.toNat_natCast, hgt]
  rw [s_wr (x := w * h) (by omega) (by omega), bif_neg (Int.lt_irrefl _), s_wr (x := 8 * n) (by omega) (by omega), round_s fu (by omega) (by omega) (by omega) (by omega), hv]
  simp only [bindO_some]
  simp only [hl1, hl2, ldAll_at hi, kyAll_at hi, e1, e2, e3, e4]
  rw [bif_and (by omega) (by omega), bif_and (by omega) (by omega), bif_neg (fun h => h rfl), bif_and (by omega) (by omega), bif_and (by omega) (by omega), bif_and (by omega) (by omega), s_wr (x := 8 + v) (by omega) (by omega), s_wr (x := g * (8 + v)) (by omega) (by omega), round_s fu (by omega) (by omega) (by omega) (by omega)]
  simp only [bindO_some]
  rw [s_neg (fun h => h rfl)]
  unfold law_PressPresets_j16
  simp only [cond_false]
  rw [s_wr (by omega) (by omega)]
theorem lw_l12 (j13) : loopF (law_PressPresets_l12 fu (l, (zs, (tg, ()))) (ldAll l zs l.length) (kyAll l zs tg l.length) i (w, (h, ds)) j13) fu 0 = j13 ((i : Int) + 1) := by
  obtain ⟨d1, d2, d3, d4, d5⟩ := bitsE_dim h0
  have m3 : 0 ≤ w * h ∧ w * h ≤ 1024 * 1024 := mul_bd (by omega) d2 (by omega) d4
  have ewh : w.toNat * h.toNat = (w * h).toNat := by
    have : ((w.toNat * h.toNat : Nat) : Int) = w * h := by rw [Int.natCast_mul, Int.toNat_of_nonneg (by omega), Int.toNat_of_nonneg (by omega)]
    omega
  refine stLoopP (n := zs.toNat) (by omega) (st := fun z : Nat => (z : Int)) rfl (fun j z hz => ?_) (fun j => ?_)
  · obtain ⟨b0, b1, b2⟩ := zF_bd (z := (z : Int)) (by omega) hzw (by omega) (show (z : Int) < zs by omega)
    have hlb := zLoad_bd (P := pixB w h ds) (by omega) hzw d3 (show (0 : Int) ≤ z by omega) (show (z : Int) < zs by omega)
    have hall := za_all (f := zF w zs z) (t := zF w zs (z + 1)) (w := w) (by omega) b0 (by omega) b2 h.toNat
    rw [Nat.mul_comm, ewh, Int.toNat_of_nonneg (show 0 ≤ h by omega)] at hall
    have hd : 1 * 1 ≤ (zF w zs (z + 1) - zF w zs z) * h := Int.mul_le_mul (by omega) d3 (by omega) (by omega)
    have hd2 : (zF w zs (z + 1) - zF w zs z) * h ≤ 1024 * 1024 := Int.mul_le_mul (by omega) d4 (by omega) (by omega)
    have hn := zc_bd (zF w zs z) (zF w zs (z + 1)) w (pixB w h ds) (w * h).toNat
    unfold law_PressPresets_l12
    simp only
    rw [bif_pos (by omega), Int.natCast_succ]
    refine stLoopP (n := (w * h).toNat) (by omega) (st := fun k : Nat => (zc (zF w zs z) (zF w zs (z + 1)) w (fun _ _ => true) k, (zc (zF w zs z) (zF w zs (z + 1)) w (pixB w h ds) k, (k : Int)))) rfl (fun j2 k hk => lw_l13s h0 hb hzs hzw (by omega) j j2 (by omega) _ _) (fun j2 => ?_)
    have ek : (((w * h).toNat : Nat) : Int) = w * h := Int.toNat_of_nonneg m3.1
    simp only [hall, ek]
    refine lw_l13e (v := zLoad w h zs (pixB w h ds) z) hi hzs htl htb (by omega) j j2 (by omega) (by omega) (by omega) m3.1 ?_ hlb ?_ ?_ (range_len _ _) (range_len _ _)
    · unfold zLoad
      rw [ewh]
    · unfold ldRow
      rw [range_getD (by omega), hg]; rfl
    · unfold kyRow
      rw [range_getD (by omega), hg]; rfl
  · unfold law_PressPresets_l12
    rw [bif_neg (by simp only; omega), s_wr (by omega) (by omega)]
end
theorem lw_ok {l : List BmT} {zs : Int} {tg : List Int} (hB : ∀ b ∈ l, Bytes b.2.2) (h : ppErr l zs tg = 0) : loopF (law_PressPresets_l8 fu (l, (zs, (tg, ()))) (ldAll l zs l.length) (kyAll l zs tg l.length) 0) fu 0 = some (true, ()) := by
  unfold ppErr at h
  split at h
  · omega
  rename_i c1
  split at h
  · omega
  rename_i c2
  split at h
  · rename_i e1
    split at h
    · rename_i hzs
      split at h
      · rename_i htl
        split at h
        · rename_i e2
          have hbm : ∀ i, i < l.length → bmE l i = 0 := fun i hi => firstE_ok _ _ e1 i (by omega) (by omega)
          have htg : ∀ i, i < l.length → 0 ≤ tg.getD i 0 ∧ tg.getD i 0 ≤ 24000 := fun i hi => tgE_ok (firstE_ok _ _ e2 i (by omega) (by omega))
          have hft : ∀ i, i < l.length → zs ≤ (l.getD i (0, (0, []))).1 := fun i hi => fitE_ok (firstE_ok _ _ h i (by omega) (by omega))
          have hl1 : (ldAll l zs l.length).length = l.length := range_len _ _
          have hl2 : (kyAll l zs tg l.length).length = l.length := range_len _ _
          have h10 : loopF (law_PressPresets_l10 fu (l, (zs, (tg, ()))) (ldAll l zs l.length) (kyAll l zs tg l.length)) fu 0 = some (true, ()) := by
            refine stLoopP (n := l.length) (by omega) (st := fun i : Nat => (i : Int)) rfl (fun j i hi => ?_) (fun j => ?_)
            · have hb := hbm i hi
              have hby := bm_mem hi hB
              have hfi := hft i hi
              unfold bmE at hb
              rcases hg : l.getD i (0, (0, [])) with ⟨w, h, ds⟩
              rw [hg] at hb hby hfi
              simp only at hb hby hfi
              have e3 : (ldRow l zs i zs.toNat).length = zs.toNat := range_len _ _
              have e4 : (kyRow l zs tg i zs.toNat).length = zs.toNat := range_len _ _
              unfold law_PressPresets_l10
              simp only [joinF_eq, Int.toNat_natCast, hl1, hl2, ldAll_at hi, kyAll_at hi, e3, e4]
              rw [bif_pos (by omega), bif_and (by omega) (by omega), bif_and (by omega) (by omega), bif_neg (by omega), bif_and (by omega) (by omega), s_neg (by omega), hg]
              unfold law_PressPresets_j11
              simp only [cond_false]
              rw [lw_l12 hf hi hg hb hby hzs hfi htl (htg i hi) (by omega) j, Int.natCast_succ]
            · unfold law_PressPresets_l10
              rw [bif_neg (by simp only; omega)]
          refine loopF_spec (fun x : Int => ((l.length : Int) - x).toNat) (fun x => 0 ≤ x ∧ x ≤ l.length) (fun _ => some (true, ())) (fun j x hI hj => ?_) fu 0 ⟨by omega, by omega⟩ (by omega)
          unfold law_PressPresets_l8
          simp only [joinF_eq]
          by_cases c : x < (l.length : Int)
          · rw [bif_pos c, bif_and hI.1 c, big_r]
            simp only [bindO_some]
            cases (decide (48 < (l.getD x.toNat (0, (0, []))).1) || decide (24 < (l.getD x.toNat (0, (0, []))).2.1)) with
            | true => rfl
            | false =>
              simp only [cond_false]
              rw [s_wr (by omega) (by omega)]
              exact hj _ ⟨by omega, by omega⟩ (by omega)
          · rw [bif_neg c, bif_neg (fun h => h rfl), hl1, hl2, bif_neg (fun h => h rfl), s_neg (fun h => h rfl)]
            unfold law_PressPresets_j9
            simp only [cond_false]
            exact h10
        · omega
      · omega
    · omega
  · omega
theorem pressPresets_s (x : List BmT × (Int × (List Int × Unit))) (hB : ∀ b ∈ x.1, Bytes b.2.2) (htl : x.2.2.1.length ≤ 9223372036854775807) (hll : x.1.length ≤ 9223372036854775807) : law_PressPresets_r fu x = some (true, ()) := by
  obtain ⟨l, zs, tg, ⟨⟩⟩ := x
  simp only at hB htl hll
  unfold law_PressPresets_r
  simp only
  rw [show law_pressWorks_r fu () = some (true, ()) from rfl, presets_r hf hB]
  simp only [bindO_some, Bool.not_true, cond_false, joinF_eq]
  -- the law's answer for a want
  let K2 : List (List Int) → List (List Int) → Int → Int → Option (Bool × Unit) := fun v2 v3 v4 W => bif decide (W ≠ 0) then bindO (law_none_r fu (decide (IntKind.i64.wrap ((v2.length : Int) + (v3.length : Int)) = 0), (v4, (W, ())))) fun v11 => some (v11.1, ()) else loopF (law_PressPresets_l8 fu (l, (zs, (tg, ()))) v2 v3 v4) fu 0
  have tail : ∀ v2 v3 v4 W, loopF (law_PressPresets_l5 fu (l, (zs, (tg, ()))) v2 v3 v4) fu (W, 0) = K2 v2 v3 v4 (if W = 0 then firstE (fitE l zs) l.length 0 else W) := by
    intro v2 v3 v4 W
    refine wantLoop (n := l.length) (E := fitE l zs) (K := K2 v2 v3 v4) (fun j i hi => ?_) (fun j W i hi hc => ?_) fu 0 W (by omega) (by omega)
    · unfold law_PressPresets_l5 law_PressPresets_j6 law_PressPresets_j7
      simp only [joinF_eq, Int.toNat_natCast]
      rw [bif_pos (by omega), s_pos trivial]
      simp only [cond_true]
      rw [bif_and (by omega) (by omega)]
      by_cases c : (l.getD i (0, (0, []))).1 < zs
      · have e : fitE l zs i = 19 := if_pos c
        rw [bif_pos c, e, s_wr (by omega) (by omega)]
      · have e : fitE l zs i = 0 := if_neg c
        rw [bif_neg c, e, s_wr (by omega) (by omega)]
    · unfold law_PressPresets_l5
      simp only [joinF_eq]
      have : (bif decide ((i : Int) < (l.length : Int)) then law_PressPresets_j6 fu (l, (zs, (tg, ()))) v2 v3 v4 (W, (i : Int)) j (decide (W = 0)) else law_PressPresets_j6 fu (l, (zs, (tg, ()))) v2 v3 v4 (W, (i : Int)) j false) = law_PressPresets_j6 fu (l, (zs, (tg, ()))) v2 v3 v4 (W, (i : Int)) j false := by
        by_cases c : (i : Int) < (l.length : Int)
        · rw [bif_pos c, s_neg (hc.resolve_right (by omega))]
        · rw [bif_neg c]
      rw [this]; rfl
  let K1 : List (List Int) → List (List Int) → Int → Int → Option (Bool × Unit) := fun v2 v3 v4 W => K2 v2 v3 v4 (if W = 0 then (if 1 ≤ zs ∧ zs ≤ 16 then (if (tg.length : Int) = l.length then (if firstE (tgE tg) tg.length 0 = 0 then firstE (fitE l zs) l.length 0 else firstE (tgE tg) tg.length 0) else 4) else 3) else W)
  have head : ∀ v2 v3 v4 W, loopF (law_PressPresets_l2 fu (l, (zs, (tg, ()))) v2 v3 v4) fu (W, 0) = K1 v2 v3 v4 (if W = 0 then firstE (bmE l) l.length 0 else W) := by
    intro v2 v3 v4 W
    refine wantLoop (n := l.length) (E := bmE l) (K := K1 v2 v3 v4) (fun j i hi => ?_) (fun j W i hi hc => ?_) fu 0 W (by omega) (by omega)
    · have hby := bm_mem hi hB
      unfold law_PressPresets_l2 law_PressPresets_j3
      simp only [joinF_eq, Int.toNat_natCast]
      rw [bif_pos (by omega), s_pos trivial]
      simp only [cond_true]
      rw [bif_and (by omega) (by omega), bitsErr_r hf hby]
      simp only [bindO_some]
      rw [s_wr (by omega) (by omega)]
      rfl
    · unfold law_PressPresets_l2
      simp only [joinF_eq]
      have : (bif decide ((i : Int) < (l.length : Int)) then law_PressPresets_j3 fu (l, (zs, (tg, ()))) v2 v3 v4 (W, (i : Int)) j (decide (W = 0)) else law_PressPresets_j3 fu (l, (zs, (tg, ()))) v2 v3 v4 (W, (i : Int)) j false) = law_PressPresets_j3 fu (l, (zs, (tg, ()))) v2 v3 v4 (W, (i : Int)) j false := by
        by_cases c : (i : Int) < (l.length : Int)
        · rw [bif_pos c, s_neg (hc.resolve_right (by omega))]
        · rw [bif_neg c]
      rw [this]
      unfold law_PressPresets_j3 law_PressPresets_j4
      simp only [joinF_eq, cond_false]
      by_cases c : W = 0
      · subst c
        rw [s_neg (fun h => h rfl), within_r]
        simp only [bindO_some, cond_false]
        show _ = K2 v2 v3 v4 (if (0 : Int) = 0 then _ else _)
        rw [if_pos rfl]
        by_cases c3 : 1 ≤ zs ∧ zs ≤ 16
        · rw [s_pos c3.1, s_pos c3.2, if_pos c3]
          simp only [Bool.and_self, Bool.not_true, cond_false]
          by_cases c4 : (tg.length : Int) = l.length
          · rw [tones_r hf (by omega)]
            simp only [bindO_some]
            rw [if_pos c4, if_pos c4, tail]
          · rw [tones_r hf (by omega)]
            simp only [bindO_some]
            rw [if_neg c4, if_neg c4, tail]; rfl
        · have e2 : (decide (1 ≤ zs) && decide (zs ≤ 16)) = false := by
            rw [← Bool.not_eq_true, Bool.and_eq_true, decide_eq_true_iff, decide_eq_true_iff]; exact c3
          rw [e2, if_neg c3]
          simp only [Bool.not_false, cond_true]
          rw [tail]; rfl
      · rw [s_pos c]
        simp only [cond_true]
        rw [tail, if_neg c]
        show _ = K2 v2 v3 v4 (if W = 0 then _ else _)
        rw [if_neg c]
  have all : ∀ v2 v3 v4 W0, W0 = (if 8 < l.length then (2 : Int) else if l.length = 0 then 1 else 0) → law_PressPresets_j1 fu (l, (zs, (tg, ()))) v2 v3 v4 W0 = K2 v2 v3 v4 (ppErr l zs tg) := by
    intro v2 v3 v4 W0 hW
    unfold law_PressPresets_j1
    rw [head]
    show K2 v2 v3 v4 _ = _
    congr 1
    unfold ppErr
    subst hW
    by_cases c1 : 8 < l.length
    · simp only [if_pos c1]; rfl
    simp only [if_neg c1]
    by_cases c2 : l.length = 0
    · simp only [if_pos c2]; rfl
    simp only [if_neg c2, if_true]
    by_cases c4 : tg.length = l.length
    · have c4' : (tg.length : Int) = l.length := by omega
      simp only [if_pos c4, if_pos c4']
    · have c4' : ¬ (tg.length : Int) = l.length := by omega
      simp only [if_neg c4, if_neg c4']
  by_cases h : ppErr l zs tg = 0
  · rw [if_pos h]
    simp only [bindO_some]
    have fin : ∀ W0, W0 = (if 8 < l.length then (2 : Int) else if l.length = 0 then 1 else 0) → law_PressPresets_j1 fu (l, (zs, (tg, ()))) (ldAll l zs l.length) (kyAll l zs tg l.length) 0 W0 = some (true, ()) := by
      intro W0 hW
      rw [all _ _ _ _ hW, h]
      show (bif decide ((0 : Int) ≠ 0) then _ else _) = _
      rw [bif_neg (fun h => h rfl)]
      exact lw_ok hf hB h
    by_cases c1 : 8 < l.length
    · rw [s_pos (by omega)]; exact fin _ (by rw [if_pos c1])
    rw [s_neg (by omega)]
    simp only [cond_false]
    by_cases c2 : l.length = 0
    · rw [s_pos (by omega)]; exact fin _ (by rw [if_neg c1, if_pos c2])
    rw [s_neg (by omega)]
    exact fin _ (by rw [if_neg c1, if_neg c2])
  · rw [if_neg h]
    simp only [bindO_some]
    have fin : ∀ W0, W0 = (if 8 < l.length then (2 : Int) else if l.length = 0 then 1 else 0) → law_PressPresets_j1 fu (l, (zs, (tg, ()))) [] [] (ppErr l zs tg) W0 = some (true, ()) := by
      intro W0 hW
      rw [all _ _ _ _ hW]
      show (bif decide (ppErr l zs tg ≠ 0) then _ else _) = _
      rw [bif_pos h, none_r]
      simp only [List.length_nil, bindO_some, Int.natCast_zero, Int.add_zero]
      rw [s_wr (by omega) (by omega)]
      simp
    by_cases c1 : 8 < l.length
    · rw [s_pos (by omega)]; exact fin _ (by rw [if_pos c1])
    rw [s_neg (by omega)]
    simp only [cond_false]
    by_cases c2 : l.length = 0
    · rw [s_pos (by omega)]; exact fin _ (by rw [if_neg c1, if_pos c2])
    rw [s_neg (by omega)]
    exact fin _ (by rw [if_neg c1, if_neg c2])
end
end Go.Proofs.Ytedjnjgnadbkaaa
/- The step from a walk to a law's row, once for all laws of the seat: a law that returns true and leaves all that was there as it was. -/
namespace Go.Proofs.Ytedjnjgnadbkaaa
open Go.ChangeShapes Go.WideShapes Go.ChangeAt Go.RowKit

theorem own : ownKnob Try.prog.godebug = none := by kernel_rfl
theorem laidOut : laidOutB Try.prog = true := by kernel_rfl
theorem boolT : Try.prog.underlying 4 = some .bool := Try.underlying4

theorem trodAll_stays {H : Type} {enc : TypeId × Value → H} {P : Program} (hl : laidOutB P = true) {W W' : World} (hb : Below W.heap.size W W') :
    ∀ {ts : List TypeId} {vs : List Value} {ds : List (DataW H)} {ps : List MemPlace}, (∀ t ∈ ts, P.readableRec t = true ∧ t < P.types.size) → DataW.TrodAll enc P W 0 (fun _ => true) true ts vs ds ps →
      (∀ x ∈ ps, x.block < W.heap.size) → DataW.TrodAll enc P W' 0 (fun b => decide (b < W.heap.size)) true ts vs ds ps
  | [], [], [], _, _, h, _ => h
  | t :: ts, v :: vs, d :: ds, _, hr, ⟨p, q, h1, h2, e⟩, hlt =>
    ⟨p, q, Below.trod hl (hr t (by simp)).1 (hr t (by simp)).2 h1 hb (fun x hx => hlt x (by rw [e]; simp [hx])),
      trodAll_stays hl hb (fun t' ht => hr t' (by simp [ht])) h2 (fun x hx => hlt x (by rw [e]; simp [hx])), e⟩
  | [], [], _ :: _, _, _, h, _ => h.elim
  | [], _ :: _, _, _, _, h, _ => h.elim
  | _ :: _, [], _, _, _, h, _ => h.elim
  | _ :: _, _ :: _, [], _, _, h, _ => h.elim

/-- what a law's row asks of the readable types among its parameters -/
def readsAll (P : Program) (ts : List TypeId) : Bool := ts.all fun t => P.readableRec t && decide (t < P.types.size)
theorem readsAll_all {P : Program} {ts : List TypeId} (h : readsAll P ts = true) : ∀ t ∈ ts, P.readableRec t = true ∧ t < P.types.size := by
  intro t ht
  have := List.all_eq_true.1 h t ht
  simpa using this

theorem trodAll_length {H : Type} {enc : TypeId × Value → H} {P : Program} {W : World} {base : Nat} {spare : Nat → Bool} {held : Bool} :
    ∀ {ts : List TypeId} {vs : List Value} {ds : List (DataW H)} {ps : List MemPlace}, DataW.TrodAll enc P W base spare held ts vs ds ps → ds.length = ts.length
  | [], [], [], _, _ => rfl
  | _ :: _, _ :: _, _ :: _, _, ⟨_, _, _, h2, _⟩ => by simp [trodAll_length h2]
  | [], [], _ :: _, _, h => h.elim
  | [], _ :: _, _, _, h => h.elim
  | _ :: _, [], _, _, h => h.elim
  | _ :: _, _ :: _, [], _, h => h.elim

set_option maxRecDepth 100000 in
theorem law_lifted {os : Os} (started : os.Started) {H : Type} {enc : TypeId × Value → H} {f : FuncId} {fn : Func} {s : ChangeSpec}
    (noInit : Try.checked.prog.inits.idxOf? f = none) (hfn : Try.checked.prog.funcs[f]? = some fn)
    (witness : ∃ (w : World) (tape : Tape) (i : Input), w.os = os ∧ (w.forCall tape i).Shaped Try.checked.prog ∧ i.vars = [] ∧ Input.okWide Try.checked.prog (w.forCall tape i) .any w.heap.size f i ∧
      s.pre6 enc Try.checked.prog fn [] false (w.forCall tape i).memory i.args ∧ ({} : Assume).holds Try.checked.prog (lone (Frame.enter Try.checked.prog f i.args .normal) [] (w.forCall tape i)))
    (hvars : s.vars = []) (hres : fn.resultTypes = #[4]) (hread : readsAll Try.prog fn.params.toList = true)
    (hspec : ∀ ds : List (DataW H), ds.length = fn.params.toList.length → s.fn H ds = { results := [.lit (.bool true)], args := ds })
    (walk : ∀ (W : World) (base : Nat) (args : List Value) (ds : List (DataW H)) (ps : List MemPlace),
      (∀ (j : Nat) t v, fn.params[j]? = some t → args[j]? = some v → Value.okWide Try.prog W .any base t v) → DataW.TrodAll enc Try.prog W 0 (fun _ => true) true fn.params.toList args ds ps →
      (DataW.weightsEach Try.prog fn.params.toList ds).all (· ≤ reachBytes) = true → (∀ x ∈ ps, x.block < W.heap.size) →
      Calls Try.prog f args.toArray W fun e W' => e = .returned (.bool true) ∧ Below W.heap.size W W') :
    ReturnsInHanded {} Try.checked os f .any (s.pre6 enc Try.checked.prog fn [] false) (s.post enc Try.checked.prog fn false true false false) := by
  refine returnsInHanded_of_change_sized (C := Try.checked) own started noInit hfn witness ?_
  intro W base args ds gs before hval hW _ hsz _
  have hW' := hW
  obtain ⟨p, q, hA0, hV, rfl, hfz, hnd⟩ := hW
  rw [hvars] at hV
  obtain ⟨rfl, rfl⟩ := trodVars_none hV
  have hA : DataW.TrodAll enc Try.prog W 0 (fun _ => true) true fn.params.toList args.toList ds p := hA0
  have hlen : ds.length = fn.params.toList.length := trodAll_length hA
  have hlt : ∀ x ∈ p, x.block < W.heap.size := fun x hx => hW'.lt x (by simpa using hx)
  have hargs : args.toList.toArray = args := by simp
  have hsz' : (DataW.weightsEach Try.prog fn.params.toList ds).all (· ≤ reachBytes) = true := by
    have h := hsz
    have hvt : s.plain.varTypes Try.checked.prog = [] := by simp [DataSpec.varTypes, ChangeSpec.plain, hvars]
    rw [hvt] at h
    simp only [List.append_nil] at h
    exact h
  have hw := walk W base args.toList ds p (fun j t v ht hv => hval j t v ht (by simpa using hv)) hA hsz' hlt
  rw [hargs] at hw
  refine hw.mono fun e W' ⟨he, hb⟩ => ⟨.bool true, he, ?_⟩
  have hsf : s.fn H (ds ++ []) = { results := [.lit (.bool true)], args := ds } := by rw [List.append_nil]; exact hspec ds hlen
  refine ⟨ds, [], p ++ [], [], p, [], hW', ?_, ?_, ?_, hb.frame _, fun h => by cases h⟩
  · rw [hsf, hres]
    exact trodAll_mk1 (shut_bool boolT true)
  · rw [hsf]
    exact trodAll_stays laidOut hb (readsAll_all hread) hA hlt
  · rw [hsf, hvars]
    rfl
end Go.Proofs.Ytedjnjgnadbkaaa
/- Arguments opened: what slices and structs of numbers read as. -/
set_option maxRecDepth 100000
namespace Go.Proofs.Ytedjnjgnadbkaaa
open Go.ChangeShapes Go.WideShapes Go.ChangeAt Go.RowKit Go.Deep

theorem choose_list {α : Type} {n : Nat} {Q : Nat → α → Prop} (h : ∀ i, i < n → ∃ p, Q i p) : ∃ l : List α, l.length = n ∧ ∀ i p, l[i]? = some p → Q i p := by
  induction n with
  | zero => exact ⟨[], rfl, by intro i p hi; simp at hi⟩
  | succ n ih =>
    obtain ⟨l, hl, hq⟩ := ih (fun i hi => h i (by omega))
    obtain ⟨p, hp⟩ := h n (by omega)
    refine ⟨l ++ [p], by simp [hl], fun i q hi => ?_⟩
    rcases Nat.lt_trichotomy i n with hlt | rfl | hgt
    · rw [List.getElem?_append_left (by omega)] at hi
      exact hq i q hi
    · rw [List.getElem?_append_right (by omega), hl] at hi
      simp at hi
      subst hi; exact hp
    · rw [List.getElem?_eq_none (by simp; omega)] at hi
      cases hi

section
variable {H : Type} {enc : TypeId × Value → H} {P : Program} {w : World} {base : Nat} {spare : Nat → Bool} {held : Bool}
/-- a slice, whatever its elements: of each element its cells and its reading -/
theorem rd_slice {t e : TypeId} {fuel : Nat} {v : Value} {x : DataW H × List MemPlace} (ht : P.underlying t = some (.slice e)) (hc : 0 < P.cellsOf e) (h : DataW.trod enc P w base spare held fuel t [v] = some x) :
    ∃ A n c, v = .slice A n c ∧ n ≤ c ∧ c ≤ maxLen ∧ ∀ i, i < n → ∃ b o cs n' x', A = some ⟨b, o, none⟩ ∧ cs.length = P.cellsOf e ∧ (∀ j u, cs[j]? = some u → w.cell? ⟨b, o + i * P.cellsOf e + j, none⟩ = some u) ∧
      DataW.trod enc P w base spare held n' e cs = some x' := by
  rcases open_slice ht h with ⟨h0, _⟩ | ⟨a, len, cap, m, n', D, Pl, hcs, _, hl, hm, hmm, _, hi⟩
  · simp at h0
    subst h0
    exact ⟨none, 0, 0, rfl, by omega, by unfold maxLen; omega, by intro i hi; omega⟩
  · simp at hcs
    subst hcs
    refine ⟨some a, len, cap, rfl, hl, hm, fun i hil => ?_⟩
    have hlm : len ≤ m := by rw [hmm]; split <;> omega
    obtain ⟨cs, h1, h2⟩ := hi i (by omega)
    obtain ⟨hb, hlen, hat⟩ := World.cells?_some h1
    obtain ⟨b, o, spot⟩ := a
    have h00 := hat 0 (by omega)
    have hsp : spot = none := by
      obtain ⟨cs0, g1, _⟩ := hi 0 (by omega)
      obtain ⟨_, gl, gat⟩ := World.cells?_some g1
      have hx := gat 0 (by omega)
      rw [List.getElem?_eq_getElem (by omega)] at hx
      simpa [Addr.add] using World.cell?_spot hx
    subst hsp
    refine ⟨b, o, cs, n', _, rfl, hlen, ?_, h2⟩
    intro j u hu
    have hjl : j < P.cellsOf e := by rw [← hlen]; exact (List.getElem?_eq_some_iff.1 hu).1
    have := hat j hjl
    rw [hu, Addr.add_lit, Addr.add_lit] at this
    exact this
end

end Go.Proofs.Ytedjnjgnadbkaaa
/- Arguments opened, as abstract values. -/
set_option maxRecDepth 100000
namespace Go.Proofs.Ytedjnjgnadbkaaa
open Go Go.ChangeShapes Go.WideShapes Go.ChangeAt Go.RowKit Go.Deep

section
variable {H : Type} {enc : TypeId × Value → H} {P : Program} {w : World} {base : Nat} {spare : Nat → Bool} {held : Bool}
/-- data of the caller's -/
abbrev RelC (w : World) : AV → Value → Prop := RelD w (fun _ => False) w.heap.size
/-- one element's cells, read as enc p -/
def Reads {α : Type} (w : World) (sz : Nat) (ec : α → List AV) (Q : α → Prop) (cs : List Value) : Prop :=
  ∃ p, Q p ∧ (ec p).length = sz ∧ ∀ (j : Nat) (a : AV) (u : Value), (ec p)[j]? = some a → cs[j]? = some u → RelC w a u
theorem ro_slice {α : Type} (ec : α → List AV) (Q : α → Prop) {t e : TypeId} {sz fuel : Nat} {v : Value} {x : DataW H × List MemPlace} (ht : P.underlying t = some (.slice e)) (hz : P.cellsOf e = sz) (hc : 0 < sz)
    (hel : ∀ (fuel : Nat) (cs : List Value) (x : DataW H × List MemPlace), cs.length = sz → DataW.trod enc P w base spare held fuel e cs = some x → Reads w sz ec Q cs) (h : DataW.trod enc P w base spare held fuel t [v] = some x) :
    ∃ xs : List α, (∀ p ∈ xs, Q p) ∧ RelC w (.ro false sz (xs.map ec)) v := by
  subst hz
  obtain ⟨A, n, c, rfl, hn, hm, hi⟩ := rd_slice ht hc h
  obtain ⟨xs, hl, hq⟩ := choose_list (Q := fun i (p : α) => Q p ∧ ∃ (b o : Nat) (cs : List Value), A = some ⟨b, o, none⟩ ∧ cs.length = P.cellsOf e ∧ (∀ (j : Nat) (u : Value), cs[j]? = some u → w.cell? ⟨b, o + i * P.cellsOf e + j, none⟩ = some u) ∧ (ec p).length = P.cellsOf e ∧ ∀ (j : Nat) (a : AV) (u : Value), (ec p)[j]? = some a → cs[j]? = some u → RelC w a u) (n := n) (by
    intro i hil
    obtain ⟨b, o, cs, n', x', hA, hlen, hat, htr⟩ := hi i hil
    obtain ⟨p, h1, h2, h3⟩ := hel n' cs x' hlen htr
    exact ⟨p, h1, b, o, cs, hA, hlen, hat, h2, h3⟩)
  subst hl
  refine ⟨xs, fun p hp => ?_, ?_⟩
  · obtain ⟨i, hi⟩ := List.mem_iff_getElem?.1 hp
    exact (hq i p hi).1
  have key : ∀ (i : Nat) (row : List AV) (j : Nat) (a : AV), (xs.map ec)[i]? = some row → row[j]? = some a → ∃ b o u, A = some ⟨b, o, none⟩ ∧ w.cell? ⟨b, o + i * P.cellsOf e + j, none⟩ = some u ∧ RelC w a u := by
    intro i row j a hr ha
    rw [List.getElem?_map] at hr
    obtain ⟨p, hp, rfl⟩ := Option.map_eq_some_iff.1 hr
    obtain ⟨_, b, o, cs, hA, hlen, hat, hel, hrel⟩ := hq i p hp
    have hj : j < cs.length := by rw [hlen, ← hel]; exact (List.getElem?_eq_some_iff.1 ha).1
    have hu : cs[j]? = some cs[j] := List.getElem?_eq_getElem hj
    exact ⟨b, o, cs[j], hA, hat j _ hu, hrel j a _ ha hu⟩
  have hcon := RelD.ro (w := w) (own := fun _ => False) (bs := w.heap.size) false (P.cellsOf e) (xs.map ec) A c (fun i j => match A with
    | some ⟨b, o, _⟩ => (w.cell? ⟨b, o + i * P.cellsOf e + j, none⟩).getD undef
    | none => undef) (by simpa using hn) hm (fun i hi hA => by
      have hi : i < xs.length := by simpa using hi
      obtain ⟨_, b, o, _, h1, _⟩ := hq i xs[i] (List.getElem?_eq_getElem hi)
      rw [hA] at h1; cases h1) (fun i row j a hr ha => by
      obtain ⟨b, o, u, hA, hu, _⟩ := key i row j a hr ha
      subst hA
      exact ⟨b, o, rfl, fun h => h.elim, (fun h => by cases h), by simp [hu]⟩) (fun i row j a hr ha => by
      obtain ⟨b, o, u, hA, hu, hr⟩ := key i row j a hr ha
      subst hA
      simpa [hu] using hr)
  rw [List.length_map] at hcon
  exact hcon
end
/-- a law that answers true -/
theorem AF.yes {P : Program} {F : FuncId} {xs : List AV} {vs : Array Value} {w : World} (h : AF P F xs (.bool true)) (ha : ArgsV w (Gh.none w.heap.size) xs vs) : Calls P F vs w fun e w' => e = .returned (.bool true) ∧ Below w.heap.size w w' :=
  (h.out w vs ha).mono fun e w' ⟨v, he, hb, hv⟩ => ⟨by rw [he, hv.bool'], hb⟩
end Go.Proofs.Ytedjnjgnadbkaaa
/- Arguments of any type, opened by one theorem; the last step of a law that a residual program answers. -/
set_option maxRecDepth 100000
namespace Go.Proofs.Ytedjnjgnadbkaaa
open Go Go.ChangeShapes Go.WideShapes Go.ChangeAt Go.RowKit Go.Deep

/-- what every argument of a type meets -/
def Ty.wf : (t : Ty) → t.den → Prop
  | .int k, n => (Lit.int k n).wf = true
  | .bool, _ => True
  | .str, s => List.length s ≤ maxLen
  | .list t, xs => List.length xs ≤ maxLen ∧ ∀ x ∈ (xs : List t.den), t.wf x
  | .unit, _ => True
  | .pair a b, x => a.wf x.1 ∧ b.wf x.2
  | .agg t, x => t.wf x
  | .ptr _, _ => False
def prB (t : Ty) (f : Ty → Ty → Bool) : Bool := match t with
  | .pair x y => f x y
  | _ => false
def unB (t : Ty) : Bool := match t with
  | .unit => true
  | _ => false
theorem prB_ok {t : Ty} {f : Ty → Ty → Bool} (h : prB t f = true) : ∃ x y, t = .pair x y ∧ f x y = true := by
  unfold prB at h
  split at h
  · exact ⟨_, _, rfl, h⟩
  · cases h
theorem unB_ok {t : Ty} (h : unB t = true) : t = .unit := by
  unfold unB at h
  split at h
  · rfl
  · cases h
def fsB (g : TypeId → Ty → Bool) : List Field → Nat → Ty → Bool
  | [], _, t => unB t
  | [a], o, t => Nat.beq a.offset o && g a.type t
  | a :: b :: l, o, t => prB t fun x y => Nat.beq a.offset o && g a.type x && fsB g (b :: l) (o + x.size) y
def arB (g : Ty → Bool) : Nat → Ty → Bool
  | 0, t => unB t
  | 1, t => g t
  | n + 2, t => prB t fun x y => g x && arB g (n + 1) y
def intB (k : IntKind) (t : Ty) : Bool := match t with
  | .int k' => decide (k' = k)
  | _ => false
def boolB (t : Ty) : Bool := match t with
  | .bool => true
  | _ => false
def strB (t : Ty) : Bool := match t with
  | .str => true
  | _ => false
def sliceB (g : Ty → Bool) (t : Ty) : Bool := match t with
  | .list t' => g t' && Nat.blt 0 t'.size
  | _ => false
/-- a type as the program has it -/
def tyB (P : Program) : Nat → TypeId → Ty → Bool
  | 0, _, _ => false
  | f + 1, tid, t => Nat.beq (P.cellsOf tid) t.size && (match P.underlying tid with
    | some (.int k) => intB k t
    | some .bool => boolB t
    | some .string => strB t
    | some (.slice e) => sliceB (tyB P f e) t
    | some (.struct ⟨fs⟩) => fsB (tyB P f) fs 0 t
    | some (.array n e) => arB (tyB P f e) n t
    | _ => false)
section
variable {H : Type} {enc : TypeId × Value → H} {P : Program} {w : World} {base : Nat} {spare : Nat → Bool} {held : Bool}
abbrev ReadsT (w : World) (t : Ty) (cs : List Value) : Prop := Reads w t.size (t.cells false) t.wf cs
theorem tyB_size {f : Nat} {tid : TypeId} {t : Ty} (h : tyB P f tid t = true) : P.cellsOf tid = t.size := by
  cases f with
  | zero => cases h
  | succ f => rw [tyB, Bool.and_eq_true] at h; exact Nat.eq_of_beq_eq_true h.1
theorem ReadsT.pair {a b : Ty} {c d : List Value} (h : ReadsT w a c) (k : ReadsT w b d) (hl : c.length = a.size) : ReadsT w (.pair a b) (c ++ d) := by
  obtain ⟨x, x1, x2, x3⟩ := h
  obtain ⟨y, y1, y2, y3⟩ := k
  refine ⟨(x, y), ⟨x1, y1⟩, Ty.cells_length _ _ _, fun j v u hv hu => ?_⟩
  rw [Ty.cells] at hv
  by_cases hj : j < a.size
  · rw [List.getElem?_append_left (by rw [x2]; exact hj)] at hv
    rw [List.getElem?_append_left (by omega)] at hu
    exact x3 j v u hv hu
  · rw [List.getElem?_append_right (by rw [x2]; omega), x2] at hv
    rw [List.getElem?_append_right (by omega), hl] at hu
    exact y3 _ v u hv hu
theorem ReadsT.unit : ReadsT w .unit [] := ⟨(), trivial, rfl, fun j a u h _ => by simp [Ty.cells] at h⟩
theorem fs_reads {g : TypeId → Ty → Bool} (hg : ∀ (tid : TypeId) (t : Ty) (n : Nat) (cs : List Value) (x : DataW H × List MemPlace), g tid t = true → cs.length = t.size → DataW.trod enc P w base spare held n tid cs = some x → ReadsT w t cs) (hsz : ∀ tid t, g tid t = true → P.cellsOf tid = t.size) {cs : List Value} :
    ∀ (l : List Field) (o : Nat) (t : Ty), fsB g l o t = true → (∀ a ∈ l, ∃ n y, DataW.trod enc P w base spare held n a.type ((cs.drop a.offset).take (P.cellsOf a.type)) = some y) → o + t.size ≤ cs.length → ReadsT w t ((cs.drop o).take t.size)
  | [], o, t, h, _, _ => by
    rw [unB_ok h, show Ty.unit.size = 0 from rfl, List.take_zero]; exact .unit
  | [a], o, t, h, hr, hl => by
    rw [fsB, Bool.and_eq_true] at h
    obtain ⟨n, y, hy⟩ := hr a (by simp)
    rw [Nat.eq_of_beq_eq_true h.1, hsz _ _ h.2] at hy
    exact hg _ _ n _ y h.2 (by rw [List.length_take, List.length_drop]; omega) hy
  | a :: b :: l, o, t, h, hr, hl => by
    obtain ⟨x, y, rfl, h'⟩ := prB_ok h
    clear h
    have h := h'
    clear h'
    rw [Bool.and_eq_true, Bool.and_eq_true] at h
    obtain ⟨n, z, hz⟩ := hr a (by simp)
    rw [Nat.eq_of_beq_eq_true h.1.1, hsz _ _ h.1.2] at hz
    have hs : (Ty.pair x y).size = x.size + y.size := rfl
    rw [hs] at hl
    have h1 := hg _ _ n _ z h.1.2 (by rw [List.length_take, List.length_drop]; omega) hz
    have h2 := fs_reads hg hsz (b :: l) (o + x.size) y h.2 (fun a ha => hr a (List.mem_cons_of_mem _ ha)) (by omega)
    rw [hs, List.take_add, List.drop_drop]
    exact h1.pair h2 (by rw [List.length_take, List.length_drop]; omega)
theorem ar_reads {g : Ty → Bool} {e : TypeId} (hg : ∀ (t : Ty) (n : Nat) (cs : List Value) (x : DataW H × List MemPlace), g t = true → cs.length = t.size → DataW.trod enc P w base spare held n e cs = some x → ReadsT w t cs) (hsz : ∀ t, g t = true → P.cellsOf e = t.size) {cs : List Value} :
    ∀ (k o : Nat) (t : Ty), arB g k t = true → (∀ i, i < k → ∃ n y, DataW.trod enc P w base spare held n e ((cs.drop (o + i * P.cellsOf e)).take (P.cellsOf e)) = some y) → o + t.size ≤ cs.length → ReadsT w t ((cs.drop o).take t.size)
  | 0, o, t, h, _, _ => by
    rw [unB_ok h, show Ty.unit.size = 0 from rfl, List.take_zero]; exact .unit
  | 1, o, t, h, hr, hl => by
    rw [arB] at h
    obtain ⟨n, y, hy⟩ := hr 0 (by omega)
    rw [hsz _ h, Nat.zero_mul, Nat.add_zero] at hy
    exact hg _ n _ y h (by rw [List.length_take, List.length_drop]; omega) hy
  | k + 2, o, t, h, hr, hl => by
    obtain ⟨x, y, rfl, h'⟩ := prB_ok h
    clear h
    have h := h'
    clear h'
    rw [Bool.and_eq_true] at h
    obtain ⟨n, z, hz⟩ := hr 0 (by omega)
    rw [hsz _ h.1, Nat.zero_mul, Nat.add_zero] at hz
    have hs : (Ty.pair x y).size = x.size + y.size := rfl
    rw [hs] at hl
    have h1 := hg _ n _ z h.1 (by rw [List.length_take, List.length_drop]; omega) hz
    have h2 := ar_reads hg hsz (k + 1) (o + x.size) y h.2 (fun i hi => by
      obtain ⟨n, z, hz⟩ := hr (i + 1) (by omega)
      refine ⟨n, z, ?_⟩
      rw [← hz, ← hsz _ h.1, Nat.add_mul, Nat.one_mul, Nat.add_assoc, Nat.add_comm (P.cellsOf e)]) (by omega)
    rw [hs, List.take_add, List.drop_drop]
    exact h1.pair h2 (by rw [List.length_take, List.length_drop]; omega)
theorem ro_len {own : Nat → Prop} {bs sz : Nat} {fr : Bool} {rows : List (List AV)} {v : Value} (h : RelD w own bs (.ro fr sz rows) v) : rows.length ≤ maxLen := by
  cases h with
  | ro fr sz rows A c f hc hm h0 h1 h2 => omega
theorem one_cell {cs : List Value} (h : cs.length = 1) : ∃ u, cs = [u] := by match cs, h with | [u], _ => exact ⟨u, rfl⟩
theorem reads_ty : ∀ (f : Nat) (tid : TypeId) (t : Ty) (n : Nat) (cs : List Value) (x : DataW H × List MemPlace), tyB P f tid t = true → cs.length = t.size → DataW.trod enc P w base spare held n tid cs = some x → ReadsT w t cs
  | 0, _, _, _, _, _, h, _, _ => by cases h
  | f + 1, tid, t, n, cs, x, h, hl, hx => by
    have hsize := tyB_size h
    rw [tyB, Bool.and_eq_true] at h
    obtain ⟨_, h⟩ := h
    split at h
    · rename_i k hu
      unfold intB at h
      split at h
      · have hk := of_decide_eq_true h
        subst hk
        obtain ⟨m, rfl, _, hwf⟩ := DataW.trod_int hu hx
        refine ⟨m, hwf, rfl, fun j a u ha hu => ?_⟩
        match j with
        | 0 => simp [Ty.cells] at ha hu; subst ha; subst hu; exact .int _ _
        | j + 1 => simp [Ty.cells] at ha
      · cases h
    · rename_i hu
      unfold boolB at h
      split at h
      · obtain ⟨m, rfl, _⟩ := DataW.trod_bool hu hx
        refine ⟨m, trivial, rfl, fun j a u ha hu => ?_⟩
        match j with
        | 0 => simp [Ty.cells] at ha hu; subst ha; subst hu; exact .bool _
        | j + 1 => simp [Ty.cells] at ha
      · cases h
    · rename_i hu
      unfold strB at h
      split at h
      · obtain ⟨s, rfl, _, hs⟩ := DataW.trod_string hu hx
        refine ⟨s.data.toList, by rw [Ty.wf, Array.length_toList]; exact hs, rfl, fun j a u ha hu => ?_⟩
        match j with
        | 0 => simp [Ty.cells] at ha hu; subst ha; subst hu; exact .str _
        | j + 1 => simp [Ty.cells] at ha
      · cases h
    · rename_i e hu
      unfold sliceB at h
      split at h
      · rename_i _ t' _
        rw [Bool.and_eq_true] at h
        have hpos : 0 < t'.size := Nat.le_of_ble_eq_true h.2
        obtain ⟨v, rfl⟩ := one_cell hl
        obtain ⟨xs, hw, hr⟩ := ro_slice (t'.cells false) t'.wf hu (tyB_size h.1) hpos (fun m cs x hl hx => reads_ty f e t' m cs x h.1 hl hx) hx
        refine ⟨xs, ⟨?_, hw⟩, rfl, fun j a u ha hu => ?_⟩
        · have := ro_len hr
          rw [List.length_map] at this
          exact this
        match j with
        | 0 => simp [Ty.cells] at ha hu; subst ha; subst hu; exact hr
        | j + 1 => simp [Ty.cells] at ha
      · cases h
    · rename_i fs hu
      obtain ⟨xs, m, _, _, _, hxl, hat⟩ := DataW.trod_struct hu hx
      have := fs_reads (cs := cs) (fun tid t n cs x h1 h2 h3 => reads_ty f tid t n cs x h1 h2 h3) (fun tid t h => tyB_size h) fs 0 t h (fun a ha => by
        obtain ⟨i, hi⟩ := List.mem_iff_getElem?.1 ha
        have hi' : i < xs.length := by rw [hxl]; exact (List.getElem?_eq_some_iff.1 hi).1
        exact ⟨m, _, by rw [hat i a (by simpa using hi), List.getElem?_eq_getElem hi']⟩) (by omega)
      rw [List.drop_zero, List.take_of_length_le (by omega)] at this
      exact this
    · rename_i k e hu
      obtain ⟨xs, m, _, _, _, hxl, hat⟩ := DataW.trod_array hu hx
      have := ar_reads (cs := cs) (e := e) (fun t n cs x h1 h2 h3 => reads_ty f e t n cs x h1 h2 h3) (fun t h => tyB_size h) k 0 t h (fun i hi => by
        have hi' : i < xs.length := by rw [hxl]; exact hi
        exact ⟨m, _, by rw [Nat.zero_add, hat i hi, List.getElem?_eq_getElem hi']⟩) (by omega)
      rw [List.drop_zero, List.take_of_length_le (by omega)] at this
      exact this
    · cases h
/-! ### Arguments -/
def aggP (P : Program) (tid : TypeId) : Bool := match P.underlying tid with
  | some (.struct _) => true
  | some (.array _ _) => true
  | _ => false
def cellP (P : Program) (tid : TypeId) : Bool := match P.underlying tid with
  | some (.int _) => true
  | some .bool => true
  | some .string => true
  | some (.slice _) => true
  | _ => false
def argB (P : Program) (tid : TypeId) (a : Ty) : Bool := match a with
  | .agg t => tyB P 9 tid t && aggP P tid
  | .int k => tyB P 9 tid (.int k) && cellP P tid
  | .bool => tyB P 9 tid .bool && cellP P tid
  | .str => tyB P 9 tid .str && cellP P tid
  | .list t => tyB P 9 tid (.list t) && cellP P tid
  | _ => false
def argsB (P : Program) : List TypeId → Ty → Bool
  | [], t => unB t
  | tid :: l, t => prB t fun a b => argB P tid a && argsB P l b
theorem okWide_arr {n b : Nat} {r : Go.Reach} {t e : TypeId} {v : Value} (ht : P.underlying t = some (.array n e)) (h : Value.okWide P w r b t v) : ∃ cs, v = .agg cs ∧ cs.size = P.cellsOf t := by
  simp only [Value.okWide, ht] at h
  obtain ⟨cs, h1, h2, _⟩ := h
  exact ⟨cs, h1, h2⟩
theorem arg_agg {tid : TypeId} {t : Ty} {v : Value} {d : DataW H} {p : List MemPlace} {b : Nat} (h : tyB P 9 tid t = true) (ha : aggP P tid = true) (hv : Value.okWide P w .any b tid v) (hd : DataW.Trod enc P w base spare held tid v d p) : ∃ x : t.den, t.wf x ∧ RelV w (Gh.none w.heap.size) (.agg (t.cells false x)) v := by
  obtain ⟨cs, rfl, hs⟩ : ∃ cs, v = .agg cs ∧ cs.size = P.cellsOf tid := by
    unfold aggP at ha
    split at ha
    · rename_i h1; exact okWide_struct h1 hv
    · rename_i h1; exact okWide_arr h1 hv
    · cases ha
  obtain ⟨n, hd⟩ := hd
  have hl : cs.toList.length = t.size := by rw [← tyB_size h, ← hs]; simp
  obtain ⟨x, x1, x2, x3⟩ := reads_ty 9 tid t n cs.toList _ h hl hd
  exact ⟨x, x1, .agg _ _ (by rw [x2, ← hl]; simp) fun i a u ha hu => .dat (x3 i a u ha (by simpa using hu))⟩
theorem arg_cell {tid : TypeId} {t : Ty} {v : Value} {d : DataW H} {p : List MemPlace} {b : Nat} (h : tyB P 9 tid t = true) (hc : cellP P tid = true) (h1 : t.size = 1) (hv : Value.okWide P w .any b tid v) (hd : DataW.Trod enc P w base spare held tid v d p) : ∃ x : t.den, t.wf x ∧ ∀ a, (t.cells false x)[0]? = some a → RelV w (Gh.none w.heap.size) a v := by
  have hd : ∃ n, DataW.trod enc P w base spare held n tid [v] = some (d, p) := by
    unfold cellP at hc
    split at hc
    · rename_i hu
      obtain ⟨m, rfl⟩ := okWide_int hu hv
      exact hd
    · rename_i hu
      obtain ⟨m, rfl⟩ := okWide_bool hu hv
      exact hd
    · rename_i hu
      obtain ⟨m, rfl⟩ := okWide_string hu hv
      exact hd
    · rename_i hu
      obtain ⟨a, n, c, rfl⟩ := okWide_slice hu hv
      exact hd
    · cases hc
  obtain ⟨n, hd⟩ := hd
  obtain ⟨x, x1, x2, x3⟩ := reads_ty 9 tid t n [v] _ h (by rw [h1]; rfl) hd
  exact ⟨x, x1, fun a ha => .dat (x3 0 a v ha rfl)⟩
theorem arg_ty {tid : TypeId} {v : Value} {d : DataW H} {p : List MemPlace} {b : Nat} : ∀ {a : Ty}, argB P tid a = true → Value.okWide P w .any b tid v → DataW.Trod enc P w base spare held tid v d p → ∃ x : a.den, a.wf x ∧ RelV w (Gh.none w.heap.size) (a.av false x) v
  | .agg t, h, hv, hd => by
    rw [argB, Bool.and_eq_true] at h
    obtain ⟨x, h1, h2⟩ := arg_agg h.1 h.2 hv hd
    exact ⟨x, h1, by rw [Ty.av]; exact h2⟩
  | .int k, h, hv, hd => by
    rw [argB, Bool.and_eq_true] at h
    obtain ⟨x, h1, h2⟩ := arg_cell h.1 h.2 rfl hv hd
    exact ⟨x, h1, h2 _ rfl⟩
  | .bool, h, hv, hd => by
    rw [argB, Bool.and_eq_true] at h
    obtain ⟨x, h1, h2⟩ := arg_cell h.1 h.2 rfl hv hd
    exact ⟨x, h1, h2 _ rfl⟩
  | .str, h, hv, hd => by
    rw [argB, Bool.and_eq_true] at h
    obtain ⟨x, h1, h2⟩ := arg_cell h.1 h.2 rfl hv hd
    exact ⟨x, h1, h2 _ rfl⟩
  | .list t, h, hv, hd => by
    rw [argB, Bool.and_eq_true] at h
    obtain ⟨x, h1, h2⟩ := arg_cell h.1 h.2 rfl hv hd
    exact ⟨x, h1, h2 _ rfl⟩
  | .unit, h, _, _ => by cases h
  | .pair _ _, h, _, _ => by cases h
  | .ptr _, h, _, _ => by cases h
/-- values one by one -/
inductive RelsV (w : World) (G : Gh) : List AV → List Value → Prop
  | nil : RelsV w G [] []
  | cons {a : AV} {v : Value} {l : List AV} {m : List Value} (h : RelV w G a v) (k : RelsV w G l m) : RelsV w G (a :: l) (v :: m)
theorem RelsV.args {G : Gh} {l : List AV} {m : List Value} (h : RelsV w G l m) : ArgsV w G l m.toArray := by
  induction h with
  | nil => exact ⟨rfl, fun i a v ha hv => by simp at ha⟩
  | cons h k ih =>
    refine ⟨by have := ih.size; simp at this ⊢; exact this, fun i a v ha hv => ?_⟩
    cases i with
    | zero => simp at ha hv; subst ha; subst hv; exact h
    | succ i => exact ih.rel i a v (by simpa using ha) (by simpa using hv)
theorem args_ty {b : Nat} : ∀ {ts : List TypeId} {σ : Ty} {vs : List Value} {ds : List (DataW H)} {ps : List MemPlace}, argsB P ts σ = true → (∀ (j : Nat) t v, ts[j]? = some t → vs[j]? = some v → Value.okWide P w .any b t v) → DataW.TrodAll enc P w base spare held ts vs ds ps → ∃ x : σ.den, σ.wf x ∧ RelsV w (Gh.none w.heap.size) (σ.avs false x) vs
  | [], σ, vs, ds, ps, h, _, hA => by
    obtain ⟨rfl, rfl, rfl⟩ := trodAll_nil hA
    have e := unB_ok h
    subst e
    exact ⟨(), trivial, .nil⟩
  | tid :: l, σ, vs, ds, ps, h, hv, hA => by
    obtain ⟨v, vs, d, ds, p, q, rfl, rfl, rfl, h0, r0⟩ := trodAll_cons hA
    obtain ⟨a, c, rfl, h'⟩ := prB_ok h
    clear h
    have h := h'
    clear h'
    rw [Bool.and_eq_true] at h
    obtain ⟨x, x1, x2⟩ := arg_ty h.1 (hv 0 tid v rfl rfl) h0
    obtain ⟨y, y1, y2⟩ := args_ty h.2 (fun j t u ht hu => hv (j + 1) t u (by simpa using ht) (by simpa using hu)) r0
    exact ⟨(x, y), ⟨x1, y1⟩, by rw [Ty.avs]; exact .cons x2 y2⟩
end
/-- a law whose residual program answers true at all data -/
theorem law_any {H : Type} {enc : TypeId × Value → H} {F : Nat} {ts : List TypeId} {σ : Ty} {f : Nat → σ.den → Option (Bool × Unit)} {nm : Nat} (hc : CtrOk Try.prog F ⟨σ, .pair .bool .unit, f, nm⟩) (hB : argsB Try.prog ts σ = true) (hp : ∀ x : σ.den, σ.wf x → f FU x = some (true, ())) {W : World} {b : Nat} {args : List Value} {ds : List (DataW H)} {ps : List MemPlace}
    (hv : ∀ (j : Nat) t v, ts[j]? = some t → args[j]? = some v → Value.okWide Try.prog W .any b t v) (hA : DataW.TrodAll enc Try.prog W 0 (fun _ => true) true ts args ds ps) :
    Calls Try.prog F args.toArray W fun e W' => e = .returned (.bool true) ∧ Below W.heap.size W W' := by
  obtain ⟨x, hx, hr⟩ := args_ty hB hv hA
  exact AF.yes (hc FU x (true, ()) (hp x hx)) hr.args
theorem wf_u8' {x : Int} (h : (Lit.int .u8 x).wf = true) : 0 ≤ x ∧ x ≤ 255 := by
  simpa [Lit.wf, IntKind.min, IntKind.max, IntKind.signed, IntKind.bits] using h
end Go.Proofs.Ytedjnjgnadbkaaa
/- PressPresets: for every input this law returns true and leaves its arguments as they were. -/
namespace Go.Proofs.Ytedjnjgnadbkaaa
open Go.ChangeShapes Go.WideShapes Go.ChangeAt Go.RowKit

set_option maxRecDepth 100000 in
theorem pressPresets_lifted (os : Os) (started : os.Started) (H : Type) (enc : TypeId × Value → H) :
    ReturnsInHanded {} Try.checked os 13 .any (Rows.pressPresetsSpec.pre6 enc Try.prog Try.f13 Rows.pressPresetsRow.domain false) (Rows.pressPresetsSpec.post enc Try.prog Try.f13 false true false false) := by
  refine law_lifted started (by kernel_rfl) Try.func13
    (ChangeSpec.witness6 (enc := enc) (C := Try.checked) false ⟨#[], #[.slice none 0 0, .int .i64 0, .slice none 0 0], []⟩ 8 (by kernel_rfl) (by kernel_rfl) (by kernel_rfl) (by kernel_rfl)) rfl rfl (by kernel_rfl)
    (fun ds h => by rw [Try.params13] at h; match ds, h with | [_, _, _], _ => rfl) ?_
  intro W base args ds ps hval hA hsz hlt
  rw [Try.params13] at hA hval
  exact law_any law_PressPresets_ok (by kernel_rfl) (fun x hx => pressPresets_s (Nat.le_of_eq FU_val.symm) x (fun b hb d hd => wf_u8' ((hx.1.2 b hb).2.2.2 d hd)) (Nat.le_trans hx.2.2.1.1 (by decide)) (Nat.le_trans hx.1.1 (by decide))) (fun j t v ht hv => hval j t v (by simpa using ht) hv) hA

theorem pressPresets_holds : Rows.PressPresetsSaid :=
  OpenClaim.holds_of_wide 13 Try.f13 rfl rfl rfl rfl rfl rfl rfl ⟨rfl, rfl, rfl, rfl, rfl⟩ rfl rfl rfl rfl rfl (by kernel_rfl) Try.func13 (by kernel_rfl)
    (of_decide_eq_true (by kernel_rfl)) (by unfold Func.isWrapper; first | (rw [if_pos (by decide +kernel)]; kernel_rfl) | (rw [if_neg (by decide +kernel)]; exact ⟨rfl, rfl⟩))
    (fun os started H enc _ => pressPresets_lifted os started H enc)
end Go.Proofs.Ytedjnjgnadbkaaa
