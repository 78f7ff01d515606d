/- Bits of bytes, bitmaps as lists of bytes. No program in sight. -/
import Derived.Test.YtnbmldnahacnlaaPlain
import Derived.WalkKit
import Derived.WalkSpells
namespace Go.Proofs.Ytnbmldnahacnlaa
open Go Go.RowKit

/-- the pixel j of a byte, from the left -/
def bitAt (v : Int) (j : Nat) : Bool := v / 2 ^ (7 - j) % 2 == 1
theorem fin_byte {p : Int → Prop} (h : ∀ v : Fin 256, p (v.val : Int)) {v : Int} (h0 : 0 ≤ v) (h1 : v ≤ 255) : p v := by
  have := h ⟨v.toNat, by omega⟩
  rwa [show ((⟨v.toNat, by omega⟩ : Fin 256).val : Int) = v from Int.toNat_of_nonneg h0] at this
theorem shl_bit {v : Int} (h0 : 0 ≤ v) (h1 : v ≤ 255) {k : Nat} (hk : k < 8) : bits .and .u8 (IntKind.wrap .u8 (v * 2 ^ k)) 128 = (if bitAt v k = true then 128 else 0) :=
  fin_byte (p := fun v => ∀ k : Fin 8, bits .and .u8 (IntKind.wrap .u8 (v * 2 ^ k.val)) 128 = (if bitAt v k.val = true then 128 else 0)) (by decide +kernel) h0 h1 ⟨k, hk⟩
theorem and_mask {v : Int} (h0 : 0 ≤ v) (h1 : v ≤ 255) {k : Nat} (hk : k < 8) : bits .and .u8 v (128 / 2 ^ k) = (if bitAt v k = true then 128 / 2 ^ k else 0) :=
  fin_byte (p := fun v => ∀ k : Fin 8, bits .and .u8 v (128 / 2 ^ k.val) = (if bitAt v k.val = true then 128 / 2 ^ k.val else 0)) (by decide +kernel) h0 h1 ⟨k, hk⟩
theorem mask_ne {k : Nat} (hk : k < 8) : (128 : Int) / 2 ^ k ≠ 0 := (show ∀ k : Fin 8, (128 : Int) / 2 ^ k.val ≠ 0 by decide) ⟨k, hk⟩
/-- the lowest u bits of a byte -/
def lowOk (v : Int) (u : Nat) : Bool := v % 2 ^ u == 0
theorem and_low {v : Int} (h0 : 0 ≤ v) (h1 : v ≤ 255) {u : Nat} (hu : u < 8) : bits .and .u8 v (2 ^ u - 1) = v % 2 ^ u :=
  fin_byte (p := fun v => ∀ u : Fin 8, bits .and .u8 v (2 ^ u.val - 1) = v % 2 ^ u.val) (by decide +kernel) h0 h1 ⟨u, hu⟩
theorem low_bits {v : Int} (h0 : 0 ≤ v) (h1 : v ≤ 255) {u : Nat} (hu : u < 8) : lowOk v u = true ↔ ∀ k, k < 8 → 8 - u ≤ k → bitAt v k = false := by
  have h := fin_byte (p := fun v => ∀ u : Fin 8, lowOk v u.val = true ↔ ∀ k : Fin 8, 8 - u.val ≤ k.val → bitAt v k.val = false) (by decide +kernel) h0 h1 ⟨u, hu⟩
  exact h.trans ⟨fun g k hk hu => g ⟨k, hk⟩ hu, fun g k hu => g k.val k.isLt hu⟩
theorem wrap_pow {u : Nat} (hu : u < 8) : IntKind.wrap .u8 (IntKind.wrap .u8 (1 * 2 ^ u) - 1) = 2 ^ u - 1 := (show ∀ u : Fin 8, IntKind.wrap .u8 (IntKind.wrap .u8 (1 * 2 ^ u.val) - 1) = 2 ^ u.val - 1 by decide +kernel) ⟨u, hu⟩
/-- bytes -/
def Bytes (ds : List Int) : Prop := ∀ d ∈ ds, 0 ≤ d ∧ d ≤ 255
/-- a row's bytes -/
def strideN (w : Nat) : Nat := (w + 7) / 8
def tailOk (w h : Nat) (ds : List Int) : Bool := (List.range h).all fun y => lowOk (ds.getD (y * strideN w + strideN w - 1) 0) (8 * strideN w - w)
def bitsE (w h : Int) (ds : List Int) : Int := if 1 ≤ w ∧ w ≤ 1024 ∧ 1 ≤ h ∧ h ≤ 1024 then (if ds.length = strideN w.toNat * h.toNat then (if tailOk w.toNat h.toNat ds = true then 0 else 4) else 4) else 3
/-- no pixel beyond a row's end, byte by byte -/
def pixOk (w n i : Nat) (d : Int) (k : Nat) : Bool := !(decide (w ≤ i % n * 8 + k) && bitAt d k)
def byteOk (w n i : Nat) (d : Int) : Bool := (List.range 8).all (pixOk w n i d)
def rowsOk (w n : Nat) (ds : List Int) (m : Nat) : Bool := (List.range m).all fun i => byteOk w n i (ds.getD i 0)
theorem rows_tail {w h : Nat} {ds : List Int} (hb : Bytes ds) (hw : 1 ≤ w) (hl : ds.length = strideN w * h) : rowsOk w (strideN w) ds ds.length = tailOk w h ds := by
  have hn : 1 ≤ strideN w ∧ w ≤ 8 * strideN w ∧ 8 * strideN w ≤ w + 7 := by unfold strideN; omega
  unfold tailOk
  generalize strideN w = n at *
  obtain ⟨n0, n2, n3⟩ := hn
  have hg : ∀ i, i < ds.length → 0 ≤ ds.getD i 0 ∧ ds.getD i 0 ≤ 255 := fun i hi => by
    rw [List.getD_eq_getElem?_getD, List.getElem?_eq_getElem hi]
    exact hb _ (List.getElem_mem hi)
  rw [Bool.eq_iff_iff]
  constructor
  · intro ha
    refine List.all_eq_true.2 fun y hy => ?_
    have hy := List.mem_range.1 hy
    have h1 : (y + 1) * n ≤ h * n := Nat.mul_le_mul_right n hy
    rw [Nat.add_mul, Nat.one_mul, Nat.mul_comm h n] at h1
    have hi : y * n + n - 1 < ds.length := by omega
    have hmod : (y * n + n - 1) % n = n - 1 := by
      rw [show y * n + n - 1 = (n - 1) + n * y by rw [Nat.mul_comm y n]; omega, Nat.add_mul_mod_self_left, Nat.mod_eq_of_lt (by omega)]
    have hrow := List.all_eq_true.1 ha (y * n + n - 1) (List.mem_range.2 hi)
    obtain ⟨g0, g1⟩ := hg _ hi
    refine (low_bits g0 g1 (u := 8 * n - w) (by omega)).2 fun k hk hu => ?_
    have := List.all_eq_true.1 hrow k (List.mem_range.2 hk)
    unfold pixOk at this
    rw [hmod, show decide (w ≤ (n - 1) * 8 + k) = true by simp; omega] at this
    simpa using this
  · intro ha
    refine List.all_eq_true.2 fun i hi => List.all_eq_true.2 fun k hk => ?_
    have hi := List.mem_range.1 hi
    have hk := List.mem_range.1 hk
    unfold pixOk
    by_cases hw : w ≤ i % n * 8 + k
    · have hm : i % n < n := Nat.mod_lt _ (by omega)
      have hmod : i % n = n - 1 := by omega
      have hdm := Nat.div_add_mod i n
      have hy : i / n < h := by
        apply Nat.div_lt_of_lt_mul
        omega
      have hrow := List.all_eq_true.1 ha (i / n) (List.mem_range.2 hy)
      have he : i / n * n + n - 1 = i := by rw [Nat.mul_comm]; omega
      rw [he] at hrow
      obtain ⟨g0, g1⟩ := hg _ hi
      have := (low_bits g0 g1 (u := 8 * n - w) (by omega)).1 hrow k hk (by omega)
      rw [this]
      simp
    · rw [show decide (w ≤ i % n * 8 + k) = false by simp; omega]
      rfl
end Go.Proofs.Ytnbmldnahacnlaa
