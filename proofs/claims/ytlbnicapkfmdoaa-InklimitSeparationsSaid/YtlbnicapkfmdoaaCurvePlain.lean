/- Plain facts on curves: what a valid curve is, the value of a curve at a tone, the segment that a binary search finds. -/
import Derived.Test.YtlbnicapkfmdoaaCurve2
namespace Go.Proofs.Ytlbnicapkfmdoaa
open Go.RowKit

/-- a valid curve -/
structure CurveOk (ps : List (Int × Int)) : Prop where
  two : 2 ≤ ps.length
  most : ps.length ≤ 33
  bd : ∀ (i : Nat) (x y : Int), ps[i]? = some (x, y) → 0 ≤ x ∧ x ≤ 65280 ∧ 0 ≤ y ∧ y ≤ 65280
  step : ∀ (i : Nat) (x y u v : Int), ps[i]? = some (x, y) → ps[i + 1]? = some (u, v) → x < u ∧ y ≤ v
  first : ∀ x y, ps[0]? = some (x, y) → x = 0
  last : ∀ x y, ps[ps.length - 1]? = some (x, y) → x = 65280

theorem scan_ok {px py : Int} {l : List (Int × Int)} (h : curveScan px py l = 0) : (∀ (i : Nat) (x y : Int), l[i]? = some (x, y) → 0 ≤ x ∧ x ≤ 65280 ∧ 0 ≤ y ∧ y ≤ 65280) ∧
    (∀ x y, l[0]? = some (x, y) → px < x ∧ py ≤ y) ∧ ∀ (i : Nat) (x y u v : Int), l[i]? = some (x, y) → l[i + 1]? = some (u, v) → x < u ∧ y ≤ v := by
  induction l generalizing px py with
  | nil => simp
  | cons p r ih =>
    obtain ⟨a, b⟩ := p
    by_cases h1 : a < 0 ∨ 65280 < a ∨ b < 0 ∨ 65280 < b
    · rw [scan_out h1] at h; omega
    by_cases h2 : a ≤ px ∨ b < py
    · rw [scan_order h1 h2] at h; omega
    rw [scan_on h1 h2] at h
    obtain ⟨i1, i2, i3⟩ := ih h
    refine ⟨?_, ?_, ?_⟩
    · intro i x y hx
      cases i with
      | zero => simp at hx; omega
      | succ i => exact i1 i x y (by simpa using hx)
    · intro x y hx
      simp at hx; omega
    · intro i x y u v hx hu
      cases i with
      | zero =>
        simp only [List.getElem?_cons_zero, Option.some.injEq, Prod.mk.injEq] at hx
        have := i2 u v (by simpa using hu)
        omega
      | succ i => exact i3 i x y u v (by simpa using hx) (by simpa using hu)

theorem curve_ok {ps : List (Int × Int)} (h : curveE ps = 0) : CurveOk ps := by
  unfold curveE at h
  by_cases h0 : 33 < ps.length
  · rw [if_pos h0] at h; omega
  rw [if_neg h0] at h
  by_cases h1 : ps.length < 2
  · rw [if_pos h1] at h; omega
  rw [if_neg h1] at h
  by_cases h2 : curveScan (-1) 0 ps ≠ 0
  · rw [if_pos h2] at h; exact absurd h h2
  rw [if_neg h2] at h
  have h2 : curveScan (-1) 0 ps = 0 := by omega
  obtain ⟨a, _, c⟩ := scan_ok h2
  by_cases h3 : (ps.getD 0 (0, 0)).1 ≠ 0 ∨ (ps.getD (ps.length - 1) (0, 0)).1 ≠ 65280
  · rw [if_pos h3] at h; omega
  refine ⟨by omega, by omega, a, c, ?_, ?_⟩
  · intro x y hx
    rw [getD_at hx] at h3
    omega
  · intro x y hx
    rw [getD_at hx] at h3
    omega

theorem CurveOk.le {ps : List (Int × Int)} (h : CurveOk ps) {i j : Nat} (hij : i ≤ j) {x y u v : Int} (hi : ps[i]? = some (x, y)) (hj : ps[j]? = some (u, v)) : x ≤ u ∧ y ≤ v ∧ (i < j → x < u) := by
  induction j generalizing u v with
  | zero =>
    obtain rfl : i = 0 := by omega
    rw [hi] at hj; simp at hj; omega
  | succ j ih =>
    rcases Nat.lt_or_ge i (j + 1) with hlt | hge
    · have hjl : j < ps.length := by have := (List.getElem?_eq_some_iff.1 hj).1; omega
      obtain ⟨⟨a, b⟩, hab⟩ : ∃ p, ps[j]? = some p := ⟨_, List.getElem?_eq_getElem hjl⟩
      have h1 := ih (by omega) hab
      have h2 := h.step j a b u v hab hj
      omega
    · obtain rfl : i = j + 1 := by omega
      rw [hi] at hj; simp at hj; omega

/-- the value on the way through the segments -/
def curveAtL (x : Int) : Int × Int → List (Int × Int) → Int
  | _, [] => -1
  | p, q :: r => if x ≤ q.1 then rnd (p.2 * (q.1 - x) + q.2 * (x - p.1)) (q.1 - p.1) else curveAtL x q r
/-- the value of a curve at x -/
def curveAt (ps : List (Int × Int)) (x : Int) : Int := curveAtL x (ps.getD 0 (0, 0)) (ps.drop 1)

/-- the value on the segment from (a, b) to (c, d) -/
def segV (x a b c d : Int) : Int := rnd (b * (c - x) + d * (x - a)) (c - a)
theorem rnd_add (a b : Int) {d : Int} (hd : 0 < d) : rnd (a * d + b) d = a + rnd b d := by
  unfold rnd
  rw [show 2 * (a * d + b) + d = (2 * b + d) + (2 * d) * a from by rw [Int.mul_add, Int.mul_assoc, Int.mul_comm d a]; omega]
  rw [Int.add_mul_ediv_left _ _ (by omega), Int.add_comm]
theorem rnd_zero {d : Int} (hd : 0 < d) : rnd 0 d = 0 := by
  unfold rnd
  exact Int.ediv_eq_zero_of_lt (by omega) (by omega)
theorem segV_eq {x a b c d : Int} (h : a < c) : segV x a b c d = b + rnd ((d - b) * (x - a)) (c - a) := by
  unfold segV
  rw [← rnd_add b _ (by omega)]
  congr 1
  simp only [Int.mul_sub, Int.sub_mul]
  omega
theorem segV_end {a b c d : Int} (h : a < c) : segV c a b c d = d := by
  unfold segV
  rw [Int.sub_self, Int.mul_zero, Int.zero_add]
  have := rnd_add d 0 (d := c - a) (by omega)
  rw [Int.add_zero, rnd_zero (by omega)] at this
  omega
theorem segV_start {a b c d : Int} (h : a < c) : segV a a b c d = b := by
  rw [segV_eq h, Int.sub_self, Int.mul_zero, rnd_zero (by omega)]; omega

theorem curveAtL_seg {x : Int} {p : Int × Int} {l : List (Int × Int)} {i : Nat} {a b c d : Int} (hlo : ∀ (j : Nat) (u v : Int), j < i → l[j]? = some (u, v) → u < x) (hi : (p :: l)[i]? = some (a, b)) (hi' : l[i]? = some (c, d)) (hx : x ≤ c) :
    curveAtL x p l = segV x a b c d := by
  induction l generalizing p i with
  | nil => simp at hi'
  | cons q r ih =>
    cases i with
    | zero =>
      simp only [List.getElem?_cons_zero, Option.some.injEq] at hi hi'
      subst hi; subst hi'
      rw [curveAtL, if_pos hx]; rfl
    | succ i =>
      have := hlo 0 q.1 q.2 (by omega) rfl
      rw [curveAtL, if_neg (by omega)]
      exact ih (fun j u v hj hl => hlo (j + 1) u v (Nat.succ_lt_succ hj) (by simpa using hl)) (by simpa using hi) (by simpa using hi')

/-- the value by the segment i: x lies behind its start (or it is the first) and not behind its end -/
theorem curveAt_seg {ps : List (Int × Int)} (h : CurveOk ps) {x : Int} {i : Nat} {a b c d : Int} (hi : ps[i]? = some (a, b)) (hi' : ps[i + 1]? = some (c, d)) (h0 : i = 0 ∨ a < x) (hx : x ≤ c) : curveAt ps x = segV x a b c d := by
  cases ps with
  | nil => simp at hi
  | cons p l =>
    refine curveAtL_seg (i := i) ?_ (by simpa using hi) (by simpa using hi') hx
    intro j u v hj hl
    have := h.le (i := j + 1) (j := i) (by omega) (by simpa using hl) hi
    omega
/-- the value by the segment that a search finds: x does not lie ahead of its start, and lies ahead of its end or it is the last -/
theorem curveAt_found {ps : List (Int × Int)} (h : CurveOk ps) {x : Int} {i : Nat} {a b c d : Int} (hi : ps[i]? = some (a, b)) (hi' : ps[i + 1]? = some (c, d)) (h0 : a ≤ x) (hx : x < c ∨ i + 1 = ps.length - 1) (hx' : x ≤ 65280) :
    curveAt ps x = segV x a b c d := by
  have hxc : x ≤ c := by
    rcases hx with hx | hx
    · omega
    · have := h.last c d (by rw [← hx]; exact hi'); omega
  rcases Nat.eq_zero_or_pos i with rfl | hp
  · exact curveAt_seg h hi hi' (.inl rfl) hxc
  rcases Int.lt_or_eq_of_le h0 with hlt | rfl
  · exact curveAt_seg h hi hi' (.inr hlt) hxc
  · have hil : i - 1 < ps.length := by have := (List.getElem?_eq_some_iff.1 hi).1; omega
    obtain ⟨⟨e, f⟩, hef⟩ : ∃ p, ps[i - 1]? = some p := ⟨_, List.getElem?_eq_getElem hil⟩
    have hi2 : ps[i - 1 + 1]? = some (a, b) := by rw [show i - 1 + 1 = i from by omega]; exact hi
    have s1 := h.step (i - 1) e f a b hef hi2
    have s2 := h.step i a b c d hi hi'
    rw [curveAt_seg h hef hi2 (.inr s1.1) (Int.le_refl _), segV_end s1.1, segV_start s2.1]
theorem segV_bd {x a b c d : Int} (h1 : a < c) (h2 : a ≤ x) (h3 : x ≤ c) (h4 : 0 ≤ b) (h5 : b ≤ d) (h6 : d ≤ 65280) : 0 ≤ segV x a b c d ∧ segV x a b c d ≤ 65280 := by
  rw [segV_eq h1]
  have e1 : 0 ≤ (d - b) * (x - a) := Int.mul_nonneg (by omega) (by omega)
  have e2 : (d - b) * (x - a) ≤ (d - b) * (c - a) := Int.mul_le_mul_of_nonneg_left (by omega) (by omega)
  have e3 : 0 ≤ rnd ((d - b) * (x - a)) (c - a) := by unfold rnd; exact Int.ediv_nonneg (by omega) (by omega)
  have e4 : rnd ((d - b) * (x - a)) (c - a) ≤ d - b := by
    have e5 := rnd_add (d - b) 0 (d := c - a) (by omega)
    rw [Int.add_zero, rnd_zero (by omega), Int.add_zero] at e5
    have e6 : rnd ((d - b) * (x - a)) (c - a) ≤ rnd ((d - b) * (c - a)) (c - a) := by
      unfold rnd
      exact Int.ediv_le_ediv (by omega) (by omega)
    omega
  omega
theorem curveAt_first {ps : List (Int × Int)} (h : CurveOk ps) {x : Int} (h0 : 0 ≤ x) (h1 : x ≤ 65280) : ∃ i a b c d, ps[i]? = some (a, b) ∧ ps[i + 1]? = some (c, d) ∧ a ≤ x ∧ x ≤ c ∧ (i = 0 ∨ a < x) ∧ curveAt ps x = segV x a b c d := by
  have key : ∀ n i, n + i + 1 = ps.length → (∀ a b, ps[i]? = some (a, b) → i = 0 ∧ a ≤ x ∨ a < x) → i + 1 < ps.length ∨ i = 0 →
      ∃ i a b c d, ps[i]? = some (a, b) ∧ ps[i + 1]? = some (c, d) ∧ a ≤ x ∧ x ≤ c ∧ (i = 0 ∨ a < x) ∧ curveAt ps x = segV x a b c d := by
    intro n
    induction n with
    | zero => intro i hi _ h'; have := h.two; omega
    | succ n ih =>
      intro i hi hlo _
      obtain ⟨⟨a, b⟩, hab⟩ : ∃ p, ps[i]? = some p := ⟨_, List.getElem?_eq_getElem (by omega)⟩
      obtain ⟨⟨c, d⟩, hcd⟩ : ∃ p, ps[i + 1]? = some p := ⟨_, List.getElem?_eq_getElem (by omega)⟩
      have hl := hlo a b hab
      by_cases hx : x ≤ c
      · exact ⟨i, a, b, c, d, hab, hcd, by omega, hx, by omega, curveAt_seg h hab hcd (by omega) hx⟩
      · have hne : i + 1 ≠ ps.length - 1 := by
          intro he
          have := h.last c d (by rw [← he]; exact hcd)
          omega
        refine ih (i + 1) (by omega) ?_ (.inl (by omega))
        intro a' b' h'
        rw [hcd] at h'
        simp at h'
        omega
  have h2 := h.two
  refine key (ps.length - 1) 0 (by omega) ?_ (.inr rfl)
  intro a b hab
  have := h.first a b hab
  omega
theorem curveAt_bd {ps : List (Int × Int)} (h : CurveOk ps) {x : Int} (h0 : 0 ≤ x) (h1 : x ≤ 65280) : 0 ≤ curveAt ps x ∧ curveAt ps x ≤ 65280 := by
  obtain ⟨i, a, b, c, d, hi, hi', g1, g2, _, g4⟩ := curveAt_first h h0 h1
  have b1 := h.bd i a b hi
  have b2 := h.bd (i + 1) c d hi'
  have b3 := h.step i a b c d hi hi'
  rw [g4]
  exact segV_bd b3.1 g1 g2 b1.2.2.1 b3.2 b2.2.2.2
end Go.Proofs.Ytlbnicapkfmdoaa
