/- Plain facts on the least argument of a curve; the walks of the reference's CurveInverse, of curve.least and of Inverse. -/
import Derived.Test.YtlbnicapkfmdoaaCurve5
namespace Go.Proofs.Ytlbnicapkfmdoaa
open Go.RowKit

theorem rnd_mono {a b d : Int} (hd : 0 < d) (h : a ≤ b) : rnd a d ≤ rnd b d := by
  unfold rnd; exact Int.ediv_le_ediv (by omega) (by omega)
theorem segV_mono {x z a b c d : Int} (h : a < c) (hbd : b ≤ d) (hxz : x ≤ z) : segV x a b c d ≤ segV z a b c d := by
  rw [segV_eq h, segV_eq h]
  have := rnd_mono (d := c - a) (by omega) (Int.mul_le_mul_of_nonneg_left (show x - a ≤ z - a by omega) (show 0 ≤ d - b by omega))
  omega
theorem segV_le {x a b c d : Int} (h : a < c) (hbd : b ≤ d) (hx : x ≤ c) : segV x a b c d ≤ d := by
  have := segV_mono h hbd hx
  rwa [segV_end h] at this
theorem segV_ge {x a b c d : Int} (h : a < c) (hbd : b ≤ d) (hx : a ≤ x) : b ≤ segV x a b c d := by
  have := segV_mono h hbd hx
  rwa [segV_start h] at this
theorem curveAt_mono {ps : List (Int × Int)} (h : CurveOk ps) {x z : Int} (h0 : 0 ≤ x) (hxz : x ≤ z) (h1 : z ≤ 65280) : curveAt ps x ≤ curveAt ps z := by
  obtain ⟨i, a, b, c, d, hi, hi', g1, g2, g3, g4⟩ := curveAt_first h h0 (by omega)
  obtain ⟨j, a', b', c', d', hj, hj', k1, k2, k3, k4⟩ := curveAt_first h (show 0 ≤ z by omega) h1
  have s1 := h.step i a b c d hi hi'
  have s2 := h.step j a' b' c' d' hj hj'
  rw [g4, k4]
  rcases Nat.lt_trichotomy i j with hlt | rfl | hgt
  · have := h.le (i := i + 1) (j := j) (by omega) hi' hj
    have e1 := segV_le s1.1 s1.2 g2
    have e2 := segV_ge s2.1 s2.2 k1
    omega
  · rw [hi] at hj; rw [hi'] at hj'
    simp at hj hj'
    obtain ⟨rfl, rfl⟩ := hj
    obtain ⟨rfl, rfl⟩ := hj'
    exact segV_mono s1.1 s1.2 hxz
  · have := h.le (i := j + 1) (j := i) (by omega) hj' hi
    omega

/-- x is the least argument with at least the value y -/
def IsLeast (ps : List (Int × Int)) (y x : Int) : Prop := 0 ≤ x ∧ x ≤ 65280 ∧ y ≤ curveAt ps x ∧ ∀ z, 0 ≤ z → z < x → curveAt ps z < y
theorem IsLeast.uniq {ps : List (Int × Int)} {y x z : Int} (h : IsLeast ps y x) (h' : IsLeast ps y z) : x = z := by
  obtain ⟨a1, a2, a3, a4⟩ := h
  obtain ⟨b1, b2, b3, b4⟩ := h'
  rcases Int.lt_trichotomy x z with hlt | he | hgt
  · have := b4 x a1 hlt; omega
  · exact he
  · have := a4 z b1 hgt; omega

/-- the reference's way -/
def rinvL (y : Int) : Int × Int → List (Int × Int) → Int
  | _, [] => -1
  | p, q :: r => if y ≤ q.2 then p.1 - (-(2 * (q.1 - p.1) * (y - p.2) - (q.1 - p.1))) / (2 * (q.2 - p.2)) else rinvL y q r
def rinv (ps : List (Int × Int)) (y : Int) : Int := if y ≤ (ps.getD 0 (0, 0)).2 then 0 else rinvL y (ps.getD 0 (0, 0)) (ps.drop 1)
def invV (y a b c d : Int) : Int := a - (-(2 * (c - a) * (y - b) - (c - a))) / (2 * (d - b))

theorem rinvL_seg {y : Int} {p : Int × Int} {l : List (Int × Int)} {i : Nat} {a b c d : Int} (hlo : ∀ (j : Nat) (u v : Int), j < i → l[j]? = some (u, v) → v < y) (hi : (p :: l)[i]? = some (a, b)) (hi' : l[i]? = some (c, d)) (hy : y ≤ d) :
    rinvL y p l = invV y a b c d := by
  induction l generalizing p i with
  | nil => simp at hi'
  | cons q r ih =>
    cases i with
    | zero =>
      simp only [List.getElem?_cons_zero, Option.some.injEq] at hi hi'
      subst hi; subst hi'
      rw [rinvL, if_pos hy]; rfl
    | succ i =>
      have := hlo 0 q.1 q.2 (by omega) rfl
      rw [rinvL, if_neg (by omega)]
      exact ih (fun j u v hj hl => hlo (j + 1) u v (Nat.succ_lt_succ hj) (by simpa using hl)) (by simpa using hi) (by simpa using hi')
theorem rinvL_none {y : Int} {p : Int × Int} {l : List (Int × Int)} (h : ∀ (j : Nat) (u v : Int), l[j]? = some (u, v) → v < y) : rinvL y p l = -1 := by
  induction l generalizing p with
  | nil => rfl
  | cons q r ih =>
    have := h 0 q.1 q.2 rfl
    rw [rinvL, if_neg (by omega)]
    exact ih fun j u v hl => h (j + 1) u v (by simpa using hl)

theorem invV_least {ps : List (Int × Int)} (h : CurveOk ps) {y : Int} {i : Nat} {a b c d : Int} (hi : ps[i]? = some (a, b)) (hi' : ps[i + 1]? = some (c, d)) (h0 : b < y) (h1 : y ≤ d) : IsLeast ps y (invV y a b c d) := by
  have s := h.step i a b c d hi hi'
  have t1 := h.bd _ _ _ hi
  have t2 := h.bd _ _ _ hi'
  have hH : 0 < 2 * (d - b) := by omega
  obtain ⟨W, hW⟩ : ∃ W, W = c - a := ⟨_, rfl⟩
  obtain ⟨T, hT⟩ : ∃ T, T = -((-(2 * (c - a) * (y - b) - (c - a))) / (2 * (d - b))) := ⟨_, rfl⟩
  have hV : invV y a b c d = a + T := by unfold invV; omega
  have e1 := Int.emod_add_mul_ediv (-(2 * (c - a) * (y - b) - (c - a))) (2 * (d - b))
  have e2 := Int.emod_lt_of_pos (-(2 * (c - a) * (y - b) - (c - a))) hH
  have e3 := Int.emod_nonneg (-(2 * (c - a) * (y - b) - (c - a))) (show 2 * (d - b) ≠ 0 by omega)
  -- T is the least number with 2 (d - b) T ≥ 2 W (y - b) - W
  have f1 : 2 * W * (y - b) - W ≤ 2 * (d - b) * T := by
    rw [hT, hW, Int.mul_neg]; omega
  have f2 : 2 * (d - b) * (T - 1) < 2 * W * (y - b) - W := by
    rw [Int.mul_sub, hT, hW, Int.mul_neg]; omega
  clear e1 e2 e3 hT
  have g1 : 2 * W * 1 ≤ 2 * W * (y - b) := Int.mul_le_mul_of_nonneg_left (by omega) (by omega)
  have T1 : 1 ≤ T := by
    rcases Int.lt_or_le T 1 with hlt | hge
    · have : 2 * (d - b) * T ≤ 2 * (d - b) * 0 := Int.mul_le_mul_of_nonneg_left (by omega) (by omega)
      omega
    · exact hge
  have g2 : 2 * W * (y - b) ≤ 2 * W * (d - b) := Int.mul_le_mul_of_nonneg_left (by omega) (by omega)
  have TW : T ≤ W := by
    rcases Int.lt_or_le W T with hlt | hge
    · have : 2 * (d - b) * W ≤ 2 * (d - b) * (T - 1) := Int.mul_le_mul_of_nonneg_left (by omega) (by omega)
      have e : 2 * (d - b) * W = 2 * W * (d - b) := by rw [Int.mul_assoc, Int.mul_assoc, Int.mul_comm (d - b)]
      omega
    · exact hge
  have val : ∀ z, a ≤ z → z ≤ c → (y ≤ segV z a b c d ↔ 2 * W * (y - b) - W ≤ 2 * (d - b) * (z - a)) := by
    intro z _ _
    rw [segV_eq s.1, ← hW]
    unfold rnd
    have hWp : 0 < 2 * W := by omega
    have := Int.le_ediv_iff_mul_le (a := y - b) (b := 2 * ((d - b) * (z - a)) + W) hWp
    rw [Int.mul_comm (y - b)] at this
    rw [Int.mul_assoc 2 (d - b)]
    omega
  have hseg : ∀ z, a < z → z ≤ c → curveAt ps z = segV z a b c d := fun z g1 g2 => curveAt_seg h hi hi' (.inr g1) g2
  rw [hV]
  refine ⟨by omega, by omega, ?_, ?_⟩
  · rw [hseg _ (by omega) (by omega)]
    exact (val (a + T) (by omega) (by omega)).2 (by rw [show a + T - a = T from by omega]; exact f1)
  · intro z z0 zl
    rcases Int.lt_or_le a z with hlt | hge
    · rw [hseg _ hlt (by omega)]
      rcases Int.lt_or_le (segV z a b c d) y with h' | h'
      · exact h'
      · have := (val z (by omega) (by omega)).1 h'
        have : 2 * (d - b) * (z - a) ≤ 2 * (d - b) * (T - 1) := Int.mul_le_mul_of_nonneg_left (by omega) (by omega)
        omega
    · have m := curveAt_mono h z0 hge (by omega)
      have : curveAt ps a = b := by
        rw [curveAt_found h hi hi' (Int.le_refl _) (.inl s.1) (by omega), segV_start s.1]
      omega

theorem rinv_first {ps : List (Int × Int)} (h : CurveOk ps) {a b y : Int} (hi : ps[0]? = some (a, b)) (h1 : y ≤ b) : rinv ps y = 0 ∧ IsLeast ps y 0 := by
  have ha := h.first _ _ hi
  subst ha
  constructor
  · unfold rinv; rw [getD_at hi]; exact if_pos h1
  · obtain ⟨⟨c, d⟩, hcd⟩ : ∃ p, ps[0 + 1]? = some p := ⟨_, List.getElem?_eq_getElem (by have := h.two; omega)⟩
    have s := h.step _ _ _ _ _ hi hcd
    refine ⟨by omega, by omega, ?_, fun z z0 z1 => by omega⟩
    rw [curveAt_found h hi hcd (Int.le_refl _) (.inl s.1) (by omega), segV_start s.1]
    exact h1
theorem rinv_seg {ps : List (Int × Int)} (h : CurveOk ps) {y : Int} {i : Nat} {a b c d : Int} (hi : ps[i]? = some (a, b)) (hi' : ps[i + 1]? = some (c, d)) (h0 : b < y) (h1 : y ≤ d) : rinv ps y = invV y a b c d := by
  cases ps with
  | nil => simp at hi
  | cons p l =>
    have hp := h.le (i := 0) (j := i) (by omega) (x := p.1) (y := p.2) (by simp) hi
    unfold rinv
    rw [if_neg (by simp; omega)]
    refine rinvL_seg (i := i) ?_ (by simpa using hi) (by simpa using hi') h1
    intro j u v hj hl
    have := h.le (i := j + 1) (j := i) (by omega) (by simpa using hl) hi
    omega
theorem rinv_none {ps : List (Int × Int)} (h : CurveOk ps) {y a b : Int} (hl : ps[ps.length - 1]? = some (a, b)) (h1 : b < y) : rinv ps y = -1 := by
  cases ps with
  | nil => simp at hl
  | cons p l =>
    have hp := h.le (i := 0) (j := (p :: l).length - 1) (by omega) (x := p.1) (y := p.2) (by simp) hl
    unfold rinv
    rw [if_neg (by simp; omega)]
    refine rinvL_none ?_
    intro j u v hj
    have hj : l[j]? = some (u, v) := by simpa using hj
    have hjl := (List.getElem?_eq_some_iff.1 hj).1
    have := h.le (i := j + 1) (j := (p :: l).length - 1) (by simp; omega) (by simpa using hj) hl
    omega
theorem rinv_cases {ps : List (Int × Int)} (h : CurveOk ps) (y : Int) :
    (∃ a b, ps[0]? = some (a, b) ∧ y ≤ b) ∨ (∃ i a b c d, ps[i]? = some (a, b) ∧ ps[i + 1]? = some (c, d) ∧ b < y ∧ y ≤ d) ∨ ∃ a b, ps[ps.length - 1]? = some (a, b) ∧ b < y := by
  have h2 := h.two
  have key : ∀ n i, n + i + 1 = ps.length → (∀ a b, ps[i]? = some (a, b) → b < y) →
      (∃ i a b c d, ps[i]? = some (a, b) ∧ ps[i + 1]? = some (c, d) ∧ b < y ∧ y ≤ d) ∨ ∃ a b, ps[ps.length - 1]? = some (a, b) ∧ b < y := by
    intro n
    induction n with
    | zero =>
      intro i hi hlo
      obtain ⟨⟨a, b⟩, hab⟩ : ∃ p, ps[i]? = some p := ⟨_, List.getElem?_eq_getElem (by omega)⟩
      exact .inr ⟨a, b, by rw [show ps.length - 1 = i from by omega]; exact hab, hlo a b hab⟩
    | succ n ih =>
      intro i hi hlo
      obtain ⟨⟨a, b⟩, hab⟩ : ∃ p, ps[i]? = some p := ⟨_, List.getElem?_eq_getElem (by omega)⟩
      obtain ⟨⟨c, d⟩, hcd⟩ : ∃ p, ps[i + 1]? = some p := ⟨_, List.getElem?_eq_getElem (by omega)⟩
      by_cases hy : y ≤ d
      · exact .inl ⟨i, a, b, c, d, hab, hcd, hlo a b hab, hy⟩
      · exact ih (i + 1) (by omega) fun a' b' h' => by rw [hcd] at h'; simp at h'; omega
  obtain ⟨⟨a, b⟩, hab⟩ : ∃ p, ps[0]? = some p := ⟨_, List.getElem?_eq_getElem (by omega)⟩
  by_cases hy : y ≤ b
  · exact .inl ⟨a, b, hab, hy⟩
  · exact .inr (key (ps.length - 1) 0 (by omega) fun a' b' h' => by rw [hab] at h'; simp at h'; omega)
theorem rinv_least {ps : List (Int × Int)} (h : CurveOk ps) {y a b : Int} (hl : ps[ps.length - 1]? = some (a, b)) (h1 : y ≤ b) : IsLeast ps y (rinv ps y) := by
  rcases rinv_cases h y with ⟨a', b', g1, g2⟩ | ⟨i, a', b', c', d', g1, g2, g3, g4⟩ | ⟨a', b', g1, g2⟩
  · obtain ⟨e1, e2⟩ := rinv_first h g1 g2
    rw [e1]; exact e2
  · rw [rinv_seg h g1 g2 g3 g4]
    exact invV_least h g1 g2 g3 g4
  · rw [hl] at g1; simp at g1; omega

theorem invV_bd {y a b c d : Int} (h1 : 0 ≤ a) (h2 : a < c) (h3 : c ≤ 65280) (h4 : 0 ≤ b) (h5 : b < y) (h6 : y ≤ d) (h7 : d ≤ 65280) : 0 ≤ 2 * (c - a) * (y - b) ∧ 2 * (c - a) * (y - b) ≤ 8522956800 := by
  obtain ⟨m1, m2⟩ := mul_bd (a := 2 * (c - a)) (b := y - b) (m := 130560) (n := 65280) (by omega) (by omega) (by omega) (by omega)
  omega

set_option maxHeartbeats 2000000 in
theorem rinv_any (A : Option Addr) (ps : List (Int × Int)) (c : Nat) (y : Int) (w : World) (h : Pts w A ps) (hok : CurveOk ps) (hy0 : 0 ≤ y) (hy1 : y ≤ 65280) :
    Calls Try.prog 46 #[.agg #[.slice A ps.length c], .int .i64 y] w fun e w' => e = .returned (.int .i64 (rinv ps y)) ∧ Below w.heap.size w w' := by
  have hlm := hok.most
  have hl2 := hok.two
  obtain ⟨b0, o, fx, fy, rfl, hf, hfc, hfd⟩ := h.at (i := 0) (by omega)
  simp only [Nat.zero_mul, Nat.add_zero] at hfc hfd
  have hw0 : b0 < w.heap.size := lt_of_cell hfc
  have HOK := Lib.hid hok
  clear hok
  by_cases hy : y ≤ fy
  · have hV := Lib.hid (rinv_first HOK.out hf.out hy).1
    have HH := Lib.hid h
    clear h
    go_enter Try.func46, Try.ntmps46
    go_wp2
    go_ret
    exact ⟨ret_int hV.out.symm, (Below.refl _ _).alloc (Nat.le_refl _) _⟩
  have hy : fy < y := by omega
  go_enter Try.func46, Try.ntmps46
  go_wp2
  go_loopg [5, 6, 7, 8, 9] ps.length (fun gk t _ _ _ _ wr => ∃ (k : Nat) (pa pb : Int), 1 ≤ k ∧ k ≤ ps.length ∧ gk + k = ps.length + 1 ∧ t = .int .i64 k ∧ Hid (ps[k - 1]? = some (pa, pb)) ∧ pb < y ∧ Below w.heap.size w wr ∧ wr.cell? ⟨w.heap.size, 0, none⟩ = some (.slice (some ⟨b0, o, none⟩) ps.length c))
  case atStart => exact ⟨1, fx, fy, by omega, by omega, rfl, rfl, hf, hy, (Below.refl _ _).alloc (Nat.le_refl _) _, by simp⟩
  case round =>
    obtain ⟨k, pa, pb, hk1, hk2, hgk, rfl, hpp, hpy, hbel, hbox⟩ := hrel
    have hBw := hbel.size
    have hw1 : w.heap.size < wr.heap.size := lt_of_cell hbox
    have hw2 : b0 < wr.heap.size := by omega
    by_cases hlt : k < ps.length
    · obtain ⟨p1, p2, hp, hc, hd⟩ := (h.kept hbel).same (i := k - 1) (by omega)
      obtain ⟨rfl, rfl⟩ : p1 = pa ∧ p2 = pb := by have := hp.out.symm.trans hpp.out; simpa using this
      obtain ⟨q1, q2, hq, hqc, hqd⟩ := (h.kept hbel).same (i := k) hlt
      have b1 := HOK.out.bd _ _ _ hp.out
      have b2 := HOK.out.bd _ _ _ hq.out
      have b3 := HOK.out.step (k - 1) _ _ _ _ hp.out (by rw [show k - 1 + 1 = k from by omega]; exact hq.out)
      have HH := Lib.hid h
      have HG := Lib.hid hgk
      clear h hgk
      have k1 : (0 : Int) ≤ (k : Int) - 1 := by omega
      have k2 : (k : Int) < ps.length := by omega
      go_upto_region 6 with fail
      go_cut [6, 7] from 17 to 64 (fun s6 s7 wx => ∃ g g' : Nat, s6 = .pointer (some ⟨g, 0, none⟩) ∧ s7 = .pointer (some ⟨g', 0, none⟩) ∧ Below wr.heap.size wr wx ∧ wx.cell? ⟨g, 0, none⟩ = some (.int .i64 p1) ∧ wx.cell? ⟨g, 1, none⟩ = some (.int .i64 p2) ∧ wx.cell? ⟨g', 0, none⟩ = some (.int .i64 q1) ∧ wx.cell? ⟨g', 1, none⟩ = some (.int .i64 q2))
      case first =>
        go_region
        all_goals
          go_wp2_with fail
          go_meet
          case rel => exact ⟨_, _, rfl, rfl, by repeat (first | exact Below.refl _ _ | refine Below.drew ?_ | refine Below.alloc ?_ (by simp) _), by simp [go_sem], by simp [go_sem], by simp [go_sem], by simp [go_sem]⟩
      case rest =>
        obtain ⟨g, g', rfl, rfl, hbc, c1, c2, c3, c4⟩ := hcut
        have hbox2 := cell_kept hbc hbox
        have hbel2 := hbel.trans (hbc.mono hBw)
        by_cases hle : y ≤ q2
        · obtain ⟨m1, m2⟩ := invV_bd b1.1 b3.1 b2.2.1 b1.2.2.1 hpy hle b2.2.2.2
          have hV := Lib.hid (rinv_seg HOK.out hp.out (by rw [show k - 1 + 1 = k from by omega]; exact hq.out) hpy hle)
          have hL := invV_least HOK.out hp.out (by rw [show k - 1 + 1 = k from by omega]; exact hq.out) hpy hle
          have l1 := hL.1
          have l2 := hL.2.1
          unfold invV at l1 l2
          have i1 := i64_in (a := q1 - p1) (by omega) (by omega)
          have i2 := i64_in (a := q2 - p2) (by omega) (by omega)
          have i3 := i64_in (a := 2 * (q1 - p1)) (by omega) (by omega)
          have i4 := i64_in (a := y - p2) (by omega) (by omega)
          have i5 := i64_in (a := 2 * (q1 - p1) * (y - p2)) (by omega) (by omega)
          have i6 := i64_in (a := 2 * (q1 - p1) * (y - p2) - (q1 - p1)) (by omega) (by omega)
          have i7 := i64_in (a := -(2 * (q1 - p1) * (y - p2) - (q1 - p1))) (by omega) (by omega)
          have i8 := i64_in (a := 2 * (q2 - p2)) (by omega) (by omega)
          have i9 := i64_in (a := p1 - (-(2 * (q1 - p1) * (y - p2) - (q1 - p1))) / (2 * (q2 - p2))) (by omega) (by omega)
          have j1 : 0 < 2 * (q2 - p2) := by omega
          have j2 : 2 * (q2 - p2) ≤ 1000000 := by omega
          clear hL
          go_wp2
          go_quiet (fail)
          go_wp2
          go_quiet ((go_at_call 55; exact quietL2 (floor_any _ _ _ (by omega) (by omega) (by omega) (by omega))))
          go_wp2
          go_ret
          exact ⟨ret_int hV.out.symm, below_drewN (below_drewN hbel2 _) _⟩
        · have hle : q2 < y := by omega
          go_wp2
          go_roundg (gk - 1)
          case measure => have := HG.out; omega
          case rel => exact ⟨k + 1, q1, q2, by omega, by omega, by have := HG.out; omega, by go_num, hq, hle, hbel2, hbox2⟩
    · obtain rfl : k = ps.length := by omega
      have hV := Lib.hid (rinv_none HOK.out hpp.out hpy)
      go_wp2
      go_ret
      exact ⟨ret_int hV.out.symm, hbel⟩
end Go.Proofs.Ytlbnicapkfmdoaa
