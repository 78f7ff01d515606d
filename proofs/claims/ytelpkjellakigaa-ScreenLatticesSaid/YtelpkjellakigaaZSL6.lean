/- ScreenLattices: for every input this law returns true and leaves its arguments as they were. -/
import Derived.Test.YtelpkjellakigaaZSL5
import Derived.Test.YtelpkjellakigaaRows
import Derived.WalkKit
import Derived.ProofKit
import Derived.SizedLaws
import Derived.BigQuiet
import Derived.Deep.QuietTactic
import Derived.Deep.Slices
import Derived.OpenShut
import Derived.Conc.Holds
/- ScreenLattices: the moire of two screens and the law. -/
namespace Go.Proofs.Ytelpkjellakigaa
open Go Go.RowKit
set_option linter.unusedSimpArgs false
set_option linter.unusedSectionVars false
set_option linter.unusedVariables false
namespace Sc
theorem stLoop {X β : Type} {f : (X → Option β) → X → Option β} {n fu : Nat} (hn : n < fu) {st : Nat → X} {x0 : X} {fin : Option β} (h0 : st 0 = x0)
    (step : ∀ j (i : Nat), i < n → f j (st i) = j (st (i + 1))) (last : ∀ j, f j (st n) = fin) : loopF f fu x0 = fin := by
  have key := errGen (f := f) (n := n) (st := st) (E := fun _ => 0) (out := fun _ => none) (fin := fin) (fun j i hi _ => by rw [if_pos rfl]; exact step j i hi) (fun _ => last) fu 0 (by omega) (by omega) (by omega)
  rw [if_pos (firstE_all _ _ fun _ _ _ => rfl), h0] at key
  exact key
/-- a quarter turn -/
def vec (A B : Int) : Nat → Int × Int
  | 0 => (A, B)
  | i + 1 => (-(vec A B i).2, (vec A B i).1)
def dd (A B m n : Int) (v : Int × Int) : Int := (A * n - v.1 * m) * (A * n - v.1 * m) + (B * n - v.2 * m) * (B * n - v.2 * m)
def mn (l d : Int) : Int := if l < 0 ∨ d < l then d else l
def lst (A B m n : Int) (w : Nat → Int × Int) : Nat → Int
  | 0 => -1
  | i + 1 => mn (lst A B m n w i) (dd A B m n (w i))
theorem vec_bd {A B : Int} (ok : ScrOk A B) : ∀ i, (-20 ≤ (vec A B i).1 ∧ (vec A B i).1 ≤ 20) ∧ (-20 ≤ (vec A B i).2 ∧ (vec A B i).2 ≤ 20)
  | 0 => by
    obtain ⟨a0, a1, b0, b1, _, _⟩ := ok
    exact ⟨⟨by show -20 ≤ A; omega, a1⟩, by show -20 ≤ B; omega, b1⟩
  | i + 1 => by
    obtain ⟨⟨h1, h2⟩, h3, h4⟩ := vec_bd ok i
    exact ⟨⟨by show -20 ≤ -(vec A B i).2; omega, by show -(vec A B i).2 ≤ 20; omega⟩, h1, h2⟩
theorem sq_of {x M : Int} (h1 : -M ≤ x) (h2 : x ≤ M) (hM : 0 ≤ M) : 0 ≤ x * x ∧ x * x ≤ M * M := by
  obtain ⟨_, h⟩ := mul_bd2 h1 h2 h1 h2 hM hM
  refine ⟨?_, h⟩
  rcases Int.le_total 0 x with h' | h'
  · exact Int.mul_nonneg h' h'
  · have := Int.mul_nonneg (a := -x) (b := -x) (by omega) (by omega)
    simp only [Int.neg_mul, Int.mul_neg, Int.neg_neg] at this
    exact this
structure DdB (A n X m : Int) : Prop where
  x1 : -8000 ≤ A * n ∧ A * n ≤ 8000
  x2 : -8000 ≤ X * m ∧ X * m ≤ 8000
  x3 : 0 ≤ (A * n - X * m) * (A * n - X * m) ∧ (A * n - X * m) * (A * n - X * m) ≤ 256000000
theorem ddb {A n X m : Int} (a0 : 0 ≤ A) (a1 : A ≤ 20) (n0 : 0 < n) (n1 : n ≤ 400) (x0 : -20 ≤ X) (x1 : X ≤ 20) (m0 : 0 < m) (m1 : m ≤ 400) : DdB A n X m := by
  have h1 := mul_bd2 (a := A) (b := n) (M := 20) (N := 400) (by omega) (by omega) (by omega) (by omega) (by omega) (by omega)
  have h2 := mul_bd2 (a := X) (b := m) (M := 20) (N := 400) (by omega) (by omega) (by omega) (by omega) (by omega) (by omega)
  have h3 := sq_of (x := A * n - X * m) (M := 16000) (by omega) (by omega) (by omega)
  exact ⟨by omega, by omega, by omega⟩
theorem lst_bd {A B m n : Int} {w : Nat → Int × Int} (h : ∀ i, 0 ≤ dd A B m n (w i) ∧ dd A B m n (w i) ≤ 512000000) : ∀ i, -1 ≤ lst A B m n w i ∧ lst A B m n w i ≤ 512000000
  | 0 => by simp [lst]
  | i + 1 => by
    have := lst_bd h i
    have := h i
    unfold lst mn
    split <;> omega
theorem lst_pos {A B m n : Int} {w : Nat → Int × Int} (h : ∀ i, 0 ≤ dd A B m n (w i) ∧ dd A B m n (w i) ≤ 512000000) (i : Nat) : 0 ≤ lst A B m n w (i + 1) := by
  have := lst_bd h i
  have := h i
  unfold lst mn
  split <;> omega
section
variable {fu : Nat} (hf : 18446744073709551616 ≤ fu) {A B A' B' : Int} (ok : ScrOk A B) (ok' : ScrOk A' B') (K K' : Int)
include hf ok ok'
/-- what the moire is: the gcd of the least square and of the product -/
theorem moire_r {m n : Int} (hm : m = A * A + B * B) (hn : n = A' * A' + B' * B') (hc : scE A B K = 0) (hc' : scE A' B' K' = 0) :
    ∃ g u v : Int, screen_Moire_r fu ((A, (B, K)), ((A', (B', K')), ())) = some ((lst A B m n (vec A' B') 4).tdiv g, ((m * n * m * n).tdiv g, (0, ()))) ∧ 0 < g ∧ m * n * m * n * u + lst A B m n (vec A' B') 4 * v = g ∧ g ∣ m * n * m * n ∧ g ∣ lst A B m n (vec A' B') 4
      ∧ (0 ≤ lst A B m n (vec A' B') 4 ∧ lst A B m n (vec A' B') 4 ≤ 512000000) ∧ 0 < m * n * m * n ∧ m * n * m * n ≤ 25600000000 ∧ 0 < m * n ∧ m * n ≤ 160000 := by
  obtain ⟨a0, a1, b0, b1, n0, n1⟩ := ok
  have vb := vec_bd ok'
  obtain ⟨a0', a1', b0', b1', n0', n1'⟩ := ok'
  have m0 : 0 < m := by omega
  have m1 : m ≤ 400 := by omega
  have k0 : 0 < n := by omega
  have k1 : n ≤ 400 := by omega
  have q1 := mul_bd (a := m) (b := n) (M := 400) (N := 400) (by omega) (by omega) (by omega) (by omega)
  have q1' : 0 < m * n := Int.mul_pos m0 k0
  have q2 := mul_bd (a := m * n) (b := m) (M := 160000) (N := 400) (by omega) (by omega) (by omega) (by omega)
  have q2' : 0 < m * n * m := Int.mul_pos q1' m0
  have q3 := mul_bd (a := m * n * m) (b := n) (M := 64000000) (N := 400) (by omega) (by omega) (by omega) (by omega)
  have q3' : 0 < m * n * m * n := Int.mul_pos q2' k0
  have d1 := fun i => ddb a0 a1 k0 k1 (vb i).1.1 (vb i).1.2 m0 m1
  have d2 := fun i => ddb b0 b1 k0 k1 (vb i).2.1 (vb i).2.2 m0 m1
  have hd : ∀ i, 0 ≤ dd A B m n (vec A' B' i) ∧ dd A B m n (vec A' B' i) ≤ 512000000 := fun i => by
    have := (d1 i).x3
    have := (d2 i).x3
    unfold dd
    omega
  have hl := lst_bd hd
  have hl4 := lst_pos hd 3
  obtain ⟨g, u, v, c1, c2, c3, c4, c5, _, _⟩ := bez_r hf (a := m * n * m * n) (b := lst A B m n (vec A' B') 4) (by omega) (by omega) (by omega) (by have := hl 4; omega) (.inl q3')
  obtain ⟨w1, w2, w3, w4, w5, w6⟩ := quot c2 q3' c4
  refine ⟨g, u, v, ?_, c2, c3, c4, c5, ⟨hl4, (hl 4).2⟩, q3', by omega, q1', by omega⟩
  have sa := sq_bd a0 a1
  have sb := sq_bd b0 b1
  have sa' := sq_bd a0' a1'
  have sb' := sq_bd b0' b1'
  unfold screen_Moire_r
  simp only [check_r, hc, hc', bindO_some, ne_eq, not_true_eq_false, decide_false, cond_false]
  rw [s_wr (x := A * A) (by omega) (by omega), s_wr (x := B * B) (by omega) (by omega), s_wr (x := A' * A') (by omega) (by omega), s_wr (x := B' * B') (by omega) (by omega), s_wr (x := A * A + B * B) (by omega) (by omega), s_wr (x := A' * A' + B' * B') (by omega) (by omega), ← hm, ← hn]
  refine stLoop (n := 4) (by omega) (st := fun i => (lst A B m n (vec A' B') i, ((vec A' B' i).2, ((vec A' B' i).1, (i : Int))))) rfl ?_ ?_
  · intro j i hi
    have e1 := d1 i
    have e2 := d2 i
    have x1 := e1.x1
    have x2 := e1.x2
    have x3 := e1.x3
    have y1 := e2.x1
    have y2 := e2.x2
    have y3 := e2.x3
    have vi := vb i
    unfold screen_Moire_l1
    simp only
    rw [bif_pos (show (i : Int) < 4 by omega)]
    rw [s_wr (x := A * n) (by omega) (by omega), s_wr (x := B * n) (by omega) (by omega), s_wr (x := (vec A' B' i).1 * m) (by omega) (by omega), s_wr (x := (vec A' B' i).2 * m) (by omega) (by omega),
      s_wr (x := A * n - (vec A' B' i).1 * m) (by omega) (by omega), s_wr (x := B * n - (vec A' B' i).2 * m) (by omega) (by omega), s_wr (x := (A * n - (vec A' B' i).1 * m) * (A * n - (vec A' B' i).1 * m)) (by omega) (by omega), s_wr (x := (B * n - (vec A' B' i).2 * m) * (B * n - (vec A' B' i).2 * m)) (by omega) (by omega)]
    have hdd : IntKind.i64.wrap ((A * n - (vec A' B' i).1 * m) * (A * n - (vec A' B' i).1 * m) + (B * n - (vec A' B' i).2 * m) * (B * n - (vec A' B' i).2 * m)) = dd A B m n (vec A' B' i) := s_wr (by omega) (by omega)
    rw [hdd]
    have hs : ∀ l : Int, screen_Moire_j2 fu (lst A B m n (vec A' B') i, ((vec A' B' i).2, ((vec A' B' i).1, (i : Int)))) j ((vec A' B' i).2, ((vec A' B' i).1, l)) = j (l, ((vec A' B' (i + 1)).2, ((vec A' B' (i + 1)).1, ((i + 1 : Nat) : Int)))) := fun l => by
      unfold screen_Moire_j2
      simp only
      rw [s_wr (x := -(vec A' B' i).2) (by omega) (by omega), s_wr (x := (i : Int) + 1) (by omega) (by omega)]
      rfl
    simp only [joinF_eq]
    unfold screen_Moire_j3
    simp only
    have hlst : lst A B m n (vec A' B') (i + 1) = mn (lst A B m n (vec A' B') i) (dd A B m n (vec A' B' i)) := rfl
    rw [hlst]
    unfold mn
    by_cases h1 : lst A B m n (vec A' B') i < 0
    · rw [bif_pos h1, if_pos (.inl h1)]
      exact hs _
    · rw [bif_neg h1]
      by_cases h2 : dd A B m n (vec A' B' i) < lst A B m n (vec A' B') i
      · rw [s_pos h2, if_pos (.inr h2)]
        exact hs _
      · rw [s_neg h2, if_neg (fun g => g.elim h1 h2)]
        exact hs _
  · intro j
    unfold screen_Moire_l1
    simp only
    rw [bif_neg (show ¬ ((4 : Nat) : Int) < 4 by omega)]
    rw [s_wr (x := m * n) (by omega) (by omega), s_wr (x := m * n * m) (by omega) (by omega), s_wr (x := m * n * m * n) (by omega) (by omega), c1]
    simp only [bindO_some]
    have hq : 0 ≤ (lst A B m n (vec A' B') 4).tdiv g ∧ (lst A B m n (vec A' B') 4).tdiv g ≤ 512000000 := by
      have := hl 4
      rw [Int.tdiv_eq_ediv_of_nonneg hl4]
      refine ⟨Int.ediv_nonneg hl4 (by omega), ?_⟩
      exact Int.le_trans (Int.ediv_le_self _ hl4) (hl 4).2
    rw [bif_pos (show g ≠ 0 by omega), bif_pos (show g ≠ 0 by omega), s_wr (x := (lst A B m n (vec A' B') 4).tdiv g) (by omega) (by omega), s_wr (x := (m * n * m * n).tdiv g) (by omega) (by omega)]
/-- the law's own search -/
theorem law_moire {m n : Int} (hm : m = A * A + B * B) (hn : n = A' * A' + B' * B') {g u v : Int} (g0 : 0 < g) (gb : m * n * m * n * u + lst A B m n (vec A' B') 4 * v = g) (g1 : g ∣ m * n * m * n) (g2 : g ∣ lst A B m n (vec A' B') 4)
    (l0 : 0 ≤ lst A B m n (vec A' B') 4 ∧ lst A B m n (vec A' B') 4 ≤ 512000000) (w0 : 0 < m * n * m * n) (w1 : m * n * m * n ≤ 25600000000) (p0 : 0 < m * n) (p1 : m * n ≤ 160000) :
    loopF (law_ScreenLattices_l3 fu ((A, (B, K)), ((A', (B', K')), ())) ((lst A B m n (vec A' B') 4).tdiv g) ((m * n * m * n).tdiv g) m n) fu (-1, 0) = some (true, ()) := by
  obtain ⟨a0, a1, b0, b1, n0, n1⟩ := ok
  have vb := vec_bd ok'
  obtain ⟨a0', a1', b0', b1', n0', n1'⟩ := ok'
  have m0 : 0 < m := by omega
  have m1 : m ≤ 400 := by omega
  have k0 : 0 < n := by omega
  have k1 : n ≤ 400 := by omega
  have q2 := mul_bd (a := m * n) (b := m) (M := 160000) (N := 400) (by omega) (by omega) (by omega) (by omega)
  have d1 := fun i => ddb a0 a1 k0 k1 (vb i).1.1 (vb i).1.2 m0 m1
  have d2 := fun i => ddb b0 b1 k0 k1 (vb i).2.1 (vb i).2.2 m0 m1
  refine stLoop (n := 4) (by omega) (st := fun i => (lst A B m n (vec A' B') i, (i : Int))) rfl ?_ ?_
  · intro j i hi
    have e1 := d1 i
    have e2 := d2 i
    have x1 := e1.x1
    have x2 := e1.x2
    have x3 := e1.x3
    have y1 := e2.x1
    have y2 := e2.x2
    have y3 := e2.x3
    have vi := vb i
    have gx : List.getD ([A', IntKind.i64.wrap (-B'), IntKind.i64.wrap (-A'), B'] : List Int) i 0 = (vec A' B' i).1 := by
      rw [s_wr (x := -B') (by omega) (by omega), s_wr (x := -A') (by omega) (by omega)]
      match i, hi with
      | 0, _ => rfl
      | 1, _ => rfl
      | 2, _ => rfl
      | 3, _ => show B' = -(-B'); omega
    have gy : List.getD ([B', A', IntKind.i64.wrap (-B'), IntKind.i64.wrap (-A')] : List Int) i 0 = (vec A' B' i).2 := by
      rw [s_wr (x := -B') (by omega) (by omega), s_wr (x := -A') (by omega) (by omega)]
      match i, hi with
      | 0, _ => rfl
      | 1, _ => rfl
      | 2, _ => rfl
      | 3, _ => rfl
    unfold law_ScreenLattices_l3
    simp only [joinF_eq]
    rw [bif_pos (show (i : Int) < 4 by omega), show Int.toNat (i : Int) = i from rfl, gx, gy]
    rw [show (decide ((0 : Int) ≤ i) && decide ((i : Int) < 4)) = true from by simp; omega]
    simp only [cond_true]
    rw [bif_pos (show (0 : Int) < (List.length ([(vec A' B' i).1, (vec A' B' i).2] : List Int) : Int) from by show (0 : Int) < 2; omega), bif_pos (show (1 : Int) < (List.length ([(vec A' B' i).1, (vec A' B' i).2] : List Int) : Int) from by show (1 : Int) < 2; omega)]
    rw [s_wr (x := A * n) (by omega) (by omega), s_wr (x := B * n) (by omega) (by omega), s_wr (x := (vec A' B' i).1 * m) (by omega) (by omega), s_wr (x := (vec A' B' i).2 * m) (by omega) (by omega),
      s_wr (x := A * n - (vec A' B' i).1 * m) (by omega) (by omega), s_wr (x := B * n - (vec A' B' i).2 * m) (by omega) (by omega), s_wr (x := (A * n - (vec A' B' i).1 * m) * (A * n - (vec A' B' i).1 * m)) (by omega) (by omega), s_wr (x := (B * n - (vec A' B' i).2 * m) * (B * n - (vec A' B' i).2 * m)) (by omega) (by omega)]
    have hdd : IntKind.i64.wrap ((A * n - (vec A' B' i).1 * m) * (A * n - (vec A' B' i).1 * m) + (B * n - (vec A' B' i).2 * m) * (B * n - (vec A' B' i).2 * m)) = dd A B m n (vec A' B' i) := s_wr (by omega) (by omega)
    rw [hdd]
    have hs : ∀ l : Int, law_ScreenLattices_j4 fu j ((i : Int), l) = j (l, ((i + 1 : Nat) : Int)) := fun l => by
      unfold law_ScreenLattices_j4
      simp only
      rw [s_wr (x := (i : Int) + 1) (by omega) (by omega)]
      rfl
    unfold law_ScreenLattices_j5
    simp only
    have hlst : lst A B m n (vec A' B') (i + 1) = mn (lst A B m n (vec A' B') i) (dd A B m n (vec A' B' i)) := rfl
    rw [hlst]
    unfold mn
    by_cases h1 : lst A B m n (vec A' B') i < 0
    · rw [bif_pos h1, if_pos (.inl h1)]
      exact hs _
    · rw [bif_neg h1]
      by_cases h2 : dd A B m n (vec A' B' i) < lst A B m n (vec A' B') i
      · rw [s_pos h2, if_pos (.inr h2)]
        exact hs _
      · rw [s_neg h2, if_neg (fun g => g.elim h1 h2)]
        exact hs _
  · intro j
    unfold law_ScreenLattices_l3
    simp only
    rw [bif_neg (show ¬ ((4 : Nat) : Int) < 4 by omega)]
    rw [s_wr (x := m * n) (by omega) (by omega), s_wr (x := m * n * m) (by omega) (by omega), s_wr (x := m * n * m * n) (by omega) (by omega)]
    generalize lst A B m n (vec A' B') 4 = L at *
    generalize m * n * m * n = W at *
    refine postLoop (f := law_ScreenLattices_l6 fu (L.tdiv g) (W.tdiv g) (L, ((4 : Nat) : Int)) W) (fun s => s.2.toNat) (fun s => 0 < s.1 ∧ (0 ≤ s.2 ∧ s.2 ≤ 512000000) ∧ ∀ d, (d ∣ s.1 ∧ d ∣ s.2) ↔ (d ∣ W ∧ d ∣ L)) (fun r => r = some (true, ())) ?_ fu (W, L) ⟨w0, l0, fun d => Iff.rfl⟩ (by simp only; omega)
    rintro j2 ⟨s, t⟩ ⟨s0, t0, hst⟩
    have s0 : 0 < s := s0
    have t0 : 0 ≤ t ∧ t ≤ 512000000 := t0
    have hst : ∀ d, (d ∣ s ∧ d ∣ t) ↔ (d ∣ W ∧ d ∣ L) := hst
    unfold law_ScreenLattices_l6
    simp only
    by_cases ht : 0 < t
    · left
      have e1 := Int.tmod_eq_emod_of_nonneg (b := t) (show 0 ≤ s by omega)
      have e2 := Int.emod_nonneg s (show t ≠ 0 by omega)
      have e3 := Int.emod_lt_of_pos s ht
      refine ⟨(t, s.tmod t), ⟨ht, by simp only; omega, fun d => ?_⟩, by simp only; omega, by rw [bif_pos ht, bif_pos (show t ≠ 0 by omega)]⟩
      simp only
      rw [e1, ← hst d]
      have e4 := Int.mul_ediv_add_emod s t
      constructor
      · rintro ⟨h1, h2⟩
        refine ⟨?_, h1⟩
        rw [← e4]
        exact Int.dvd_add (Int.dvd_trans h1 (Int.dvd_mul_right _ _)) h2
      · rintro ⟨h1, h2⟩
        refine ⟨h2, ?_⟩
        have e5 : s % t = s - t * (s / t) := by omega
        rw [e5]
        exact Int.dvd_sub h1 (Int.dvd_trans h2 (Int.dvd_mul_right _ _))
    · right
      obtain rfl : t = 0 := by omega
      obtain ⟨s1, s2⟩ := (hst s).1 ⟨Int.dvd_refl _, Int.dvd_zero _⟩
      have r1 : s ∣ g := by
        rw [← gb]
        exact Int.dvd_add (Int.dvd_trans s1 (Int.dvd_mul_right _ _)) (Int.dvd_trans s2 (Int.dvd_mul_right _ _))
      have r2 : g ∣ s := ((hst g).2 ⟨g1, g2⟩).1
      obtain rfl : s = g := by
        have := Int.le_of_dvd g0 r1
        have := Int.le_of_dvd s0 r2
        omega
      obtain ⟨_, _, z1, z2, z3, _⟩ := quot g0 w0 g1
      have hq : 0 ≤ L.tdiv s ∧ L.tdiv s ≤ 512000000 := by
        rw [Int.tdiv_eq_ediv_of_nonneg l0.1]
        exact ⟨Int.ediv_nonneg l0.1 (by omega), Int.le_trans (Int.ediv_le_self _ l0.1) l0.2⟩
      rw [bif_neg ht, bif_pos (show s ≠ 0 by omega), s_wr (x := L.tdiv s) (by omega) (by omega), bif_pos rfl, bif_pos (show s ≠ 0 by omega), s_wr (x := W.tdiv s) (by omega) (by omega)]
      simp only [decide_true]
end
theorem common_e1 (fu : Nat) {A B K A' B' K' : Int} (h : scE A B K ≠ 0) : screen_Common_r fu ((A, (B, K)), ((A', (B', K')), ())) = some ((0, (0, 0)), (scE A B K, ())) := by
  unfold screen_Common_r
  simp only [check_r, bindO_some]
  rw [bif_pos h]
theorem common_e2 (fu : Nat) {A B K A' B' K' : Int} (h : scE A B K = 0) (h' : scE A' B' K' ≠ 0) : screen_Common_r fu ((A, (B, K)), ((A', (B', K')), ())) = some ((0, (0, 0)), (scE A' B' K', ())) := by
  unfold screen_Common_r
  simp only [check_r, bindO_some]
  rw [bif_neg (fun g => g h), bif_pos h']
theorem moire_e1 (fu : Nat) {A B K A' B' K' : Int} (h : scE A B K ≠ 0) : screen_Moire_r fu ((A, (B, K)), ((A', (B', K')), ())) = some (0, (0, (scE A B K, ()))) := by
  unfold screen_Moire_r
  simp only [check_r, bindO_some]
  rw [bif_pos h]
theorem moire_e2 (fu : Nat) {A B K A' B' K' : Int} (h : scE A B K = 0) (h' : scE A' B' K' ≠ 0) : screen_Moire_r fu ((A, (B, K)), ((A', (B', K')), ())) = some (0, (0, (scE A' B' K', ()))) := by
  unfold screen_Moire_r
  simp only [check_r, bindO_some]
  rw [bif_neg (fun g => g h), bif_pos h']
theorem screenLattices_r {fu : Nat} (hf : 18446744073709551616 ≤ fu) (A B K A' B' K' : Int) (hW : law_screenWorks_r fu () = some (true, ())) : law_ScreenLattices_r fu ((A, (B, K)), ((A', (B', K')), ())) = some (true, ()) := by
  unfold law_ScreenLattices_r
  simp only [hW, bindO_some, Bool.not_true, cond_false, joinF_eq, err_r]
  have bad : ∀ e : Int, e ≠ 0 → law_ScreenLattices_j1 fu ((A, (B, K)), ((A', (B', K')), ())) ((0, (0, 0)), (e, ())) e 0 0 e e = some (true, ()) := fun e he => by
    unfold law_ScreenLattices_j1
    rw [bif_pos he]
    simp only [decide_true, Bool.and_self, none_r, bindO_some, cond_true]
  by_cases c : scE A B K = 0
  · by_cases c' : scE A' B' K' = 0
    · have ok := scE_ok c
      have ok' := scE_ok c'
      obtain ⟨W, S, H, h1, C, hW, hH⟩ := common_r hf ok ok' K K' c c'
      obtain ⟨g, u, v, h2, g0, gb, g1, g2, l0, w0, w1, p0, p1⟩ := moire_r hf ok ok' K K' rfl rfl c c'
      have lm := law_moire hf ok ok' K K' rfl rfl g0 gb g1 g2 l0 w0 w1 p0 p1
      have hR := rcommon_r hf ok ok' K K' C hW hH
      obtain ⟨a0, a1, b0, b1, n0, n1⟩ := ok
      obtain ⟨a0', a1', b0', b1', n0', n1'⟩ := ok'
      have sa := sq_bd a0 a1
      have sb := sq_bd b0 b1
      have sa' := sq_bd a0' a1'
      have sb' := sq_bd b0' b1'
      rw [h1, h2]
      simp only [bindO_some, c, decide_true, cond_true, c']
      unfold law_ScreenLattices_j1 law_ScreenLattices_j2
      simp only [ne_eq, not_true_eq_false, decide_false, cond_false, joinF_eq]
      rw [s_wr (x := A * A) (by omega) (by omega), s_wr (x := B * B) (by omega) (by omega), s_wr (x := A' * A') (by omega) (by omega), s_wr (x := B' * B') (by omega) (by omega), s_wr (x := A * A + B * B) (by omega) (by omega), s_wr (x := A' * A' + B' * B') (by omega) (by omega)]
      simp only [hR, bindO_some, decide_true, Bool.and_self, Bool.not_true, cond_false, lm]
      exact Bool.cond_self ..
    · rw [common_e2 fu c c', moire_e2 fu c c']
      simp only [bindO_some, c, decide_true, cond_true]
      exact bad _ c'
  · rw [common_e1 fu c, moire_e1 fu c]
    simp only [bindO_some]
    rw [bif_neg c]
    exact bad _ c
end Sc
end Go.Proofs.Ytelpkjellakigaa
/- The step from a walk to a law's row, once for all laws of the seat: a law that returns true and leaves all that was there as it was. -/
namespace Go.Proofs.Ytelpkjellakigaa
open Go.ChangeShapes Go.WideShapes Go.ChangeAt Go.RowKit

theorem own : ownKnob Try.prog.godebug = none := by kernel_rfl
theorem laidOut : laidOutB Try.prog = true := by kernel_rfl
theorem boolT : Try.prog.underlying 4 = some .bool := Try.underlying4

theorem trodAll_stays {H : Type} {enc : TypeId × Value → H} {P : Program} (hl : laidOutB P = true) {W W' : World} (hb : Below W.heap.size W W') :
    ∀ {ts : List TypeId} {vs : List Value} {ds : List (DataW H)} {ps : List MemPlace}, (∀ t ∈ ts, P.readableRec t = true ∧ t < P.types.size) → DataW.TrodAll enc P W 0 (fun _ => true) true ts vs ds ps →
      (∀ x ∈ ps, x.block < W.heap.size) → DataW.TrodAll enc P W' 0 (fun b => decide (b < W.heap.size)) true ts vs ds ps
  | [], [], [], _, _, h, _ => h
  | t :: ts, v :: vs, d :: ds, _, hr, ⟨p, q, h1, h2, e⟩, hlt =>
    ⟨p, q, Below.trod hl (hr t (by simp)).1 (hr t (by simp)).2 h1 hb (fun x hx => hlt x (by rw [e]; simp [hx])),
      trodAll_stays hl hb (fun t' ht => hr t' (by simp [ht])) h2 (fun x hx => hlt x (by rw [e]; simp [hx])), e⟩
  | [], [], _ :: _, _, _, h, _ => h.elim
  | [], _ :: _, _, _, _, h, _ => h.elim
  | _ :: _, [], _, _, _, h, _ => h.elim
  | _ :: _, _ :: _, [], _, _, h, _ => h.elim

/-- what a law's row asks of the readable types among its parameters -/
def readsAll (P : Program) (ts : List TypeId) : Bool := ts.all fun t => P.readableRec t && decide (t < P.types.size)
theorem readsAll_all {P : Program} {ts : List TypeId} (h : readsAll P ts = true) : ∀ t ∈ ts, P.readableRec t = true ∧ t < P.types.size := by
  intro t ht
  have := List.all_eq_true.1 h t ht
  simpa using this

theorem trodAll_length {H : Type} {enc : TypeId × Value → H} {P : Program} {W : World} {base : Nat} {spare : Nat → Bool} {held : Bool} :
    ∀ {ts : List TypeId} {vs : List Value} {ds : List (DataW H)} {ps : List MemPlace}, DataW.TrodAll enc P W base spare held ts vs ds ps → ds.length = ts.length
  | [], [], [], _, _ => rfl
  | _ :: _, _ :: _, _ :: _, _, ⟨_, _, _, h2, _⟩ => by simp [trodAll_length h2]
  | [], [], _ :: _, _, h => h.elim
  | [], _ :: _, _, _, h => h.elim
  | _ :: _, [], _, _, h => h.elim
  | _ :: _, _ :: _, [], _, h => h.elim

set_option maxRecDepth 100000 in
theorem law_lifted {os : Os} (started : os.Started) {H : Type} {enc : TypeId × Value → H} {f : FuncId} {fn : Func} {s : ChangeSpec}
    (noInit : Try.checked.prog.inits.idxOf? f = none) (hfn : Try.checked.prog.funcs[f]? = some fn)
    (witness : ∃ (w : World) (tape : Tape) (i : Input), w.os = os ∧ (w.forCall tape i).Shaped Try.checked.prog ∧ i.vars = [] ∧ Input.okWide Try.checked.prog (w.forCall tape i) .any w.heap.size f i ∧
      s.pre6 enc Try.checked.prog fn [] false (w.forCall tape i).memory i.args ∧ ({} : Assume).holds Try.checked.prog (lone (Frame.enter Try.checked.prog f i.args .normal) [] (w.forCall tape i)))
    (hvars : s.vars = []) (hres : fn.resultTypes = #[4]) (hread : readsAll Try.prog fn.params.toList = true)
    (hspec : ∀ ds : List (DataW H), ds.length = fn.params.toList.length → s.fn H ds = { results := [.lit (.bool true)], args := ds })
    (walk : ∀ (W : World) (base : Nat) (args : List Value) (ds : List (DataW H)) (ps : List MemPlace),
      (∀ (j : Nat) t v, fn.params[j]? = some t → args[j]? = some v → Value.okWide Try.prog W .any base t v) → DataW.TrodAll enc Try.prog W 0 (fun _ => true) true fn.params.toList args ds ps →
      (DataW.weightsEach Try.prog fn.params.toList ds).all (· ≤ reachBytes) = true → (∀ x ∈ ps, x.block < W.heap.size) →
      Calls Try.prog f args.toArray W fun e W' => e = .returned (.bool true) ∧ Below W.heap.size W W') :
    ReturnsInHanded {} Try.checked os f .any (s.pre6 enc Try.checked.prog fn [] false) (s.post enc Try.checked.prog fn false true false false) := by
  refine returnsInHanded_of_change_sized (C := Try.checked) own started noInit hfn witness ?_
  intro W base args ds gs before hval hW _ hsz _
  have hW' := hW
  obtain ⟨p, q, hA0, hV, rfl, hfz, hnd⟩ := hW
  rw [hvars] at hV
  obtain ⟨rfl, rfl⟩ := trodVars_none hV
  have hA : DataW.TrodAll enc Try.prog W 0 (fun _ => true) true fn.params.toList args.toList ds p := hA0
  have hlen : ds.length = fn.params.toList.length := trodAll_length hA
  have hlt : ∀ x ∈ p, x.block < W.heap.size := fun x hx => hW'.lt x (by simpa using hx)
  have hargs : args.toList.toArray = args := by simp
  have hsz' : (DataW.weightsEach Try.prog fn.params.toList ds).all (· ≤ reachBytes) = true := by
    have h := hsz
    have hvt : s.plain.varTypes Try.checked.prog = [] := by simp [DataSpec.varTypes, ChangeSpec.plain, hvars]
    rw [hvt] at h
    simp only [List.append_nil] at h
    exact h
  have hw := walk W base args.toList ds p (fun j t v ht hv => hval j t v ht (by simpa using hv)) hA hsz' hlt
  rw [hargs] at hw
  refine hw.mono fun e W' ⟨he, hb⟩ => ⟨.bool true, he, ?_⟩
  have hsf : s.fn H (ds ++ []) = { results := [.lit (.bool true)], args := ds } := by rw [List.append_nil]; exact hspec ds hlen
  refine ⟨ds, [], p ++ [], [], p, [], hW', ?_, ?_, ?_, hb.frame _, fun h => by cases h⟩
  · rw [hsf, hres]
    exact trodAll_mk1 (shut_bool boolT true)
  · rw [hsf]
    exact trodAll_stays laidOut hb (readsAll_all hread) hA hlt
  · rw [hsf, hvars]
    rfl
end Go.Proofs.Ytelpkjellakigaa
/- Arguments opened: what slices and structs of numbers read as. -/
set_option maxRecDepth 100000
namespace Go.Proofs.Ytelpkjellakigaa
open Go.ChangeShapes Go.WideShapes Go.ChangeAt Go.RowKit Go.Deep

theorem choose_list {α : Type} {n : Nat} {Q : Nat → α → Prop} (h : ∀ i, i < n → ∃ p, Q i p) : ∃ l : List α, l.length = n ∧ ∀ i p, l[i]? = some p → Q i p := by
  induction n with
  | zero => exact ⟨[], rfl, by intro i p hi; simp at hi⟩
  | succ n ih =>
    obtain ⟨l, hl, hq⟩ := ih (fun i hi => h i (by omega))
    obtain ⟨p, hp⟩ := h n (by omega)
    refine ⟨l ++ [p], by simp [hl], fun i q hi => ?_⟩
    rcases Nat.lt_trichotomy i n with hlt | rfl | hgt
    · rw [List.getElem?_append_left (by omega)] at hi
      exact hq i q hi
    · rw [List.getElem?_append_right (by omega), hl] at hi
      simp at hi
      subst hi; exact hp
    · rw [List.getElem?_eq_none (by simp; omega)] at hi
      cases hi

section
variable {H : Type} {enc : TypeId × Value → H} {P : Program} {w : World} {base : Nat} {spare : Nat → Bool} {held : Bool}
/-- a slice, whatever its elements: of each element its cells and its reading -/
theorem rd_slice {t e : TypeId} {fuel : Nat} {v : Value} {x : DataW H × List MemPlace} (ht : P.underlying t = some (.slice e)) (hc : 0 < P.cellsOf e) (h : DataW.trod enc P w base spare held fuel t [v] = some x) :
    ∃ A n c, v = .slice A n c ∧ n ≤ c ∧ c ≤ maxLen ∧ ∀ i, i < n → ∃ b o cs n' x', A = some ⟨b, o, none⟩ ∧ cs.length = P.cellsOf e ∧ (∀ j u, cs[j]? = some u → w.cell? ⟨b, o + i * P.cellsOf e + j, none⟩ = some u) ∧
      DataW.trod enc P w base spare held n' e cs = some x' := by
  rcases open_slice ht h with ⟨h0, _⟩ | ⟨a, len, cap, m, n', D, Pl, hcs, _, hl, hm, hmm, _, hi⟩
  · simp at h0
    subst h0
    exact ⟨none, 0, 0, rfl, by omega, by unfold maxLen; omega, by intro i hi; omega⟩
  · simp at hcs
    subst hcs
    refine ⟨some a, len, cap, rfl, hl, hm, fun i hil => ?_⟩
    have hlm : len ≤ m := by rw [hmm]; split <;> omega
    obtain ⟨cs, h1, h2⟩ := hi i (by omega)
    obtain ⟨hb, hlen, hat⟩ := World.cells?_some h1
    obtain ⟨b, o, spot⟩ := a
    have h00 := hat 0 (by omega)
    have hsp : spot = none := by
      obtain ⟨cs0, g1, _⟩ := hi 0 (by omega)
      obtain ⟨_, gl, gat⟩ := World.cells?_some g1
      have hx := gat 0 (by omega)
      rw [List.getElem?_eq_getElem (by omega)] at hx
      simpa [Addr.add] using World.cell?_spot hx
    subst hsp
    refine ⟨b, o, cs, n', _, rfl, hlen, ?_, h2⟩
    intro j u hu
    have hjl : j < P.cellsOf e := by rw [← hlen]; exact (List.getElem?_eq_some_iff.1 hu).1
    have := hat j hjl
    rw [hu, Addr.add_lit, Addr.add_lit] at this
    exact this
end

end Go.Proofs.Ytelpkjellakigaa
/- Arguments opened, as abstract values. -/
set_option maxRecDepth 100000
namespace Go.Proofs.Ytelpkjellakigaa
open Go Go.ChangeShapes Go.WideShapes Go.ChangeAt Go.RowKit Go.Deep

section
variable {H : Type} {enc : TypeId × Value → H} {P : Program} {w : World} {base : Nat} {spare : Nat → Bool} {held : Bool}
/-- data of the caller's -/
abbrev RelC (w : World) : AV → Value → Prop := RelD w (fun _ => False) w.heap.size
/-- one element's cells, read as enc p -/
def Reads {α : Type} (w : World) (sz : Nat) (ec : α → List AV) (Q : α → Prop) (cs : List Value) : Prop :=
  ∃ p, Q p ∧ (ec p).length = sz ∧ ∀ (j : Nat) (a : AV) (u : Value), (ec p)[j]? = some a → cs[j]? = some u → RelC w a u
theorem ro_slice {α : Type} (ec : α → List AV) (Q : α → Prop) {t e : TypeId} {sz fuel : Nat} {v : Value} {x : DataW H × List MemPlace} (ht : P.underlying t = some (.slice e)) (hz : P.cellsOf e = sz) (hc : 0 < sz)
    (hel : ∀ (fuel : Nat) (cs : List Value) (x : DataW H × List MemPlace), cs.length = sz → DataW.trod enc P w base spare held fuel e cs = some x → Reads w sz ec Q cs) (h : DataW.trod enc P w base spare held fuel t [v] = some x) :
    ∃ xs : List α, (∀ p ∈ xs, Q p) ∧ RelC w (.ro false sz (xs.map ec)) v := by
  subst hz
  obtain ⟨A, n, c, rfl, hn, hm, hi⟩ := rd_slice ht hc h
  obtain ⟨xs, hl, hq⟩ := choose_list (Q := fun i (p : α) => Q p ∧ ∃ (b o : Nat) (cs : List Value), A = some ⟨b, o, none⟩ ∧ cs.length = P.cellsOf e ∧ (∀ (j : Nat) (u : Value), cs[j]? = some u → w.cell? ⟨b, o + i * P.cellsOf e + j, none⟩ = some u) ∧ (ec p).length = P.cellsOf e ∧ ∀ (j : Nat) (a : AV) (u : Value), (ec p)[j]? = some a → cs[j]? = some u → RelC w a u) (n := n) (by
    intro i hil
    obtain ⟨b, o, cs, n', x', hA, hlen, hat, htr⟩ := hi i hil
    obtain ⟨p, h1, h2, h3⟩ := hel n' cs x' hlen htr
    exact ⟨p, h1, b, o, cs, hA, hlen, hat, h2, h3⟩)
  subst hl
  refine ⟨xs, fun p hp => ?_, ?_⟩
  · obtain ⟨i, hi⟩ := List.mem_iff_getElem?.1 hp
    exact (hq i p hi).1
  have key : ∀ (i : Nat) (row : List AV) (j : Nat) (a : AV), (xs.map ec)[i]? = some row → row[j]? = some a → ∃ b o u, A = some ⟨b, o, none⟩ ∧ w.cell? ⟨b, o + i * P.cellsOf e + j, none⟩ = some u ∧ RelC w a u := by
    intro i row j a hr ha
    rw [List.getElem?_map] at hr
    obtain ⟨p, hp, rfl⟩ := Option.map_eq_some_iff.1 hr
    obtain ⟨_, b, o, cs, hA, hlen, hat, hel, hrel⟩ := hq i p hp
    have hj : j < cs.length := by rw [hlen, ← hel]; exact (List.getElem?_eq_some_iff.1 ha).1
    have hu : cs[j]? = some cs[j] := List.getElem?_eq_getElem hj
    exact ⟨b, o, cs[j], hA, hat j _ hu, hrel j a _ ha hu⟩
  have hcon := RelD.ro (w := w) (own := fun _ => False) (bs := w.heap.size) false (P.cellsOf e) (xs.map ec) A c (fun i j => match A with
    | some ⟨b, o, _⟩ => (w.cell? ⟨b, o + i * P.cellsOf e + j, none⟩).getD undef
    | none => undef) (by simpa using hn) hm (fun i hi hA => by
      have hi : i < xs.length := by simpa using hi
      obtain ⟨_, b, o, _, h1, _⟩ := hq i xs[i] (List.getElem?_eq_getElem hi)
      rw [hA] at h1; cases h1) (fun i row j a hr ha => by
      obtain ⟨b, o, u, hA, hu, _⟩ := key i row j a hr ha
      subst hA
      exact ⟨b, o, rfl, fun h => h.elim, (fun h => by cases h), by simp [hu]⟩) (fun i row j a hr ha => by
      obtain ⟨b, o, u, hA, hu, hr⟩ := key i row j a hr ha
      subst hA
      simpa [hu] using hr)
  rw [List.length_map] at hcon
  exact hcon
end
/-- a law that answers true -/
theorem AF.yes {P : Program} {F : FuncId} {xs : List AV} {vs : Array Value} {w : World} (h : AF P F xs (.bool true)) (ha : ArgsV w (Gh.none w.heap.size) xs vs) : Calls P F vs w fun e w' => e = .returned (.bool true) ∧ Below w.heap.size w w' :=
  (h.out w vs ha).mono fun e w' ⟨v, he, hb, hv⟩ => ⟨by rw [he, hv.bool'], hb⟩
end Go.Proofs.Ytelpkjellakigaa
/- Arguments of any type, opened by one theorem; the last step of a law that a residual program answers. -/
set_option maxRecDepth 100000
namespace Go.Proofs.Ytelpkjellakigaa
open Go Go.ChangeShapes Go.WideShapes Go.ChangeAt Go.RowKit Go.Deep

/-- what every argument of a type meets -/
def Ty.wf : (t : Ty) → t.den → Prop
  | .int k, n => (Lit.int k n).wf = true
  | .bool, _ => True
  | .str, s => List.length s ≤ maxLen
  | .list t, xs => List.length xs ≤ maxLen ∧ ∀ x ∈ (xs : List t.den), t.wf x
  | .unit, _ => True
  | .pair a b, x => a.wf x.1 ∧ b.wf x.2
  | .agg t, x => t.wf x
  | .ptr _, _ => False
def prB (t : Ty) (f : Ty → Ty → Bool) : Bool := match t with
  | .pair x y => f x y
  | _ => false
def unB (t : Ty) : Bool := match t with
  | .unit => true
  | _ => false
theorem prB_ok {t : Ty} {f : Ty → Ty → Bool} (h : prB t f = true) : ∃ x y, t = .pair x y ∧ f x y = true := by
  unfold prB at h
  split at h
  · exact ⟨_, _, rfl, h⟩
  · cases h
theorem unB_ok {t : Ty} (h : unB t = true) : t = .unit := by
  unfold unB at h
  split at h
  · rfl
  · cases h
def fsB (g : TypeId → Ty → Bool) : List Field → Nat → Ty → Bool
  | [], _, t => unB t
  | [a], o, t => Nat.beq a.offset o && g a.type t
  | a :: b :: l, o, t => prB t fun x y => Nat.beq a.offset o && g a.type x && fsB g (b :: l) (o + x.size) y
def arB (g : Ty → Bool) : Nat → Ty → Bool
  | 0, t => unB t
  | 1, t => g t
  | n + 2, t => prB t fun x y => g x && arB g (n + 1) y
def intB (k : IntKind) (t : Ty) : Bool := match t with
  | .int k' => decide (k' = k)
  | _ => false
def boolB (t : Ty) : Bool := match t with
  | .bool => true
  | _ => false
def strB (t : Ty) : Bool := match t with
  | .str => true
  | _ => false
def sliceB (g : Ty → Bool) (t : Ty) : Bool := match t with
  | .list t' => g t' && Nat.blt 0 t'.size
  | _ => false
/-- a type as the program has it -/
def tyB (P : Program) : Nat → TypeId → Ty → Bool
  | 0, _, _ => false
  | f + 1, tid, t => Nat.beq (P.cellsOf tid) t.size && (match P.underlying tid with
    | some (.int k) => intB k t
    | some .bool => boolB t
    | some .string => strB t
    | some (.slice e) => sliceB (tyB P f e) t
    | some (.struct ⟨fs⟩) => fsB (tyB P f) fs 0 t
    | some (.array n e) => arB (tyB P f e) n t
    | _ => false)
section
variable {H : Type} {enc : TypeId × Value → H} {P : Program} {w : World} {base : Nat} {spare : Nat → Bool} {held : Bool}
abbrev ReadsT (w : World) (t : Ty) (cs : List Value) : Prop := Reads w t.size (t.cells false) t.wf cs
theorem tyB_size {f : Nat} {tid : TypeId} {t : Ty} (h : tyB P f tid t = true) : P.cellsOf tid = t.size := by
  cases f with
  | zero => cases h
  | succ f => rw [tyB, Bool.and_eq_true] at h; exact Nat.eq_of_beq_eq_true h.1
theorem ReadsT.pair {a b : Ty} {c d : List Value} (h : ReadsT w a c) (k : ReadsT w b d) (hl : c.length = a.size) : ReadsT w (.pair a b) (c ++ d) := by
  obtain ⟨x, x1, x2, x3⟩ := h
  obtain ⟨y, y1, y2, y3⟩ := k
  refine ⟨(x, y), ⟨x1, y1⟩, Ty.cells_length _ _ _, fun j v u hv hu => ?_⟩
  rw [Ty.cells] at hv
  by_cases hj : j < a.size
  · rw [List.getElem?_append_left (by rw [x2]; exact hj)] at hv
    rw [List.getElem?_append_left (by omega)] at hu
    exact x3 j v u hv hu
  · rw [List.getElem?_append_right (by rw [x2]; omega), x2] at hv
    rw [List.getElem?_append_right (by omega), hl] at hu
    exact y3 _ v u hv hu
theorem ReadsT.unit : ReadsT w .unit [] := ⟨(), trivial, rfl, fun j a u h _ => by simp [Ty.cells] at h⟩
theorem fs_reads {g : TypeId → Ty → Bool} (hg : ∀ (tid : TypeId) (t : Ty) (n : Nat) (cs : List Value) (x : DataW H × List MemPlace), g tid t = true → cs.length = t.size → DataW.trod enc P w base spare held n tid cs = some x → ReadsT w t cs) (hsz : ∀ tid t, g tid t = true → P.cellsOf tid = t.size) {cs : List Value} :
    ∀ (l : List Field) (o : Nat) (t : Ty), fsB g l o t = true → (∀ a ∈ l, ∃ n y, DataW.trod enc P w base spare held n a.type ((cs.drop a.offset).take (P.cellsOf a.type)) = some y) → o + t.size ≤ cs.length → ReadsT w t ((cs.drop o).take t.size)
  | [], o, t, h, _, _ => by
    rw [unB_ok h, show Ty.unit.size = 0 from rfl, List.take_zero]; exact .unit
  | [a], o, t, h, hr, hl => by
    rw [fsB, Bool.and_eq_true] at h
    obtain ⟨n, y, hy⟩ := hr a (by simp)
    rw [Nat.eq_of_beq_eq_true h.1, hsz _ _ h.2] at hy
    exact hg _ _ n _ y h.2 (by rw [List.length_take, List.length_drop]; omega) hy
  | a :: b :: l, o, t, h, hr, hl => by
    obtain ⟨x, y, rfl, h'⟩ := prB_ok h
    clear h
    have h := h'
    clear h'
    rw [Bool.and_eq_true, Bool.and_eq_true] at h
    obtain ⟨n, z, hz⟩ := hr a (by simp)
    rw [Nat.eq_of_beq_eq_true h.1.1, hsz _ _ h.1.2] at hz
    have hs : (Ty.pair x y).size = x.size + y.size := rfl
    rw [hs] at hl
    have h1 := hg _ _ n _ z h.1.2 (by rw [List.length_take, List.length_drop]; omega) hz
    have h2 := fs_reads hg hsz (b :: l) (o + x.size) y h.2 (fun a ha => hr a (List.mem_cons_of_mem _ ha)) (by omega)
    rw [hs, List.take_add, List.drop_drop]
    exact h1.pair h2 (by rw [List.length_take, List.length_drop]; omega)
theorem ar_reads {g : Ty → Bool} {e : TypeId} (hg : ∀ (t : Ty) (n : Nat) (cs : List Value) (x : DataW H × List MemPlace), g t = true → cs.length = t.size → DataW.trod enc P w base spare held n e cs = some x → ReadsT w t cs) (hsz : ∀ t, g t = true → P.cellsOf e = t.size) {cs : List Value} :
    ∀ (k o : Nat) (t : Ty), arB g k t = true → (∀ i, i < k → ∃ n y, DataW.trod enc P w base spare held n e ((cs.drop (o + i * P.cellsOf e)).take (P.cellsOf e)) = some y) → o + t.size ≤ cs.length → ReadsT w t ((cs.drop o).take t.size)
  | 0, o, t, h, _, _ => by
    rw [unB_ok h, show Ty.unit.size = 0 from rfl, List.take_zero]; exact .unit
  | 1, o, t, h, hr, hl => by
    rw [arB] at h
    obtain ⟨n, y, hy⟩ := hr 0 (by omega)
    rw [hsz _ h, Nat.zero_mul, Nat.add_zero] at hy
    exact hg _ n _ y h (by rw [List.length_take, List.length_drop]; omega) hy
  | k + 2, o, t, h, hr, hl => by
    obtain ⟨x, y, rfl, h'⟩ := prB_ok h
    clear h
    have h := h'
    clear h'
    rw [Bool.and_eq_true] at h
    obtain ⟨n, z, hz⟩ := hr 0 (by omega)
    rw [hsz _ h.1, Nat.zero_mul, Nat.add_zero] at hz
    have hs : (Ty.pair x y).size = x.size + y.size := rfl
    rw [hs] at hl
    have h1 := hg _ n _ z h.1 (by rw [List.length_take, List.length_drop]; omega) hz
    have h2 := ar_reads hg hsz (k + 1) (o + x.size) y h.2 (fun i hi => by
      obtain ⟨n, z, hz⟩ := hr (i + 1) (by omega)
      refine ⟨n, z, ?_⟩
      rw [← hz, ← hsz _ h.1, Nat.add_mul, Nat.one_mul, Nat.add_assoc, Nat.add_comm (P.cellsOf e)]) (by omega)
    rw [hs, List.take_add, List.drop_drop]
    exact h1.pair h2 (by rw [List.length_take, List.length_drop]; omega)
theorem ro_len {own : Nat → Prop} {bs sz : Nat} {fr : Bool} {rows : List (List AV)} {v : Value} (h : RelD w own bs (.ro fr sz rows) v) : rows.length ≤ maxLen := by
  cases h with
  | ro fr sz rows A c f hc hm h0 h1 h2 => omega
theorem one_cell {cs : List Value} (h : cs.length = 1) : ∃ u, cs = [u] := by match cs, h with | [u], _ => exact ⟨u, rfl⟩
theorem reads_ty : ∀ (f : Nat) (tid : TypeId) (t : Ty) (n : Nat) (cs : List Value) (x : DataW H × List MemPlace), tyB P f tid t = true → cs.length = t.size → DataW.trod enc P w base spare held n tid cs = some x → ReadsT w t cs
  | 0, _, _, _, _, _, h, _, _ => by cases h
  | f + 1, tid, t, n, cs, x, h, hl, hx => by
    have hsize := tyB_size h
    rw [tyB, Bool.and_eq_true] at h
    obtain ⟨_, h⟩ := h
    split at h
    · rename_i k hu
      unfold intB at h
      split at h
      · have hk := of_decide_eq_true h
        subst hk
        obtain ⟨m, rfl, _, hwf⟩ := DataW.trod_int hu hx
        refine ⟨m, hwf, rfl, fun j a u ha hu => ?_⟩
        match j with
        | 0 => simp [Ty.cells] at ha hu; subst ha; subst hu; exact .int _ _
        | j + 1 => simp [Ty.cells] at ha
      · cases h
    · rename_i hu
      unfold boolB at h
      split at h
      · obtain ⟨m, rfl, _⟩ := DataW.trod_bool hu hx
        refine ⟨m, trivial, rfl, fun j a u ha hu => ?_⟩
        match j with
        | 0 => simp [Ty.cells] at ha hu; subst ha; subst hu; exact .bool _
        | j + 1 => simp [Ty.cells] at ha
      · cases h
    · rename_i hu
      unfold strB at h
      split at h
      · obtain ⟨s, rfl, _, hs⟩ := DataW.trod_string hu hx
        refine ⟨s.data.toList, by rw [Ty.wf, Array.length_toList]; exact hs, rfl, fun j a u ha hu => ?_⟩
        match j with
        | 0 => simp [Ty.cells] at ha hu; subst ha; subst hu; exact .str _
        | j + 1 => simp [Ty.cells] at ha
      · cases h
    · rename_i e hu
      unfold sliceB at h
      split at h
      · rename_i _ t' _
        rw [Bool.and_eq_true] at h
        have hpos : 0 < t'.size := Nat.le_of_ble_eq_true h.2
        obtain ⟨v, rfl⟩ := one_cell hl
        obtain ⟨xs, hw, hr⟩ := ro_slice (t'.cells false) t'.wf hu (tyB_size h.1) hpos (fun m cs x hl hx => reads_ty f e t' m cs x h.1 hl hx) hx
        refine ⟨xs, ⟨?_, hw⟩, rfl, fun j a u ha hu => ?_⟩
        · have := ro_len hr
          rw [List.length_map] at this
          exact this
        match j with
        | 0 => simp [Ty.cells] at ha hu; subst ha; subst hu; exact hr
        | j + 1 => simp [Ty.cells] at ha
      · cases h
    · rename_i fs hu
      obtain ⟨xs, m, _, _, _, hxl, hat⟩ := DataW.trod_struct hu hx
      have := fs_reads (cs := cs) (fun tid t n cs x h1 h2 h3 => reads_ty f tid t n cs x h1 h2 h3) (fun tid t h => tyB_size h) fs 0 t h (fun a ha => by
        obtain ⟨i, hi⟩ := List.mem_iff_getElem?.1 ha
        have hi' : i < xs.length := by rw [hxl]; exact (List.getElem?_eq_some_iff.1 hi).1
        exact ⟨m, _, by rw [hat i a (by simpa using hi), List.getElem?_eq_getElem hi']⟩) (by omega)
      rw [List.drop_zero, List.take_of_length_le (by omega)] at this
      exact this
    · rename_i k e hu
      obtain ⟨xs, m, _, _, _, hxl, hat⟩ := DataW.trod_array hu hx
      have := ar_reads (cs := cs) (e := e) (fun t n cs x h1 h2 h3 => reads_ty f e t n cs x h1 h2 h3) (fun t h => tyB_size h) k 0 t h (fun i hi => by
        have hi' : i < xs.length := by rw [hxl]; exact hi
        exact ⟨m, _, by rw [Nat.zero_add, hat i hi, List.getElem?_eq_getElem hi']⟩) (by omega)
      rw [List.drop_zero, List.take_of_length_le (by omega)] at this
      exact this
    · cases h
/-! ### Arguments -/
def aggP (P : Program) (tid : TypeId) : Bool := match P.underlying tid with
  | some (.struct _) => true
  | some (.array _ _) => true
  | _ => false
def cellP (P : Program) (tid : TypeId) : Bool := match P.underlying tid with
  | some (.int _) => true
  | some .bool => true
  | some .string => true
  | some (.slice _) => true
  | _ => false
def argB (P : Program) (tid : TypeId) (a : Ty) : Bool := match a with
  | .agg t => tyB P 9 tid t && aggP P tid
  | .int k => tyB P 9 tid (.int k) && cellP P tid
  | .bool => tyB P 9 tid .bool && cellP P tid
  | .str => tyB P 9 tid .str && cellP P tid
  | .list t => tyB P 9 tid (.list t) && cellP P tid
  | _ => false
def argsB (P : Program) : List TypeId → Ty → Bool
  | [], t => unB t
  | tid :: l, t => prB t fun a b => argB P tid a && argsB P l b
theorem okWide_arr {n b : Nat} {r : Go.Reach} {t e : TypeId} {v : Value} (ht : P.underlying t = some (.array n e)) (h : Value.okWide P w r b t v) : ∃ cs, v = .agg cs ∧ cs.size = P.cellsOf t := by
  simp only [Value.okWide, ht] at h
  obtain ⟨cs, h1, h2, _⟩ := h
  exact ⟨cs, h1, h2⟩
theorem arg_agg {tid : TypeId} {t : Ty} {v : Value} {d : DataW H} {p : List MemPlace} {b : Nat} (h : tyB P 9 tid t = true) (ha : aggP P tid = true) (hv : Value.okWide P w .any b tid v) (hd : DataW.Trod enc P w base spare held tid v d p) : ∃ x : t.den, t.wf x ∧ RelV w (Gh.none w.heap.size) (.agg (t.cells false x)) v := by
  obtain ⟨cs, rfl, hs⟩ : ∃ cs, v = .agg cs ∧ cs.size = P.cellsOf tid := by
    unfold aggP at ha
    split at ha
    · rename_i h1; exact okWide_struct h1 hv
    · rename_i h1; exact okWide_arr h1 hv
    · cases ha
  obtain ⟨n, hd⟩ := hd
  have hl : cs.toList.length = t.size := by rw [← tyB_size h, ← hs]; simp
  obtain ⟨x, x1, x2, x3⟩ := reads_ty 9 tid t n cs.toList _ h hl hd
  exact ⟨x, x1, .agg _ _ (by rw [x2, ← hl]; simp) fun i a u ha hu => .dat (x3 i a u ha (by simpa using hu))⟩
theorem arg_cell {tid : TypeId} {t : Ty} {v : Value} {d : DataW H} {p : List MemPlace} {b : Nat} (h : tyB P 9 tid t = true) (hc : cellP P tid = true) (h1 : t.size = 1) (hv : Value.okWide P w .any b tid v) (hd : DataW.Trod enc P w base spare held tid v d p) : ∃ x : t.den, t.wf x ∧ ∀ a, (t.cells false x)[0]? = some a → RelV w (Gh.none w.heap.size) a v := by
  have hd : ∃ n, DataW.trod enc P w base spare held n tid [v] = some (d, p) := by
    unfold cellP at hc
    split at hc
    · rename_i hu
      obtain ⟨m, rfl⟩ := okWide_int hu hv
      exact hd
    · rename_i hu
      obtain ⟨m, rfl⟩ := okWide_bool hu hv
      exact hd
    · rename_i hu
      obtain ⟨m, rfl⟩ := okWide_string hu hv
      exact hd
    · rename_i hu
      obtain ⟨a, n, c, rfl⟩ := okWide_slice hu hv
      exact hd
    · cases hc
  obtain ⟨n, hd⟩ := hd
  obtain ⟨x, x1, x2, x3⟩ := reads_ty 9 tid t n [v] _ h (by rw [h1]; rfl) hd
  exact ⟨x, x1, fun a ha => .dat (x3 0 a v ha rfl)⟩
theorem arg_ty {tid : TypeId} {v : Value} {d : DataW H} {p : List MemPlace} {b : Nat} : ∀ {a : Ty}, argB P tid a = true → Value.okWide P w .any b tid v → DataW.Trod enc P w base spare held tid v d p → ∃ x : a.den, a.wf x ∧ RelV w (Gh.none w.heap.size) (a.av false x) v
  | .agg t, h, hv, hd => by
    rw [argB, Bool.and_eq_true] at h
    obtain ⟨x, h1, h2⟩ := arg_agg h.1 h.2 hv hd
    exact ⟨x, h1, by rw [Ty.av]; exact h2⟩
  | .int k, h, hv, hd => by
    rw [argB, Bool.and_eq_true] at h
    obtain ⟨x, h1, h2⟩ := arg_cell h.1 h.2 rfl hv hd
    exact ⟨x, h1, h2 _ rfl⟩
  | .bool, h, hv, hd => by
    rw [argB, Bool.and_eq_true] at h
    obtain ⟨x, h1, h2⟩ := arg_cell h.1 h.2 rfl hv hd
    exact ⟨x, h1, h2 _ rfl⟩
  | .str, h, hv, hd => by
    rw [argB, Bool.and_eq_true] at h
    obtain ⟨x, h1, h2⟩ := arg_cell h.1 h.2 rfl hv hd
    exact ⟨x, h1, h2 _ rfl⟩
  | .list t, h, hv, hd => by
    rw [argB, Bool.and_eq_true] at h
    obtain ⟨x, h1, h2⟩ := arg_cell h.1 h.2 rfl hv hd
    exact ⟨x, h1, h2 _ rfl⟩
  | .unit, h, _, _ => by cases h
  | .pair _ _, h, _, _ => by cases h
  | .ptr _, h, _, _ => by cases h
/-- values one by one -/
inductive RelsV (w : World) (G : Gh) : List AV → List Value → Prop
  | nil : RelsV w G [] []
  | cons {a : AV} {v : Value} {l : List AV} {m : List Value} (h : RelV w G a v) (k : RelsV w G l m) : RelsV w G (a :: l) (v :: m)
theorem RelsV.args {G : Gh} {l : List AV} {m : List Value} (h : RelsV w G l m) : ArgsV w G l m.toArray := by
  induction h with
  | nil => exact ⟨rfl, fun i a v ha hv => by simp at ha⟩
  | cons h k ih =>
    refine ⟨by have := ih.size; simp at this ⊢; exact this, fun i a v ha hv => ?_⟩
    cases i with
    | zero => simp at ha hv; subst ha; subst hv; exact h
    | succ i => exact ih.rel i a v (by simpa using ha) (by simpa using hv)
theorem args_ty {b : Nat} : ∀ {ts : List TypeId} {σ : Ty} {vs : List Value} {ds : List (DataW H)} {ps : List MemPlace}, argsB P ts σ = true → (∀ (j : Nat) t v, ts[j]? = some t → vs[j]? = some v → Value.okWide P w .any b t v) → DataW.TrodAll enc P w base spare held ts vs ds ps → ∃ x : σ.den, σ.wf x ∧ RelsV w (Gh.none w.heap.size) (σ.avs false x) vs
  | [], σ, vs, ds, ps, h, _, hA => by
    obtain ⟨rfl, rfl, rfl⟩ := trodAll_nil hA
    have e := unB_ok h
    subst e
    exact ⟨(), trivial, .nil⟩
  | tid :: l, σ, vs, ds, ps, h, hv, hA => by
    obtain ⟨v, vs, d, ds, p, q, rfl, rfl, rfl, h0, r0⟩ := trodAll_cons hA
    obtain ⟨a, c, rfl, h'⟩ := prB_ok h
    clear h
    have h := h'
    clear h'
    rw [Bool.and_eq_true] at h
    obtain ⟨x, x1, x2⟩ := arg_ty h.1 (hv 0 tid v rfl rfl) h0
    obtain ⟨y, y1, y2⟩ := args_ty h.2 (fun j t u ht hu => hv (j + 1) t u (by simpa using ht) (by simpa using hu)) r0
    exact ⟨(x, y), ⟨x1, y1⟩, by rw [Ty.avs]; exact .cons x2 y2⟩
end
/-- a law whose residual program answers true at all data -/
theorem law_any {H : Type} {enc : TypeId × Value → H} {F : Nat} {ts : List TypeId} {σ : Ty} {f : Nat → σ.den → Option (Bool × Unit)} {nm : Nat} (hc : CtrOk Try.prog F ⟨σ, .pair .bool .unit, f, nm⟩) (hB : argsB Try.prog ts σ = true) (hp : ∀ x : σ.den, σ.wf x → f FU x = some (true, ())) {W : World} {b : Nat} {args : List Value} {ds : List (DataW H)} {ps : List MemPlace}
    (hv : ∀ (j : Nat) t v, ts[j]? = some t → args[j]? = some v → Value.okWide Try.prog W .any b t v) (hA : DataW.TrodAll enc Try.prog W 0 (fun _ => true) true ts args ds ps) :
    Calls Try.prog F args.toArray W fun e W' => e = .returned (.bool true) ∧ Below W.heap.size W W' := by
  obtain ⟨x, hx, hr⟩ := args_ty hB hv hA
  exact AF.yes (hc FU x (true, ()) (hp x hx)) hr.args
end Go.Proofs.Ytelpkjellakigaa
/- A call that leaves no other goroutine: the sentence about those that are only leaving. No program in sight. -/
namespace Go.Proofs.Ytelpkjellakigaa
open Go
theorem quiet_leaving {P : Program} {m : Machine} (h : m.quiet) : m.OnlyLeaving P := by
  obtain ⟨h1, h2⟩ := h
  refine ⟨fun g hg => ⟨0, ?_⟩, h2⟩
  unfold Machine.othersDone at h1
  have h3 := List.all_eq_true.1 h1 g hg
  exact eq_of_beq h3
theorem leaving_of_handed {a : Go.Assume} {C : Go.Checked} {os : Go.Os} {f : FuncId} {r : Go.Reach} {Pre : World → Array Value → Prop} {Post : World → Array Value → Value → World → Prop}
    (h : ReturnsInHanded a C os f r Pre Post) : ReturnsInLeavingWide a C os f r Pre Post := fun enter => by
  obtain ⟨e1, own, started, wit, runs⟩ := h enter
  refine ⟨e1, own, started, wit, fun w tape i hi => ?_⟩
  obtain ⟨N, v, w', h1, h2, h3, h4, ⟨M, last, g1, g2, q, ho, eh⟩, h6⟩ := runs w tape i hi
  exact ⟨N, v, w', h1, h2, h3, h4, ⟨M, last, g1, g2, ho, quiet_leaving q, eh⟩, h6⟩
end Go.Proofs.Ytelpkjellakigaa
/- ScreenLattices: for every input this law returns true and leaves its arguments as they were. -/
namespace Go.Proofs.Ytelpkjellakigaa
open Go.ChangeShapes Go.WideShapes Go.ChangeAt Go.RowKit

set_option maxRecDepth 100000 in
theorem screenLattices_lifted (os : Os) (started : os.Started) (H : Type) (enc : TypeId × Value → H) :
    ReturnsInHanded {} Try.checked os 4 .any (Rows.screenLatticesSpec.pre6 enc Try.prog Try.f4 Rows.screenLatticesRow.domain false) (Rows.screenLatticesSpec.post enc Try.prog Try.f4 false true false false) := by
  refine law_lifted started (by kernel_rfl) Try.func4
    (ChangeSpec.witness6 (enc := enc) (C := Try.checked) false ⟨#[], #[.agg #[.int .i64 0, .int .i64 0, .int .i64 0], .agg #[.int .i64 0, .int .i64 0, .int .i64 0]], []⟩ 8 (by kernel_rfl) (by kernel_rfl) (by kernel_rfl) (by kernel_rfl)) rfl rfl (by kernel_rfl)
    (fun ds h => by rw [Try.params4] at h; match ds, h with | [_, _], _ => rfl) ?_
  intro W base args ds ps hval hA hsz hlt
  rw [Try.params4] at hA hval
  exact law_any law_ScreenLattices_ok (by kernel_rfl) ((fun x _ => Sc.screenLattices_r (Nat.le_of_eq FU_val.symm) x.1.1 x.1.2.1 x.1.2.2 x.2.1.1 x.2.1.2.1 x.2.1.2.2 rfl)) (fun j t v ht hv => hval j t v (by simpa using ht) hv) hA

theorem screenLattices_holds : Rows.ScreenLatticesSaid :=
  OpenClaim.holds_of_wide_leaving 4 Try.f4 rfl rfl rfl rfl rfl rfl rfl ⟨rfl, rfl, rfl, rfl, rfl⟩ rfl rfl rfl rfl rfl (by kernel_rfl) Try.func4 (by kernel_rfl)
    (of_decide_eq_true (by kernel_rfl)) (by unfold Func.isWrapper; first | (rw [if_pos (by decide +kernel)]; kernel_rfl) | (rw [if_neg (by decide +kernel)]; exact ⟨rfl, rfl⟩))
    (fun os started H enc _ => leaving_of_handed (screenLattices_lifted os started H enc))
end Go.Proofs.Ytelpkjellakigaa
