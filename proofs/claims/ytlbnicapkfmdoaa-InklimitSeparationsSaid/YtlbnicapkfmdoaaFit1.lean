/- curve.Fit: what it computes; the walk of its errors. -/
import Derived.Test.YtlbnicapkfmdoaaCurveTab
namespace Go.Proofs.Ytlbnicapkfmdoaa
open Go.RowKit

/-- the first fault of samples behind px -/
def fitScan (px : Int) : List (Int × Int) → Int
  | [] => 0
  | (x, y) :: r => if x < 0 ∨ 65280 < x ∨ y < 0 ∨ 65280 < y then 3 else if x ≤ px then 18 else fitScan x r
def fitE (ps : List (Int × Int)) : Int := if 31 < ps.length then 2 else if ps.length = 0 then 1 else fitScan (-1) ps
/-- a block joins the pool (the last block first) -/
def pushB : List (Int × Int) → Int × Int → List (Int × Int)
  | [], b => [b]
  | l :: r, b => if l.1 * b.2 ≤ b.1 * l.2 then b :: l :: r else pushB r (l.1 + b.1, l.2 + b.2)
/-- the pool behind samples -/
def poolB (ps : List (Int × Int)) : List (Int × Int) := ps.foldl (fun r p => pushB r (p.2, 1)) []
/-- the values of a pool's samples -/
def valsB (bs : List (Int × Int)) : List Int := bs.flatMap fun b => List.replicate b.2.toNat (rnd b.1 b.2)
def fitZ (ps : List (Int × Int)) : List (Int × Int) := List.zip (ps.map (·.1)) (valsB (poolB ps).reverse)
/-- a first and a last point are added -/
def fitEnds (l : List (Int × Int)) : List (Int × Int) :=
  let l1 := if 0 < (l.getD 0 (0, 0)).1 then (0, (l.getD 0 (0, 0)).2) :: l else l
  if (l1.getD (l1.length - 1) (0, 0)).1 < 65280 then l1 ++ [(65280, (l1.getD (l1.length - 1) (0, 0)).2)] else l1
def fitL (ps : List (Int × Int)) : List (Int × Int) := fitEnds (fitZ ps)

theorem fscan_out {px x y : Int} {r : List (Int × Int)} (h : x < 0 ∨ 65280 < x ∨ y < 0 ∨ 65280 < y) : fitScan px ((x, y) :: r) = 3 := if_pos h
theorem fscan_order {px x y : Int} {r : List (Int × Int)} (h : ¬ (x < 0 ∨ 65280 < x ∨ y < 0 ∨ 65280 < y)) (h' : x ≤ px) : fitScan px ((x, y) :: r) = 18 := by
  unfold fitScan; rw [if_neg h, if_pos h']
theorem fscan_on {px x y : Int} {r : List (Int × Int)} (h : ¬ (x < 0 ∨ 65280 < x ∨ y < 0 ∨ 65280 < y)) (h' : ¬ x ≤ px) : fitScan px ((x, y) :: r) = fitScan x r := by
  rw [fitScan, if_neg h, if_neg h']
theorem fitE_scan {ps : List (Int × Int)} {s : Int} (h0 : ps.length ≤ 31) (h2 : 1 ≤ ps.length) (hs : fitScan (-1) ps = s) : fitE ps = s := by
  unfold fitE; rw [if_neg (by omega), if_neg (by omega), hs]

/-- what a call leaves: a curve and an error -/
def OutCurve (ps : List (Int × Int)) (err : Int) (w : World) (e : Ending) (w' : World) : Prop :=
  ∃ A c, e = .returned (.tuple #[.agg #[.slice A ps.length c], .int .i64 err]) ∧ Pts w' A ps ∧ Below w.heap.size w w'
theorem outCurve_nil {err : Int} {w w' : World} (h : Below w.heap.size w w') : OutCurve [] err w (.returned (.tuple #[.agg #[.slice none 0 0], .int .i64 err])) w' :=
  ⟨none, 0, rfl, Pts.nil _ _, h⟩

set_option maxRecDepth 100000 in
set_option maxHeartbeats 4000000 in
theorem fit_bad (A : Option Addr) (ps : List (Int × Int)) (c : Nat) (w : World) (hl : ps.length ≤ maxLen) (h : Pts w A ps) (hbad : fitE ps ≠ 0) :
    Calls Try.prog 47 #[.slice A ps.length c] w (OutCurve [] (fitE ps) w) := by
  unfold maxLen at hl
  by_cases h0 : 31 < ps.length
  · have hE := Lib.hid (show fitE ps = 2 from if_pos h0)
    clear hbad
    go_enter Try.func47, Try.ntmps47
    go_wp2
    refine bodyPost_ret (v := .tuple #[.agg #[.slice none 0 0], .int .i64 2]) (by simp [results, Try.results47, go_sem]) rfl ?_
    rw [hE.out]
    exact outCurve_nil (by repeat (first | assumption | exact Below.refl _ _ | refine below_drewN ?_ _ | refine Below.drew ?_ | refine Below.setCell ?_ (by first | exact Nat.le_refl _ | assumption | (simp; done) | (simp; omega) | omega) _ | refine Below.alloc ?_ (by first | exact Nat.le_refl _ | assumption | (simp; done) | (simp; omega)) _))
  by_cases h2 : ps.length = 0
  · have hE := Lib.hid (show fitE ps = 1 from (if_neg h0).trans (if_pos h2))
    have hb : ((ps.length : Int) == 0) = true := by simp [h2]
    clear hbad
    have H2 := Lib.hid h2
    clear h2
    go_enter Try.func47, Try.ntmps47
    go_wp2
    refine bodyPost_ret (v := .tuple #[.agg #[.slice none 0 0], .int .i64 1]) (by simp [results, Try.results47, go_sem]) rfl ?_
    rw [hE.out]
    exact outCurve_nil (by repeat (first | assumption | exact Below.refl _ _ | refine below_drewN ?_ _ | refine Below.drew ?_ | refine Below.setCell ?_ (by first | exact Nat.le_refl _ | assumption | (simp; done) | (simp; omega) | omega) _ | refine Below.alloc ?_ (by first | exact Nat.le_refl _ | assumption | (simp; done) | (simp; omega)) _))
  have h0 : ps.length ≤ 31 := by omega
  have h2' : 1 ≤ ps.length := by omega
  have hb : ((ps.length : Int) == 0) = false := by rw [beq_eq_false_iff_ne]; omega
  have hs := fitE_scan h0 h2' rfl
  rw [hs] at hbad
  have HS0 := Lib.hid hs
  have HB := Lib.hid hbad
  clear hbad hs h2
  go_enter Try.func47, Try.ntmps47
  go_wp2
  go_loopg [4, 5, 28] ps.length (fun gk _ _ i wr => ∃ (k : Nat) (px py : Int), k + gk = ps.length ∧ i = .int .i64 k ∧ Below w.heap.size w wr ∧ wr.cell? ⟨w.heap.size, 0, none⟩ = some (.slice none 0 0) ∧ wr.frozen? ⟨w.heap.size, 0, none⟩ = false ∧
      Hid (fitScan (-1) ps = fitScan px (ps.drop k)) ∧ Hid (k = 0 ∧ px = -1 ∨ 0 < k ∧ ps[k - 1]? = some (px, py)))
  case atStart => exact ⟨0, -1, 0, by omega, rfl, (Below.refl _ _).alloc (Nat.le_refl _) _, by simp [go_sem], by simp [go_sem], rfl, .inl ⟨rfl, rfl⟩⟩
  case round =>
    obtain ⟨k, px, py, hgk, rfl, hbel, hbox, hfz, hscan, hprev⟩ := hrel
    have hBw := hbel.size
    have hw1 : w.heap.size < wr.heap.size := lt_of_cell hbox
    by_cases hlt : k < ps.length
    · obtain ⟨b, o, x, y, rfl, hx, hc, hd⟩ := (h.kept hbel).at hlt
      have hw2 : b < wr.heap.size := lt_of_cell hc
      have hS := hscan.out
      rw [drop_at hx.out] at hS
      have HG := Lib.hid hgk
      clear hgk
      by_cases hr : x < 0 ∨ 65280 < x ∨ y < 0 ∨ 65280 < y
      · rw [fscan_out hr] at hS
        have hE := Lib.hid (HS0.out.trans hS)
        have HI := Lib.hid h
        clear h hS
        rcases (show x < 0 ∨ (0 ≤ x ∧ 65280 < x) ∨ (0 ≤ x ∧ x ≤ 65280 ∧ y < 0) ∨ (0 ≤ x ∧ x ≤ 65280 ∧ 0 ≤ y ∧ 65280 < y) by omega) with g | ⟨g1, g2⟩ | ⟨g1, g2, g3⟩ | ⟨g1, g2, g3, g4⟩
        all_goals
          clear hr
          go_wp2
          refine bodyPost_ret (v := .tuple #[.agg #[.slice none 0 0], .int .i64 3]) (by simp [results, Try.results47, go_sem, hbox, hw1]) rfl ?_
          rw [hE.out]
          exact outCurve_nil (by repeat (first | assumption | exact Below.refl _ _ | refine below_drewN ?_ _ | refine Below.drew ?_ | refine Below.setCell ?_ (by first | exact Nat.le_refl _ | assumption | (simp; done) | (simp; omega) | omega) _ | refine Below.alloc ?_ (by first | exact Nat.le_refl _ | assumption | (simp; done) | (simp; omega)) _))
      · obtain ⟨g1, g2, g3, g4⟩ : 0 ≤ x ∧ x ≤ 65280 ∧ 0 ≤ y ∧ y ≤ 65280 := by omega
        by_cases hk0 : k = 0
        · subst hk0
          rcases hprev.out with ⟨_, rfl⟩ | ⟨h', _⟩
          · rw [fscan_on hr (by omega)] at hS
            have HS := Lib.hid hS
            have HI := Lib.hid h
            clear h hS hr
            simp only [Nat.zero_mul, Nat.add_zero] at hc hd
            go_wp2
            go_quiet (fail)
            go_wp2
            go_roundg (gk - 1)
            case measure => have := HG.out; omega
            case rel => exact ⟨1, x, y, by have := HG.out; omega, by go_num, below_drewN (hbel.alloc hBw _) _, cell_kept (below_drewN ((Below.refl _ _).alloc (Nat.le_refl _) _) _) hbox, ((below_drewN ((Below.refl _ wr).alloc (Nat.le_refl _) _) _).frozen hw1).trans hfz, HS.out, .inr ⟨by omega, hx.out⟩⟩
          · omega
        · have hprev' : ps[k - 1]? = some (px, py) := by
            rcases hprev.out with ⟨h', _⟩ | ⟨_, h'⟩
            · omega
            · exact h'
          obtain ⟨qx, qy, hq, hqc, hqd⟩ := (h.kept hbel).same (i := k - 1) (by omega)
          obtain ⟨rfl, rfl⟩ : qx = px ∧ qy = py := by
            have := hq.out.symm.trans hprev'
            simpa using this
          have hd0 : decide (0 < k) = true := by simp; omega
          have hkp : 1 ≤ (k : Int) := by omega
          have hkq : (k : Int) < ps.length := by omega
          have HP := Lib.hid hprev'
          have HI := Lib.hid h
          clear h hprev' hprev
          by_cases ho : x ≤ qx
          · rw [fscan_order hr ho] at hS
            have hE := Lib.hid (HS0.out.trans hS)
            clear hS hr hq
            have e3 : decide (x ≤ qx) = true := by simp [ho]
            go_wp2
            go_quiet (fail)
            go_wp2
            refine bodyPost_ret (v := .tuple #[.agg #[.slice none 0 0], .int .i64 18]) (by simp [results, Try.results47, go_sem, hbox, hw1]) rfl ?_
            rw [hE.out]
            exact outCurve_nil (by repeat (first | assumption | exact Below.refl _ _ | refine below_drewN ?_ _ | refine Below.drew ?_ | refine Below.setCell ?_ (by first | exact Nat.le_refl _ | assumption | (simp; done) | (simp; omega) | omega) _ | refine Below.alloc ?_ (by first | exact Nat.le_refl _ | assumption | (simp; done) | (simp; omega)) _))
          · rw [fscan_on hr ho] at hS
            have HS := Lib.hid hS
            have e1 : qx < x := by omega
            have e3 : decide (x ≤ qx) = false := by simp; omega
            clear hS hr hq ho
            go_wp2
            go_quiet (fail)
            go_wp2
            go_roundg (gk - 1)
            case measure => have := HG.out; omega
            case rel => exact ⟨k + 1, x, y, by have := HG.out; omega, by go_num, below_drewN (hbel.alloc hBw _) _, cell_kept (below_drewN ((Below.refl _ _).alloc (Nat.le_refl _) _) _) hbox, ((below_drewN ((Below.refl _ wr).alloc (Nat.le_refl _) _) _).frozen hw1).trans hfz, HS.out, .inr ⟨by omega, hx.out⟩⟩
    · obtain rfl : k = ps.length := by omega
      have hS := hscan.out
      rw [List.drop_length] at hS
      exact absurd (hS.trans rfl) HB.out
end Go.Proofs.Ytlbnicapkfmdoaa
