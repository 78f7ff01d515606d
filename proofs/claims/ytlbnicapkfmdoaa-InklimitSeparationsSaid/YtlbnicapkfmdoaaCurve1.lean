/- Walks of curve.Check and of the reference's CurveErr: both give curveE. -/
import Derived.Test.YtlbnicapkfmdoaaMem2
namespace Go.Proofs.Ytlbnicapkfmdoaa
open Go.RowKit

/-- the first fault of the points behind (px, py) -/
def curveScan (px py : Int) : List (Int × Int) → Int
  | [] => 0
  | (x, y) :: r => if x < 0 ∨ 65280 < x ∨ y < 0 ∨ 65280 < y then 3 else if x ≤ px ∨ y < py then 18 else curveScan x y r
/-- the error of a curve -/
def curveE (ps : List (Int × Int)) : Int :=
  if 33 < ps.length then 2 else if ps.length < 2 then 1 else if curveScan (-1) 0 ps ≠ 0 then curveScan (-1) 0 ps
    else if (ps.getD 0 (0, 0)).1 ≠ 0 ∨ (ps.getD (ps.length - 1) (0, 0)).1 ≠ 65280 then 4 else 0
theorem scan_out {px py x y : Int} {r : List (Int × Int)} (h : x < 0 ∨ 65280 < x ∨ y < 0 ∨ 65280 < y) : curveScan px py ((x, y) :: r) = 3 := if_pos h
theorem scan_order {px py x y : Int} {r : List (Int × Int)} (h : ¬ (x < 0 ∨ 65280 < x ∨ y < 0 ∨ 65280 < y)) (h' : x ≤ px ∨ y < py) : curveScan px py ((x, y) :: r) = 18 := by
  unfold curveScan; rw [if_neg h, if_pos h']
theorem scan_on {px py x y : Int} {r : List (Int × Int)} (h : ¬ (x < 0 ∨ 65280 < x ∨ y < 0 ∨ 65280 < y)) (h' : ¬ (x ≤ px ∨ y < py)) : curveScan px py ((x, y) :: r) = curveScan x y r := by
  rw [curveScan, if_neg h, if_neg h']
theorem drop_at {α : Type} {l : List α} {k : Nat} {x : α} (h : l[k]? = some x) : l.drop k = x :: l.drop (k + 1) := by
  obtain ⟨hk, rfl⟩ := List.getElem?_eq_some_iff.1 h
  exact List.drop_eq_getElem_cons hk
theorem getD_at {α : Type} {l : List α} {k : Nat} {x d : α} (h : l[k]? = some x) : l.getD k d = x := by
  simp [List.getD, h]
theorem curveE_scan {ps : List (Int × Int)} {s : Int} (h0 : ps.length ≤ 33) (h2 : 2 ≤ ps.length) (hs : curveScan (-1) 0 ps = s) (h : s ≠ 0) : curveE ps = s := by
  unfold curveE; rw [if_neg (by omega), if_neg (by omega), hs, if_pos h]
theorem curveE_ends {ps : List (Int × Int)} {p q : Int × Int} (h0 : ps.length ≤ 33) (h2 : 2 ≤ ps.length) (hs : curveScan (-1) 0 ps = 0) (hp : ps[0]? = some p) (hq : ps[ps.length - 1]? = some q) :
    curveE ps = if p.1 ≠ 0 ∨ q.1 ≠ 65280 then 4 else 0 := by
  unfold curveE; rw [if_neg (by omega), if_neg (by omega), if_neg (by omega), getD_at hp, getD_at hq]

set_option maxHeartbeats 4000000 in
theorem ccheck_any (A : Option Addr) (ps : List (Int × Int)) (c : Nat) (w : World) (hl : ps.length ≤ maxLen) (h : Pts w A ps) :
    Calls Try.prog 44 #[.agg #[.slice A ps.length c]] w fun e w' => e = .returned (.int .i64 (curveE ps)) ∧ Below w.heap.size w w' := by
  unfold maxLen at hl
  by_cases h0 : 33 < ps.length
  · have hE := Lib.hid (show curveE ps = 2 from if_pos h0)
    go_enter Try.func44, Try.ntmps44
    go_wp2
    go_ret
    exact ⟨ret_int hE.out.symm, (Below.refl _ _).alloc (Nat.le_refl _) _⟩
  by_cases h2 : ps.length < 2
  · have hE := Lib.hid (show curveE ps = 1 from (if_neg h0).trans (if_pos h2))
    go_enter Try.func44, Try.ntmps44
    go_wp2
    go_ret
    exact ⟨ret_int hE.out.symm, (Below.refl _ _).alloc (Nat.le_refl _) _⟩
  have h0 : ps.length ≤ 33 := by omega
  have h2 : 2 ≤ ps.length := by omega
  go_enter Try.func44, Try.ntmps44
  go_wp2
  go_loopw [4, 5, 18] (fun _ _ i wr => ∃ (k : Nat) (px py : Int), k ≤ ps.length ∧ i = .int .i64 k ∧ Below w.heap.size w wr ∧ wr.cell? ⟨w.heap.size, 0, none⟩ = some (.slice A ps.length c) ∧
      Hid (curveScan (-1) 0 ps = curveScan px py (ps.drop k)) ∧ Hid (k = 0 ∧ px = -1 ∧ py = 0 ∨ 0 < k ∧ ps[k - 1]? = some (px, py))) (fun _ _ i _ => ps.length - (intOf i).toNat)
  case atStart => exact ⟨0, -1, 0, Nat.zero_le _, rfl, (Below.refl _ _).alloc (Nat.le_refl _) _, by simp, rfl, .inl ⟨rfl, rfl, rfl⟩⟩
  case round =>
    obtain ⟨k, px, py, hk, rfl, hbel, hbox, hscan, hprev⟩ := hrel
    have hBw := hbel.size
    have hw1 : w.heap.size < wr.heap.size := lt_of_cell hbox
    by_cases hlt : k < ps.length
    · obtain ⟨b, o, x, y, rfl, hx, hc, hd⟩ := (h.kept hbel).at hlt
      have hw2 : b < wr.heap.size := lt_of_cell hc
      have hS := hscan.out
      rw [drop_at hx.out] at hS
      by_cases hr : x < 0 ∨ 65280 < x ∨ y < 0 ∨ 65280 < y
      · rw [scan_out hr] at hS
        have hE := Lib.hid (curveE_scan h0 h2 hS (by omega))
        have HI := Lib.hid h
        clear h hS
        rcases (show x < 0 ∨ (0 ≤ x ∧ 65280 < x) ∨ (0 ≤ x ∧ x ≤ 65280 ∧ y < 0) ∨ (0 ≤ x ∧ x ≤ 65280 ∧ 0 ≤ y ∧ 65280 < y) by omega) with g | ⟨g1, g2⟩ | ⟨g1, g2, g3⟩ | ⟨g1, g2, g3, g4⟩
        all_goals
          clear hr
          go_wp2
          go_ret
          exact ⟨ret_int hE.out.symm, hbel.alloc hBw _⟩
      · obtain ⟨g1, g2, g3, g4⟩ : 0 ≤ x ∧ x ≤ 65280 ∧ 0 ≤ y ∧ y ≤ 65280 := by omega
        by_cases hk0 : k = 0
        · subst hk0
          rcases hprev.out with ⟨_, rfl, rfl⟩ | ⟨h', _⟩
          · rw [scan_on hr (by omega)] at hS
            have HS := Lib.hid hS
            have HI := Lib.hid h
            clear h hS hr
            simp only [Nat.zero_mul, Nat.add_zero] at hc hd
            go_wp2
            go_quiet (fail)
            go_wp2
            go_roundw
            case rel => exact ⟨1, x, y, by omega, by go_num, below_drewN (hbel.alloc hBw _) _, cell_kept (below_drewN ((Below.refl _ _).alloc (Nat.le_refl _) _) _) hbox, HS.out, .inr ⟨by omega, hx.out⟩⟩
            case measure => simp [intOf]; omega
          · omega
        · have hprev' : ps[k - 1]? = some (px, py) := by
            rcases hprev.out with ⟨h', _⟩ | ⟨_, h'⟩
            · omega
            · exact h'
          obtain ⟨qx, qy, hq, hqc, hqd⟩ := (h.kept hbel).same (i := k - 1) (by omega)
          obtain ⟨rfl, rfl⟩ : qx = px ∧ qy = py := by
            have := hq.out.symm.trans hprev'
            simpa using this
          have hkm : ((k - 1 : Nat) : Int) = (k : Int) - 1 := by omega
          have hd0 : decide (0 < k) = true := by simp; omega
          have hkp : 1 ≤ (k : Int) := by omega
          have hkq : (k : Int) < ps.length := by omega
          have HP := Lib.hid hprev'
          have HI := Lib.hid h
          clear h hprev' hprev
          have HK := Lib.hid hkm
          clear hkm
          by_cases ho : x ≤ qx ∨ y < qy
          · rw [scan_order hr ho] at hS
            have hE := Lib.hid (curveE_scan h0 h2 hS (by omega))
            clear hS hr hq
            rcases (show x ≤ qx ∨ (qx < x ∧ y < qy) by omega) with e1 | ⟨e1, e2⟩
            · have e3 : decide (x ≤ qx) = true := by simp [e1]
              clear ho
              go_wp2
              go_quiet (fail)
              go_wp2
              go_ret
              exact ⟨ret_int hE.out.symm, below_drewN (hbel.alloc hBw _) _⟩
            · have e3 : decide (x ≤ qx) = false := by simp; omega
              have e4 : decide (y < qy) = true := by simp [e2]
              clear ho
              go_wp2
              go_quiet (fail)
              go_wp2
              go_ret
              exact ⟨ret_int hE.out.symm, below_drewN (hbel.alloc hBw _) _⟩
          · rw [scan_on hr ho] at hS
            have HS := Lib.hid hS
            have e1 : qx < x := by omega
            have e2 : qy ≤ y := by omega
            have e3 : decide (x ≤ qx) = false := by simp; omega
            have e4 : decide (y < qy) = false := by simp; omega
            clear hS hr hq ho
            go_wp2
            go_quiet (fail)
            go_wp2
            go_roundw
            case rel => exact ⟨k + 1, x, y, by omega, by go_num, below_drewN (hbel.alloc hBw _) _, cell_kept (below_drewN ((Below.refl _ _).alloc (Nat.le_refl _) _) _) hbox, HS.out, .inr ⟨by omega, hx.out⟩⟩
            case measure => simp [intOf]; omega
    · obtain rfl : k = ps.length := by omega
      have hS := hscan.out
      rw [List.drop_length] at hS
      obtain ⟨b, o, x, y, rfl, hx, hc, hd⟩ := (h.kept hbel).at (i := 0) (by omega)
      obtain ⟨u, v, hu, huc, hud⟩ := (h.kept hbel).same (i := ps.length - 1) (by omega)
      have hE := Lib.hid (curveE_ends h0 h2 (hS.trans rfl) hx.out hu.out)
      simp only [Nat.zero_mul, Nat.add_zero] at hc hd
      have HI := Lib.hid h
      have HL := Lib.hid hprev
      have hkp : 1 ≤ (ps.length : Int) := by omega
      clear h hS hprev hscan hlt
      by_cases e1 : x = 0
      · subst e1
        by_cases e2 : u = 65280
        · subst e2
          go_wp2
          go_ret
          exact ⟨ret_int (hE.out.trans (if_neg (by simp))).symm, hbel⟩
        · have e3 : (u != 65280) = true := by simpa using e2
          have HN := Lib.hid e2
          clear e2
          go_wp2
          go_ret
          exact ⟨ret_int (hE.out.trans (if_pos (.inr HN.out))).symm, hbel⟩
      · have e3 : (x != 0) = true := by simpa using e1
        have HN := Lib.hid e1
        clear e1
        go_wp2
        go_ret
        exact ⟨ret_int (hE.out.trans (if_pos (.inl HN.out))).symm, hbel⟩
end Go.Proofs.Ytlbnicapkfmdoaa
