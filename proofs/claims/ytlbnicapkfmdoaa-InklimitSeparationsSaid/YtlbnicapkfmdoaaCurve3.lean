/- Walks of the reference's CurveAt and of curve.Raw. -/
import Derived.Test.YtlbnicapkfmdoaaCurvePlain
namespace Go.Proofs.Ytlbnicapkfmdoaa
open Go.RowKit

set_option maxHeartbeats 2000000 in
theorem rcurveAt_any (A : Option Addr) (ps : List (Int × Int)) (c : Nat) (x : Int) (w : World) (h : Pts w A ps) (hok : CurveOk ps) (hx0 : 0 ≤ x) (hx1 : x ≤ 65280) :
    Calls Try.prog 37 #[.agg #[.slice A ps.length c], .int .i64 x] w fun e w' => e = .returned (.int .i64 (curveAt ps x)) ∧ Below w.heap.size w w' := by
  obtain ⟨i, a, b, u, v, hi, hi', g1, g2, g3, g4⟩ := curveAt_first hok hx0 hx1
  have hin : i + 1 < ps.length := (List.getElem?_eq_some_iff.1 hi').1
  have hlm := hok.most
  have G3 := Lib.hid g3
  have G4 := Lib.hid g4
  clear g3 g4
  have HI := Lib.hid hi
  have HI' := Lib.hid hi'
  clear hi hi'
  have HOK := Lib.hid hok
  clear hok
  go_enter Try.func37, Try.ntmps37
  go_wp2
  go_loopg [5, 6, 7] ps.length (fun gk t _ _ wr => ∃ k : Nat, 1 ≤ k ∧ k ≤ i + 1 ∧ gk + k = ps.length + 1 ∧ t = .int .i64 k ∧ Below w.heap.size w wr ∧ wr.cell? ⟨w.heap.size, 0, none⟩ = some (.slice A ps.length c))
  case atStart => exact ⟨1, by omega, by omega, rfl, rfl, (Below.refl _ _).alloc (Nat.le_refl _) _, by simp⟩
  case round =>
    obtain ⟨k, hk1, hk2, hgk, rfl, hbel, hbox⟩ := hrel
    have hBw := hbel.size
    have hw1 : w.heap.size < wr.heap.size := lt_of_cell hbox
    obtain ⟨bb, o, p1, p2, rfl, hp, hc, hd⟩ := (h.kept hbel).at (i := k - 1) (by omega)
    obtain ⟨q1, q2, hq, hqc, hqd⟩ := (h.kept hbel).same (i := k) (by omega)
    have hw2 : bb < wr.heap.size := lt_of_cell hc
    have HH := Lib.hid h
    have HG := Lib.hid hgk
    clear h hgk
    have k1 : (0 : Int) ≤ (k : Int) - 1 := by omega
    have k2 : (k : Int) < ps.length := by omega
    go_upto_region 4 with fail
    go_cut [6, 7] from 8 to 50 (fun s6 s7 wx => ∃ g g' : Nat, s6 = .pointer (some ⟨g, 0, none⟩) ∧ s7 = .pointer (some ⟨g', 0, none⟩) ∧ Below wr.heap.size wr wx ∧ wx.cell? ⟨g, 0, none⟩ = some (.int .i64 p1) ∧ wx.cell? ⟨g, 1, none⟩ = some (.int .i64 p2) ∧ wx.cell? ⟨g', 0, none⟩ = some (.int .i64 q1) ∧ wx.cell? ⟨g', 1, none⟩ = some (.int .i64 q2))
    case first =>
      go_region
      all_goals
        go_wp2_with fail
        go_meet
        case rel => exact ⟨_, _, rfl, rfl, by repeat (first | exact Below.refl _ _ | refine Below.drew ?_ | refine Below.alloc ?_ (by simp) _), by simp [go_sem], by simp [go_sem], by simp [go_sem], by simp [go_sem]⟩
    case rest =>
      obtain ⟨g, g', rfl, rfl, hbc, c1, c2, c3, c4⟩ := hcut
      have hbox2 := cell_kept hbc hbox
      have hbel2 := hbel.trans (hbc.mono hBw)
      by_cases hle : x ≤ q1
      · have hki : k = i + 1 := by
          rcases Nat.lt_or_ge k (i + 1) with hlt | hge
          · have := HOK.out.le (i := k) (j := i) (by omega) hq.out HI.out
            have := G3.out
            omega
          · omega
        subst hki
        obtain ⟨rfl, rfl⟩ : p1 = a ∧ p2 = b := by have := hp.out.symm.trans HI.out; simpa using this
        obtain ⟨rfl, rfl⟩ : q1 = u ∧ q2 = v := by have := hq.out.symm.trans HI'.out; simpa using this
        have b1 := HOK.out.bd _ _ _ HI.out
        have b2 := HOK.out.bd _ _ _ HI'.out
        have b3 := HOK.out.step _ _ _ _ _ HI.out HI'.out
        obtain ⟨m1, m2⟩ := mul_bd (a := p2) (b := q1 - x) (m := 65280) (n := 65280) (by omega) (by omega) (by omega) (by omega)
        obtain ⟨m3, m4⟩ := mul_bd (a := q2) (b := x - p1) (m := 65280) (n := 65280) (by omega) (by omega) (by omega) (by omega)
        go_wp2_with (go_at_call 23; refine (round_any _ _ _ (by omega) (by omega) (by omega) (by omega)).mono ?_; rintro e w' ⟨rfl, rfl⟩)
        go_ret
        exact ⟨ret_int G4.out.symm, hbel2⟩
      · have hki : k < i + 1 := by
          rcases Nat.lt_or_ge k (i + 1) with hlt | hge
          · exact hlt
          · obtain rfl : k = i + 1 := by omega
            have := hq.out.symm.trans HI'.out
            simp at this
            omega
        have hle : q1 < x := by omega
        go_wp2
        go_roundg (gk - 1)
        case measure => have := HG.out; omega
        case rel => exact ⟨k + 1, by omega, by omega, by have := HG.out; omega, by go_num, hbel2, hbox2⟩
end Go.Proofs.Ytlbnicapkfmdoaa
