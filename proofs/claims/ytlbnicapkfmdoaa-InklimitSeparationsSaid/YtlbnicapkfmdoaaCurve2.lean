/- Walk of the reference's CurveErr. -/
import Derived.Test.YtlbnicapkfmdoaaCurve1
namespace Go.Proofs.Ytlbnicapkfmdoaa
open Go.RowKit

set_option maxHeartbeats 4000000 in
theorem curveErr_any (A : Option Addr) (ps : List (Int × Int)) (c : Nat) (w : World) (hl : ps.length ≤ maxLen) (h : Pts w A ps) :
    Calls Try.prog 36 #[.agg #[.slice A ps.length c]] w fun e w' => e = .returned (.int .i64 (curveE ps)) ∧ Below w.heap.size w w' := by
  unfold maxLen at hl
  by_cases h0 : 33 < ps.length
  · have hE := Lib.hid (show curveE ps = 2 from if_pos h0)
    go_enter Try.func36, Try.ntmps36
    go_wp2
    go_ret
    exact ⟨ret_int hE.out.symm, (Below.refl _ _).alloc (Nat.le_refl _) _⟩
  by_cases h2 : ps.length < 2
  · have hE := Lib.hid (show curveE ps = 1 from (if_neg h0).trans (if_pos h2))
    go_enter Try.func36, Try.ntmps36
    go_wp2
    go_ret
    exact ⟨ret_int hE.out.symm, (Below.refl _ _).alloc (Nat.le_refl _) _⟩
  have h0 : ps.length ≤ 33 := by omega
  have h2 : 2 ≤ ps.length := by omega
  go_enter Try.func36, Try.ntmps36
  go_wp2
  go_loopw [3, 4, 6, 18] (fun vx vy _ i wr => ∃ (k : Nat) (px py : Int), k ≤ ps.length ∧ i = .int .i64 k ∧ vx = .int .i64 px ∧ vy = .int .i64 py ∧ Below w.heap.size w wr ∧ wr.cell? ⟨w.heap.size, 0, none⟩ = some (.slice A ps.length c) ∧
      Hid (curveScan (-1) 0 ps = curveScan px py (ps.drop k)) ∧ Hid (k = ps.length → ps[k - 1]? = some (px, py))) (fun _ _ _ i _ => ps.length - (intOf i).toNat)
  case atStart => exact ⟨0, -1, 0, Nat.zero_le _, rfl, rfl, rfl, (Below.refl _ _).alloc (Nat.le_refl _) _, by simp, rfl, fun h => by omega⟩
  case round =>
    obtain ⟨k, px, py, hk, rfl, rfl, rfl, hbel, hbox, hscan, hprev⟩ := hrel
    have hBw := hbel.size
    have hw1 : w.heap.size < wr.heap.size := lt_of_cell hbox
    by_cases hlt : k < ps.length
    · obtain ⟨b, o, x, y, rfl, hx, hc, hd⟩ := (h.kept hbel).at hlt
      have hw2 : b < wr.heap.size := lt_of_cell hc
      have hS := hscan.out
      rw [drop_at hx.out] at hS
      have HI := Lib.hid h
      clear h hprev
      by_cases hr : x < 0 ∨ 65280 < x ∨ y < 0 ∨ 65280 < y
      · rw [scan_out hr] at hS
        have hE := Lib.hid (curveE_scan h0 h2 hS (by omega))
        clear hS
        by_cases hrx : x < 0 ∨ 65280 < x
        · have wx : within x 0 65280 = false := within_not hrx
          clear hr hrx
          go_wp2_with (go_at_call 16; refine (within_any _ _ _ _).mono ?_; rintro e w' ⟨rfl, rfl⟩)
          go_ret
          exact ⟨ret_int hE.out.symm, hbel.alloc hBw _⟩
        · have wx : within x 0 65280 = true := within_mk (by omega) (by omega)
          have wy : within y 0 65280 = false := within_not (by omega)
          clear hr hrx
          go_wp2_with (go_at_call 16; refine (within_any _ _ _ _).mono ?_; rintro e w' ⟨rfl, rfl⟩)
          go_ret
          exact ⟨ret_int hE.out.symm, hbel.alloc hBw _⟩
      · have wx : within x 0 65280 = true := within_mk (by omega) (by omega)
        have wy : within y 0 65280 = true := within_mk (by omega) (by omega)
        by_cases ho : x ≤ px ∨ y < py
        · rw [scan_order hr ho] at hS
          have hE := Lib.hid (curveE_scan h0 h2 hS (by omega))
          clear hS hr
          by_cases e1 : x ≤ px
          · clear ho
            go_wp2_with (go_at_call 16; refine (within_any _ _ _ _).mono ?_; rintro e w' ⟨rfl, rfl⟩)
            go_ret
            exact ⟨ret_int hE.out.symm, hbel.alloc hBw _⟩
          · have e1 : px < x := by omega
            have e2 : y < py := by omega
            clear ho
            go_wp2_with (go_at_call 16; refine (within_any _ _ _ _).mono ?_; rintro e w' ⟨rfl, rfl⟩)
            go_ret
            exact ⟨ret_int hE.out.symm, hbel.alloc hBw _⟩
        · rw [scan_on hr ho] at hS
          have HS := Lib.hid hS
          have e1 : px < x := by omega
          have e2 : py ≤ y := by omega
          clear hS hr ho
          go_wp2_with (go_at_call 16; refine (within_any _ _ _ _).mono ?_; rintro e w' ⟨rfl, rfl⟩)
          go_quiet (fail)
          go_wp2
          go_roundw
          case rel => exact ⟨k + 1, x, y, by omega, by go_num, rfl, rfl, below_drewN (hbel.alloc hBw _) _, cell_kept (below_drewN ((Below.refl _ _).alloc (Nat.le_refl _) _) _) hbox, HS.out, fun _ => hx.out⟩
          case measure => simp [intOf]; omega
    · obtain rfl : k = ps.length := by omega
      have hS := hscan.out
      rw [List.drop_length] at hS
      obtain ⟨b, o, x, y, rfl, hx, hc, hd⟩ := (h.kept hbel).at (i := 0) (by omega)
      have hE := Lib.hid (curveE_ends h0 h2 (hS.trans rfl) hx.out (hprev.out rfl))
      simp only [Nat.zero_mul, Nat.add_zero] at hc hd
      have HI := Lib.hid h
      clear h hS hprev hscan hlt
      by_cases e1 : x = 0
      · subst e1
        by_cases e2 : px = 65280
        · subst e2
          go_wp2
          go_ret
          exact ⟨ret_int (hE.out.trans (if_neg (by simp))).symm, hbel⟩
        · have e3 : (px != 65280) = true := by simpa using e2
          have HN := Lib.hid e2
          clear e2
          go_wp2
          go_ret
          exact ⟨ret_int (hE.out.trans (if_pos (.inr HN.out))).symm, hbel⟩
      · have e3 : (x != 0) = true := by simpa using e1
        have HN := Lib.hid e1
        clear e1
        go_wp2
        go_ret
        exact ⟨ret_int (hE.out.trans (if_pos (.inl HN.out))).symm, hbel⟩
end Go.Proofs.Ytlbnicapkfmdoaa
