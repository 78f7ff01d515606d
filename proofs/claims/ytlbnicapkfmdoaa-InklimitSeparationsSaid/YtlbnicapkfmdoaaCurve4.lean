/- Walk of curve.Raw. -/
import Derived.Test.YtlbnicapkfmdoaaCurve3
namespace Go.Proofs.Ytlbnicapkfmdoaa
open Go.RowKit

set_option maxHeartbeats 2000000 in
theorem raw_any (A : Option Addr) (ps : List (Int × Int)) (c : Nat) (x : Int) (w : World) (h : Pts w A ps) (hok : CurveOk ps) (hx0 : 0 ≤ x) (hx1 : x ≤ 65280) :
    Calls Try.prog 67 #[.agg #[.slice A ps.length c], .int .i64 x] w fun e w' => e = .returned (.int .i64 (curveAt ps x)) ∧ Below w.heap.size w w' := by
  have hlm := hok.most
  have hl2 := hok.two
  obtain ⟨b0, o, fx, fy, rfl, hf, hfc, hfd⟩ := h.at (i := 0) (by omega)
  have hfx := hok.first _ _ hf.out
  have HOK := Lib.hid hok
  have HF := Lib.hid hfx
  have hw0 : b0 < w.heap.size := lt_of_cell hfc
  clear hok hfx hfc hfd
  go_enter Try.func67, Try.ntmps67
  go_wp2
  go_quiet (fail)
  go_wp2
  go_loopg [5, 6, 7] ps.length (fun gk sl sh _ wr => ∃ (l r : Nat) (a b : Int), l < r ∧ r < ps.length ∧ r ≤ l + gk ∧ sl = .int .i64 l ∧ sh = .int .i64 r ∧ Hid (ps[l]? = some (a, b)) ∧ a ≤ x ∧
      Hid (r + 1 = ps.length ∨ ∃ u v, ps[r]? = some (u, v) ∧ x < u) ∧ Below w.heap.size w wr ∧ wr.cell? ⟨w.heap.size, 0, none⟩ = some (.slice (some ⟨b0, o, none⟩) ps.length c))
  case atStart => exact ⟨0, ps.length - 1, fx, fy, by omega, by omega, by omega, rfl, by go_num, hf, by rw [HF.out]; exact hx0, .inl (by omega), below_drewN ((Below.refl _ _).alloc (Nat.le_refl _) _) _, by simp [go_sem]⟩
  case round =>
    obtain ⟨l, r, a, b, hlr, hrn, hgk, rfl, rfl, hp, hax, hr, hbel, hbox⟩ := hrel
    have hBw := hbel.size
    have hw1 : w.heap.size < wr.heap.size := lt_of_cell hbox
    have hw2 : b0 < wr.heap.size := by omega
    by_cases hgap : l + 1 < r
    · obtain ⟨m, hm⟩ : ∃ m, m = (l + r) / 2 := ⟨_, rfl⟩
      obtain ⟨e, f, hq, hqc, hqd⟩ := (h.kept hbel).same (i := m) (by omega)
      have HH := Lib.hid h
      clear h
      have hmi : ((l : Int) + (r : Int)) / 2 = (m : Int) := by omega
      have hm1 : l < m := by omega
      have hm2 : m < r := by omega
      clear hm
      have hm3 : (m : Int) < ps.length := by omega
      by_cases hle : e ≤ x
      · go_wp2
        go_roundg (gk - 1)
        case measure => omega
        case rel => exact ⟨m, r, e, f, hm2, hrn, by omega, by first | rfl | rw [hmi], rfl, hq, hle, hr, hbel, hbox⟩
      · have hle : x < e := by omega
        go_wp2
        go_roundg (gk - 1)
        case measure => omega
        case rel => exact ⟨l, m, a, b, hm1, by omega, by omega, rfl, by first | rfl | rw [hmi], hp, hax, .inr ⟨e, f, hq.out, hle⟩, hbel, hbox⟩
    · obtain rfl : r = l + 1 := by omega
      obtain ⟨a', b', hp', hpc, hpd⟩ := (h.kept hbel).same (i := l) (by omega)
      obtain ⟨rfl, rfl⟩ : a' = a ∧ b' = b := by have := hp'.out.symm.trans hp.out; simpa using this
      obtain ⟨e, f, hq, hqc, hqd⟩ := (h.kept hbel).same (i := l + 1) (by omega)
      have HH := Lib.hid h
      have s1 := HOK.out.step _ _ _ _ _ hp.out hq.out
      have t1 := HOK.out.bd _ _ _ hp.out
      have t2 := HOK.out.bd _ _ _ hq.out
      have hrx : x < e ∨ l + 1 = ps.length - 1 := by
        rcases hr.out with h' | ⟨u, v, h', hu⟩
        · right; omega
        · left
          have := h'.symm.trans hq.out
          simp at this
          omega
      have hxe : x ≤ e := by
        rcases hrx with h' | h'
        · omega
        · have := HOK.out.last e f (by rw [← h']; exact hq.out); omega
      have hV := Lib.hid ((curveAt_found HOK.out hp.out hq.out hax hrx hx1).trans (segV_eq s1.1))
      obtain ⟨m1, m2⟩ := mul_bd (a := f - b') (b := x - a') (m := 65280) (n := 65280) (by omega) (by omega) (by omega) (by omega)
      have r0 := segV_bd s1.1 hax hxe t1.2.2.1 s1.2 t2.2.2.2
      rw [segV_eq s1.1] at r0
      have i1 := i64_in (a := f - b') (by omega) (by omega)
      have i2 := i64_in (a := x - a') (by omega) (by omega)
      have i3 := i64_in (a := (f - b') * (x - a')) (by omega) (by omega)
      have i4 := i64_in (a := e - a') (by omega) (by omega)
      have i5 := i64_in (a := b' + rnd ((f - b') * (x - a')) (e - a')) (by omega) (by omega)
      have he1 : 0 < e - a' := by omega
      have he2 : e - a' ≤ 65280 := by omega
      have HR := Lib.hid hrx
      clear h hgap s1 t1 t2 r0 hrx hr
      have k2 : (l : Int) + 1 < ps.length := by omega
      go_upto_region 7 with fail
      go_cut [8, 9] from 10 to 60 (fun s6 s7 wx => ∃ g g' : Nat, s6 = .pointer (some ⟨g, 0, none⟩) ∧ s7 = .pointer (some ⟨g', 0, none⟩) ∧ Below wr.heap.size wr wx ∧ wx.cell? ⟨g, 0, none⟩ = some (.int .i64 a') ∧ wx.cell? ⟨g, 1, none⟩ = some (.int .i64 b') ∧ wx.cell? ⟨g', 0, none⟩ = some (.int .i64 e) ∧ wx.cell? ⟨g', 1, none⟩ = some (.int .i64 f))
      case first =>
        go_region
        all_goals
          go_wp2_with fail
          go_meet
          case rel => exact ⟨_, _, rfl, rfl, by repeat (first | exact Below.refl _ _ | refine Below.drew ?_ | refine Below.alloc ?_ (by simp) _), by simp [go_sem], by simp [go_sem], by simp [go_sem], by simp [go_sem]⟩
      case rest =>
        obtain ⟨g, g', rfl, rfl, hbc, c1, c2, c3, c4⟩ := hcut
        go_wp2
        go_quiet ((go_at_call 54; exact quietL (nearest_any _ _ _ (by omega) (by omega) (by omega) (by omega))))
        go_wp2
        go_ret
        exact ⟨ret_int hV.out.symm, below_drewN (hbel.trans (hbc.mono hBw)) _⟩
end Go.Proofs.Ytlbnicapkfmdoaa
