/- Walk of inklimit.replaced. -/
import Derived.Test.YtlbnicapkfmdoaaInk3
import Derived.Test.YtlbnicapkfmdoaaCurveW
namespace Go.Proofs.Ytlbnicapkfmdoaa
open Go.RowKit

def greyV (x0 x1 x2 : Int) : Int := min (min x0 x1) x2
def amtV (ps : List (Int × Int)) (x0 x1 x2 x3 : Int) : Int := min (min (rnd (curveAt ps (256 * greyV x0 x1 x2)) 256) (greyV x0 x1 x2)) (255 - x3)
def replL (ps : List (Int × Int)) (x0 x1 x2 x3 : Int) : List Int := [x0 - amtV ps x0 x1 x2 x3, x1 - amtV ps x0 x1 x2 x3, x2 - amtV ps x0 x1 x2 x3, x3 + amtV ps x0 x1 x2 x3]
theorem greyV_bd {x0 x1 x2 : Int} (h0 : 0 ≤ x0) (h0' : x0 ≤ 255) (h1 : 0 ≤ x1) (h2 : 0 ≤ x2) : 0 ≤ greyV x0 x1 x2 ∧ greyV x0 x1 x2 ≤ 255 ∧ greyV x0 x1 x2 ≤ x0 ∧ greyV x0 x1 x2 ≤ x1 ∧ greyV x0 x1 x2 ≤ x2 := by
  unfold greyV; omega

theorem ints_alloc (w : World) (xs : List Int) (e : TypeId) : Ints (w.alloc (.cells (xs.map (.int .i64)).toArray e)) (some ⟨w.heap.size, 0, none⟩) xs := by
  intro i v hv
  refine ⟨w.heap.size, 0, rfl, ?_⟩
  rw [Nat.zero_add, World.cell?_alloc_new]
  simpa using hv

set_option maxRecDepth 20000 in
set_option maxHeartbeats 4000000 in
theorem replaced_any (A B : Option Addr) (ps : List (Int × Int)) (x0 x1 x2 x3 : Int) (c d : Nat) (w : World) (h : Ints w A [x0, x1, x2, x3]) (hp : Pts w B ps) (hok : CurveOk ps)
    (b0 : 0 ≤ x0 ∧ x0 ≤ 255) (b1 : 0 ≤ x1 ∧ x1 ≤ 255) (b2 : 0 ≤ x2 ∧ x2 ≤ 255) (b3 : 0 ≤ x3 ∧ x3 ≤ 255) :
    Calls Try.prog 62 #[.slice A 4 c, .agg #[.slice B ps.length d]] w fun e w' => ∃ A' c', e = .returned (.tuple #[.slice A' 4 c', .int .i64 (amtV ps x0 x1 x2 x3)]) ∧ Ints w' A' (replL ps x0 x1 x2 x3) ∧ Below w.heap.size w w' := by
  obtain ⟨b, o, y0, rfl, hy0, c0⟩ := h.at (i := 0) (by simp)
  obtain ⟨y1, hy1, c1⟩ := h.same (i := 1) (by simp)
  obtain ⟨y2, hy2, c2⟩ := h.same (i := 2) (by simp)
  obtain ⟨y3, hy3, c3⟩ := h.same (i := 3) (by simp)
  obtain rfl : x0 = y0 := by simpa using hy0.out
  obtain rfl : x1 = y1 := by simpa using hy1.out
  obtain rfl : x2 = y2 := by simpa using hy2.out
  obtain rfl : x3 = y3 := by simpa using hy3.out
  rw [Nat.add_zero] at c0
  have hbw : b < w.heap.size := lt_of_cell c0
  obtain ⟨g0, g1, g2, g3, g4⟩ := greyV_bd b0.1 b0.2 b1.1 b2.1
  obtain ⟨v0, v1⟩ := curveAt_bd hok (x := 256 * greyV x0 x1 x2) (by omega) (by omega)
  have HI := Lib.hid h
  clear h hy0 hy1 hy2 hy3
  have ha0 : Below w.heap.size w (w.alloc (.cells #[.slice B ps.length d] 49)) := (Below.refl _ _).alloc (Nat.le_refl _) _
  go_enter Try.func62, Try.ntmps62
  go_upto_region 1 with fail
  go_cut [6] from 8 to 50 (fun s wx => s = .int .i64 (greyV x0 x1 x2) ∧ ∃ n, wx = (w.alloc (.cells #[.slice B ps.length d] 49)).drewN n)
  case first =>
    go_quiet (fail)
    go_wp2_with fail
    all_goals
      go_meet
      case rel => exact ⟨by congr 1; unfold greyV; omega, _, rfl⟩
  case rest =>
    obtain ⟨rfl, n1, rfl⟩ := hcut
    generalize hg : greyV x0 x1 x2 = G at *
    obtain ⟨w1, hw1⟩ : ∃ w1, w1 = (w.alloc (.cells #[.slice B ps.length d] 49)).drewN n1 := ⟨_, rfl⟩
    have hb1 : Below w.heap.size w w1 := by rw [hw1]; exact below_drewN ha0 _
    have hbox : w1.cell? ⟨w.heap.size, 0, none⟩ = some (.slice B ps.length d) := by rw [hw1]; simp [go_sem]
    rw [← hw1]
    have hc0 := cell_kept hb1 c0
    have hc1 := cell_kept hb1 c1
    have hc2 := cell_kept hb1 c2
    have hc3 := cell_kept hb1 c3
    have hbw1 : b < w1.heap.size := lt_of_cell hc0
    have hsz := hb1.size
    have HG := Lib.hid hg
    clear hg hw1 c0 c1 c2 c3
    go_upto_region 2 with fail
    go_cut [7] from 8 to 50 (fun s wx => s = .int .i64 (amtV ps x0 x1 x2 x3) ∧ Below w1.heap.size w1 wx)
    case first =>
      have iw := i64_in (a := 256 * G) (by omega) (by omega)
      have iv := i64_in (a := 255 - x3) (by omega) (by omega)
      go_region_held3 (fun w' => w'.cell? ⟨b, o + 3, none⟩ = some (.int .i64 x3) ∧ w'.cell? ⟨w.heap.size, 0, none⟩ = some (.slice B ps.length d) ∧ Below w1.heap.size w1 w') (first | exact ⟨hc3, hbox, (Below.refl _ _).drew⟩ | exact ⟨cell_kept (w := w1.drew) (by assumption) hc3, cell_kept (w := w1.drew) (by assumption) hbox, (Below.refl _ _).drew.trans (by assumption)⟩)
        (first | (go_at_call 67; refine (raw_any _ _ _ _ _ (hp.kept hb1.drew) hok (by omega) (by omega)).mono ?_; rintro e wa ⟨rfl, hb⟩) | (go_at_call 54; refine (nearest_any _ _ _ (by omega) (by omega) (by omega) (by omega)).mono ?_; rintro e w' ⟨rfl, rfl⟩))
      all_goals go_wp2_with fail
      all_goals
        go_meet
        case rel => exact ⟨by first | rfl | (congr 1; unfold amtV; rw [HG.out]; first | rfl | omega | (simp only [Int.min_def] at *; (repeat' split at *) <;> omega)), (by first | assumption | exact (Below.refl _ _).drew.trans hb)⟩
    case rest =>
      obtain ⟨rfl, hbc⟩ := hcut
      have d0 := cell_kept hbc hc0
      have d1 := cell_kept hbc hc1
      have d2 := cell_kept hbc hc2
      have d3 := cell_kept hbc hc3
      have hbw2 : b < wc.heap.size := lt_of_cell d0
      have hbel := hb1.trans (hbc.mono hb1.size)
      have hsz2 := hbel.size
      have hm : 0 ≤ amtV ps x0 x1 x2 x3 ∧ amtV ps x0 x1 x2 x3 ≤ G ∧ amtV ps x0 x1 x2 x3 ≤ 255 - x3 := by
        have r0 : 0 ≤ rnd (curveAt ps (256 * G)) 256 := by unfold rnd; omega
        unfold amtV; rw [HG.out]; omega
      have HM := Lib.hid (show replL ps x0 x1 x2 x3 = [x0 - amtV ps x0 x1 x2 x3, x1 - amtV ps x0 x1 x2 x3, x2 - amtV ps x0 x1 x2 x3, x3 + amtV ps x0 x1 x2 x3] from rfl)
      obtain ⟨a1, ha1⟩ : ∃ a, a = amtV ps x0 x1 x2 x3 := ⟨_, rfl⟩
      rw [← ha1] at hm ⊢
      obtain ⟨hm0, hm1, hm2⟩ := hm
      have HA1 := Lib.hid ha1
      clear ha1 hc0 hc1 hc2 hc3 hb1 hbox
      go_upto_region 3 with fail
      have i0 := i64_in (a := x0 - a1) (by omega) (by omega)
      have i1 := i64_in (a := x1 - a1) (by omega) (by omega)
      have i2 := i64_in (a := x2 - a1) (by omega) (by omega)
      have i3 := i64_in (a := x3 + a1) (by omega) (by omega)
      go_region
      all_goals go_wp2
      go_ret2
      refine ⟨some ⟨wc.heap.size, 0, none⟩, 4, by rw [← HA1.out]; rfl, ?_, (by repeat (first | assumption | exact Below.refl _ _ | refine below_drewN ?_ _ | refine Below.drew ?_ | refine Below.setCell ?_ (by first | exact Nat.le_refl _ | assumption | (simp; done) | (simp; omega) | omega) _ | refine Below.alloc ?_ (by first | exact Nat.le_refl _ | assumption | (simp; done) | omega | exact Below.size (by assumption) | (simp; omega)) _))⟩
      have := ints_alloc wc (replL ps x0 x1 x2 x3) 3
      rw [HM.out, ← HA1.out] at this
      rw [HM.out, ← HA1.out]
      exact this
end Go.Proofs.Ytlbnicapkfmdoaa
