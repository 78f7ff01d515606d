/- Walks of curve.least and curve.Inverse. -/
import Derived.Test.YtlbnicapkfmdoaaCurveInv
namespace Go.Proofs.Ytlbnicapkfmdoaa
open Go.RowKit

set_option maxHeartbeats 2000000 in
theorem least_any (A : Option Addr) (ps : List (Int × Int)) (c : Nat) (y : Int) (w : World) (h : Pts w A ps) (hok : CurveOk ps) (hy : y ≤ curveAt ps 65280) :
    Calls Try.prog 68 #[.agg #[.slice A ps.length c], .int .i64 y] w fun e w' => e = .returned (.int .i64 (rinv ps y)) ∧ Below w.heap.size w w' := by
  have HOK := Lib.hid hok
  clear hok
  go_enter Try.func68, Try.ntmps68
  go_wp2
  go_loopg [5, 6, 7] 65281 (fun gk sl sh _ wr => ∃ l r : Int, -1 ≤ l ∧ l < r ∧ r ≤ 65280 ∧ r - l ≤ gk ∧ sl = .int .i64 l ∧ sh = .int .i64 r ∧ Hid (y ≤ curveAt ps r) ∧ Hid (l = -1 ∨ curveAt ps l < y) ∧ Below w.heap.size w wr ∧ wr.cell? ⟨w.heap.size, 0, none⟩ = some (.slice A ps.length c))
  case atStart => exact ⟨-1, 65280, by omega, by omega, by omega, by omega, rfl, rfl, hy, .inl rfl, (Below.refl _ _).alloc (Nat.le_refl _) _, by simp⟩
  case round =>
    obtain ⟨l, r, hl, hlr, hr, hgk, rfl, rfl, hyr, hyl, hbel, hbox⟩ := hrel
    have HY := Lib.hid hy
    clear hy
    have hBw := hbel.size
    by_cases hgap : 1 < r - l
    · obtain ⟨m, hm⟩ : ∃ m, m = (l + r) / 2 := ⟨_, rfl⟩
      have hm1 : l < m := by omega
      have hm2 : m < r := by omega
      have hm0 : 0 ≤ m := by omega
      have h0 : 0 ≤ l + r := by omega
      have hm' : (l + r) / 2 = m := hm.symm
      clear hm
      by_cases hle : y ≤ curveAt ps m
      · have HL := Lib.hid hle
        go_wp2_with (go_at_call 67; (try rw [hm']); refine (raw_any _ _ _ m _ (h.kept hbel) HOK.out hm0 (by omega)).mono ?_; rintro e w4 ⟨rfl, hb4⟩)
        go_roundg (gk - 1)
        case measure => omega
        case rel => exact ⟨l, m, hl, hm1, by omega, by omega, rfl, by first | rfl | rw [hm'], HL.out, hyl, hbel.trans (hb4.mono hBw), cell_kept hb4 hbox⟩
      · have hle : curveAt ps m < y := by omega
        have HL := Lib.hid hle
        go_wp2_with (go_at_call 67; (try rw [hm']); refine (raw_any _ _ _ m _ (h.kept hbel) HOK.out hm0 (by omega)).mono ?_; rintro e w4 ⟨rfl, hb4⟩)
        go_roundg (gk - 1)
        case measure => omega
        case rel => exact ⟨m, r, by omega, hm2, by omega, by omega, by first | rfl | rw [hm'], rfl, hyr, .inr HL.out, hbel.trans (hb4.mono hBw), cell_kept hb4 hbox⟩
    · have hIs : IsLeast ps y r := by
        refine ⟨by omega, hr, hyr.out, ?_⟩
        intro z z0 z1
        rcases hyl.out with h' | h'
        · omega
        · have := curveAt_mono HOK.out z0 (show z ≤ l by omega) (by omega)
          omega
      obtain ⟨⟨u, v⟩, hu⟩ : ∃ p, ps[ps.length - 1]? = some p := ⟨_, List.getElem?_eq_getElem (by have := HOK.out.two; omega)⟩
      have hlast : y ≤ v := by
        have h2 := HOK.out.two
        have e1 := HOK.out.last _ _ hu
        subst e1
        obtain ⟨⟨a, b⟩, hab⟩ : ∃ p, ps[ps.length - 2]? = some p := ⟨_, List.getElem?_eq_getElem (by omega)⟩
        have hu' : ps[ps.length - 2 + 1]? = some (65280, v) := by rw [show ps.length - 2 + 1 = ps.length - 1 from by omega]; exact hu
        have s := HOK.out.step _ _ _ _ _ hab hu'
        have b1 := HOK.out.bd _ _ _ hab
        have e2 : curveAt ps 65280 = v := by
          rw [curveAt_found HOK.out hab hu' (by omega) (.inr (by omega)) (by omega), segV_end s.1]
        have := HY.out
        omega
      have hV := Lib.hid (hIs.uniq (rinv_least HOK.out hu hlast))
      clear hIs hlast hu
      go_wp2
      go_ret
      exact ⟨ret_int hV.out, hbel⟩

def invF (ps : List (Int × Int)) (y : Int) : Int × Int :=
  if curveE ps ≠ 0 then (0, curveE ps) else if y < 0 ∨ 65280 < y then (0, 3) else if rinv ps y < 0 then (0, 8) else (rinv ps y, 0)
theorem last_at {ps : List (Int × Int)} (h : CurveOk ps) {u v : Int} (hu : ps[ps.length - 1]? = some (u, v)) : curveAt ps 65280 = v := by
  have h2 := h.two
  have e1 := h.last _ _ hu
  subst e1
  obtain ⟨⟨a, b⟩, hab⟩ : ∃ p, ps[ps.length - 2]? = some p := ⟨_, List.getElem?_eq_getElem (by omega)⟩
  have hu' : ps[ps.length - 2 + 1]? = some (65280, v) := by rw [show ps.length - 2 + 1 = ps.length - 1 from by omega]; exact hu
  have s := h.step _ _ _ _ _ hab hu'
  have b1 := h.bd _ _ _ hab
  rw [curveAt_found h hab hu' (by omega) (.inr (by omega)) (by omega), segV_end s.1]
set_option maxHeartbeats 1000000 in
theorem inv_is {A : Option Addr} {ps : List (Int × Int)} {c : Nat} {y p q : Int} (w : World) (hl : ps.length ≤ maxLen) (h : Pts w A ps) (hF : invF ps y = (p, q)) :
    Calls Try.prog 45 #[.agg #[.slice A ps.length c], .int .i64 y] w fun e w' => e = .returned (.tuple #[.int .i64 p, .int .i64 q]) ∧ Below w.heap.size w w' := by
  unfold invF at hF
  have hb0 : Below w.heap.size w (w.alloc (.cells #[.slice A ps.length c] 49)) := (Below.refl _ _).alloc (Nat.le_refl _) _
  by_cases he : curveE ps = 0
  · rw [if_neg (by omega)] at hF
    have hok := curve_ok he
    have he' : (curveE ps != 0) = false := by simp [he]
    have HE := Lib.hid he
    clear he
    by_cases hx : y < 0 ∨ 65280 < y
    · rw [if_pos hx] at hF
      cases hF
      rcases hx with hx | hx
      · go_enter Try.func45, Try.ntmps45
        go_wp2_with (go_at_call 44; refine (ccheck_any _ _ _ _ hl (h.kept hb0)).mono ?_; rintro e w2 ⟨rfl, hb2⟩; have hbox := cell_kept (a := ⟨w.heap.size, 0, none⟩) hb2 (by simp [go_sem]; rfl))
        go_ret2
        exact ⟨rfl, hb0.trans (hb2.mono hb0.size)⟩
      · go_enter Try.func45, Try.ntmps45
        go_wp2_with (go_at_call 44; refine (ccheck_any _ _ _ _ hl (h.kept hb0)).mono ?_; rintro e w2 ⟨rfl, hb2⟩; have hbox := cell_kept (a := ⟨w.heap.size, 0, none⟩) hb2 (by simp [go_sem]; rfl))
        go_ret2
        exact ⟨rfl, hb0.trans (hb2.mono hb0.size)⟩
    · rw [if_neg hx] at hF
      have hx0 : 0 ≤ y := by omega
      have hx1 : y ≤ 65280 := by omega
      clear hx
      have hl2 := hok.two
      have hlm := hok.most
      obtain ⟨b0, o, u, v, rfl, hu, huc, hud⟩ := h.at (i := ps.length - 1) (by omega)
      have hw0 : b0 < w.heap.size := lt_of_cell huc
      have hk0 : (0 : Int) ≤ (ps.length : Int) - 1 := by omega
      by_cases hv : v < y
      · rw [if_pos (by rw [rinv_none hok hu.out hv]; omega)] at hF
        cases hF
        go_enter Try.func45, Try.ntmps45
        go_wp2_with (go_at_call 44; refine (ccheck_any _ _ _ _ hl (h.kept hb0)).mono ?_; rintro e w2 ⟨rfl, hb2⟩; have hbox := cell_kept (a := ⟨w.heap.size, 0, none⟩) hb2 (by simp [go_sem]; rfl); have hbd := cell_kept (hb0.trans (hb2.mono hb0.size)) hud)
        go_ret2
        exact ⟨rfl, hb0.trans (hb2.mono hb0.size)⟩
      · have hL := rinv_least hok hu.out (y := y) (by omega)
        rw [if_neg (by have := hL.1; omega)] at hF
        cases hF
        have hla : y ≤ curveAt ps 65280 := by rw [last_at hok hu.out]; omega
        have HLA := Lib.hid hla
        have hv : y ≤ v := by omega
        clear hL hla
        go_enter Try.func45, Try.ntmps45
        go_wp2_with (first
          | (go_at_call 44; refine (ccheck_any _ _ _ _ hl (h.kept hb0)).mono ?_; rintro e w2 ⟨rfl, hb2⟩; have hbox := cell_kept (a := ⟨w.heap.size, 0, none⟩) hb2 (by simp [go_sem]; rfl); have hb3 := hb0.trans (hb2.mono hb0.size); have hbd := cell_kept hb3 hud)
          | (go_at_call 68; refine (least_any _ _ _ _ _ (h.kept hb3) hok HLA.out).mono ?_; rintro e w4 ⟨rfl, hb4⟩))
        go_ret2
        exact ⟨rfl, hb3.trans (hb4.mono hb3.size)⟩
  · rw [if_pos he] at hF
    cases hF
    have he' : (curveE ps != 0) = true := by simp [he]
    clear he
    go_enter Try.func45, Try.ntmps45
    go_wp2_with (go_at_call 44; refine (ccheck_any _ _ _ _ hl (h.kept hb0)).mono ?_; rintro e w2 ⟨rfl, hb2⟩; have hbox := cell_kept (a := ⟨w.heap.size, 0, none⟩) hb2 (by simp [go_sem]; rfl))
    go_ret2
    exact ⟨rfl, hb0.trans (hb2.mono hb0.size)⟩
end Go.Proofs.Ytlbnicapkfmdoaa
