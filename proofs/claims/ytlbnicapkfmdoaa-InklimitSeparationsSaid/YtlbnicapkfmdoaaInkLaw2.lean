/- Walk of the law InklimitSeparations. -/
import Derived.Test.YtlbnicapkfmdoaaInkLaw1
namespace Go.Proofs.Ytlbnicapkfmdoaa
open Go.RowKit

theorem grey_of {x0 x1 x2 g : Int} (h : g = min (min x0 x1) x2) : g = greyV x0 x1 x2 := h
set_option maxRecDepth 100000 in
set_option maxHeartbeats 4000000 in
theorem inklimitSeparations_bad (A B : Option Addr) (xs : List Int) (ps : List (Int × Int)) (c d : Nat) (t : Int) (w : World) (hl : xs.length ≤ maxLen) (hl' : ps.length ≤ maxLen) (h : Ints w A xs) (hp : Pts w B ps)
    (hbad : tonesE xs 4 255 ≠ 0 ∨ tonesE xs 4 255 = 0 ∧ curveE ps ≠ 0) :
    Calls Try.prog 7 #[.slice A xs.length c, .agg #[.slice B ps.length d], .int .i64 t] w fun e w' => e = .returned (.bool true) ∧ Below w.heap.size w w' := by
  have hacc : Below w.heap.size w (w.alloc (.cells #[.slice B ps.length d] 49)) := (Below.refl _ _).alloc (Nat.le_refl _) _
  have hbox : (w.alloc (.cells #[.slice B ps.length d] 49)).cell? ⟨w.heap.size, 0, none⟩ = some (.slice B ps.length d) := by simp [go_sem]
  rcases hbad with he | ⟨he, hc⟩
  · have hR := Lib.hid (show replaceF xs ps = ([], 0, tonesE xs 4 255) from if_pos he)
    have hS := Lib.hid (show sepF xs ps t = ([], tonesE xs 4 255) from if_pos he)
    have he' : (tonesE xs 4 255 != 0) = true := by simp [he]
    have he'' : (tonesE xs 4 255 == 0) = false := by simp [he]
    clear he
    go_enter Try.func7, Try.ntmps7
    go_wp2_with (first | (go_at_call 33; refine (inklimitWorks_any _).mono ?_; rintro e wa ⟨rfl, hb⟩; have hbox := cell_kept hb hbox; have hacc := hacc.trans (hb.mono hacc.size); try (have hir := hir.kept hb); try (have his := his.kept hb); clear hb) | (go_at_call 34; refine (replace_is _ hl hl' (h.kept hacc) (hp.kept hacc) hR.out).mono ?_; rintro e wa ⟨AR, cR, rfl, hir, hb⟩; have hbox := cell_kept hb hbox; have hacc := hacc.trans (hb.mono hacc.size); try (have hir := hir.kept hb); try (have his := his.kept hb); clear hb) | (go_at_call 35; refine (sep_is _ hl hl' (h.kept hacc) (hp.kept hacc) hS.out).mono ?_; rintro e wa ⟨AS, cS, rfl, his, hb⟩; have hbox := cell_kept hb hbox; have hacc := hacc.trans (hb.mono hacc.size); try (have hir := hir.kept hb); try (have his := his.kept hb); clear hb) | (go_at_call 26; refine (tonesErr_any _ _ _ _ _ _ hl (h.kept hacc)).mono ?_; rintro e wb ⟨rfl, rfl⟩) | (go_at_call 36; refine (curveErr_any _ _ _ _ hl' (hp.kept hacc)).mono ?_; rintro e wa ⟨rfl, hb⟩; have hbox := cell_kept hb hbox; have hacc := hacc.trans (hb.mono hacc.size); try (have hir := hir.kept hb); try (have his := his.kept hb); clear hb) | (go_at_call 17; refine (none_any _ _ _ _).mono ?_; rintro e w' ⟨rfl, rfl⟩))
    go_ret
    exact ⟨rfl, hacc⟩
  · have hR := Lib.hid (show replaceF xs ps = ([], 0, curveE ps) from (if_neg (by omega)).trans (if_pos hc))
    have hS := Lib.hid (show sepF xs ps t = ([], curveE ps) from (if_neg (by omega)).trans (if_pos hc))
    have he'' : (tonesE xs 4 255 == 0) = true := by simp [he]
    have hc' : (curveE ps != 0) = true := by simp [hc]
    clear he hc
    go_enter Try.func7, Try.ntmps7
    go_wp2_with (first | (go_at_call 33; refine (inklimitWorks_any _).mono ?_; rintro e wa ⟨rfl, hb⟩; have hbox := cell_kept hb hbox; have hacc := hacc.trans (hb.mono hacc.size); try (have hir := hir.kept hb); try (have his := his.kept hb); clear hb) | (go_at_call 34; refine (replace_is _ hl hl' (h.kept hacc) (hp.kept hacc) hR.out).mono ?_; rintro e wa ⟨AR, cR, rfl, hir, hb⟩; have hbox := cell_kept hb hbox; have hacc := hacc.trans (hb.mono hacc.size); try (have hir := hir.kept hb); try (have his := his.kept hb); clear hb) | (go_at_call 35; refine (sep_is _ hl hl' (h.kept hacc) (hp.kept hacc) hS.out).mono ?_; rintro e wa ⟨AS, cS, rfl, his, hb⟩; have hbox := cell_kept hb hbox; have hacc := hacc.trans (hb.mono hacc.size); try (have hir := hir.kept hb); try (have his := his.kept hb); clear hb) | (go_at_call 26; refine (tonesErr_any _ _ _ _ _ _ hl (h.kept hacc)).mono ?_; rintro e wb ⟨rfl, rfl⟩) | (go_at_call 36; refine (curveErr_any _ _ _ _ hl' (hp.kept hacc)).mono ?_; rintro e wa ⟨rfl, hb⟩; have hbox := cell_kept hb hbox; have hacc := hacc.trans (hb.mono hacc.size); try (have hir := hir.kept hb); try (have his := his.kept hb); clear hb) | (go_at_call 17; refine (none_any _ _ _ _).mono ?_; rintro e w' ⟨rfl, rfl⟩))
    go_ret
    exact ⟨rfl, hacc⟩

set_option maxRecDepth 100000 in
set_option maxHeartbeats 4000000 in
theorem inklimitSeparations_good (A B : Option Addr) (ps : List (Int × Int)) (x0 x1 x2 x3 : Int) (c d : Nat) (t : Int) (w : World) (hl' : ps.length ≤ maxLen) (h : Ints w A [x0, x1, x2, x3]) (hp : Pts w B ps) (hok : CurveOk ps)
    (he : tonesE [x0, x1, x2, x3] 4 255 = 0) (hc : curveE ps = 0)
    (b0 : 0 ≤ x0 ∧ x0 ≤ 255) (b1 : 0 ≤ x1 ∧ x1 ≤ 255) (b2 : 0 ≤ x2 ∧ x2 ≤ 255) (b3 : 0 ≤ x3 ∧ x3 ≤ 255) :
    Calls Try.prog 7 #[.slice A 4 c, .agg #[.slice B ps.length d], .int .i64 t] w fun e w' => e = .returned (.bool true) ∧ Below w.heap.size w w' := by
  have hacc : Below w.heap.size w (w.alloc (.cells #[.slice B ps.length d] 49)) := (Below.refl _ _).alloc (Nat.le_refl _) _
  have hbox : (w.alloc (.cells #[.slice B ps.length d] 49)).cell? ⟨w.heap.size, 0, none⟩ = some (.slice B ps.length d) := by simp [go_sem]
  have hl : ([x0, x1, x2, x3] : List Int).length ≤ maxLen := by simp [maxLen]
  have hR := Lib.hid (show replaceF [x0, x1, x2, x3] ps = (replL ps x0 x1 x2 x3, amtV ps x0 x1 x2 x3, 0) from (if_neg (by omega)).trans (if_neg (by omega)))
  have hS := Lib.hid (show sepF [x0, x1, x2, x3] ps t = if t < 0 ∨ 2040 < t then ([], 3) else (limL (replL ps x0 x1 x2 x3) 3 t, 0) from (if_neg (by omega)).trans (if_neg (by omega)))
  have he' : (tonesE [x0, x1, x2, x3] 4 255 != 0) = false := by simp [he]
  have he'' : (tonesE [x0, x1, x2, x3] 4 255 == 0) = true := by simp [he]
  have hc' : (curveE ps != 0) = false := by simp [hc]
  have hra := Lib.hid (replL_all hok b0 b1 b2 b3)
  have HH := Lib.hid h
  obtain ⟨b, o, y0, rfl, hy0, c0⟩ := h.at (i := 0) (by simp)
  obtain ⟨y1, hy1, c1⟩ := h.same (i := 1) (by simp)
  obtain ⟨y2, hy2, c2⟩ := h.same (i := 2) (by simp)
  obtain ⟨y3, hy3, c3⟩ := h.same (i := 3) (by simp)
  obtain rfl : x0 = y0 := by simpa using hy0.out
  obtain rfl : x1 = y1 := by simpa using hy1.out
  obtain rfl : x2 = y2 := by simpa using hy2.out
  obtain rfl : x3 = y3 := by simpa using hy3.out
  rw [Nat.add_zero] at c0
  obtain ⟨g0, g1, g2, g3, g4⟩ := greyV_bd b0.1 b0.2 b1.1 b2.1
  obtain ⟨v0, v1⟩ := curveAt_bd hok (x := 256 * greyV x0 x1 x2) (by omega) (by omega)
  clear he hc hy0 hy1 hy2 hy3
  generalize hq : (if t < 0 ∨ 2040 < t then (([] : List Int), (3 : Int)) else (limL (replL ps x0 x1 x2 x3) 3 t, 0)) = q at hS
  obtain ⟨SL, SE⟩ := q
  go_enter Try.func7, Try.ntmps7
  go_upto_region 10 with (first | (go_at_call 33; refine (inklimitWorks_any _).mono ?_; rintro e wa ⟨rfl, hb⟩; have hbox := cell_kept hb hbox; have hacc := hacc.trans (hb.mono hacc.size); try (have hir := hir.kept hb); try (have his := his.kept hb); clear hb) | (go_at_call 34; refine (replace_is _ hl hl' (h.kept hacc) (hp.kept hacc) hR.out).mono ?_; rintro e wa ⟨AR, cR, rfl, hir, hb⟩; have hbox := cell_kept hb hbox; have hacc := hacc.trans (hb.mono hacc.size); try (have hir := hir.kept hb); try (have his := his.kept hb); clear hb) | (go_at_call 35; refine (sep_is _ hl hl' (h.kept hacc) (hp.kept hacc) hS.out).mono ?_; rintro e wa ⟨AS, cS, rfl, his, hb⟩; have hbox := cell_kept hb hbox; have hacc := hacc.trans (hb.mono hacc.size); try (have hir := hir.kept hb); try (have his := his.kept hb); clear hb) | (go_at_call 26; refine (tonesErr_any _ _ _ _ _ _ hl (h.kept hacc)).mono ?_; rintro e wb ⟨rfl, rfl⟩) | (go_at_call 36; refine (curveErr_any _ _ _ _ hl' (hp.kept hacc)).mono ?_; rintro e wa ⟨rfl, hb⟩; have hbox := cell_kept hb hbox; have hacc := hacc.trans (hb.mono hacc.size); try (have hir := hir.kept hb); try (have his := his.kept hb); clear hb) | fail)
  have c0 := cell_kept hacc c0
  have c1 := cell_kept hacc c1
  have c2 := cell_kept hacc c2
  have c3 := cell_kept hacc c3
  have hbw : b < wa.heap.size := lt_of_cell c0
  clear hR hS he' he'' hc' hl
  go_cut [13] from 16 to 130 (fun s wx => s = .int .i64 (greyV x0 x1 x2) ∧ ∃ n, wx = wa.drewN n)
  case first =>
    go_quiet (fail)
    go_wp2_with fail
    all_goals
      go_meet
      case rel => exact ⟨by congr 1; unfold greyV; omega, _, rfl⟩
  case rest =>
    obtain ⟨rfl, n1, rfl⟩ := hcut
    obtain ⟨w1, hw1⟩ : ∃ w1, w1 = wa.drewN n1 := ⟨_, rfl⟩
    have hd : Below wa.heap.size wa w1 := by rw [hw1]; exact below_drewN (Below.refl _ _) _
    have hbox := cell_kept hd hbox
    have hacc := hacc.trans (hd.mono hacc.size)
    have c0 := cell_kept hd c0
    have c1 := cell_kept hd c1
    have c2 := cell_kept hd c2
    have c3 := cell_kept hd c3
    have hbw : b < w1.heap.size := lt_of_cell c0
    have hir := hir.kept hd
    have his := his.kept hd
    rw [← hw1]
    clear hw1 hd
    have hm : 0 ≤ amtV ps x0 x1 x2 x3 ∧ amtV ps x0 x1 x2 x3 ≤ greyV x0 x1 x2 ∧ amtV ps x0 x1 x2 x3 ≤ 255 - x3 := by
      have r0 : 0 ≤ rnd (curveAt ps (256 * greyV x0 x1 x2)) 256 := by unfold rnd; omega
      unfold amtV; omega
    have HM := Lib.hid (show replL ps x0 x1 x2 x3 = [x0 - amtV ps x0 x1 x2 x3, x1 - amtV ps x0 x1 x2 x3, x2 - amtV ps x0 x1 x2 x3, x3 + amtV ps x0 x1 x2 x3] from rfl)
    have HV := Lib.hid (show amtV ps x0 x1 x2 x3 = min (min (rnd (curveAt ps (256 * greyV x0 x1 x2)) 256) (greyV x0 x1 x2)) (255 - x3) from rfl)
    obtain ⟨a1, ha1⟩ : ∃ a, a = amtV ps x0 x1 x2 x3 := ⟨_, rfl⟩
    rw [← ha1] at hm HV HM ⊢
    have HA1 := Lib.hid ha1
    generalize greyV x0 x1 x2 = G at *
    obtain ⟨hm0, hm1, hm2⟩ := hm
    clear ha1
    go_upto_region 11 with fail
    go_cut [14] from 16 to 130 (fun s wx => s = .int .i64 a1 ∧ Below w1.heap.size w1 wx)
    case first =>
      have iw := i64_in (a := 256 * G) (by omega) (by omega)
      have iv := i64_in (a := 255 - x3) (by omega) (by omega)
      go_region_held3 (fun w' => w'.cell? ⟨b, o + 3, none⟩ = some (.int .i64 x3) ∧ w'.cell? ⟨w.heap.size, 0, none⟩ = some (.slice B ps.length d) ∧ Below w1.heap.size w1 w') (first | exact ⟨c3, hbox, (Below.refl _ _).drew⟩ | exact ⟨cell_kept (w := w1.drew) (by assumption) c3, cell_kept (w := w1.drew) (by assumption) hbox, (Below.refl _ _).drew.trans (by assumption)⟩)
        (first | (go_at_call 37; refine (rcurveAt_any _ _ _ _ _ (hp.kept hacc.drew) hok (by omega) (by omega)).mono ?_; rintro e wa ⟨rfl, hb⟩) | (go_at_call 23; refine (round_any _ _ _ (by omega) (by omega) (by omega) (by omega)).mono ?_; rintro e w' ⟨rfl, rfl⟩))
      all_goals go_wp2_with fail
      all_goals
        go_meet
        case rel => exact ⟨by first | rfl | (congr 1; rw [HV.out]; first | rfl | omega | (simp only [Int.min_def] at *; (repeat' split at *) <;> omega)), (by first | assumption | exact (Below.refl _ _).drew.trans hb)⟩
    case rest =>
      obtain ⟨rfl, hbc⟩ := hcut
      have c0 := cell_kept hbc c0
      have c1 := cell_kept hbc c1
      have c2 := cell_kept hbc c2
      have c3 := cell_kept hbc c3
      have hbw : b < wc.heap.size := lt_of_cell c0
      have hacc := hacc.trans (hbc.mono hacc.size)
      have hir := hir.kept hbc
      have his := his.kept hbc
      clear hbc hbox
      go_upto_region 12 with fail
      have i0 := i64_in (a := x0 - a1) (by omega) (by omega)
      have i1 := i64_in (a := x1 - a1) (by omega) (by omega)
      have i2 := i64_in (a := x2 - a1) (by omega) (by omega)
      have i3 := i64_in (a := x3 + a1) (by omega) (by omega)
      go_region
      all_goals go_wp2_with fail
      all_goals
        have hal : Below wc.heap.size wc ((wc.alloc (.cells #[.int .i64 (x0 - a1), .int .i64 (x1 - a1), .int .i64 (x2 - a1), .int .i64 (x3 + a1)] 3)).drew) := ((Below.refl _ _).alloc (Nat.le_refl _) _).drew
        have hout : Ints ((wc.alloc (.cells #[.int .i64 (x0 - a1), .int .i64 (x1 - a1), .int .i64 (x2 - a1), .int .i64 (x3 + a1)] 3)).drew) (some ⟨wc.heap.size, 0, none⟩) (replL ps x0 x1 x2 x3) := by
          have := (ints_alloc wc (replL ps x0 x1 x2 x3) 3).kept ((Below.refl _ _).drew)
          rw [HM.out] at this ⊢
          exact this
        have hir := hir.kept hal
        have his := his.kept hal
        have hacc := hacc.trans (hal.mono hacc.size)
        go_at_call 27
        refine (sameInts_yes AR (some ⟨wc.heap.size, 0, none⟩) (replL ps x0 x1 x2 x3) cR 4 _ (Nat.le_of_ble_eq_true rfl) hir hout).mono ?_
        rintro e w6 ⟨rfl, hb⟩
        have hacc := hacc.trans (hb.mono hacc.size)
        have hout := hout.kept hb
        have his := his.kept hb
        clear hb hal hir
        by_cases ht : t < 0 ∨ 2040 < t
        · rw [if_pos ht] at hq
          cases hq
          have hw : within t 0 2040 = false := within_not (by omega)
          clear ht
          go_wp2_with (first | (go_at_call 16; refine (within_any _ _ _ _).mono ?_; rintro e w' ⟨rfl, rfl⟩) | (go_at_call 17; refine (none_any _ _ _ _).mono ?_; rintro e w' ⟨rfl, rfl⟩))
          go_ret
          exact ⟨rfl, hacc⟩
        · rw [if_neg ht] at hq
          cases hq
          obtain ⟨t0, t1⟩ : 0 ≤ t ∧ t ≤ 2040 := by omega
          have hw : within t 0 2040 = true := within_mk t0 t1
          clear ht
          go_wp2_with (go_at_call 16; refine (within_any _ _ _ _).mono ?_; rintro e w' ⟨rfl, rfl⟩)
          go_at_call 38
          refine (rlimited_any _ (replL ps x0 x1 x2 x3) _ _ _ _ (Nat.le_of_ble_eq_true rfl) hra.out hout (by omega) (by show (3 : Int) < ((4 : Nat) : Int); omega) t0 t1).mono ?_
          rintro e w7 ⟨A7, c7, rfl, hi7, hb⟩
          have hacc := hacc.trans (hb.mono hacc.size)
          have his := his.kept hb
          clear hb
          go_wp2_with fail
          go_at_call 27
          refine (sameInts_yes AS A7 (limL (replL ps x0 x1 x2 x3) 3 t) cS c7 _ (by rw [limL_length]; exact Nat.le_of_ble_eq_true rfl) his hi7).mono ?_
          rintro e w8 ⟨rfl, hb⟩
          have hacc := hacc.trans (hb.mono hacc.size)
          go_wp2
          go_ret
          exact ⟨rfl, hacc⟩
theorem inklimitSeparations_walk (A B : Option Addr) (xs : List Int) (ps : List (Int × Int)) (c d : Nat) (t : Int) (w : World) (hl : xs.length ≤ maxLen) (hl' : ps.length ≤ maxLen) (h : Ints w A xs) (hp : Pts w B ps) :
    Calls Try.prog 7 #[.slice A xs.length c, .agg #[.slice B ps.length d], .int .i64 t] w fun e w' => e = .returned (.bool true) ∧ Below w.heap.size w w' := by
  by_cases he : tonesE xs 4 255 = 0
  · by_cases hc : curveE ps = 0
    · obtain ⟨h4, hall⟩ := tones_ok he
      obtain ⟨x0, x1, x2, x3, rfl⟩ := four (show xs.length = 4 by omega)
      obtain ⟨b0, b1, b2, b3⟩ := four_in hall
      exact inklimitSeparations_good A B ps x0 x1 x2 x3 c d t w hl' h hp (curve_ok hc) he hc b0 b1 b2 b3
    · exact inklimitSeparations_bad A B xs ps c d t w hl hl' h hp (.inr ⟨he, hc⟩)
  · exact inklimitSeparations_bad A B xs ps c d t w hl hl' h hp (.inl he)
end Go.Proofs.Ytlbnicapkfmdoaa
