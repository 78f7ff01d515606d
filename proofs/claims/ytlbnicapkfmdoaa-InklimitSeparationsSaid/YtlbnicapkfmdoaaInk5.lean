/- Walks of inklimit.Limit, Replace, Separate and of inklimitWorks. -/
import Derived.Test.YtlbnicapkfmdoaaInk4
namespace Go.Proofs.Ytlbnicapkfmdoaa
open Go.RowKit

def limitF (xs : List Int) (b t : Int) : List Int × Int :=
  if inkE xs ≠ 0 then ([], inkE xs) else if b < -1 ∨ (xs.length : Int) ≤ b ∨ t < 0 ∨ 2040 < t then ([], 3) else (limL xs b t, 0)
set_option maxHeartbeats 1000000 in
theorem limit_is {A : Option Addr} {xs : List Int} {c : Nat} {b t : Int} {p : List Int} {q : Int} (w : World) (hl : xs.length ≤ maxLen) (h : Ints w A xs) (hF : limitF xs b t = (p, q)) :
    Calls Try.prog 40 #[.slice A xs.length c, .int .i64 b, .int .i64 t] w (OutInts p q w) := by
  unfold limitF at hF
  by_cases he : inkE xs = 0
  · rw [if_neg (by omega)] at hF
    obtain ⟨h8, hall⟩ := inkE_ok he
    have he' : (inkE xs != 0) = false := by simp [he]
    clear he
    by_cases hr : b < -1 ∨ (xs.length : Int) ≤ b ∨ t < 0 ∨ 2040 < t
    · rw [if_pos hr] at hF
      cases hF
      rcases (show b < -1 ∨ (-1 ≤ b ∧ (xs.length : Int) ≤ b) ∨ (-1 ≤ b ∧ b < xs.length ∧ t < 0) ∨ (-1 ≤ b ∧ b < xs.length ∧ 0 ≤ t ∧ 2040 < t) by omega) with g | ⟨g1, g2⟩ | ⟨g1, g2, g3⟩ | ⟨g1, g2, g3, g4⟩
      all_goals
        clear hr
        go_enter Try.func40, Try.ntmps40
        go_wp2_with (go_at_call 64; refine (icheck_any _ _ _ _ hl h).mono ?_; rintro e w' ⟨rfl, rfl⟩)
        go_ret2
        exact ⟨none, 0, rfl, Ints.nil _ _, Below.refl _ _⟩
    · rw [if_neg hr] at hF
      cases hF
      obtain ⟨g1, g2, g3, g4⟩ : -1 ≤ b ∧ b < xs.length ∧ 0 ≤ t ∧ t ≤ 2040 := by omega
      clear hr
      go_enter Try.func40, Try.ntmps40
      go_wp2_with (first | (go_at_call 64; refine (icheck_any _ _ _ _ hl h).mono ?_; rintro e w' ⟨rfl, rfl⟩) | (go_at_call 63; refine (quick_any _ _ _ _ _ _ h8 hall h g1 g2 g3 g4).mono ?_; rintro e w1 ⟨A', c', rfl, hi, hb⟩))
      go_ret2
      exact ⟨A', c', rfl, hi, hb⟩
  · rw [if_pos he] at hF
    cases hF
    have he' : (inkE xs != 0) = true := by simp [he]
    clear he
    go_enter Try.func40, Try.ntmps40
    go_wp2_with (go_at_call 64; refine (icheck_any _ _ _ _ hl h).mono ?_; rintro e w' ⟨rfl, rfl⟩)
    go_ret2
    exact ⟨none, 0, rfl, Ints.nil _ _, Below.refl _ _⟩

/-- replaced tones and their amount, of four tones -/
def replOf (ps : List (Int × Int)) : List Int → List Int × Int
  | [x0, x1, x2, x3] => (replL ps x0 x1 x2 x3, amtV ps x0 x1 x2 x3)
  | _ => ([], 0)
def replaceF (xs : List Int) (ps : List (Int × Int)) : List Int × Int × Int :=
  if tonesE xs 4 255 ≠ 0 then ([], 0, tonesE xs 4 255) else if curveE ps ≠ 0 then ([], 0, curveE ps) else ((replOf ps xs).1, (replOf ps xs).2, 0)
theorem four {xs : List Int} (h : xs.length = 4) : ∃ x0 x1 x2 x3, xs = [x0, x1, x2, x3] := by
  match xs, h with | [a, b, c, d], _ => exact ⟨a, b, c, d, rfl⟩
theorem four_in {x0 x1 x2 x3 : Int} (h : [x0, x1, x2, x3].all (fun v => within v 0 255) = true) : (0 ≤ x0 ∧ x0 ≤ 255) ∧ (0 ≤ x1 ∧ x1 ≤ 255) ∧ (0 ≤ x2 ∧ x2 ≤ 255) ∧ 0 ≤ x3 ∧ x3 ≤ 255 := by
  simp only [List.all_cons, List.all_nil, Bool.and_eq_true] at h
  exact ⟨within_iff.1 h.1, within_iff.1 h.2.1, within_iff.1 h.2.2.1, within_iff.1 h.2.2.2.1⟩
/-- three results: a slice of numbers, a number, an error -/
def OutInts2 (xs : List Int) (n err : Int) (w : World) (e : Ending) (w' : World) : Prop :=
  ∃ A c, e = .returned (.tuple #[.slice A xs.length c, .int .i64 n, .int .i64 err]) ∧ Ints w' A xs ∧ Below w.heap.size w w'
set_option maxHeartbeats 1000000 in
theorem replace_is {A B : Option Addr} {xs : List Int} {ps : List (Int × Int)} {c d : Nat} {p : List Int} {n q : Int} (w : World) (hl : xs.length ≤ maxLen) (hl' : ps.length ≤ maxLen) (h : Ints w A xs) (hp : Pts w B ps) (hF : replaceF xs ps = (p, n, q)) :
    Calls Try.prog 34 #[.slice A xs.length c, .agg #[.slice B ps.length d]] w (OutInts2 p n q w) := by
  unfold replaceF at hF
  have hacc : Below w.heap.size w (w.alloc (.cells #[.slice B ps.length d] 49)) := (Below.refl _ _).alloc (Nat.le_refl _) _
  have hbox : (w.alloc (.cells #[.slice B ps.length d] 49)).cell? ⟨w.heap.size, 0, none⟩ = some (.slice B ps.length d) := by simp [go_sem]
  by_cases he : tonesE xs 4 255 = 0
  · rw [if_neg (by omega)] at hF
    obtain ⟨h4, hall⟩ := tones_ok he
    have he' : (tonesE xs 4 255 != 0) = false := by simp [he]
    clear he
    by_cases hc : curveE ps = 0
    · rw [if_neg (by omega)] at hF
      cases hF
      have hok := curve_ok hc
      have hc' : (curveE ps != 0) = false := by simp [hc]
      obtain ⟨x0, x1, x2, x3, rfl⟩ := four (show xs.length = 4 by omega)
      obtain ⟨b0, b1, b2, b3⟩ := four_in hall
      clear hc h4 hall
      go_enter Try.func34, Try.ntmps34
      go_wp2_with (first | (go_at_call 56; refine (tones_any _ _ _ _ _ hl (h.kept hacc)).mono ?_; rintro e w' ⟨rfl, rfl⟩) | (go_at_call 44; refine (ccheck_any _ _ _ _ hl' (hp.kept hacc)).mono ?_; rintro e wa ⟨rfl, hb⟩; have hbox := cell_kept hb hbox; have hacc := hacc.trans (hb.mono hacc.size)) | (go_at_call 62; refine (replaced_any _ _ _ _ _ _ _ _ _ _ (h.kept hacc) (hp.kept hacc) hok b0 b1 b2 b3).mono ?_; rintro e wb ⟨A', c', rfl, hi, hb⟩; have hacc := hacc.trans (hb.mono hacc.size)))
      go_ret3
      exact ⟨A', c', rfl, hi, hacc⟩
    · rw [if_pos hc] at hF
      cases hF
      have hc' : (curveE ps != 0) = true := by simp [hc]
      clear hc
      go_enter Try.func34, Try.ntmps34
      go_wp2_with (first | (go_at_call 56; refine (tones_any _ _ _ _ _ hl (h.kept hacc)).mono ?_; rintro e w' ⟨rfl, rfl⟩) | (go_at_call 44; refine (ccheck_any _ _ _ _ hl' (hp.kept hacc)).mono ?_; rintro e wa ⟨rfl, hb⟩; have hbox := cell_kept hb hbox; have hacc := hacc.trans (hb.mono hacc.size)))
      go_ret3
      exact ⟨none, 0, rfl, Ints.nil _ _, hacc⟩
  · rw [if_pos he] at hF
    cases hF
    have he' : (tonesE xs 4 255 != 0) = true := by simp [he]
    clear he
    go_enter Try.func34, Try.ntmps34
    go_wp2_with (first | (go_at_call 56; refine (tones_any _ _ _ _ _ hl (h.kept hacc)).mono ?_; rintro e w' ⟨rfl, rfl⟩))
    go_ret3
    exact ⟨none, 0, rfl, Ints.nil _ _, hacc⟩

def sepF (xs : List Int) (ps : List (Int × Int)) (t : Int) : List Int × Int :=
  if tonesE xs 4 255 ≠ 0 then ([], tonesE xs 4 255) else if curveE ps ≠ 0 then ([], curveE ps) else if t < 0 ∨ 2040 < t then ([], 3) else (limL (replOf ps xs).1 3 t, 0)
theorem replL_all {ps : List (Int × Int)} {x0 x1 x2 x3 : Int} (hok : CurveOk ps) (b0 : 0 ≤ x0 ∧ x0 ≤ 255) (b1 : 0 ≤ x1 ∧ x1 ≤ 255) (b2 : 0 ≤ x2 ∧ x2 ≤ 255) (b3 : 0 ≤ x3 ∧ x3 ≤ 255) : (replL ps x0 x1 x2 x3).all (fun v => within v 0 255) = true := by
  obtain ⟨g0, g1, g2, g3, g4⟩ := greyV_bd b0.1 b0.2 b1.1 b2.1
  obtain ⟨v0, v1⟩ := curveAt_bd hok (x := 256 * greyV x0 x1 x2) (by omega) (by omega)
  have r0 : 0 ≤ rnd (curveAt ps (256 * greyV x0 x1 x2)) 256 := by unfold rnd; omega
  have hm : 0 ≤ amtV ps x0 x1 x2 x3 ∧ amtV ps x0 x1 x2 x3 ≤ greyV x0 x1 x2 ∧ amtV ps x0 x1 x2 x3 ≤ 255 - x3 := by unfold amtV; omega
  unfold replL
  simp only [List.all_cons, List.all_nil, Bool.and_eq_true]
  refine ⟨within_mk ?_ ?_, within_mk ?_ ?_, within_mk ?_ ?_, within_mk ?_ ?_, trivial⟩ <;> omega
set_option maxHeartbeats 1000000 in
theorem sep_is {A B : Option Addr} {xs : List Int} {ps : List (Int × Int)} {c d : Nat} {t : Int} {p : List Int} {q : Int} (w : World) (hl : xs.length ≤ maxLen) (hl' : ps.length ≤ maxLen) (h : Ints w A xs) (hp : Pts w B ps) (hF : sepF xs ps t = (p, q)) :
    Calls Try.prog 35 #[.slice A xs.length c, .agg #[.slice B ps.length d], .int .i64 t] w (OutInts p q w) := by
  unfold sepF at hF
  have hacc : Below w.heap.size w (w.alloc (.cells #[.slice B ps.length d] 49)) := (Below.refl _ _).alloc (Nat.le_refl _) _
  have hbox : (w.alloc (.cells #[.slice B ps.length d] 49)).cell? ⟨w.heap.size, 0, none⟩ = some (.slice B ps.length d) := by simp [go_sem]
  by_cases he : tonesE xs 4 255 = 0
  · rw [if_neg (by omega)] at hF
    obtain ⟨h4, hall⟩ := tones_ok he
    have he' : (tonesE xs 4 255 != 0) = false := by simp [he]
    clear he
    by_cases hc : curveE ps = 0
    · rw [if_neg (by omega)] at hF
      have hok := curve_ok hc
      have hc' : (curveE ps != 0) = false := by simp [hc]
      clear hc
      by_cases ht : t < 0 ∨ 2040 < t
      · rw [if_pos ht] at hF
        cases hF
        rcases (show t < 0 ∨ (0 ≤ t ∧ 2040 < t) by omega) with g | ⟨g1, g2⟩
        all_goals
          clear ht
          go_enter Try.func35, Try.ntmps35
          go_wp2_with (first | (go_at_call 56; refine (tones_any _ _ _ _ _ hl (h.kept hacc)).mono ?_; rintro e w' ⟨rfl, rfl⟩) | (go_at_call 44; refine (ccheck_any _ _ _ _ hl' (hp.kept hacc)).mono ?_; rintro e wa ⟨rfl, hb⟩; have hbox := cell_kept hb hbox; have hacc := hacc.trans (hb.mono hacc.size)))
          go_ret2
          exact ⟨none, 0, rfl, Ints.nil _ _, hacc⟩
      · rw [if_neg ht] at hF
        cases hF
        obtain ⟨g1, g2⟩ : 0 ≤ t ∧ t ≤ 2040 := by omega
        obtain ⟨x0, x1, x2, x3, rfl⟩ := four (show xs.length = 4 by omega)
        obtain ⟨b0, b1, b2, b3⟩ := four_in hall
        have hra := replL_all hok b0 b1 b2 b3
        have HRA := Lib.hid hra
        clear ht h4 hall hra
        go_enter Try.func35, Try.ntmps35
        go_wp2_with (first | (go_at_call 56; refine (tones_any _ _ _ _ _ hl (h.kept hacc)).mono ?_; rintro e w' ⟨rfl, rfl⟩) | (go_at_call 44; refine (ccheck_any _ _ _ _ hl' (hp.kept hacc)).mono ?_; rintro e wa ⟨rfl, hb⟩; have hbox := cell_kept hb hbox; have hacc := hacc.trans (hb.mono hacc.size)) | (go_at_call 62; refine (replaced_any _ _ _ _ _ _ _ _ _ _ (h.kept hacc) (hp.kept hacc) hok b0 b1 b2 b3).mono ?_; rintro e wb ⟨A', c', rfl, hi, hb⟩; have hacc := hacc.trans (hb.mono hacc.size)) | (go_at_call 63; refine (quick_any _ (replL ps x0 x1 x2 x3) _ _ _ _ (Nat.le_of_ble_eq_true rfl) HRA.out hi (by omega) (by show (3 : Int) < ((4 : Nat) : Int); omega) g1 g2).mono ?_; rintro e wq ⟨A2, c2, rfl, hi2, hb2⟩))
        go_ret2
        exact ⟨A2, c2, rfl, hi2, hacc.trans (hb2.mono hacc.size)⟩
    · rw [if_pos hc] at hF
      cases hF
      have hc' : (curveE ps != 0) = true := by simp [hc]
      clear hc
      go_enter Try.func35, Try.ntmps35
      go_wp2_with (first | (go_at_call 56; refine (tones_any _ _ _ _ _ hl (h.kept hacc)).mono ?_; rintro e w' ⟨rfl, rfl⟩) | (go_at_call 44; refine (ccheck_any _ _ _ _ hl' (hp.kept hacc)).mono ?_; rintro e wa ⟨rfl, hb⟩; have hbox := cell_kept hb hbox; have hacc := hacc.trans (hb.mono hacc.size)))
      go_ret2
      exact ⟨none, 0, rfl, Ints.nil _ _, hacc⟩
  · rw [if_pos he] at hF
    cases hF
    have he' : (tonesE xs 4 255 != 0) = true := by simp [he]
    clear he
    go_enter Try.func35, Try.ntmps35
    go_wp2_with (first | (go_at_call 56; refine (tones_any _ _ _ _ _ hl (h.kept hacc)).mono ?_; rintro e w' ⟨rfl, rfl⟩))
    go_ret2
    exact ⟨none, 0, rfl, Ints.nil _ _, hacc⟩
end Go.Proofs.Ytlbnicapkfmdoaa
