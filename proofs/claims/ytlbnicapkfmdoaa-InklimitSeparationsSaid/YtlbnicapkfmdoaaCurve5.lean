/- Walks of curve.At, least, Inverse. -/
import Derived.Test.YtlbnicapkfmdoaaCurve4
namespace Go.Proofs.Ytlbnicapkfmdoaa
open Go.RowKit

def atF (ps : List (Int × Int)) (x : Int) : Int × Int := if curveE ps ≠ 0 then (0, curveE ps) else if x < 0 ∨ 65280 < x then (0, 3) else (curveAt ps x, 0)
set_option maxHeartbeats 1000000 in
theorem at_is {A : Option Addr} {ps : List (Int × Int)} {c : Nat} {x p q : Int} (w : World) (hl : ps.length ≤ maxLen) (h : Pts w A ps) (hF : atF ps x = (p, q)) :
    Calls Try.prog 43 #[.agg #[.slice A ps.length c], .int .i64 x] w fun e w' => e = .returned (.tuple #[.int .i64 p, .int .i64 q]) ∧ Below w.heap.size w w' := by
  unfold atF at hF
  have hb0 : Below w.heap.size w (w.alloc (.cells #[.slice A ps.length c] 49)) := (Below.refl _ _).alloc (Nat.le_refl _) _
  by_cases he : curveE ps = 0
  · rw [if_neg (by omega)] at hF
    have hok := curve_ok he
    have he' : (curveE ps != 0) = false := by simp [he]
    have HE := Lib.hid he
    clear he
    by_cases hx : x < 0 ∨ 65280 < x
    · rw [if_pos hx] at hF
      cases hF
      rcases hx with hx | hx
      · go_enter Try.func43, Try.ntmps43
        go_wp2_with (go_at_call 44; refine (ccheck_any _ _ _ _ hl (h.kept hb0)).mono ?_; rintro e w2 ⟨rfl, hb2⟩; have hbox := cell_kept (a := ⟨w.heap.size, 0, none⟩) hb2 (by simp [go_sem]; rfl))
        go_ret2
        exact ⟨rfl, hb0.trans (hb2.mono hb0.size)⟩
      · go_enter Try.func43, Try.ntmps43
        go_wp2_with (go_at_call 44; refine (ccheck_any _ _ _ _ hl (h.kept hb0)).mono ?_; rintro e w2 ⟨rfl, hb2⟩; have hbox := cell_kept (a := ⟨w.heap.size, 0, none⟩) hb2 (by simp [go_sem]; rfl))
        go_ret2
        exact ⟨rfl, hb0.trans (hb2.mono hb0.size)⟩
    · rw [if_neg hx] at hF
      cases hF
      have hx0 : 0 ≤ x := by omega
      have hx1 : x ≤ 65280 := by omega
      clear hx
      go_enter Try.func43, Try.ntmps43
      go_wp2_with (first
        | (go_at_call 44; refine (ccheck_any _ _ _ _ hl (h.kept hb0)).mono ?_; rintro e w2 ⟨rfl, hb2⟩; have hbox := cell_kept (a := ⟨w.heap.size, 0, none⟩) hb2 (by simp [go_sem]; rfl); have hb3 := hb0.trans (hb2.mono hb0.size))
        | (go_at_call 67; refine (raw_any _ _ _ _ _ (h.kept hb3) hok hx0 hx1).mono ?_; rintro e w4 ⟨rfl, hb4⟩))
      go_ret2
      exact ⟨rfl, hb3.trans (hb4.mono hb3.size)⟩
  · rw [if_pos he] at hF
    cases hF
    have he' : (curveE ps != 0) = true := by simp [he]
    clear he
    go_enter Try.func43, Try.ntmps43
    go_wp2_with (go_at_call 44; refine (ccheck_any _ _ _ _ hl (h.kept hb0)).mono ?_; rintro e w2 ⟨rfl, hb2⟩; have hbox := cell_kept (a := ⟨w.heap.size, 0, none⟩) hb2 (by simp [go_sem]; rfl))
    go_ret2
    exact ⟨rfl, hb0.trans (hb2.mono hb0.size)⟩
end Go.Proofs.Ytlbnicapkfmdoaa
