/- Walk of ToLab. -/
import Derived.Test.YtdfocbeejgcglaaRef7
namespace Go.Proofs.Ytdfocbeejgcglaa
open Go.RowKit

theorem cutv_any (v l h : Int) (w : World) : Calls Try.prog 68 #[.int .i64 v, .int .i64 l, .int .i64 h] w fun e w' => e = .returned (.int .i64 (cutV v l h)) ∧ w = w' := cut_any v l h w
def toLabF (x y z x' y' z' : Int) : (Int × Int × Int) × Int := if xyzE x y z 0 300000 ≠ 0 ∨ xyzE x' y' z' 80000 120000 ≠ 0 then ((0, 0, 0), 3) else ((labA (respV y y'), labB (respV x x') (respV y y'), labC (respV y y') (respV z z')), 0)
set_option maxRecDepth 20000 in
set_option maxHeartbeats 4000000 in
theorem toLab_good {x y z x' y' z' : Int} (w : World) (he : xyzE x y z 0 300000 = 0) (he' : xyzE x' y' z' 80000 120000 = 0) :
    Calls Try.prog 15 #[.agg #[.int .i64 x, .int .i64 y, .int .i64 z], .agg #[.int .i64 x', .int .i64 y', .int .i64 z']] w fun e w' => e = .returned (.tuple #[.agg #[.int .i64 (labA (respV y y')), .int .i64 (labB (respV x x') (respV y y')), .int .i64 (labC (respV y y') (respV z z'))], .int .i64 0]) ∧ Below w.heap.size w w' := by
  obtain ⟨a1, a2, a3, a4, a5, a6⟩ := xyzOk he
  obtain ⟨b1, b2, b3, b4, b5, b6⟩ := xyzOk he'
  have x1 : (xyzE x y z 0 300000 != 0) = false := by simp [he]
  have x2 : (xyzE x' y' z' 80000 120000 != 0) = false := by simp [he']
  clear he he'
  have p0 : (((w.alloc (.cells #[.int .i64 x, .int .i64 y, .int .i64 z] 23)).alloc (.cells #[.int .i64 x', .int .i64 y', .int .i64 z'] 23)).alloc (.cells #[.int .i64 0, .int .i64 0, .int .i64 0] 26)).cell? ⟨w.heap.size, 0, none⟩ = some (.int .i64 x) := by simp [go_sem]
  have p1 : (((w.alloc (.cells #[.int .i64 x, .int .i64 y, .int .i64 z] 23)).alloc (.cells #[.int .i64 x', .int .i64 y', .int .i64 z'] 23)).alloc (.cells #[.int .i64 0, .int .i64 0, .int .i64 0] 26)).cell? ⟨w.heap.size, 1, none⟩ = some (.int .i64 y) := by simp [go_sem]
  have p2 : (((w.alloc (.cells #[.int .i64 x, .int .i64 y, .int .i64 z] 23)).alloc (.cells #[.int .i64 x', .int .i64 y', .int .i64 z'] 23)).alloc (.cells #[.int .i64 0, .int .i64 0, .int .i64 0] 26)).cell? ⟨w.heap.size, 2, none⟩ = some (.int .i64 z) := by simp [go_sem]
  have q0 : (((w.alloc (.cells #[.int .i64 x, .int .i64 y, .int .i64 z] 23)).alloc (.cells #[.int .i64 x', .int .i64 y', .int .i64 z'] 23)).alloc (.cells #[.int .i64 0, .int .i64 0, .int .i64 0] 26)).cell? ⟨w.heap.size + 1, 0, none⟩ = some (.int .i64 x') := by simp [go_sem]
  have q1 : (((w.alloc (.cells #[.int .i64 x, .int .i64 y, .int .i64 z] 23)).alloc (.cells #[.int .i64 x', .int .i64 y', .int .i64 z'] 23)).alloc (.cells #[.int .i64 0, .int .i64 0, .int .i64 0] 26)).cell? ⟨w.heap.size + 1, 1, none⟩ = some (.int .i64 y') := by simp [go_sem]
  have q2 : (((w.alloc (.cells #[.int .i64 x, .int .i64 y, .int .i64 z] 23)).alloc (.cells #[.int .i64 x', .int .i64 y', .int .i64 z'] 23)).alloc (.cells #[.int .i64 0, .int .i64 0, .int .i64 0] 26)).cell? ⟨w.heap.size + 1, 2, none⟩ = some (.int .i64 z') := by simp [go_sem]
  have z0 : (((w.alloc (.cells #[.int .i64 x, .int .i64 y, .int .i64 z] 23)).alloc (.cells #[.int .i64 x', .int .i64 y', .int .i64 z'] 23)).alloc (.cells #[.int .i64 0, .int .i64 0, .int .i64 0] 26)).cell? ⟨w.heap.size + 1 + 1, 0, none⟩ = some (.int .i64 0) := by simp [go_sem]
  have z1 : (((w.alloc (.cells #[.int .i64 x, .int .i64 y, .int .i64 z] 23)).alloc (.cells #[.int .i64 x', .int .i64 y', .int .i64 z'] 23)).alloc (.cells #[.int .i64 0, .int .i64 0, .int .i64 0] 26)).cell? ⟨w.heap.size + 1 + 1, 1, none⟩ = some (.int .i64 0) := by simp [go_sem]
  have z2 : (((w.alloc (.cells #[.int .i64 x, .int .i64 y, .int .i64 z] 23)).alloc (.cells #[.int .i64 x', .int .i64 y', .int .i64 z'] 23)).alloc (.cells #[.int .i64 0, .int .i64 0, .int .i64 0] 26)).cell? ⟨w.heap.size + 1 + 1, 2, none⟩ = some (.int .i64 0) := by simp [go_sem]
  have fz0 : (((w.alloc (.cells #[.int .i64 x, .int .i64 y, .int .i64 z] 23)).alloc (.cells #[.int .i64 x', .int .i64 y', .int .i64 z'] 23)).alloc (.cells #[.int .i64 0, .int .i64 0, .int .i64 0] 26)).frozen? ⟨w.heap.size + 1 + 1, 0, none⟩ = false := by simp [go_sem]
  have fz1 : (((w.alloc (.cells #[.int .i64 x, .int .i64 y, .int .i64 z] 23)).alloc (.cells #[.int .i64 x', .int .i64 y', .int .i64 z'] 23)).alloc (.cells #[.int .i64 0, .int .i64 0, .int .i64 0] 26)).frozen? ⟨w.heap.size + 1 + 1, 1, none⟩ = false := by simp [go_sem]
  have fz2 : (((w.alloc (.cells #[.int .i64 x, .int .i64 y, .int .i64 z] 23)).alloc (.cells #[.int .i64 x', .int .i64 y', .int .i64 z'] 23)).alloc (.cells #[.int .i64 0, .int .i64 0, .int .i64 0] 26)).frozen? ⟨w.heap.size + 1 + 1, 2, none⟩ = false := by simp [go_sem]
  have hacc : Below w.heap.size w (((w.alloc (.cells #[.int .i64 x, .int .i64 y, .int .i64 z] 23)).alloc (.cells #[.int .i64 x', .int .i64 y', .int .i64 z'] 23)).alloc (.cells #[.int .i64 0, .int .i64 0, .int .i64 0] 26)) := (by repeat (first | assumption | exact Below.refl _ _ | refine below_drewN ?_ _ | refine Below.drew ?_ | refine Below.setCell ?_ (by first | exact Nat.le_refl _ | assumption | (simp; done) | (simp; omega) | omega) _ | refine Below.alloc ?_ (by first | exact Nat.le_refl _ | assumption | (simp; done) | omega | exact Below.size (by assumption) | (simp; omega)) _))
  go_enter Try.func15, Try.ntmps15
  go_upto_region 7 with (first | (go_at_call 18; refine (xyzcheck_any _ _ _ _).mono ?_; rintro e wa ⟨rfl, hb⟩; have fz0 := (hb.frozen (lt_of_cell z0)).trans fz0; have fz1 := (hb.frozen (lt_of_cell z1)).trans fz1; have fz2 := (hb.frozen (lt_of_cell z2)).trans fz2; have p0 := cell_kept hb p0; have p1 := cell_kept hb p1; have p2 := cell_kept hb p2; have q0 := cell_kept hb q0; have q1 := cell_kept hb q1; have q2 := cell_kept hb q2; have z0 := cell_kept hb z0; have z1 := cell_kept hb z1; have z2 := cell_kept hb z2; have hacc := hacc.trans (hb.mono hacc.size); clear hb) | (go_at_call 19; refine (white_any _ _ _ _).mono ?_; rintro e wb ⟨rfl, hb⟩; have fz0 := (hb.frozen (lt_of_cell z0)).trans fz0; have fz1 := (hb.frozen (lt_of_cell z1)).trans fz1; have fz2 := (hb.frozen (lt_of_cell z2)).trans fz2; have p0 := cell_kept hb p0; have p1 := cell_kept hb p1; have p2 := cell_kept hb p2; have q0 := cell_kept hb q0; have q1 := cell_kept hb q1; have q2 := cell_kept hb q2; have z0 := cell_kept hb z0; have z1 := cell_kept hb z1; have z2 := cell_kept hb z2; have hacc := hacc.trans (hb.mono hacc.size); clear hb))
  have hsz := lt_of_cell z0
  go_quiet ((first | (go_at_call 67; exact quietL (response_any _ _ _ a1 a2 b1 b2)) | (go_at_call 67; exact quietL (response_any _ _ _ a3 a4 b3 b4)) | (go_at_call 67; exact quietL (response_any _ _ _ a5 a6 b5 b6))))
  have hd := below_drewN (B := wb.heap.size) (Below.refl wb.heap.size wb) nq
  have hacc := below_drewN hacc nq
  have fz0 := (hd.frozen (lt_of_cell z0)).trans fz0
  have fz1 := (hd.frozen (lt_of_cell z1)).trans fz1
  have fz2 := (hd.frozen (lt_of_cell z2)).trans fz2
  have p0 := cell_kept hd p0
  have p1 := cell_kept hd p1
  have p2 := cell_kept hd p2
  have q0 := cell_kept hd q0
  have q1 := cell_kept hd q1
  have q2 := cell_kept hd q2
  have z0 := cell_kept hd z0
  have z1 := cell_kept hd z1
  have z2 := cell_kept hd z2
  clear hd hsz
  generalize wb.drewN nq = W2 at *
  have hsz := lt_of_cell z0
  obtain ⟨X1, X2⟩ := respV_bd a1 a2 b1
  obtain ⟨Y1, Y2⟩ := respV_bd a3 a4 b3
  obtain ⟨Z1, Z2⟩ := respV_bd a5 a6 b5
  generalize hX : respV x x' = X at *
  generalize hY : respV y y' = Y at *
  generalize hZ : respV z z' = Z at *
  have HX := Lib.hid hX
  have HY := Lib.hid hY
  have HZ := Lib.hid hZ
  clear hX hY hZ
  clear a1 a2 a3 a4 a5 a6 b1 b2 b3 b4 b5 b6 p0 p1 p2 q0 q1 q2
  have i1 := i64_in (a := 116 * Y) (by omega) (by omega)
  have i2 := i64_in (a := 116 * Y / 100 - 1600) (by omega) (by omega)
  have i3 := i64_in (a := X - Y) (by omega) (by omega)
  have i4 := i64_in (a := 5 * (X - Y)) (by omega) (by omega)
  have i5 := i64_in (a := Y - Z) (by omega) (by omega)
  have i6 := i64_in (a := 2 * (Y - Z)) (by omega) (by omega)
  have i7 : (116 * Y).tdiv 100 = 116 * Y / 100 := Int.tdiv_eq_ediv_of_nonneg (by omega)
  go_wp2_with (go_at_call 68; refine (cutv_any _ _ _ _).mono ?_; rintro e w' ⟨rfl, rfl⟩)
  refine bodyPost_ret (v := .tuple #[.agg #[.int .i64 (labA Y), .int .i64 (labB X Y), .int .i64 (labC Y Z)], .int .i64 0]) (by simp [results, Try.results15, go_sem, labA, labB, labC, *]) rfl ?_
  exact ⟨by rw [HX.out, HY.out, HZ.out], (by repeat (first | assumption | exact Below.refl _ _ | refine below_drewN ?_ _ | refine Below.drew ?_ | refine Below.setCell ?_ (by first | exact Nat.le_refl _ | assumption | (simp; done) | (simp; omega) | omega) _ | refine Below.alloc ?_ (by first | exact Nat.le_refl _ | assumption | (simp; done) | omega | exact Below.size (by assumption) | (simp; omega)) _))⟩
set_option maxRecDepth 20000 in
set_option maxHeartbeats 4000000 in
theorem toLab_bad {x y z x' y' z' : Int} (w : World) (h : xyzE x y z 0 300000 ≠ 0 ∨ xyzE x' y' z' 80000 120000 ≠ 0) :
    Calls Try.prog 15 #[.agg #[.int .i64 x, .int .i64 y, .int .i64 z], .agg #[.int .i64 x', .int .i64 y', .int .i64 z']] w fun e w' => e = .returned (.tuple #[.agg #[.int .i64 0, .int .i64 0, .int .i64 0], .int .i64 3]) ∧ Below w.heap.size w w' := by
  have p0 : (((w.alloc (.cells #[.int .i64 x, .int .i64 y, .int .i64 z] 23)).alloc (.cells #[.int .i64 x', .int .i64 y', .int .i64 z'] 23)).alloc (.cells #[.int .i64 0, .int .i64 0, .int .i64 0] 26)).cell? ⟨w.heap.size, 0, none⟩ = some (.int .i64 x) := by simp [go_sem]
  have p1 : (((w.alloc (.cells #[.int .i64 x, .int .i64 y, .int .i64 z] 23)).alloc (.cells #[.int .i64 x', .int .i64 y', .int .i64 z'] 23)).alloc (.cells #[.int .i64 0, .int .i64 0, .int .i64 0] 26)).cell? ⟨w.heap.size, 1, none⟩ = some (.int .i64 y) := by simp [go_sem]
  have p2 : (((w.alloc (.cells #[.int .i64 x, .int .i64 y, .int .i64 z] 23)).alloc (.cells #[.int .i64 x', .int .i64 y', .int .i64 z'] 23)).alloc (.cells #[.int .i64 0, .int .i64 0, .int .i64 0] 26)).cell? ⟨w.heap.size, 2, none⟩ = some (.int .i64 z) := by simp [go_sem]
  have q0 : (((w.alloc (.cells #[.int .i64 x, .int .i64 y, .int .i64 z] 23)).alloc (.cells #[.int .i64 x', .int .i64 y', .int .i64 z'] 23)).alloc (.cells #[.int .i64 0, .int .i64 0, .int .i64 0] 26)).cell? ⟨w.heap.size + 1, 0, none⟩ = some (.int .i64 x') := by simp [go_sem]
  have q1 : (((w.alloc (.cells #[.int .i64 x, .int .i64 y, .int .i64 z] 23)).alloc (.cells #[.int .i64 x', .int .i64 y', .int .i64 z'] 23)).alloc (.cells #[.int .i64 0, .int .i64 0, .int .i64 0] 26)).cell? ⟨w.heap.size + 1, 1, none⟩ = some (.int .i64 y') := by simp [go_sem]
  have q2 : (((w.alloc (.cells #[.int .i64 x, .int .i64 y, .int .i64 z] 23)).alloc (.cells #[.int .i64 x', .int .i64 y', .int .i64 z'] 23)).alloc (.cells #[.int .i64 0, .int .i64 0, .int .i64 0] 26)).cell? ⟨w.heap.size + 1, 2, none⟩ = some (.int .i64 z') := by simp [go_sem]
  have z0 : (((w.alloc (.cells #[.int .i64 x, .int .i64 y, .int .i64 z] 23)).alloc (.cells #[.int .i64 x', .int .i64 y', .int .i64 z'] 23)).alloc (.cells #[.int .i64 0, .int .i64 0, .int .i64 0] 26)).cell? ⟨w.heap.size + 1 + 1, 0, none⟩ = some (.int .i64 0) := by simp [go_sem]
  have z1 : (((w.alloc (.cells #[.int .i64 x, .int .i64 y, .int .i64 z] 23)).alloc (.cells #[.int .i64 x', .int .i64 y', .int .i64 z'] 23)).alloc (.cells #[.int .i64 0, .int .i64 0, .int .i64 0] 26)).cell? ⟨w.heap.size + 1 + 1, 1, none⟩ = some (.int .i64 0) := by simp [go_sem]
  have z2 : (((w.alloc (.cells #[.int .i64 x, .int .i64 y, .int .i64 z] 23)).alloc (.cells #[.int .i64 x', .int .i64 y', .int .i64 z'] 23)).alloc (.cells #[.int .i64 0, .int .i64 0, .int .i64 0] 26)).cell? ⟨w.heap.size + 1 + 1, 2, none⟩ = some (.int .i64 0) := by simp [go_sem]
  have fz0 : (((w.alloc (.cells #[.int .i64 x, .int .i64 y, .int .i64 z] 23)).alloc (.cells #[.int .i64 x', .int .i64 y', .int .i64 z'] 23)).alloc (.cells #[.int .i64 0, .int .i64 0, .int .i64 0] 26)).frozen? ⟨w.heap.size + 1 + 1, 0, none⟩ = false := by simp [go_sem]
  have fz1 : (((w.alloc (.cells #[.int .i64 x, .int .i64 y, .int .i64 z] 23)).alloc (.cells #[.int .i64 x', .int .i64 y', .int .i64 z'] 23)).alloc (.cells #[.int .i64 0, .int .i64 0, .int .i64 0] 26)).frozen? ⟨w.heap.size + 1 + 1, 1, none⟩ = false := by simp [go_sem]
  have fz2 : (((w.alloc (.cells #[.int .i64 x, .int .i64 y, .int .i64 z] 23)).alloc (.cells #[.int .i64 x', .int .i64 y', .int .i64 z'] 23)).alloc (.cells #[.int .i64 0, .int .i64 0, .int .i64 0] 26)).frozen? ⟨w.heap.size + 1 + 1, 2, none⟩ = false := by simp [go_sem]
  have hacc : Below w.heap.size w (((w.alloc (.cells #[.int .i64 x, .int .i64 y, .int .i64 z] 23)).alloc (.cells #[.int .i64 x', .int .i64 y', .int .i64 z'] 23)).alloc (.cells #[.int .i64 0, .int .i64 0, .int .i64 0] 26)) := (by repeat (first | assumption | exact Below.refl _ _ | refine below_drewN ?_ _ | refine Below.drew ?_ | refine Below.setCell ?_ (by first | exact Nat.le_refl _ | assumption | (simp; done) | (simp; omega) | omega) _ | refine Below.alloc ?_ (by first | exact Nat.le_refl _ | assumption | (simp; done) | omega | exact Below.size (by assumption) | (simp; omega)) _))
  rcases xyzE_cases x y z 0 300000 with he | he
  · have he' : xyzE x' y' z' 80000 120000 = 3 := by rcases xyzE_cases x' y' z' 80000 120000 with g | g <;> omega
    have x1 : (xyzE x y z 0 300000 != 0) = false := by simp [he]
    have x2 : (xyzE x' y' z' 80000 120000 != 0) = true := by simp [he']
    have X3 := Lib.hid he'
    clear he he' h
    go_enter Try.func15, Try.ntmps15
    go_wp2_with (first | (go_at_call 18; refine (xyzcheck_any _ _ _ _).mono ?_; rintro e wa ⟨rfl, hb⟩; have fz0 := (hb.frozen (lt_of_cell z0)).trans fz0; have fz1 := (hb.frozen (lt_of_cell z1)).trans fz1; have fz2 := (hb.frozen (lt_of_cell z2)).trans fz2; have p0 := cell_kept hb p0; have p1 := cell_kept hb p1; have p2 := cell_kept hb p2; have q0 := cell_kept hb q0; have q1 := cell_kept hb q1; have q2 := cell_kept hb q2; have z0 := cell_kept hb z0; have z1 := cell_kept hb z1; have z2 := cell_kept hb z2; have hacc := hacc.trans (hb.mono hacc.size); clear hb) | (go_at_call 19; refine (white_any _ _ _ _).mono ?_; rintro e wb ⟨rfl, hb⟩; have fz0 := (hb.frozen (lt_of_cell z0)).trans fz0; have fz1 := (hb.frozen (lt_of_cell z1)).trans fz1; have fz2 := (hb.frozen (lt_of_cell z2)).trans fz2; have p0 := cell_kept hb p0; have p1 := cell_kept hb p1; have p2 := cell_kept hb p2; have q0 := cell_kept hb q0; have q1 := cell_kept hb q1; have q2 := cell_kept hb q2; have z0 := cell_kept hb z0; have z1 := cell_kept hb z1; have z2 := cell_kept hb z2; have hacc := hacc.trans (hb.mono hacc.size); clear hb))
    refine bodyPost_ret (v := .tuple #[.agg #[.int .i64 0, .int .i64 0, .int .i64 0], .int .i64 3]) (by rw [← X3.out]; simp [results, Try.results15, go_sem, *]) rfl ?_
    exact ⟨rfl, (by repeat (first | assumption | exact Below.refl _ _ | refine below_drewN ?_ _ | refine Below.drew ?_ | refine Below.setCell ?_ (by first | exact Nat.le_refl _ | assumption | (simp; done) | (simp; omega) | omega) _ | refine Below.alloc ?_ (by first | exact Nat.le_refl _ | assumption | (simp; done) | omega | exact Below.size (by assumption) | (simp; omega)) _))⟩
  · have x1 : (xyzE x y z 0 300000 != 0) = true := by simp [he]
    have X3 := Lib.hid he
    clear he h
    go_enter Try.func15, Try.ntmps15
    go_wp2_with (first | (go_at_call 18; refine (xyzcheck_any _ _ _ _).mono ?_; rintro e wa ⟨rfl, hb⟩; have fz0 := (hb.frozen (lt_of_cell z0)).trans fz0; have fz1 := (hb.frozen (lt_of_cell z1)).trans fz1; have fz2 := (hb.frozen (lt_of_cell z2)).trans fz2; have p0 := cell_kept hb p0; have p1 := cell_kept hb p1; have p2 := cell_kept hb p2; have q0 := cell_kept hb q0; have q1 := cell_kept hb q1; have q2 := cell_kept hb q2; have z0 := cell_kept hb z0; have z1 := cell_kept hb z1; have z2 := cell_kept hb z2; have hacc := hacc.trans (hb.mono hacc.size); clear hb) | (go_at_call 19; refine (white_any _ _ _ _).mono ?_; rintro e wb ⟨rfl, hb⟩; have fz0 := (hb.frozen (lt_of_cell z0)).trans fz0; have fz1 := (hb.frozen (lt_of_cell z1)).trans fz1; have fz2 := (hb.frozen (lt_of_cell z2)).trans fz2; have p0 := cell_kept hb p0; have p1 := cell_kept hb p1; have p2 := cell_kept hb p2; have q0 := cell_kept hb q0; have q1 := cell_kept hb q1; have q2 := cell_kept hb q2; have z0 := cell_kept hb z0; have z1 := cell_kept hb z1; have z2 := cell_kept hb z2; have hacc := hacc.trans (hb.mono hacc.size); clear hb))
    refine bodyPost_ret (v := .tuple #[.agg #[.int .i64 0, .int .i64 0, .int .i64 0], .int .i64 3]) (by rw [← X3.out]; simp [results, Try.results15, go_sem, *]) rfl ?_
    exact ⟨rfl, (by repeat (first | assumption | exact Below.refl _ _ | refine below_drewN ?_ _ | refine Below.drew ?_ | refine Below.setCell ?_ (by first | exact Nat.le_refl _ | assumption | (simp; done) | (simp; omega) | omega) _ | refine Below.alloc ?_ (by first | exact Nat.le_refl _ | assumption | (simp; done) | omega | exact Below.size (by assumption) | (simp; omega)) _))⟩
end Go.Proofs.Ytdfocbeejgcglaa
