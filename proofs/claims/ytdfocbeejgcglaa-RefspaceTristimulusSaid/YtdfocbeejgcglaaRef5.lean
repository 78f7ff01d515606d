/- Walk of the reference's Between. -/
import Derived.Test.YtdfocbeejgcglaaRef4
namespace Go.Proofs.Ytdfocbeejgcglaa
open Go.RowKit

theorem mix_eq (x y n d : Int) : rnd (x * d + (y - x) * n) d = mixV x y n d := by
  unfold mixV
  congr 1
  rw [Int.sub_mul, Int.sub_mul, Int.mul_comm x d, Int.mul_comm y n, Int.mul_comm x n]
  omega
set_option maxRecDepth 20000 in
set_option maxHeartbeats 4000000 in
theorem rbetween_any {l a b l' a' b' n d : Int} (w : World) (ho : LabOk l a b) (ho' : LabOk l' a' b') (h1 : 1 ≤ d) (h2 : d ≤ 65280) (h3 : 0 ≤ n) (h4 : n ≤ d) :
    Calls Try.prog 34 #[.agg #[.int .i64 l, .int .i64 a, .int .i64 b], .agg #[.int .i64 l', .int .i64 a', .int .i64 b'], .int .i64 n, .int .i64 d] w fun e w' => e = .returned (.agg #[.int .i64 (mixV l l' n d), .int .i64 (mixV a a' n d), .int .i64 (mixV b b' n d)]) ∧ Below w.heap.size w w' := by
  obtain ⟨a1, a2, a3, a4, a5, a6⟩ := ho
  obtain ⟨b1, b2, b3, b4, b5, b6⟩ := ho'
  obtain ⟨m01, m02⟩ := mul_bd2 (p := d) (x := l) (P := 65280) (m := 12800) (by omega) (by omega) (by omega) (by omega)
  obtain ⟨m03, m04⟩ := mul_bd2 (p := n) (x := l' - l) (P := 65280) (m := 25600) (by omega) (by omega) (by omega) (by omega)
  rw [Int.mul_comm d l] at m01 m02
  rw [Int.mul_comm n (l' - l)] at m03 m04
  have i01 := i64_in (a := l * d) (by omega) (by omega)
  have i02 := i64_in (a := l' - l) (by omega) (by omega)
  have i03 := i64_in (a := (l' - l) * n) (by omega) (by omega)
  have i04 := i64_in (a := l * d + (l' - l) * n) (by omega) (by omega)
  have e0 := Lib.hid (mix_eq l l' n d)
  obtain ⟨m11, m12⟩ := mul_bd2 (p := d) (x := a) (P := 65280) (m := 12800) (by omega) (by omega) (by omega) (by omega)
  obtain ⟨m13, m14⟩ := mul_bd2 (p := n) (x := a' - a) (P := 65280) (m := 25600) (by omega) (by omega) (by omega) (by omega)
  rw [Int.mul_comm d a] at m11 m12
  rw [Int.mul_comm n (a' - a)] at m13 m14
  have i11 := i64_in (a := a * d) (by omega) (by omega)
  have i12 := i64_in (a := a' - a) (by omega) (by omega)
  have i13 := i64_in (a := (a' - a) * n) (by omega) (by omega)
  have i14 := i64_in (a := a * d + (a' - a) * n) (by omega) (by omega)
  have e1 := Lib.hid (mix_eq a a' n d)
  obtain ⟨m21, m22⟩ := mul_bd2 (p := d) (x := b) (P := 65280) (m := 12800) (by omega) (by omega) (by omega) (by omega)
  obtain ⟨m23, m24⟩ := mul_bd2 (p := n) (x := b' - b) (P := 65280) (m := 25600) (by omega) (by omega) (by omega) (by omega)
  rw [Int.mul_comm d b] at m21 m22
  rw [Int.mul_comm n (b' - b)] at m23 m24
  have i21 := i64_in (a := b * d) (by omega) (by omega)
  have i22 := i64_in (a := b' - b) (by omega) (by omega)
  have i23 := i64_in (a := (b' - b) * n) (by omega) (by omega)
  have i24 := i64_in (a := b * d + (b' - b) * n) (by omega) (by omega)
  have e2 := Lib.hid (mix_eq b b' n d)
  have p0 : (((w.alloc (.cells #[.int .i64 l, .int .i64 a, .int .i64 b] 26)).alloc (.cells #[.int .i64 l', .int .i64 a', .int .i64 b'] 26)).alloc (.cells #[.int .i64 0, .int .i64 0, .int .i64 0] 26)).cell? ⟨w.heap.size, 0, none⟩ = some (.int .i64 l) := by simp [go_sem]
  have p1 : (((w.alloc (.cells #[.int .i64 l, .int .i64 a, .int .i64 b] 26)).alloc (.cells #[.int .i64 l', .int .i64 a', .int .i64 b'] 26)).alloc (.cells #[.int .i64 0, .int .i64 0, .int .i64 0] 26)).cell? ⟨w.heap.size, 1, none⟩ = some (.int .i64 a) := by simp [go_sem]
  have p2 : (((w.alloc (.cells #[.int .i64 l, .int .i64 a, .int .i64 b] 26)).alloc (.cells #[.int .i64 l', .int .i64 a', .int .i64 b'] 26)).alloc (.cells #[.int .i64 0, .int .i64 0, .int .i64 0] 26)).cell? ⟨w.heap.size, 2, none⟩ = some (.int .i64 b) := by simp [go_sem]
  have q0 : (((w.alloc (.cells #[.int .i64 l, .int .i64 a, .int .i64 b] 26)).alloc (.cells #[.int .i64 l', .int .i64 a', .int .i64 b'] 26)).alloc (.cells #[.int .i64 0, .int .i64 0, .int .i64 0] 26)).cell? ⟨w.heap.size + 1, 0, none⟩ = some (.int .i64 l') := by simp [go_sem]
  have q1 : (((w.alloc (.cells #[.int .i64 l, .int .i64 a, .int .i64 b] 26)).alloc (.cells #[.int .i64 l', .int .i64 a', .int .i64 b'] 26)).alloc (.cells #[.int .i64 0, .int .i64 0, .int .i64 0] 26)).cell? ⟨w.heap.size + 1, 1, none⟩ = some (.int .i64 a') := by simp [go_sem]
  have q2 : (((w.alloc (.cells #[.int .i64 l, .int .i64 a, .int .i64 b] 26)).alloc (.cells #[.int .i64 l', .int .i64 a', .int .i64 b'] 26)).alloc (.cells #[.int .i64 0, .int .i64 0, .int .i64 0] 26)).cell? ⟨w.heap.size + 1, 2, none⟩ = some (.int .i64 b') := by simp [go_sem]
  have z0 : (((w.alloc (.cells #[.int .i64 l, .int .i64 a, .int .i64 b] 26)).alloc (.cells #[.int .i64 l', .int .i64 a', .int .i64 b'] 26)).alloc (.cells #[.int .i64 0, .int .i64 0, .int .i64 0] 26)).cell? ⟨w.heap.size + 1 + 1, 0, none⟩ = some (.int .i64 0) := by simp [go_sem]
  have z1 : (((w.alloc (.cells #[.int .i64 l, .int .i64 a, .int .i64 b] 26)).alloc (.cells #[.int .i64 l', .int .i64 a', .int .i64 b'] 26)).alloc (.cells #[.int .i64 0, .int .i64 0, .int .i64 0] 26)).cell? ⟨w.heap.size + 1 + 1, 1, none⟩ = some (.int .i64 0) := by simp [go_sem]
  have z2 : (((w.alloc (.cells #[.int .i64 l, .int .i64 a, .int .i64 b] 26)).alloc (.cells #[.int .i64 l', .int .i64 a', .int .i64 b'] 26)).alloc (.cells #[.int .i64 0, .int .i64 0, .int .i64 0] 26)).cell? ⟨w.heap.size + 1 + 1, 2, none⟩ = some (.int .i64 0) := by simp [go_sem]
  have fz0 : (((w.alloc (.cells #[.int .i64 l, .int .i64 a, .int .i64 b] 26)).alloc (.cells #[.int .i64 l', .int .i64 a', .int .i64 b'] 26)).alloc (.cells #[.int .i64 0, .int .i64 0, .int .i64 0] 26)).frozen? ⟨w.heap.size + 1 + 1, 0, none⟩ = false := by simp [go_sem]
  have fz1 : (((w.alloc (.cells #[.int .i64 l, .int .i64 a, .int .i64 b] 26)).alloc (.cells #[.int .i64 l', .int .i64 a', .int .i64 b'] 26)).alloc (.cells #[.int .i64 0, .int .i64 0, .int .i64 0] 26)).frozen? ⟨w.heap.size + 1 + 1, 1, none⟩ = false := by simp [go_sem]
  have fz2 : (((w.alloc (.cells #[.int .i64 l, .int .i64 a, .int .i64 b] 26)).alloc (.cells #[.int .i64 l', .int .i64 a', .int .i64 b'] 26)).alloc (.cells #[.int .i64 0, .int .i64 0, .int .i64 0] 26)).frozen? ⟨w.heap.size + 1 + 1, 2, none⟩ = false := by simp [go_sem]
  have hacc : Below w.heap.size w (((w.alloc (.cells #[.int .i64 l, .int .i64 a, .int .i64 b] 26)).alloc (.cells #[.int .i64 l', .int .i64 a', .int .i64 b'] 26)).alloc (.cells #[.int .i64 0, .int .i64 0, .int .i64 0] 26)) := (by repeat (first | assumption | exact Below.refl _ _ | refine below_drewN ?_ _ | refine Below.drew ?_ | refine Below.setCell ?_ (by first | exact Nat.le_refl _ | assumption | (simp; done) | (simp; omega) | omega) _ | refine Below.alloc ?_ (by first | exact Nat.le_refl _ | assumption | (simp; done) | omega | exact Below.size (by assumption) | (simp; omega)) _))
  go_enter Try.func34, Try.ntmps34
  go_upto_region 1 with fail
  generalize (((w.alloc (.cells #[.int .i64 l, .int .i64 a, .int .i64 b] 26)).alloc (.cells #[.int .i64 l', .int .i64 a', .int .i64 b'] 26)).alloc (.cells #[.int .i64 0, .int .i64 0, .int .i64 0] 26)) = W1 at *
  have hsz : w.heap.size + 1 + 1 < W1.heap.size := lt_of_cell z0
  go_region_held3 (fun w' => w'.cell? ⟨w.heap.size, 0, none⟩ = some (.int .i64 l) ∧ w'.cell? ⟨w.heap.size, 1, none⟩ = some (.int .i64 a) ∧ w'.cell? ⟨w.heap.size, 2, none⟩ = some (.int .i64 b) ∧ w'.cell? ⟨w.heap.size + 1, 0, none⟩ = some (.int .i64 l') ∧ w'.cell? ⟨w.heap.size + 1, 1, none⟩ = some (.int .i64 a') ∧ w'.cell? ⟨w.heap.size + 1, 2, none⟩ = some (.int .i64 b')) (first | exact ⟨cell_kept (Below.drew (Below.refl _ _)) p0, cell_kept (Below.drew (Below.refl _ _)) p1, cell_kept (Below.drew (Below.refl _ _)) p2, cell_kept (Below.drew (Below.refl _ _)) q0, cell_kept (Below.drew (Below.refl _ _)) q1, cell_kept (Below.drew (Below.refl _ _)) q2⟩ | exact ⟨p0, p1, p2, q0, q1, q2⟩ | (simp [go_sem, *]; done))
    (first | (go_at_call 29; refine (round_any _ _ _ (by omega) (by omega) (by omega) (by omega)).mono ?_; rintro e w' ⟨rfl, rfl⟩))
  all_goals go_wp2
  all_goals
    refine bodyPost_ret (v := .agg #[.int .i64 (mixV l l' n d), .int .i64 (mixV a a' n d), .int .i64 (mixV b b' n d)]) (by rw [← e0.out, ← e1.out, ← e2.out]; simp [results, Try.results34, go_sem, *]) rfl ?_
    exact ⟨rfl, (by repeat (first | assumption | exact Below.refl _ _ | refine below_drewN ?_ _ | refine Below.drew ?_ | refine Below.setCell ?_ (by first | exact Nat.le_refl _ | assumption | (simp; done) | (simp; omega) | omega) _ | refine Below.alloc ?_ (by first | exact Nat.le_refl _ | assumption | (simp; done) | omega | exact Below.size (by assumption) | (simp; omega)) _))⟩
end Go.Proofs.Ytdfocbeejgcglaa
