/- Walks of refspace.Between and of the reference's Between. -/
import Derived.Test.YtdfocbeejgcglaaRef3
namespace Go.Proofs.Ytdfocbeejgcglaa
open Go.RowKit

theorem mul_bd2 {p x P m : Int} (h0 : 0 ≤ p) (h1 : p ≤ P) (h2 : -m ≤ x) (h3 : x ≤ m) : -(P * m) ≤ p * x ∧ p * x ≤ P * m := by
  have hm : 0 ≤ m := by omega
  have a1 := Int.mul_le_mul_of_nonneg_left h3 h0
  have a2 := Int.mul_le_mul_of_nonneg_left h2 h0
  have a3 := Int.mul_le_mul_of_nonneg_right h1 hm
  rw [Int.mul_neg] at a2
  omega
def mixV (x y n d : Int) : Int := rnd ((d - n) * x + n * y) d
set_option maxHeartbeats 1000000 in
theorem mix_any (x y n d : Int) (gd gn : Nat) (w : World) (hd : 0 < d) (hd1 : d ≤ 65280) (hn : 0 ≤ n) (hn1 : n ≤ d) (hx : -12800 ≤ x) (hx1 : x ≤ 12800) (hy : -12800 ≤ y) (hy1 : y ≤ 12800)
    (cd : w.cell? ⟨gd, 0, none⟩ = some (.int .i64 d)) (cn : w.cell? ⟨gn, 0, none⟩ = some (.int .i64 n)) :
    Calls Try.prog 72 #[.int .i64 x, .int .i64 y, .pointer (some ⟨gd, 0, none⟩), .pointer (some ⟨gn, 0, none⟩)] w fun e w' => e = .returned (.int .i64 (mixV x y n d)) ∧ w = w' := by
  obtain ⟨m1, m2⟩ := mul_bd2 (p := d - n) (x := x) (P := 65280) (m := 12800) (by omega) (by omega) hx hx1
  obtain ⟨m3, m4⟩ := mul_bd2 (p := n) (x := y) (P := 65280) (m := 12800) (by omega) (by omega) hy hy1
  have i1 := i64_in (a := d - n) (by omega) (by omega)
  have i2 := i64_in (a := (d - n) * x) (by omega) (by omega)
  have i3 := i64_in (a := n * y) (by omega) (by omega)
  have i4 := i64_in (a := (d - n) * x + n * y) (by omega) (by omega)
  go_enter Try.func72, Try.ntmps72
  go_wp2_with (go_at_call 70; refine (nearest_any _ _ _ hd (by omega) (by omega) (by omega)).mono ?_; rintro e w' ⟨rfl, rfl⟩)
  go_ret
  exact ⟨rfl, rfl⟩

def betF (l a b l' a' b' n d : Int) : (Int × Int × Int) × Int := if labE l a b ≠ 0 ∨ labE l' a' b' ≠ 0 ∨ d < 1 ∨ 65280 < d ∨ n < 0 ∨ d < n then ((0, 0, 0), 3) else ((mixV l l' n d, mixV a a' n d, mixV b b' n d), 0)
set_option maxRecDepth 20000 in
set_option maxHeartbeats 2000000 in
theorem between_good {l a b l' a' b' n d : Int} (w : World) (ho : LabOk l a b) (ho' : LabOk l' a' b') (he : labE l a b = 0) (he' : labE l' a' b' = 0) (h1 : 1 ≤ d) (h2 : d ≤ 65280) (h3 : 0 ≤ n) (h4 : n ≤ d) :
    Calls Try.prog 32 #[.agg #[.int .i64 l, .int .i64 a, .int .i64 b], .agg #[.int .i64 l', .int .i64 a', .int .i64 b'], .int .i64 n, .int .i64 d] w fun e w' => e = .returned (.tuple #[.agg #[.int .i64 (mixV l l' n d), .int .i64 (mixV a a' n d), .int .i64 (mixV b b' n d)], .int .i64 0]) ∧ Below w.heap.size w w' := by
  have x1 : (labE l a b != 0) = false := by simp [he]
  have x2 : (labE l' a' b' != 0) = false := by simp [he']
  clear he he'
  have hmf : ∀ (fn : Fn) (first cap : Array Value) (w : World), (Instr.makeFunc fn first cap).run Try.prog w = .ok (.func fn first cap) w := fun _ _ _ _ => rfl
  have hacc : Below w.heap.size w (((((w.alloc (.cells #[.int .i64 l, .int .i64 a, .int .i64 b] 26)).alloc (.cells #[.int .i64 l', .int .i64 a', .int .i64 b'] 26)).alloc (.cells #[.int .i64 n] 3)).alloc (.cells #[.int .i64 d] 3)).alloc (.cells #[.int .i64 0, .int .i64 0, .int .i64 0] 26)) := (by repeat (first | assumption | exact Below.refl _ _ | refine below_drewN ?_ _ | refine Below.drew ?_ | refine Below.setCell ?_ (by first | exact Nat.le_refl _ | assumption | (simp; done) | (simp; omega) | omega) _ | refine Below.alloc ?_ (by first | exact Nat.le_refl _ | assumption | (simp; done) | omega | exact Below.size (by assumption) | (simp; omega)) _))
  have p0 : (((((w.alloc (.cells #[.int .i64 l, .int .i64 a, .int .i64 b] 26)).alloc (.cells #[.int .i64 l', .int .i64 a', .int .i64 b'] 26)).alloc (.cells #[.int .i64 n] 3)).alloc (.cells #[.int .i64 d] 3)).alloc (.cells #[.int .i64 0, .int .i64 0, .int .i64 0] 26)).cell? ⟨w.heap.size, 0, none⟩ = some (.int .i64 l) := by simp [go_sem]
  have p1 : (((((w.alloc (.cells #[.int .i64 l, .int .i64 a, .int .i64 b] 26)).alloc (.cells #[.int .i64 l', .int .i64 a', .int .i64 b'] 26)).alloc (.cells #[.int .i64 n] 3)).alloc (.cells #[.int .i64 d] 3)).alloc (.cells #[.int .i64 0, .int .i64 0, .int .i64 0] 26)).cell? ⟨w.heap.size, 1, none⟩ = some (.int .i64 a) := by simp [go_sem]
  have p2 : (((((w.alloc (.cells #[.int .i64 l, .int .i64 a, .int .i64 b] 26)).alloc (.cells #[.int .i64 l', .int .i64 a', .int .i64 b'] 26)).alloc (.cells #[.int .i64 n] 3)).alloc (.cells #[.int .i64 d] 3)).alloc (.cells #[.int .i64 0, .int .i64 0, .int .i64 0] 26)).cell? ⟨w.heap.size, 2, none⟩ = some (.int .i64 b) := by simp [go_sem]
  have q0 : (((((w.alloc (.cells #[.int .i64 l, .int .i64 a, .int .i64 b] 26)).alloc (.cells #[.int .i64 l', .int .i64 a', .int .i64 b'] 26)).alloc (.cells #[.int .i64 n] 3)).alloc (.cells #[.int .i64 d] 3)).alloc (.cells #[.int .i64 0, .int .i64 0, .int .i64 0] 26)).cell? ⟨w.heap.size + 1, 0, none⟩ = some (.int .i64 l') := by simp [go_sem]
  have q1 : (((((w.alloc (.cells #[.int .i64 l, .int .i64 a, .int .i64 b] 26)).alloc (.cells #[.int .i64 l', .int .i64 a', .int .i64 b'] 26)).alloc (.cells #[.int .i64 n] 3)).alloc (.cells #[.int .i64 d] 3)).alloc (.cells #[.int .i64 0, .int .i64 0, .int .i64 0] 26)).cell? ⟨w.heap.size + 1, 1, none⟩ = some (.int .i64 a') := by simp [go_sem]
  have q2 : (((((w.alloc (.cells #[.int .i64 l, .int .i64 a, .int .i64 b] 26)).alloc (.cells #[.int .i64 l', .int .i64 a', .int .i64 b'] 26)).alloc (.cells #[.int .i64 n] 3)).alloc (.cells #[.int .i64 d] 3)).alloc (.cells #[.int .i64 0, .int .i64 0, .int .i64 0] 26)).cell? ⟨w.heap.size + 1, 2, none⟩ = some (.int .i64 b') := by simp [go_sem]
  have cn : (((((w.alloc (.cells #[.int .i64 l, .int .i64 a, .int .i64 b] 26)).alloc (.cells #[.int .i64 l', .int .i64 a', .int .i64 b'] 26)).alloc (.cells #[.int .i64 n] 3)).alloc (.cells #[.int .i64 d] 3)).alloc (.cells #[.int .i64 0, .int .i64 0, .int .i64 0] 26)).cell? ⟨w.heap.size + 1 + 1, 0, none⟩ = some (.int .i64 n) := by simp [go_sem]
  have cd : (((((w.alloc (.cells #[.int .i64 l, .int .i64 a, .int .i64 b] 26)).alloc (.cells #[.int .i64 l', .int .i64 a', .int .i64 b'] 26)).alloc (.cells #[.int .i64 n] 3)).alloc (.cells #[.int .i64 d] 3)).alloc (.cells #[.int .i64 0, .int .i64 0, .int .i64 0] 26)).cell? ⟨w.heap.size + 1 + 1 + 1, 0, none⟩ = some (.int .i64 d) := by simp [go_sem]
  have z0 : (((((w.alloc (.cells #[.int .i64 l, .int .i64 a, .int .i64 b] 26)).alloc (.cells #[.int .i64 l', .int .i64 a', .int .i64 b'] 26)).alloc (.cells #[.int .i64 n] 3)).alloc (.cells #[.int .i64 d] 3)).alloc (.cells #[.int .i64 0, .int .i64 0, .int .i64 0] 26)).cell? ⟨w.heap.size + 1 + 1 + 1 + 1, 0, none⟩ = some (.int .i64 0) := by simp [go_sem]
  have z1 : (((((w.alloc (.cells #[.int .i64 l, .int .i64 a, .int .i64 b] 26)).alloc (.cells #[.int .i64 l', .int .i64 a', .int .i64 b'] 26)).alloc (.cells #[.int .i64 n] 3)).alloc (.cells #[.int .i64 d] 3)).alloc (.cells #[.int .i64 0, .int .i64 0, .int .i64 0] 26)).cell? ⟨w.heap.size + 1 + 1 + 1 + 1, 1, none⟩ = some (.int .i64 0) := by simp [go_sem]
  have z2 : (((((w.alloc (.cells #[.int .i64 l, .int .i64 a, .int .i64 b] 26)).alloc (.cells #[.int .i64 l', .int .i64 a', .int .i64 b'] 26)).alloc (.cells #[.int .i64 n] 3)).alloc (.cells #[.int .i64 d] 3)).alloc (.cells #[.int .i64 0, .int .i64 0, .int .i64 0] 26)).cell? ⟨w.heap.size + 1 + 1 + 1 + 1, 2, none⟩ = some (.int .i64 0) := by simp [go_sem]
  have fz0 : (((((w.alloc (.cells #[.int .i64 l, .int .i64 a, .int .i64 b] 26)).alloc (.cells #[.int .i64 l', .int .i64 a', .int .i64 b'] 26)).alloc (.cells #[.int .i64 n] 3)).alloc (.cells #[.int .i64 d] 3)).alloc (.cells #[.int .i64 0, .int .i64 0, .int .i64 0] 26)).frozen? ⟨w.heap.size + 1 + 1 + 1 + 1, 0, none⟩ = false := by simp [go_sem]
  have fz1 : (((((w.alloc (.cells #[.int .i64 l, .int .i64 a, .int .i64 b] 26)).alloc (.cells #[.int .i64 l', .int .i64 a', .int .i64 b'] 26)).alloc (.cells #[.int .i64 n] 3)).alloc (.cells #[.int .i64 d] 3)).alloc (.cells #[.int .i64 0, .int .i64 0, .int .i64 0] 26)).frozen? ⟨w.heap.size + 1 + 1 + 1 + 1, 1, none⟩ = false := by simp [go_sem]
  have fz2 : (((((w.alloc (.cells #[.int .i64 l, .int .i64 a, .int .i64 b] 26)).alloc (.cells #[.int .i64 l', .int .i64 a', .int .i64 b'] 26)).alloc (.cells #[.int .i64 n] 3)).alloc (.cells #[.int .i64 d] 3)).alloc (.cells #[.int .i64 0, .int .i64 0, .int .i64 0] 26)).frozen? ⟨w.heap.size + 1 + 1 + 1 + 1, 2, none⟩ = false := by simp [go_sem]
  go_enter Try.func32, Try.ntmps32
  go_upto_region 10 with (go_at_call 26; refine (labcheck_any _ _ _ _).mono ?_; rintro e wa ⟨rfl, hb⟩; have fz0 := (hb.frozen (lt_of_cell z0)).trans fz0; have fz1 := (hb.frozen (lt_of_cell z1)).trans fz1; have fz2 := (hb.frozen (lt_of_cell z2)).trans fz2; have p0 := cell_kept hb p0; have p1 := cell_kept hb p1; have p2 := cell_kept hb p2; have q0 := cell_kept hb q0; have q1 := cell_kept hb q1; have q2 := cell_kept hb q2; have cn := cell_kept hb cn; have cd := cell_kept hb cd; have z0 := cell_kept hb z0; have z1 := cell_kept hb z1; have z2 := cell_kept hb z2; have hacc := hacc.trans (hb.mono hacc.size); clear hb)
  obtain ⟨a1, a2, a3, a4, a5, a6⟩ := ho
  obtain ⟨b1, b2, b3, b4, b5, b6⟩ := ho'
  have hsz : w.heap.size + 1 + 1 + 1 + 1 < wa.heap.size := lt_of_cell z0
  go_region_held3 (fun w' => w'.cell? ⟨w.heap.size, 0, none⟩ = some (.int .i64 l) ∧ w'.cell? ⟨w.heap.size, 1, none⟩ = some (.int .i64 a) ∧ w'.cell? ⟨w.heap.size, 2, none⟩ = some (.int .i64 b) ∧ w'.cell? ⟨w.heap.size + 1, 0, none⟩ = some (.int .i64 l') ∧ w'.cell? ⟨w.heap.size + 1, 1, none⟩ = some (.int .i64 a') ∧ w'.cell? ⟨w.heap.size + 1, 2, none⟩ = some (.int .i64 b') ∧ w'.cell? ⟨w.heap.size + 1 + 1, 0, none⟩ = some (.int .i64 n) ∧ w'.cell? ⟨w.heap.size + 1 + 1 + 1, 0, none⟩ = some (.int .i64 d)) (first | exact ⟨cell_kept (Below.drew (Below.refl _ _)) p0, cell_kept (Below.drew (Below.refl _ _)) p1, cell_kept (Below.drew (Below.refl _ _)) p2, cell_kept (Below.drew (Below.refl _ _)) q0, cell_kept (Below.drew (Below.refl _ _)) q1, cell_kept (Below.drew (Below.refl _ _)) q2, cell_kept (Below.drew (Below.refl _ _)) cn, cell_kept (Below.drew (Below.refl _ _)) cd⟩ | exact ⟨p0, p1, p2, q0, q1, q2, cn, cd⟩ | (simp [go_sem, *]; done))
    (first | (go_at_call 72; refine (mix_any _ _ _ _ _ _ _ (by omega) h2 h3 h4 (by omega) (by omega) (by omega) (by omega) (cell_kept (Below.drew (Below.refl _ _)) cd) (cell_kept (Below.drew (Below.refl _ _)) cn)).mono ?_; rintro e w' ⟨rfl, rfl⟩))
  all_goals go_wp2
  all_goals
    refine bodyPost_ret (v := .tuple #[.agg #[.int .i64 (mixV l l' n d), .int .i64 (mixV a a' n d), .int .i64 (mixV b b' n d)], .int .i64 0]) (by simp [results, Try.results32, go_sem, *]) rfl ?_
    exact ⟨rfl, (by repeat (first | assumption | exact Below.refl _ _ | refine below_drewN ?_ _ | refine Below.drew ?_ | refine Below.setCell ?_ (by first | exact Nat.le_refl _ | assumption | (simp; done) | (simp; omega) | omega) _ | refine Below.alloc ?_ (by first | exact Nat.le_refl _ | assumption | (simp; done) | omega | exact Below.size (by assumption) | (simp; omega)) _))⟩
end Go.Proofs.Ytdfocbeejgcglaa
