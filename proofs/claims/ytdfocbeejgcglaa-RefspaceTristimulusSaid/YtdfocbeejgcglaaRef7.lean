/- Walks of ToLab and of the reference's Lab. -/
import Derived.Test.YtdfocbeejgcglaaRef2
import Derived.Test.YtdfocbeejgcglaaReg
namespace Go.Proofs.Ytdfocbeejgcglaa
open Go.RowKit

theorem respV_bd {v w : Int} (hv : 0 ≤ v) (hv1 : v ≤ 300000) (hw : 80000 ≤ w) : 0 ≤ respV v w ∧ respV v w ≤ 32767 := by
  have h3 := (rootV_spec hv hv1 hw).2.2
  have h2 := (rootV_spec hv hv1 hw).2.1
  unfold respV
  split
  · rename_i h
    have q0 : 0 ≤ v * 8410000 / (108 * w) := Int.ediv_nonneg (by omega) (by omega)
    have q1 : v * 8410000 / (108 * w) ≤ 690 := by
      have hq : ¬ 691 ≤ v * 8410000 / (108 * w) := by
        rw [Int.le_ediv_iff_mul_le (by omega)]
        have hp := anti (p := cubeP v w) (fun n => cubeP_anti (by omega) n) (a := rootV v w + 1) 2069 (by omega)
        have : cubeP v w 2069 = false := by
          rw [Bool.eq_false_iff]; intro hh; have := hp hh; rw [h2] at this; cases this
        have := of_decide_eq_false this
        rw [show ((2069 : Nat) : Int) * (2069 : Nat) * (2069 : Nat) = 8856894509 by decide] at this
        omega
      omega
    omega
  · omega
def cutV (v l h : Int) : Int := max l (min h v)
def labA (y : Int) : Int := cutV (116 * y / 100 - 1600) 0 10000
def labB (x y : Int) : Int := cutV (5 * (x - y)) (-12800) 12800
def labC (y z : Int) : Int := cutV (2 * (y - z)) (-12800) 12800
def LabPost (a b c : Int) (w : World) (e : Ending) (w' : World) : Prop := ∃ t : Bool, e = .returned (.tuple #[.agg #[.int .i64 a, .int .i64 b, .int .i64 c], .bool t]) ∧ Below w.heap.size w w'
/-- a colour whose components are three numbers within bounds -/
structure XyzOk (x y z : Int) (l u : Int) : Prop where
  x0 : l ≤ x
  x1 : x ≤ u
  y0 : l ≤ y
  y1 : y ≤ u
  z0 : l ≤ z
  z1 : z ≤ u
theorem xyzOk {x y z l u : Int} (h : xyzE x y z l u = 0) : XyzOk x y z l u := by
  obtain ⟨⟨h1, h2⟩, ⟨h3, h4⟩, h5, h6⟩ := xyzE_in h
  exact ⟨h1, h2, h3, h4, h5, h6⟩
theorem xyzE_cases (x y z l u : Int) : xyzE x y z l u = 0 ∨ xyzE x y z l u = 3 := by unfold xyzE; split <;> simp

set_option maxRecDepth 20000 in
set_option maxHeartbeats 4000000 in
theorem rlab_any {x y z x' y' z' : Int} (w : World) (h : XyzOk x y z 0 300000) (h' : XyzOk x' y' z' 80000 120000) :
    Calls Try.prog 23 #[.agg #[.int .i64 x, .int .i64 y, .int .i64 z], .agg #[.int .i64 x', .int .i64 y', .int .i64 z']] w (LabPost (labA (respV y y')) (labB (respV x x') (respV y y')) (labC (respV y y') (respV z z')) w) := by
  obtain ⟨a1, a2, a3, a4, a5, a6⟩ := h
  obtain ⟨b1, b2, b3, b4, b5, b6⟩ := h'
  have p0 : (((w.alloc (.cells #[.int .i64 x, .int .i64 y, .int .i64 z] 23)).alloc (.cells #[.int .i64 x', .int .i64 y', .int .i64 z'] 23)).alloc (.cells #[.int .i64 0, .int .i64 0, .int .i64 0] 26)).cell? ⟨w.heap.size, 0, none⟩ = some (.int .i64 x) := by simp [go_sem]
  have p1 : (((w.alloc (.cells #[.int .i64 x, .int .i64 y, .int .i64 z] 23)).alloc (.cells #[.int .i64 x', .int .i64 y', .int .i64 z'] 23)).alloc (.cells #[.int .i64 0, .int .i64 0, .int .i64 0] 26)).cell? ⟨w.heap.size, 1, none⟩ = some (.int .i64 y) := by simp [go_sem]
  have p2 : (((w.alloc (.cells #[.int .i64 x, .int .i64 y, .int .i64 z] 23)).alloc (.cells #[.int .i64 x', .int .i64 y', .int .i64 z'] 23)).alloc (.cells #[.int .i64 0, .int .i64 0, .int .i64 0] 26)).cell? ⟨w.heap.size, 2, none⟩ = some (.int .i64 z) := by simp [go_sem]
  have q0 : (((w.alloc (.cells #[.int .i64 x, .int .i64 y, .int .i64 z] 23)).alloc (.cells #[.int .i64 x', .int .i64 y', .int .i64 z'] 23)).alloc (.cells #[.int .i64 0, .int .i64 0, .int .i64 0] 26)).cell? ⟨w.heap.size + 1, 0, none⟩ = some (.int .i64 x') := by simp [go_sem]
  have q1 : (((w.alloc (.cells #[.int .i64 x, .int .i64 y, .int .i64 z] 23)).alloc (.cells #[.int .i64 x', .int .i64 y', .int .i64 z'] 23)).alloc (.cells #[.int .i64 0, .int .i64 0, .int .i64 0] 26)).cell? ⟨w.heap.size + 1, 1, none⟩ = some (.int .i64 y') := by simp [go_sem]
  have q2 : (((w.alloc (.cells #[.int .i64 x, .int .i64 y, .int .i64 z] 23)).alloc (.cells #[.int .i64 x', .int .i64 y', .int .i64 z'] 23)).alloc (.cells #[.int .i64 0, .int .i64 0, .int .i64 0] 26)).cell? ⟨w.heap.size + 1, 2, none⟩ = some (.int .i64 z') := by simp [go_sem]
  have z0 : (((w.alloc (.cells #[.int .i64 x, .int .i64 y, .int .i64 z] 23)).alloc (.cells #[.int .i64 x', .int .i64 y', .int .i64 z'] 23)).alloc (.cells #[.int .i64 0, .int .i64 0, .int .i64 0] 26)).cell? ⟨w.heap.size + 1 + 1, 0, none⟩ = some (.int .i64 0) := by simp [go_sem]
  have z1 : (((w.alloc (.cells #[.int .i64 x, .int .i64 y, .int .i64 z] 23)).alloc (.cells #[.int .i64 x', .int .i64 y', .int .i64 z'] 23)).alloc (.cells #[.int .i64 0, .int .i64 0, .int .i64 0] 26)).cell? ⟨w.heap.size + 1 + 1, 1, none⟩ = some (.int .i64 0) := by simp [go_sem]
  have z2 : (((w.alloc (.cells #[.int .i64 x, .int .i64 y, .int .i64 z] 23)).alloc (.cells #[.int .i64 x', .int .i64 y', .int .i64 z'] 23)).alloc (.cells #[.int .i64 0, .int .i64 0, .int .i64 0] 26)).cell? ⟨w.heap.size + 1 + 1, 2, none⟩ = some (.int .i64 0) := by simp [go_sem]
  have fz0 : (((w.alloc (.cells #[.int .i64 x, .int .i64 y, .int .i64 z] 23)).alloc (.cells #[.int .i64 x', .int .i64 y', .int .i64 z'] 23)).alloc (.cells #[.int .i64 0, .int .i64 0, .int .i64 0] 26)).frozen? ⟨w.heap.size + 1 + 1, 0, none⟩ = false := by simp [go_sem]
  have fz1 : (((w.alloc (.cells #[.int .i64 x, .int .i64 y, .int .i64 z] 23)).alloc (.cells #[.int .i64 x', .int .i64 y', .int .i64 z'] 23)).alloc (.cells #[.int .i64 0, .int .i64 0, .int .i64 0] 26)).frozen? ⟨w.heap.size + 1 + 1, 1, none⟩ = false := by simp [go_sem]
  have fz2 : (((w.alloc (.cells #[.int .i64 x, .int .i64 y, .int .i64 z] 23)).alloc (.cells #[.int .i64 x', .int .i64 y', .int .i64 z'] 23)).alloc (.cells #[.int .i64 0, .int .i64 0, .int .i64 0] 26)).frozen? ⟨w.heap.size + 1 + 1, 2, none⟩ = false := by simp [go_sem]
  have hacc : Below w.heap.size w (((w.alloc (.cells #[.int .i64 x, .int .i64 y, .int .i64 z] 23)).alloc (.cells #[.int .i64 x', .int .i64 y', .int .i64 z'] 23)).alloc (.cells #[.int .i64 0, .int .i64 0, .int .i64 0] 26)) := (by repeat (first | assumption | exact Below.refl _ _ | refine below_drewN ?_ _ | refine Below.drew ?_ | refine Below.setCell ?_ (by first | exact Nat.le_refl _ | assumption | (simp; done) | (simp; omega) | omega) _ | refine Below.alloc ?_ (by first | exact Nat.le_refl _ | assumption | (simp; done) | omega | exact Below.size (by assumption) | (simp; omega)) _))
  go_enter Try.func23, Try.ntmps23
  go_upto_region 1 with fail
  generalize (((w.alloc (.cells #[.int .i64 x, .int .i64 y, .int .i64 z] 23)).alloc (.cells #[.int .i64 x', .int .i64 y', .int .i64 z'] 23)).alloc (.cells #[.int .i64 0, .int .i64 0, .int .i64 0] 26)) = W1 at *
  have hsz : w.heap.size + 1 + 1 < W1.heap.size := lt_of_cell z0
  go_quiet ((first | (go_at_call 22; exact quietL (rresponse_any _ _ _ a1 a2 b1 b2)) | (go_at_call 22; exact quietL (rresponse_any _ _ _ a3 a4 b3 b4)) | (go_at_call 22; exact quietL (rresponse_any _ _ _ a5 a6 b5 b6))))
  have hd := below_drewN (B := W1.heap.size) (Below.refl W1.heap.size W1) nq
  have hz := hd.size
  have hacc := below_drewN hacc nq
  have fz0 := (hd.frozen (lt_of_cell z0)).trans fz0
  have fz1 := (hd.frozen (lt_of_cell z1)).trans fz1
  have fz2 := (hd.frozen (lt_of_cell z2)).trans fz2
  have p0 := cell_kept hd p0
  have p1 := cell_kept hd p1
  have p2 := cell_kept hd p2
  have q0 := cell_kept hd q0
  have q1 := cell_kept hd q1
  have q2 := cell_kept hd q2
  have z0 := cell_kept hd z0
  have z1 := cell_kept hd z1
  have z2 := cell_kept hd z2
  clear hd
  generalize W1.drewN nq = W2 at *
  have hsz := lt_of_cell z0
  obtain ⟨X1, X2⟩ := respV_bd a1 a2 b1
  obtain ⟨Y1, Y2⟩ := respV_bd a3 a4 b3
  obtain ⟨Z1, Z2⟩ := respV_bd a5 a6 b5
  generalize respV x x' = X at *
  generalize respV y y' = Y at *
  generalize respV z z' = Z at *
  obtain ⟨m, hm⟩ : ∃ m, m = max 0 (116 * Y / 100 - 1600) := ⟨_, rfl⟩
  have k1 : (if 116 * Y / 100 - 1600 < 0 then 0 else 116 * Y / 100 - 1600) = m := by omega
  have k2 : (if 10000 < m then 10000 else m) = labA Y := by unfold labA cutV; omega
  clear hm
  obtain ⟨n, hn⟩ : ∃ n, n = max (-12800) (5 * (X - Y)) := ⟨_, rfl⟩
  have k3 : (if 5 * (X - Y) < -12800 then -12800 else 5 * (X - Y)) = n := by omega
  have k4 : (if 12800 < n then 12800 else n) = labB X Y := by unfold labB cutV; omega
  clear hn
  obtain ⟨o, ho⟩ : ∃ o, o = max (-12800) (2 * (Y - Z)) := ⟨_, rfl⟩
  have k5 : (if 2 * (Y - Z) < -12800 then -12800 else 2 * (Y - Z)) = o := by omega
  have k6 : (if 12800 < o then 12800 else o) = labC Y Z := by unfold labC cutV; omega
  clear ho
  go_wp2_with (go_at_call 27; refine (floor_any _ _ _ (by omega) (by omega) (by omega) (by omega)).mono ?_; rintro e w' ⟨rfl, rfl⟩)
  clear k1 k2 k3 k4 k5 k6
  have hd1 : (labA Y = 116 * Y / 100 - 1600) = True ∨ (labA Y = 116 * Y / 100 - 1600) = False := by by_cases h : labA Y = 116 * Y / 100 - 1600 <;> simp [h]
  have hd2 : (labB X Y = 5 * (X - Y)) = True ∨ (labB X Y = 5 * (X - Y)) = False := by by_cases h : labB X Y = 5 * (X - Y) <;> simp [h]
  have hd3 : (labC Y Z = 2 * (Y - Z)) = True ∨ (labC Y Z = 2 * (Y - Z)) = False := by by_cases h : labC Y Z = 2 * (Y - Z) <;> simp [h]
  have hb3 : Below W2.heap.size W2 ((W2.alloc (.cells #[.int .i64 (116 * Y / 100 - 1600), .int .i64 (5 * (X - Y)), .int .i64 (2 * (Y - Z))] 26)).alloc (.cells #[.int .i64 (labA Y), .int .i64 (labB X Y), .int .i64 (labC Y Z)] 26)) := (by repeat (first | assumption | exact Below.refl _ _ | refine below_drewN ?_ _ | refine Below.drew ?_ | refine Below.setCell ?_ (by first | exact Nat.le_refl _ | assumption | (simp; done) | (simp; omega) | omega) _ | refine Below.alloc ?_ (by first | exact Nat.le_refl _ | assumption | (simp; done) | omega | exact Below.size (by assumption) | (simp; omega)) _))
  have fz0 := (hb3.frozen (lt_of_cell z0)).trans fz0
  have fz1 := (hb3.frozen (lt_of_cell z1)).trans fz1
  have fz2 := (hb3.frozen (lt_of_cell z2)).trans fz2
  have z0 := cell_kept hb3 z0
  have z1 := cell_kept hb3 z1
  have z2 := cell_kept hb3 z2
  have s0 : ((W2.alloc (.cells #[.int .i64 (116 * Y / 100 - 1600), .int .i64 (5 * (X - Y)), .int .i64 (2 * (Y - Z))] 26)).alloc (.cells #[.int .i64 (labA Y), .int .i64 (labB X Y), .int .i64 (labC Y Z)] 26)).cell? ⟨W2.heap.size, 0, none⟩ = some (.int .i64 (116 * Y / 100 - 1600)) := by simp [go_sem]
  have s1 : ((W2.alloc (.cells #[.int .i64 (116 * Y / 100 - 1600), .int .i64 (5 * (X - Y)), .int .i64 (2 * (Y - Z))] 26)).alloc (.cells #[.int .i64 (labA Y), .int .i64 (labB X Y), .int .i64 (labC Y Z)] 26)).cell? ⟨W2.heap.size, 1, none⟩ = some (.int .i64 (5 * (X - Y))) := by simp [go_sem]
  have s2 : ((W2.alloc (.cells #[.int .i64 (116 * Y / 100 - 1600), .int .i64 (5 * (X - Y)), .int .i64 (2 * (Y - Z))] 26)).alloc (.cells #[.int .i64 (labA Y), .int .i64 (labB X Y), .int .i64 (labC Y Z)] 26)).cell? ⟨W2.heap.size, 2, none⟩ = some (.int .i64 (2 * (Y - Z))) := by simp [go_sem]
  have t0 : ((W2.alloc (.cells #[.int .i64 (116 * Y / 100 - 1600), .int .i64 (5 * (X - Y)), .int .i64 (2 * (Y - Z))] 26)).alloc (.cells #[.int .i64 (labA Y), .int .i64 (labB X Y), .int .i64 (labC Y Z)] 26)).cell? ⟨W2.heap.size + 1, 0, none⟩ = some (.int .i64 (labA Y)) := by simp [go_sem]
  have t1 : ((W2.alloc (.cells #[.int .i64 (116 * Y / 100 - 1600), .int .i64 (5 * (X - Y)), .int .i64 (2 * (Y - Z))] 26)).alloc (.cells #[.int .i64 (labA Y), .int .i64 (labB X Y), .int .i64 (labC Y Z)] 26)).cell? ⟨W2.heap.size + 1, 1, none⟩ = some (.int .i64 (labB X Y)) := by simp [go_sem]
  have t2 : ((W2.alloc (.cells #[.int .i64 (116 * Y / 100 - 1600), .int .i64 (5 * (X - Y)), .int .i64 (2 * (Y - Z))] 26)).alloc (.cells #[.int .i64 (labA Y), .int .i64 (labB X Y), .int .i64 (labC Y Z)] 26)).cell? ⟨W2.heap.size + 1, 2, none⟩ = some (.int .i64 (labC Y Z)) := by simp [go_sem]
  have hacc := hacc.trans (hb3.mono hacc.size)
  have hz3 := hb3.size
  generalize ((W2.alloc (.cells #[.int .i64 (116 * Y / 100 - 1600), .int .i64 (5 * (X - Y)), .int .i64 (2 * (Y - Z))] 26)).alloc (.cells #[.int .i64 (labA Y), .int .i64 (labB X Y), .int .i64 (labC Y Z)] 26)) = W3 at *
  clear hb3 p0 p1 p2 q0 q1 q2
  have hsz := lt_of_cell z0
  obtain ⟨S0, hS0⟩ : ∃ v, v = 116 * Y / 100 - 1600 := ⟨_, rfl⟩
  obtain ⟨S1, hS1⟩ : ∃ v, v = 5 * (X - Y) := ⟨_, rfl⟩
  obtain ⟨S2, hS2⟩ : ∃ v, v = 2 * (Y - Z) := ⟨_, rfl⟩
  clear X1 X2 Y1 Y2 Z1 Z2 a1 a2 a3 a4 a5 a6 b1 b2 b3 b4 b5 b6 hz hz3 hd1 hd2 hd3
  have hb : ∃ t : Bool, ∀ w : World, (if labA Y = 116 * Y / 100 - 1600 then if labB X Y = 5 * (X - Y) then if labC Y Z = 2 * (Y - Z) then Result.ok (Next.value (Value.bool false)) w else Result.ok (Next.value (Value.bool true)) w else Result.ok (Next.value (Value.bool true)) w else Result.ok (Next.value (Value.bool true)) w) = Result.ok (Next.value (Value.bool t)) w := by
    by_cases h1 : labA Y = 116 * Y / 100 - 1600 <;> by_cases h2 : labB X Y = 5 * (X - Y) <;> by_cases h3 : labC Y Z = 2 * (Y - Z)
    all_goals first | (refine ⟨true, fun w => ?_⟩; simp [h1, h2, h3]; done) | (refine ⟨false, fun w => ?_⟩; simp [h1, h2, h3]; done)
  obtain ⟨t, ht⟩ := hb
  have HT := Lib.hid ht
  clear ht
  have ne1 : W2.heap.size ≠ w.heap.size + 1 + 1 := by omega
  have ne2 : W2.heap.size + 1 ≠ w.heap.size + 1 + 1 := by omega
  have ne3 := ne1.symm
  have ne4 := ne2.symm
  refine wp_region_plan (S := fun w' => Below w.heap.size w w' ∧ w'.cell? ⟨W2.heap.size, 0, none⟩ = some (.int .i64 (116 * Y / 100 - 1600)) ∧ w'.cell? ⟨W2.heap.size, 1, none⟩ = some (.int .i64 (5 * (X - Y))) ∧ w'.cell? ⟨W2.heap.size, 2, none⟩ = some (.int .i64 (2 * (Y - Z))) ∧ w'.cell? ⟨W2.heap.size + 1, 0, none⟩ = some (.int .i64 (labA Y)) ∧ w'.cell? ⟨W2.heap.size + 1, 1, none⟩ = some (.int .i64 (labB X Y)) ∧ w'.cell? ⟨W2.heap.size + 1, 2, none⟩ = some (.int .i64 (labC Y Z)) ∧ (w'.cell? ⟨w.heap.size + 1 + 1, 0, none⟩).isSome = true ∧ w'.frozen? ⟨w.heap.size + 1 + 1, 0, none⟩ = false ∧ (w'.cell? ⟨w.heap.size + 1 + 1, 1, none⟩).isSome = true ∧ w'.frozen? ⟨w.heap.size + 1 + 1, 1, none⟩ = false ∧ (w'.cell? ⟨w.heap.size + 1 + 1, 2, none⟩).isSome = true ∧ w'.frozen? ⟨w.heap.size + 1 + 1, 2, none⟩ = false) (T := fun w' => w'.cell? ⟨w.heap.size + 1 + 1, 0, none⟩ = some (.int .i64 (labA Y)) ∧ w'.cell? ⟨w.heap.size + 1 + 1, 1, none⟩ = some (.int .i64 (labB X Y)) ∧ w'.cell? ⟨w.heap.size + 1 + 1, 2, none⟩ = some (.int .i64 (labC Y Z))) (k := 4) (by kernel_rfl) (by kernel_rfl) (.inl (by simp)) ?_ (b := ?planb) ?plan ?planr
  case plan =>
    iterate 3 (refine Plan.yield (v := ?_) (by first | rfl | go_simp) (by decide) (fun w hw => ?_) ?_; rotate_left; (· (go_simp; try with_reducible rfl)); (try simp only [Act.put]); (try simp only [List.setIfInBounds_toArray, List.set_cons_succ, List.set_cons_zero]))
    refine Plan.yield (v := .bool t) (by rfl) (by decide) (fun w hw => ?_) ?_
    · go_simp
      exact HT.out w
    (try simp only [Act.put]); (try simp only [List.setIfInBounds_toArray, List.set_cons_succ, List.set_cons_zero])
    refine Plan.store (g := ?_) (by rfl) (fun w hw => ?_) (fun w hw => ?_) ?_
    rotate_left
    · obtain ⟨hw0, hw1, hw2, hw3, hw4, hw5, hw6, hwa, hwd, hwb, hwe, hwc, hwf⟩ := hw
      obtain ⟨u0, hwa⟩ := Option.isSome_iff_exists.1 hwa
      obtain ⟨u1, hwb⟩ := Option.isSome_iff_exists.1 hwb
      obtain ⟨u2, hwc⟩ := Option.isSome_iff_exists.1 hwc
      go_simp
      try with_reducible rfl
    · obtain ⟨hw0, hw1, hw2, hw3, hw4, hw5, hw6, hwa, hwd, hwb, hwe, hwc, hwf⟩ := hw
      refine ⟨⟨(by repeat (first | assumption | exact Below.refl _ _ | refine below_drewN ?_ _ | refine Below.drew ?_ | refine Below.setCell ?_ (by first | exact Nat.le_refl _ | assumption | (simp; done) | (simp; omega) | omega) _ | refine Below.alloc ?_ (by first | exact Nat.le_refl _ | assumption | (simp; done) | omega | exact Below.size (by assumption) | (simp; omega)) _)), ?_⟩, ?_⟩ <;> simp [go_sem, World.cell?_setCell_far, *]
    (try simp only [Act.put]); (try simp only [List.setIfInBounds_toArray, List.set_cons_succ, List.set_cons_zero])
    (refine Plan.yield (v := ?_) (by first | rfl | go_simp) (by decide) (fun w hw => ?_) ?_; rotate_left; (· (go_simp; try with_reducible rfl)); (try simp only [Act.put]); (try simp only [List.setIfInBounds_toArray, List.set_cons_succ, List.set_cons_zero]))
    exact Plan.done
  case planr =>
    intro W hS hT
    go_wp2
    obtain ⟨hb, _⟩ := hS
    refine bodyPost_ret (v := .tuple #[.agg #[.int .i64 (labA Y), .int .i64 (labB X Y), .int .i64 (labC Y Z)], .bool t]) (by simp [results, Try.results23, go_sem, *]) rfl ?_
    exact ⟨t, rfl, hb⟩
  refine ⟨Below.drew hacc, ?_⟩
  simp [go_sem, *]

end Go.Proofs.Ytdfocbeejgcglaa
