/- Walk of ToXYZ. -/
import Derived.Test.YtdfocbeejgcglaaRef3
import Derived.Test.YtdfocbeejgcglaaRef6
import Derived.Test.YtdfocbeejgcglaaRef7
namespace Go.Proofs.Ytdfocbeejgcglaa
open Go.RowKit

theorem exec_store_xyz {ρ : Operand → Value} {o : Oper} {x y : Operand} {w : World} {b : Nat} {v0 v1 v2 : Int} {u0 u1 u2 : Value} (ho : o.op = .store 23 x y) (hx : ρ x = .pointer (some ⟨b, 0, none⟩)) (hy : ρ y = .agg #[.int .i64 v0, .int .i64 v1, .int .i64 v2])
    (h0 : w.cell? ⟨b, 0, none⟩ = some u0) (h1 : w.cell? ⟨b, 1, none⟩ = some u1) (h2 : w.cell? ⟨b, 2, none⟩ = some u2) (f0 : w.frozen? ⟨b, 0, none⟩ = false) (f1 : w.frozen? ⟨b, 1, none⟩ = false) (f2 : w.frozen? ⟨b, 2, none⟩ = false) :
    (execOp ρ o).run Try.prog w = .ok .skip (((w.setCell ⟨b, 0, none⟩ (.int .i64 v0)).setCell ⟨b, 1, none⟩ (.int .i64 v1)).setCell ⟨b, 2, none⟩ (.int .i64 v2)) := by
  obtain ⟨dst, op, type, pos, after, guard⟩ := o
  simp only at ho
  subst ho
  simp only [execOp, hx, hy]
  go_simp
def txY (l : Int) : Int := (100 * (l + 1600) + 115) / 116
set_option maxRecDepth 20000 in
set_option maxHeartbeats 4000000 in
theorem toXYZ_good {l a b x' y' z' : Int} (w : World) (he : labE l a b = 0) (he' : xyzE x' y' z' 80000 120000 = 0) :
    Calls Try.prog 24 #[.agg #[.int .i64 l, .int .i64 a, .int .i64 b], .agg #[.int .i64 x', .int .i64 y', .int .i64 z']] w fun e w' => e = .returned (.tuple #[.agg #[.int .i64 (valV (txY l + rnd a 5) x'), .int .i64 (valV (txY l) y'), .int .i64 (valV (txY l - rnd b 2) z')], .int .i64 0]) ∧ Below w.heap.size w w' := by
  obtain ⟨a1, a2, a3, a4, a5, a6⟩ := labOk he
  obtain ⟨b1, b2, b3, b4, b5, b6⟩ := xyzOk he'
  have x1 : (labE l a b != 0) = false := by simp [he]
  have x2 : (xyzE x' y' z' 80000 120000 != 0) = false := by simp [he']
  clear he he'
  have i1 := i64_in (a := l + 1600) (by omega) (by omega)
  have i2 := i64_in (a := 100 * (l + 1600)) (by omega) (by omega)
  have i3 := i64_in (a := 100 * (l + 1600) + 115) (by omega) (by omega)
  have i4 : (100 * (l + 1600) + 115).tdiv 116 = txY l := Int.tdiv_eq_ediv_of_nonneg (by omega)
  have r1 : 0 ≤ txY l ∧ txY l ≤ 10100 := by unfold txY; omega
  have r2 : -2600 ≤ rnd a 5 ∧ rnd a 5 ≤ 2600 := by unfold rnd; omega
  have r3 : -6500 ≤ rnd b 2 ∧ rnd b 2 ≤ 6500 := by unfold rnd; omega
  have i5 := i64_in (a := txY l + rnd a 5) (by omega) (by omega)
  have i6 := i64_in (a := txY l - rnd b 2) (by omega) (by omega)
  have p0 : (((w.alloc (.cells #[.int .i64 l, .int .i64 a, .int .i64 b] 26)).alloc (.cells #[.int .i64 x', .int .i64 y', .int .i64 z'] 23)).alloc (.cells #[.int .i64 0, .int .i64 0, .int .i64 0] 23)).cell? ⟨w.heap.size, 0, none⟩ = some (.int .i64 l) := by simp [go_sem]
  have p1 : (((w.alloc (.cells #[.int .i64 l, .int .i64 a, .int .i64 b] 26)).alloc (.cells #[.int .i64 x', .int .i64 y', .int .i64 z'] 23)).alloc (.cells #[.int .i64 0, .int .i64 0, .int .i64 0] 23)).cell? ⟨w.heap.size, 1, none⟩ = some (.int .i64 a) := by simp [go_sem]
  have p2 : (((w.alloc (.cells #[.int .i64 l, .int .i64 a, .int .i64 b] 26)).alloc (.cells #[.int .i64 x', .int .i64 y', .int .i64 z'] 23)).alloc (.cells #[.int .i64 0, .int .i64 0, .int .i64 0] 23)).cell? ⟨w.heap.size, 2, none⟩ = some (.int .i64 b) := by simp [go_sem]
  have q0 : (((w.alloc (.cells #[.int .i64 l, .int .i64 a, .int .i64 b] 26)).alloc (.cells #[.int .i64 x', .int .i64 y', .int .i64 z'] 23)).alloc (.cells #[.int .i64 0, .int .i64 0, .int .i64 0] 23)).cell? ⟨w.heap.size + 1, 0, none⟩ = some (.int .i64 x') := by simp [go_sem]
  have q1 : (((w.alloc (.cells #[.int .i64 l, .int .i64 a, .int .i64 b] 26)).alloc (.cells #[.int .i64 x', .int .i64 y', .int .i64 z'] 23)).alloc (.cells #[.int .i64 0, .int .i64 0, .int .i64 0] 23)).cell? ⟨w.heap.size + 1, 1, none⟩ = some (.int .i64 y') := by simp [go_sem]
  have q2 : (((w.alloc (.cells #[.int .i64 l, .int .i64 a, .int .i64 b] 26)).alloc (.cells #[.int .i64 x', .int .i64 y', .int .i64 z'] 23)).alloc (.cells #[.int .i64 0, .int .i64 0, .int .i64 0] 23)).cell? ⟨w.heap.size + 1, 2, none⟩ = some (.int .i64 z') := by simp [go_sem]
  have z0 : (((w.alloc (.cells #[.int .i64 l, .int .i64 a, .int .i64 b] 26)).alloc (.cells #[.int .i64 x', .int .i64 y', .int .i64 z'] 23)).alloc (.cells #[.int .i64 0, .int .i64 0, .int .i64 0] 23)).cell? ⟨w.heap.size + 1 + 1, 0, none⟩ = some (.int .i64 0) := by simp [go_sem]
  have z1 : (((w.alloc (.cells #[.int .i64 l, .int .i64 a, .int .i64 b] 26)).alloc (.cells #[.int .i64 x', .int .i64 y', .int .i64 z'] 23)).alloc (.cells #[.int .i64 0, .int .i64 0, .int .i64 0] 23)).cell? ⟨w.heap.size + 1 + 1, 1, none⟩ = some (.int .i64 0) := by simp [go_sem]
  have z2 : (((w.alloc (.cells #[.int .i64 l, .int .i64 a, .int .i64 b] 26)).alloc (.cells #[.int .i64 x', .int .i64 y', .int .i64 z'] 23)).alloc (.cells #[.int .i64 0, .int .i64 0, .int .i64 0] 23)).cell? ⟨w.heap.size + 1 + 1, 2, none⟩ = some (.int .i64 0) := by simp [go_sem]
  have fz0 : (((w.alloc (.cells #[.int .i64 l, .int .i64 a, .int .i64 b] 26)).alloc (.cells #[.int .i64 x', .int .i64 y', .int .i64 z'] 23)).alloc (.cells #[.int .i64 0, .int .i64 0, .int .i64 0] 23)).frozen? ⟨w.heap.size + 1 + 1, 0, none⟩ = false := by simp [go_sem]
  have fz1 : (((w.alloc (.cells #[.int .i64 l, .int .i64 a, .int .i64 b] 26)).alloc (.cells #[.int .i64 x', .int .i64 y', .int .i64 z'] 23)).alloc (.cells #[.int .i64 0, .int .i64 0, .int .i64 0] 23)).frozen? ⟨w.heap.size + 1 + 1, 1, none⟩ = false := by simp [go_sem]
  have fz2 : (((w.alloc (.cells #[.int .i64 l, .int .i64 a, .int .i64 b] 26)).alloc (.cells #[.int .i64 x', .int .i64 y', .int .i64 z'] 23)).alloc (.cells #[.int .i64 0, .int .i64 0, .int .i64 0] 23)).frozen? ⟨w.heap.size + 1 + 1, 2, none⟩ = false := by simp [go_sem]
  have hacc : Below w.heap.size w (((w.alloc (.cells #[.int .i64 l, .int .i64 a, .int .i64 b] 26)).alloc (.cells #[.int .i64 x', .int .i64 y', .int .i64 z'] 23)).alloc (.cells #[.int .i64 0, .int .i64 0, .int .i64 0] 23)) := (by repeat (first | assumption | exact Below.refl _ _ | refine below_drewN ?_ _ | refine Below.drew ?_ | refine Below.setCell ?_ (by first | exact Nat.le_refl _ | assumption | (simp; done) | (simp; omega) | omega) _ | refine Below.alloc ?_ (by first | exact Nat.le_refl _ | assumption | (simp; done) | omega | exact Below.size (by assumption) | (simp; omega)) _))
  go_enter Try.func24, Try.ntmps24
  go_upto_region 8 with (first | (go_at_call 26; refine (labcheck_any _ _ _ _).mono ?_; rintro e wa ⟨rfl, hb⟩; have fz0 := (hb.frozen (lt_of_cell z0)).trans fz0; have fz1 := (hb.frozen (lt_of_cell z1)).trans fz1; have fz2 := (hb.frozen (lt_of_cell z2)).trans fz2; have p0 := cell_kept hb p0; have p1 := cell_kept hb p1; have p2 := cell_kept hb p2; have q0 := cell_kept hb q0; have q1 := cell_kept hb q1; have q2 := cell_kept hb q2; have z0 := cell_kept hb z0; have z1 := cell_kept hb z1; have z2 := cell_kept hb z2; have hacc := hacc.trans (hb.mono hacc.size); clear hb) | (go_at_call 19; refine (white_any _ _ _ _).mono ?_; rintro e wb ⟨rfl, hb⟩; have fz0 := (hb.frozen (lt_of_cell z0)).trans fz0; have fz1 := (hb.frozen (lt_of_cell z1)).trans fz1; have fz2 := (hb.frozen (lt_of_cell z2)).trans fz2; have p0 := cell_kept hb p0; have p1 := cell_kept hb p1; have p2 := cell_kept hb p2; have q0 := cell_kept hb q0; have q1 := cell_kept hb q1; have q2 := cell_kept hb q2; have z0 := cell_kept hb z0; have z1 := cell_kept hb z1; have z2 := cell_kept hb z2; have hacc := hacc.trans (hb.mono hacc.size); clear hb))
  have hsz := lt_of_cell z0
  refine wp_region_plan (S := fun w' => Below w.heap.size w w' ∧ w'.cell? ⟨w.heap.size, 0, none⟩ = some (.int .i64 l) ∧ w'.cell? ⟨w.heap.size, 1, none⟩ = some (.int .i64 a) ∧ w'.cell? ⟨w.heap.size, 2, none⟩ = some (.int .i64 b) ∧ w'.cell? ⟨w.heap.size + 1, 0, none⟩ = some (.int .i64 x') ∧ w'.cell? ⟨w.heap.size + 1, 1, none⟩ = some (.int .i64 y') ∧ w'.cell? ⟨w.heap.size + 1, 2, none⟩ = some (.int .i64 z') ∧ (w'.cell? ⟨w.heap.size + 1 + 1, 0, none⟩).isSome = true ∧ w'.frozen? ⟨w.heap.size + 1 + 1, 0, none⟩ = false ∧ (w'.cell? ⟨w.heap.size + 1 + 1, 1, none⟩).isSome = true ∧ w'.frozen? ⟨w.heap.size + 1 + 1, 1, none⟩ = false ∧ (w'.cell? ⟨w.heap.size + 1 + 1, 2, none⟩).isSome = true ∧ w'.frozen? ⟨w.heap.size + 1 + 1, 2, none⟩ = false) (T := fun w' => w'.cell? ⟨w.heap.size + 1 + 1, 0, none⟩ = some (.int .i64 (valV (txY l + rnd a 5) x')) ∧ w'.cell? ⟨w.heap.size + 1 + 1, 1, none⟩ = some (.int .i64 (valV (txY l) y')) ∧ w'.cell? ⟨w.heap.size + 1 + 1, 2, none⟩ = some (.int .i64 (valV (txY l - rnd b 2) z'))) (k := 21) (by kernel_rfl) (by kernel_rfl) (.inl (by simp)) ?_ (b := ?planb) ?plan ?planr
  case plan =>
    iterate 3 (refine Plan.yield (v := ?_) (by first | rfl | go_simp) (by decide) (fun w hw => ?_) ?_; rotate_left; (· (go_simp; try with_reducible rfl)); (try simp only [Act.put]); (try simp only [List.setIfInBounds_toArray, List.set_cons_succ, List.set_cons_zero]))
    refine Plan.call (v := .int .i64 (rnd a 5)) (args := ?_) (f := ?_) (by rfl) (by decide) (fun w => ?_) (fun w hw => ?_) ?_
    rotate_left 2
    · go_simp
      constructor <;> with_reducible rfl
    · refine (nearest_any a 5 _ (by omega) (by omega) (by omega) (by omega)).mono ?_
      rintro e w' ⟨rfl, rfl⟩
      exact ⟨rfl, hw, id⟩
    (try simp only [Act.put]); (try simp only [List.setIfInBounds_toArray, List.set_cons_succ, List.set_cons_zero])
    iterate 3 (refine Plan.yield (v := ?_) (by first | rfl | go_simp) (by decide) (fun w hw => ?_) ?_; rotate_left; (· (go_simp; try with_reducible rfl)); (try simp only [Act.put]); (try simp only [List.setIfInBounds_toArray, List.set_cons_succ, List.set_cons_zero]))
    refine Plan.call (v := .int .i64 (valV (txY l + rnd a 5) x')) (args := ?_) (f := ?_) (by rfl) (by decide) (fun w => ?_) (fun w hw => ?_) ?_
    rotate_left 2
    · go_simp
      constructor <;> with_reducible rfl
    · refine (value_any _ _ _ b1 b2).mono ?_
      rintro e w' ⟨rfl, rfl⟩
      exact ⟨rfl, hw, id⟩
    (try simp only [Act.put]); (try simp only [List.setIfInBounds_toArray, List.set_cons_succ, List.set_cons_zero])
    iterate 3 (refine Plan.yield (v := ?_) (by first | rfl | go_simp) (by decide) (fun w hw => ?_) ?_; rotate_left; (· (go_simp; try with_reducible rfl)); (try simp only [Act.put]); (try simp only [List.setIfInBounds_toArray, List.set_cons_succ, List.set_cons_zero]))
    refine Plan.call (v := .int .i64 (valV (txY l) y')) (args := ?_) (f := ?_) (by rfl) (by decide) (fun w => ?_) (fun w hw => ?_) ?_
    rotate_left 2
    · go_simp
      constructor <;> with_reducible rfl
    · refine (value_any _ _ _ b3 b4).mono ?_
      rintro e w' ⟨rfl, rfl⟩
      exact ⟨rfl, hw, id⟩
    (try simp only [Act.put]); (try simp only [List.setIfInBounds_toArray, List.set_cons_succ, List.set_cons_zero])
    iterate 3 (refine Plan.yield (v := ?_) (by first | rfl | go_simp) (by decide) (fun w hw => ?_) ?_; rotate_left; (· (go_simp; try with_reducible rfl)); (try simp only [Act.put]); (try simp only [List.setIfInBounds_toArray, List.set_cons_succ, List.set_cons_zero]))
    refine Plan.call (v := .int .i64 (rnd b 2)) (args := ?_) (f := ?_) (by rfl) (by decide) (fun w => ?_) (fun w hw => ?_) ?_
    rotate_left 2
    · go_simp
      constructor <;> with_reducible rfl
    · refine (nearest_any b 2 _ (by omega) (by omega) (by omega) (by omega)).mono ?_
      rintro e w' ⟨rfl, rfl⟩
      exact ⟨rfl, hw, id⟩
    (try simp only [Act.put]); (try simp only [List.setIfInBounds_toArray, List.set_cons_succ, List.set_cons_zero])
    iterate 3 (refine Plan.yield (v := ?_) (by first | rfl | go_simp) (by decide) (fun w hw => ?_) ?_; rotate_left; (· (go_simp; try with_reducible rfl)); (try simp only [Act.put]); (try simp only [List.setIfInBounds_toArray, List.set_cons_succ, List.set_cons_zero]))
    refine Plan.call (v := .int .i64 (valV (txY l - rnd b 2) z')) (args := ?_) (f := ?_) (by rfl) (by decide) (fun w => ?_) (fun w hw => ?_) ?_
    rotate_left 2
    · go_simp
      constructor <;> with_reducible rfl
    · refine (value_any _ _ _ b5 b6).mono ?_
      rintro e w' ⟨rfl, rfl⟩
      exact ⟨rfl, hw, id⟩
    (try simp only [Act.put]); (try simp only [List.setIfInBounds_toArray, List.set_cons_succ, List.set_cons_zero])
    (refine Plan.yield (v := ?_) (by first | rfl | go_simp) (by decide) (fun w hw => ?_) ?_; rotate_left; (· (go_simp; try with_reducible rfl)); (try simp only [Act.put]); (try simp only [List.setIfInBounds_toArray, List.set_cons_succ, List.set_cons_zero]))
    refine Plan.store (g := fun w' => ((w'.setCell ⟨w.heap.size + 1 + 1, 0, none⟩ (.int .i64 (valV (txY l + rnd a 5) x'))).setCell ⟨w.heap.size + 1 + 1, 1, none⟩ (.int .i64 (valV (txY l) y'))).setCell ⟨w.heap.size + 1 + 1, 2, none⟩ (.int .i64 (valV (txY l - rnd b 2) z'))) (by rfl) (fun w hw => ?_) (fun w hw => ?_) ?_
    · obtain ⟨hw0, c0, c1, c2, d0, d1, d2, hwa, hwd, hwb, hwe, hwc, hwf⟩ := hw
      obtain ⟨u0, hwa⟩ := Option.isSome_iff_exists.1 hwa
      obtain ⟨u1, hwb⟩ := Option.isSome_iff_exists.1 hwb
      obtain ⟨u2, hwc⟩ := Option.isSome_iff_exists.1 hwc
      exact exec_store_xyz rfl rfl rfl hwa hwb hwc hwd hwe hwf
    · obtain ⟨hw0, c0, c1, c2, d0, d1, d2, hwa, hwd, hwb, hwe, hwc, hwf⟩ := hw
      refine ⟨⟨(by repeat (first | assumption | exact Below.refl _ _ | refine below_drewN ?_ _ | refine Below.drew ?_ | refine Below.setCell ?_ (by first | exact Nat.le_refl _ | assumption | (simp; done) | (simp; omega) | omega) _ | refine Below.alloc ?_ (by first | exact Nat.le_refl _ | assumption | (simp; done) | omega | exact Below.size (by assumption) | (simp; omega)) _)), ?_⟩, ?_⟩ <;> simp [go_sem, *]
    (try simp only [Act.put]); (try simp only [List.setIfInBounds_toArray, List.set_cons_succ, List.set_cons_zero])
    (refine Plan.yield (v := ?_) (by first | rfl | go_simp) (by decide) (fun w hw => ?_) ?_; rotate_left; (· (go_simp; try with_reducible rfl)); (try simp only [Act.put]); (try simp only [List.setIfInBounds_toArray, List.set_cons_succ, List.set_cons_zero]))
    exact Plan.done
  case planr =>
    intro W hS hT
    go_wp2
    obtain ⟨hb, _⟩ := hS
    refine bodyPost_ret (v := .tuple #[.agg #[.int .i64 (valV (txY l + rnd a 5) x'), .int .i64 (valV (txY l) y'), .int .i64 (valV (txY l - rnd b 2) z')], .int .i64 0]) (by simp [results, Try.results24, go_sem, *]) rfl ?_
    exact ⟨rfl, hb⟩
  refine ⟨Below.drew hacc, ?_⟩
  simp [go_sem, *]

set_option maxRecDepth 20000 in
set_option maxHeartbeats 4000000 in
theorem toXYZ_bad {l a b x' y' z' : Int} (w : World) (h : labE l a b ≠ 0 ∨ xyzE x' y' z' 80000 120000 ≠ 0) :
    Calls Try.prog 24 #[.agg #[.int .i64 l, .int .i64 a, .int .i64 b], .agg #[.int .i64 x', .int .i64 y', .int .i64 z']] w fun e w' => e = .returned (.tuple #[.agg #[.int .i64 0, .int .i64 0, .int .i64 0], .int .i64 3]) ∧ Below w.heap.size w w' := by
  have p0 : (((w.alloc (.cells #[.int .i64 l, .int .i64 a, .int .i64 b] 26)).alloc (.cells #[.int .i64 x', .int .i64 y', .int .i64 z'] 23)).alloc (.cells #[.int .i64 0, .int .i64 0, .int .i64 0] 23)).cell? ⟨w.heap.size, 0, none⟩ = some (.int .i64 l) := by simp [go_sem]
  have p1 : (((w.alloc (.cells #[.int .i64 l, .int .i64 a, .int .i64 b] 26)).alloc (.cells #[.int .i64 x', .int .i64 y', .int .i64 z'] 23)).alloc (.cells #[.int .i64 0, .int .i64 0, .int .i64 0] 23)).cell? ⟨w.heap.size, 1, none⟩ = some (.int .i64 a) := by simp [go_sem]
  have p2 : (((w.alloc (.cells #[.int .i64 l, .int .i64 a, .int .i64 b] 26)).alloc (.cells #[.int .i64 x', .int .i64 y', .int .i64 z'] 23)).alloc (.cells #[.int .i64 0, .int .i64 0, .int .i64 0] 23)).cell? ⟨w.heap.size, 2, none⟩ = some (.int .i64 b) := by simp [go_sem]
  have q0 : (((w.alloc (.cells #[.int .i64 l, .int .i64 a, .int .i64 b] 26)).alloc (.cells #[.int .i64 x', .int .i64 y', .int .i64 z'] 23)).alloc (.cells #[.int .i64 0, .int .i64 0, .int .i64 0] 23)).cell? ⟨w.heap.size + 1, 0, none⟩ = some (.int .i64 x') := by simp [go_sem]
  have q1 : (((w.alloc (.cells #[.int .i64 l, .int .i64 a, .int .i64 b] 26)).alloc (.cells #[.int .i64 x', .int .i64 y', .int .i64 z'] 23)).alloc (.cells #[.int .i64 0, .int .i64 0, .int .i64 0] 23)).cell? ⟨w.heap.size + 1, 1, none⟩ = some (.int .i64 y') := by simp [go_sem]
  have q2 : (((w.alloc (.cells #[.int .i64 l, .int .i64 a, .int .i64 b] 26)).alloc (.cells #[.int .i64 x', .int .i64 y', .int .i64 z'] 23)).alloc (.cells #[.int .i64 0, .int .i64 0, .int .i64 0] 23)).cell? ⟨w.heap.size + 1, 2, none⟩ = some (.int .i64 z') := by simp [go_sem]
  have z0 : (((w.alloc (.cells #[.int .i64 l, .int .i64 a, .int .i64 b] 26)).alloc (.cells #[.int .i64 x', .int .i64 y', .int .i64 z'] 23)).alloc (.cells #[.int .i64 0, .int .i64 0, .int .i64 0] 23)).cell? ⟨w.heap.size + 1 + 1, 0, none⟩ = some (.int .i64 0) := by simp [go_sem]
  have z1 : (((w.alloc (.cells #[.int .i64 l, .int .i64 a, .int .i64 b] 26)).alloc (.cells #[.int .i64 x', .int .i64 y', .int .i64 z'] 23)).alloc (.cells #[.int .i64 0, .int .i64 0, .int .i64 0] 23)).cell? ⟨w.heap.size + 1 + 1, 1, none⟩ = some (.int .i64 0) := by simp [go_sem]
  have z2 : (((w.alloc (.cells #[.int .i64 l, .int .i64 a, .int .i64 b] 26)).alloc (.cells #[.int .i64 x', .int .i64 y', .int .i64 z'] 23)).alloc (.cells #[.int .i64 0, .int .i64 0, .int .i64 0] 23)).cell? ⟨w.heap.size + 1 + 1, 2, none⟩ = some (.int .i64 0) := by simp [go_sem]
  have fz0 : (((w.alloc (.cells #[.int .i64 l, .int .i64 a, .int .i64 b] 26)).alloc (.cells #[.int .i64 x', .int .i64 y', .int .i64 z'] 23)).alloc (.cells #[.int .i64 0, .int .i64 0, .int .i64 0] 23)).frozen? ⟨w.heap.size + 1 + 1, 0, none⟩ = false := by simp [go_sem]
  have fz1 : (((w.alloc (.cells #[.int .i64 l, .int .i64 a, .int .i64 b] 26)).alloc (.cells #[.int .i64 x', .int .i64 y', .int .i64 z'] 23)).alloc (.cells #[.int .i64 0, .int .i64 0, .int .i64 0] 23)).frozen? ⟨w.heap.size + 1 + 1, 1, none⟩ = false := by simp [go_sem]
  have fz2 : (((w.alloc (.cells #[.int .i64 l, .int .i64 a, .int .i64 b] 26)).alloc (.cells #[.int .i64 x', .int .i64 y', .int .i64 z'] 23)).alloc (.cells #[.int .i64 0, .int .i64 0, .int .i64 0] 23)).frozen? ⟨w.heap.size + 1 + 1, 2, none⟩ = false := by simp [go_sem]
  have hacc : Below w.heap.size w (((w.alloc (.cells #[.int .i64 l, .int .i64 a, .int .i64 b] 26)).alloc (.cells #[.int .i64 x', .int .i64 y', .int .i64 z'] 23)).alloc (.cells #[.int .i64 0, .int .i64 0, .int .i64 0] 23)) := (by repeat (first | assumption | exact Below.refl _ _ | refine below_drewN ?_ _ | refine Below.drew ?_ | refine Below.setCell ?_ (by first | exact Nat.le_refl _ | assumption | (simp; done) | (simp; omega) | omega) _ | refine Below.alloc ?_ (by first | exact Nat.le_refl _ | assumption | (simp; done) | omega | exact Below.size (by assumption) | (simp; omega)) _))
  rcases labE_cases l a b with he | he
  · have he' : xyzE x' y' z' 80000 120000 = 3 := by rcases xyzE_cases x' y' z' 80000 120000 with g | g <;> omega
    have x1 : (labE l a b != 0) = false := by simp [he]
    have x2 : (xyzE x' y' z' 80000 120000 != 0) = true := by simp [he']
    have X3 := Lib.hid he'
    clear he he' h
    go_enter Try.func24, Try.ntmps24
    go_wp2_with (first | (go_at_call 26; refine (labcheck_any _ _ _ _).mono ?_; rintro e wa ⟨rfl, hb⟩; have fz0 := (hb.frozen (lt_of_cell z0)).trans fz0; have fz1 := (hb.frozen (lt_of_cell z1)).trans fz1; have fz2 := (hb.frozen (lt_of_cell z2)).trans fz2; have p0 := cell_kept hb p0; have p1 := cell_kept hb p1; have p2 := cell_kept hb p2; have q0 := cell_kept hb q0; have q1 := cell_kept hb q1; have q2 := cell_kept hb q2; have z0 := cell_kept hb z0; have z1 := cell_kept hb z1; have z2 := cell_kept hb z2; have hacc := hacc.trans (hb.mono hacc.size); clear hb) | (go_at_call 19; refine (white_any _ _ _ _).mono ?_; rintro e wb ⟨rfl, hb⟩; have fz0 := (hb.frozen (lt_of_cell z0)).trans fz0; have fz1 := (hb.frozen (lt_of_cell z1)).trans fz1; have fz2 := (hb.frozen (lt_of_cell z2)).trans fz2; have p0 := cell_kept hb p0; have p1 := cell_kept hb p1; have p2 := cell_kept hb p2; have q0 := cell_kept hb q0; have q1 := cell_kept hb q1; have q2 := cell_kept hb q2; have z0 := cell_kept hb z0; have z1 := cell_kept hb z1; have z2 := cell_kept hb z2; have hacc := hacc.trans (hb.mono hacc.size); clear hb))
    refine bodyPost_ret (v := .tuple #[.agg #[.int .i64 0, .int .i64 0, .int .i64 0], .int .i64 3]) (by rw [← X3.out]; simp [results, Try.results24, go_sem, *]) rfl ?_
    exact ⟨rfl, (by repeat (first | assumption | exact Below.refl _ _ | refine below_drewN ?_ _ | refine Below.drew ?_ | refine Below.setCell ?_ (by first | exact Nat.le_refl _ | assumption | (simp; done) | (simp; omega) | omega) _ | refine Below.alloc ?_ (by first | exact Nat.le_refl _ | assumption | (simp; done) | omega | exact Below.size (by assumption) | (simp; omega)) _))⟩
  · have x1 : (labE l a b != 0) = true := by simp [he]
    have X3 := Lib.hid he
    clear he h
    go_enter Try.func24, Try.ntmps24
    go_wp2_with (first | (go_at_call 26; refine (labcheck_any _ _ _ _).mono ?_; rintro e wa ⟨rfl, hb⟩; have fz0 := (hb.frozen (lt_of_cell z0)).trans fz0; have fz1 := (hb.frozen (lt_of_cell z1)).trans fz1; have fz2 := (hb.frozen (lt_of_cell z2)).trans fz2; have p0 := cell_kept hb p0; have p1 := cell_kept hb p1; have p2 := cell_kept hb p2; have q0 := cell_kept hb q0; have q1 := cell_kept hb q1; have q2 := cell_kept hb q2; have z0 := cell_kept hb z0; have z1 := cell_kept hb z1; have z2 := cell_kept hb z2; have hacc := hacc.trans (hb.mono hacc.size); clear hb) | (go_at_call 19; refine (white_any _ _ _ _).mono ?_; rintro e wb ⟨rfl, hb⟩; have fz0 := (hb.frozen (lt_of_cell z0)).trans fz0; have fz1 := (hb.frozen (lt_of_cell z1)).trans fz1; have fz2 := (hb.frozen (lt_of_cell z2)).trans fz2; have p0 := cell_kept hb p0; have p1 := cell_kept hb p1; have p2 := cell_kept hb p2; have q0 := cell_kept hb q0; have q1 := cell_kept hb q1; have q2 := cell_kept hb q2; have z0 := cell_kept hb z0; have z1 := cell_kept hb z1; have z2 := cell_kept hb z2; have hacc := hacc.trans (hb.mono hacc.size); clear hb))
    refine bodyPost_ret (v := .tuple #[.agg #[.int .i64 0, .int .i64 0, .int .i64 0], .int .i64 3]) (by rw [← X3.out]; simp [results, Try.results24, go_sem, *]) rfl ?_
    exact ⟨rfl, (by repeat (first | assumption | exact Below.refl _ _ | refine below_drewN ?_ _ | refine Below.drew ?_ | refine Below.setCell ?_ (by first | exact Nat.le_refl _ | assumption | (simp; done) | (simp; omega) | omega) _ | refine Below.alloc ?_ (by first | exact Nat.le_refl _ | assumption | (simp; done) | omega | exact Below.size (by assumption) | (simp; omega)) _))⟩

set_option maxRecDepth 20000 in
set_option maxHeartbeats 8000000 in
theorem between_bad {l a b l' a' b' n d : Int} (w : World) (h : labE l a b ≠ 0 ∨ labE l' a' b' ≠ 0 ∨ d < 1 ∨ 65280 < d ∨ n < 0 ∨ d < n) :
    Calls Try.prog 32 #[.agg #[.int .i64 l, .int .i64 a, .int .i64 b], .agg #[.int .i64 l', .int .i64 a', .int .i64 b'], .int .i64 n, .int .i64 d] w fun e w' => e = .returned (.tuple #[.agg #[.int .i64 0, .int .i64 0, .int .i64 0], .int .i64 3]) ∧ Below w.heap.size w w' := by
  have p0 : (((((w.alloc (.cells #[.int .i64 l, .int .i64 a, .int .i64 b] 26)).alloc (.cells #[.int .i64 l', .int .i64 a', .int .i64 b'] 26)).alloc (.cells #[.int .i64 n] 3)).alloc (.cells #[.int .i64 d] 3)).alloc (.cells #[.int .i64 0, .int .i64 0, .int .i64 0] 26)).cell? ⟨w.heap.size, 0, none⟩ = some (.int .i64 l) := by simp [go_sem]
  have p1 : (((((w.alloc (.cells #[.int .i64 l, .int .i64 a, .int .i64 b] 26)).alloc (.cells #[.int .i64 l', .int .i64 a', .int .i64 b'] 26)).alloc (.cells #[.int .i64 n] 3)).alloc (.cells #[.int .i64 d] 3)).alloc (.cells #[.int .i64 0, .int .i64 0, .int .i64 0] 26)).cell? ⟨w.heap.size, 1, none⟩ = some (.int .i64 a) := by simp [go_sem]
  have p2 : (((((w.alloc (.cells #[.int .i64 l, .int .i64 a, .int .i64 b] 26)).alloc (.cells #[.int .i64 l', .int .i64 a', .int .i64 b'] 26)).alloc (.cells #[.int .i64 n] 3)).alloc (.cells #[.int .i64 d] 3)).alloc (.cells #[.int .i64 0, .int .i64 0, .int .i64 0] 26)).cell? ⟨w.heap.size, 2, none⟩ = some (.int .i64 b) := by simp [go_sem]
  have q0 : (((((w.alloc (.cells #[.int .i64 l, .int .i64 a, .int .i64 b] 26)).alloc (.cells #[.int .i64 l', .int .i64 a', .int .i64 b'] 26)).alloc (.cells #[.int .i64 n] 3)).alloc (.cells #[.int .i64 d] 3)).alloc (.cells #[.int .i64 0, .int .i64 0, .int .i64 0] 26)).cell? ⟨w.heap.size + 1, 0, none⟩ = some (.int .i64 l') := by simp [go_sem]
  have q1 : (((((w.alloc (.cells #[.int .i64 l, .int .i64 a, .int .i64 b] 26)).alloc (.cells #[.int .i64 l', .int .i64 a', .int .i64 b'] 26)).alloc (.cells #[.int .i64 n] 3)).alloc (.cells #[.int .i64 d] 3)).alloc (.cells #[.int .i64 0, .int .i64 0, .int .i64 0] 26)).cell? ⟨w.heap.size + 1, 1, none⟩ = some (.int .i64 a') := by simp [go_sem]
  have q2 : (((((w.alloc (.cells #[.int .i64 l, .int .i64 a, .int .i64 b] 26)).alloc (.cells #[.int .i64 l', .int .i64 a', .int .i64 b'] 26)).alloc (.cells #[.int .i64 n] 3)).alloc (.cells #[.int .i64 d] 3)).alloc (.cells #[.int .i64 0, .int .i64 0, .int .i64 0] 26)).cell? ⟨w.heap.size + 1, 2, none⟩ = some (.int .i64 b') := by simp [go_sem]
  have cn : (((((w.alloc (.cells #[.int .i64 l, .int .i64 a, .int .i64 b] 26)).alloc (.cells #[.int .i64 l', .int .i64 a', .int .i64 b'] 26)).alloc (.cells #[.int .i64 n] 3)).alloc (.cells #[.int .i64 d] 3)).alloc (.cells #[.int .i64 0, .int .i64 0, .int .i64 0] 26)).cell? ⟨w.heap.size + 1 + 1, 0, none⟩ = some (.int .i64 n) := by simp [go_sem]
  have cd : (((((w.alloc (.cells #[.int .i64 l, .int .i64 a, .int .i64 b] 26)).alloc (.cells #[.int .i64 l', .int .i64 a', .int .i64 b'] 26)).alloc (.cells #[.int .i64 n] 3)).alloc (.cells #[.int .i64 d] 3)).alloc (.cells #[.int .i64 0, .int .i64 0, .int .i64 0] 26)).cell? ⟨w.heap.size + 1 + 1 + 1, 0, none⟩ = some (.int .i64 d) := by simp [go_sem]
  have z0 : (((((w.alloc (.cells #[.int .i64 l, .int .i64 a, .int .i64 b] 26)).alloc (.cells #[.int .i64 l', .int .i64 a', .int .i64 b'] 26)).alloc (.cells #[.int .i64 n] 3)).alloc (.cells #[.int .i64 d] 3)).alloc (.cells #[.int .i64 0, .int .i64 0, .int .i64 0] 26)).cell? ⟨w.heap.size + 1 + 1 + 1 + 1, 0, none⟩ = some (.int .i64 0) := by simp [go_sem]
  have z1 : (((((w.alloc (.cells #[.int .i64 l, .int .i64 a, .int .i64 b] 26)).alloc (.cells #[.int .i64 l', .int .i64 a', .int .i64 b'] 26)).alloc (.cells #[.int .i64 n] 3)).alloc (.cells #[.int .i64 d] 3)).alloc (.cells #[.int .i64 0, .int .i64 0, .int .i64 0] 26)).cell? ⟨w.heap.size + 1 + 1 + 1 + 1, 1, none⟩ = some (.int .i64 0) := by simp [go_sem]
  have z2 : (((((w.alloc (.cells #[.int .i64 l, .int .i64 a, .int .i64 b] 26)).alloc (.cells #[.int .i64 l', .int .i64 a', .int .i64 b'] 26)).alloc (.cells #[.int .i64 n] 3)).alloc (.cells #[.int .i64 d] 3)).alloc (.cells #[.int .i64 0, .int .i64 0, .int .i64 0] 26)).cell? ⟨w.heap.size + 1 + 1 + 1 + 1, 2, none⟩ = some (.int .i64 0) := by simp [go_sem]
  have fz0 : (((((w.alloc (.cells #[.int .i64 l, .int .i64 a, .int .i64 b] 26)).alloc (.cells #[.int .i64 l', .int .i64 a', .int .i64 b'] 26)).alloc (.cells #[.int .i64 n] 3)).alloc (.cells #[.int .i64 d] 3)).alloc (.cells #[.int .i64 0, .int .i64 0, .int .i64 0] 26)).frozen? ⟨w.heap.size + 1 + 1 + 1 + 1, 0, none⟩ = false := by simp [go_sem]
  have fz1 : (((((w.alloc (.cells #[.int .i64 l, .int .i64 a, .int .i64 b] 26)).alloc (.cells #[.int .i64 l', .int .i64 a', .int .i64 b'] 26)).alloc (.cells #[.int .i64 n] 3)).alloc (.cells #[.int .i64 d] 3)).alloc (.cells #[.int .i64 0, .int .i64 0, .int .i64 0] 26)).frozen? ⟨w.heap.size + 1 + 1 + 1 + 1, 1, none⟩ = false := by simp [go_sem]
  have fz2 : (((((w.alloc (.cells #[.int .i64 l, .int .i64 a, .int .i64 b] 26)).alloc (.cells #[.int .i64 l', .int .i64 a', .int .i64 b'] 26)).alloc (.cells #[.int .i64 n] 3)).alloc (.cells #[.int .i64 d] 3)).alloc (.cells #[.int .i64 0, .int .i64 0, .int .i64 0] 26)).frozen? ⟨w.heap.size + 1 + 1 + 1 + 1, 2, none⟩ = false := by simp [go_sem]
  have hacc : Below w.heap.size w (((((w.alloc (.cells #[.int .i64 l, .int .i64 a, .int .i64 b] 26)).alloc (.cells #[.int .i64 l', .int .i64 a', .int .i64 b'] 26)).alloc (.cells #[.int .i64 n] 3)).alloc (.cells #[.int .i64 d] 3)).alloc (.cells #[.int .i64 0, .int .i64 0, .int .i64 0] 26)) := (by repeat (first | assumption | exact Below.refl _ _ | refine below_drewN ?_ _ | refine Below.drew ?_ | refine Below.setCell ?_ (by first | exact Nat.le_refl _ | assumption | (simp; done) | (simp; omega) | omega) _ | refine Below.alloc ?_ (by first | exact Nat.le_refl _ | assumption | (simp; done) | omega | exact Below.size (by assumption) | (simp; omega)) _))
  rcases labE_cases l a b with he | he
  · rcases labE_cases l' a' b' with he' | he'
    · have x1 : (labE l a b != 0) = false := by simp [he]
      have x2 : (labE l' a' b' != 0) = false := by simp [he']
      have hc : d < 1 ∨ (1 ≤ d ∧ 65280 < d) ∨ (1 ≤ d ∧ d ≤ 65280 ∧ n < 0) ∨ (1 ≤ d ∧ d ≤ 65280 ∧ 0 ≤ n ∧ d < n) := by omega
      clear he he' h
      rcases hc with g1 | ⟨g1, g2⟩ | ⟨g1, g2, g3⟩ | ⟨g1, g2, g3, g4⟩
      all_goals
        go_enter Try.func32, Try.ntmps32
        go_wp2_with (go_at_call 26; refine (labcheck_any _ _ _ _).mono ?_; rintro e wa ⟨rfl, hb⟩; have fz0 := (hb.frozen (lt_of_cell z0)).trans fz0; have fz1 := (hb.frozen (lt_of_cell z1)).trans fz1; have fz2 := (hb.frozen (lt_of_cell z2)).trans fz2; have p0 := cell_kept hb p0; have p1 := cell_kept hb p1; have p2 := cell_kept hb p2; have q0 := cell_kept hb q0; have q1 := cell_kept hb q1; have q2 := cell_kept hb q2; have cn := cell_kept hb cn; have cd := cell_kept hb cd; have z0 := cell_kept hb z0; have z1 := cell_kept hb z1; have z2 := cell_kept hb z2; have hacc := hacc.trans (hb.mono hacc.size); clear hb)
        refine bodyPost_ret (v := .tuple #[.agg #[.int .i64 0, .int .i64 0, .int .i64 0], .int .i64 3]) (by simp [results, Try.results32, go_sem, *]) rfl ?_
        exact ⟨rfl, (by repeat (first | assumption | exact Below.refl _ _ | refine below_drewN ?_ _ | refine Below.drew ?_ | refine Below.setCell ?_ (by first | exact Nat.le_refl _ | assumption | (simp; done) | (simp; omega) | omega) _ | refine Below.alloc ?_ (by first | exact Nat.le_refl _ | assumption | (simp; done) | omega | exact Below.size (by assumption) | (simp; omega)) _))⟩
    · have x1 : (labE l a b != 0) = false := by simp [he]
      have x2 : (labE l' a' b' != 0) = true := by simp [he']
      have X3 := Lib.hid he'
      clear he he' h
      go_enter Try.func32, Try.ntmps32
      go_wp2_with (go_at_call 26; refine (labcheck_any _ _ _ _).mono ?_; rintro e wa ⟨rfl, hb⟩; have fz0 := (hb.frozen (lt_of_cell z0)).trans fz0; have fz1 := (hb.frozen (lt_of_cell z1)).trans fz1; have fz2 := (hb.frozen (lt_of_cell z2)).trans fz2; have p0 := cell_kept hb p0; have p1 := cell_kept hb p1; have p2 := cell_kept hb p2; have q0 := cell_kept hb q0; have q1 := cell_kept hb q1; have q2 := cell_kept hb q2; have cn := cell_kept hb cn; have cd := cell_kept hb cd; have z0 := cell_kept hb z0; have z1 := cell_kept hb z1; have z2 := cell_kept hb z2; have hacc := hacc.trans (hb.mono hacc.size); clear hb)
      refine bodyPost_ret (v := .tuple #[.agg #[.int .i64 0, .int .i64 0, .int .i64 0], .int .i64 3]) (by rw [← X3.out]; simp [results, Try.results32, go_sem, *]) rfl ?_
      exact ⟨rfl, (by repeat (first | assumption | exact Below.refl _ _ | refine below_drewN ?_ _ | refine Below.drew ?_ | refine Below.setCell ?_ (by first | exact Nat.le_refl _ | assumption | (simp; done) | (simp; omega) | omega) _ | refine Below.alloc ?_ (by first | exact Nat.le_refl _ | assumption | (simp; done) | omega | exact Below.size (by assumption) | (simp; omega)) _))⟩
  · have x1 : (labE l a b != 0) = true := by simp [he]
    have X3 := Lib.hid he
    clear he h
    go_enter Try.func32, Try.ntmps32
    go_wp2_with (go_at_call 26; refine (labcheck_any _ _ _ _).mono ?_; rintro e wa ⟨rfl, hb⟩; have fz0 := (hb.frozen (lt_of_cell z0)).trans fz0; have fz1 := (hb.frozen (lt_of_cell z1)).trans fz1; have fz2 := (hb.frozen (lt_of_cell z2)).trans fz2; have p0 := cell_kept hb p0; have p1 := cell_kept hb p1; have p2 := cell_kept hb p2; have q0 := cell_kept hb q0; have q1 := cell_kept hb q1; have q2 := cell_kept hb q2; have cn := cell_kept hb cn; have cd := cell_kept hb cd; have z0 := cell_kept hb z0; have z1 := cell_kept hb z1; have z2 := cell_kept hb z2; have hacc := hacc.trans (hb.mono hacc.size); clear hb)
    refine bodyPost_ret (v := .tuple #[.agg #[.int .i64 0, .int .i64 0, .int .i64 0], .int .i64 3]) (by rw [← X3.out]; simp [results, Try.results32, go_sem, *]) rfl ?_
    exact ⟨rfl, (by repeat (first | assumption | exact Below.refl _ _ | refine below_drewN ?_ _ | refine Below.drew ?_ | refine Below.setCell ?_ (by first | exact Nat.le_refl _ | assumption | (simp; done) | (simp; omega) | omega) _ | refine Below.alloc ?_ (by first | exact Nat.le_refl _ | assumption | (simp; done) | omega | exact Below.size (by assumption) | (simp; omega)) _))⟩
end Go.Proofs.Ytdfocbeejgcglaa
