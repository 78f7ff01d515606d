/- Walk of OverprintCombines, the good case. -/
import Derived.Test.YtlbnicapkfmdoaaOver10
namespace Go.Proofs.Ytlbnicapkfmdoaa
open Go.RowKit

theorem sameInts_len {A B : Option Addr} {xs : List Int} {c d n m : Nat} (w : World) (h1 : Hid (xs.length = n)) (h2 : Hid (xs.length = m)) (hl : xs.length ≤ maxLen) (h : Ints w A xs) (h' : Ints w B xs) :
    Calls Try.prog 27 #[.slice A n c, .slice B m d] w fun e w' => e = .returned (.bool true) ∧ Below w.heap.size w w' := by
  have e1 := h1.out
  have e2 := h2.out
  subst e1
  subst e2
  exact sameInts_yes A B xs c d w hl h h'
set_option maxRecDepth 100000 in
set_option maxHeartbeats 16000000 in
theorem combines_good {A B C : Option Addr} {be ab ki : List Int} {ca cb cc : Nat} (w : World) (hlA : be.length ≤ maxLen) (hlB : ab.length ≤ maxLen) (hlC : ki.length ≤ maxLen) (hA : Ints w A be) (hB : Ints w B ab) (hC : Ints w C ki)
    (hE : combE be ab ki = 0) :
    Calls Try.prog 5 #[.slice A be.length ca, .slice B ab.length cb, .slice C ki.length cc] w fun e w' => e = .returned (.bool true) ∧ Below w.heap.size w w' := by
  have hF := Lib.hid (show combF be ab ki = (combL be ab ki, 0) from if_neg (by omega))
  have hacc := Below.refl w.heap.size w
  obtain ⟨i0, hi0, hz0, hz1, hz2⟩ := info_parts intInfo
  have h8 : ¬ 8 < be.length := by
    intro h; unfold combE at hE; rw [if_pos h] at hE; cases hE
  have h1 : tonesE be be.length 255 = 0 := by
    unfold combE at hE; rw [if_neg h8] at hE
    by_cases h : tonesE be be.length 255 = 0
    · exact h
    · rw [if_pos h] at hE; exact absurd hE h
  have h2 : tonesE ab be.length 255 = 0 := by
    unfold combE at hE; rw [if_neg h8, if_neg (by omega)] at hE
    by_cases h : tonesE ab be.length 255 = 0
    · exact h
    · rw [if_pos h] at hE; exact absurd hE h
  have h3 : tonesE ki be.length 3 = 0 := by
    unfold combE at hE; rw [if_neg h8, if_neg (by omega), if_neg (by omega)] at hE
    exact hE
  have h8' : (be.length : Int) ≤ 8 := by omega
  have x1' : (tonesE be be.length 255 == 0) = true := by simpa using h1
  have x2' : (tonesE ab be.length 255 == 0) = true := by simpa using h2
  have x3 : (tonesE ki be.length 3 != 0) = false := by simpa using h3
  obtain ⟨_, q1⟩ := tonesE_ok h1
  obtain ⟨q2, q3⟩ := tonesE_ok h2
  obtain ⟨q4, q5⟩ := tonesE_ok h3
  have HBE := Lib.hid q1
  have HAB := Lib.hid q3
  have HKI := Lib.hid q5
  have HAL := Lib.hid (show ab.length = be.length by omega)
  have HKL := Lib.hid (show ki.length = be.length by omega)
  have hkle : ki.length ≤ 8 := by omega
  clear h1 h2 h3 q1 q2 q3 q4 q5 h8 hE
  go_enter Try.func5, Try.ntmps5
  go_wp2_with (first | (go_at_call 24; refine (overprintWorks_any _).mono ?_; rintro e wa ⟨rfl, hb⟩; have hacc : Below w.heap.size w wa := Below.trans (by repeat (first | assumption | exact Below.refl _ _ | refine below_drewN ?_ _ | refine Below.drew ?_ | refine Below.setCell ?_ (by first | exact Nat.le_refl _ | assumption | (simp; done) | (simp; omega) | omega) _ | refine Below.alloc ?_ (by first | exact Nat.le_refl _ | assumption | (simp; done) | omega | exact Below.size (by assumption) | (simp; omega)) _)) (hb.mono (by first | exact Nat.le_refl _ | assumption | (simp; done) | (simp; omega))); have hz := hacc.size; clear hb) | (go_at_call 25; refine (combine_is _ hlA hlB hlC (hA.kept hacc) (hB.kept hacc) (hC.kept hacc) hF.out).mono ?_; rintro e wb ⟨D, d, rfl, hi, hb⟩; have hacc : Below w.heap.size w wb := Below.trans (by repeat (first | assumption | exact Below.refl _ _ | refine below_drewN ?_ _ | refine Below.drew ?_ | refine Below.setCell ?_ (by first | exact Nat.le_refl _ | assumption | (simp; done) | (simp; omega) | omega) _ | refine Below.alloc ?_ (by first | exact Nat.le_refl _ | assumption | (simp; done) | omega | exact Below.size (by assumption) | (simp; omega)) _)) (hb.mono (by first | exact Nat.le_refl _ | assumption | (simp; done) | (simp; omega))); have hz := hacc.size; clear hb) | (go_at_call 26; (with_reducible refine (tonesErr_any A be _ _ _ _ hlA (hA.kept hacc)).mono ?_); rintro e w' ⟨rfl, rfl⟩) | (go_at_call 26; (with_reducible refine (tonesErr_any B ab _ _ _ _ hlB (hB.kept hacc)).mono ?_); rintro e w' ⟨rfl, rfl⟩) | (go_at_call 26; (with_reducible refine (tonesErr_any C ki _ _ _ _ hlC (hC.kept hacc)).mono ?_); rintro e w' ⟨rfl, rfl⟩) | (go_at_call 17; refine (none_any _ _ _ _).mono ?_; rintro e w' ⟨rfl, rfl⟩))
  go_loopg [10, 55] ki.length (fun gk V i wr => ∃ (k : Nat) (E : Option Addr) (d2 : Nat), k + gk = ki.length ∧ i = .int .i64 k ∧ V = .slice E k d2 ∧ wr.ownsRow wb.heap.size 3 1 (.slice E k d2) k (((List.range k).map (combAt be ab ki)).map (.int .i64)) ∧ Below wb.heap.size wb wr)
  case atStart => exact ⟨0, none, 0, by omega, rfl, rfl, World.ownsRow_nil _ _ _ _, Below.refl _ _⟩
  case round =>
    obtain ⟨k, E, d2, hgk, rfl, rfl, hown, hbel⟩ := hrel
    have hbw : Below w.heap.size w wr := hacc.trans (hbel.mono hz)
    by_cases hlt : k < ki.length
    · obtain ⟨b1, o1, x, rfl, hx, c1⟩ := (hA.kept hbw).at (i := k) (by have := HKL.out; omega)
      obtain ⟨b2, o2, y, rfl, hy, c2⟩ := (hB.kept hbw).at (i := k) (by have := HKL.out; have := HAL.out; omega)
      obtain ⟨b3, o3, z, rfl, hzz, c3⟩ := (hC.kept hbw).at hlt
      obtain ⟨x0, x9⟩ := all_get HBE.out hx.out
      obtain ⟨y0, y9⟩ := all_get HAB.out hy.out
      obtain ⟨z0, z9⟩ := all_get HKI.out hzz.out
      have hk0 : (0 : Int) ≤ (k : Int) := by omega
      have hk1 : (k : Int) < (ki.length : Int) := by omega
      have hk2 : (k : Int) < (be.length : Int) := by have := HKL.out; omega
      have hk3 : (k : Int) < (ab.length : Int) := by have := HKL.out; have := HAL.out; omega
      have hv := Lib.hid (combL_at hx.out hy.out hzz.out)
      have hr := Lib.hid (show (List.range (k + 1)).map (combAt be ab ki) = (List.range k).map (combAt be ab ki) ++ [combAt be ab ki k] by rw [List.range_succ, List.map_append]; rfl)
      have hsz := hbel.size
      have HG := Lib.hid hgk
      have HAA := Lib.hid hA
      have HBB := Lib.hid hB
      have HCC := Lib.hid hC
      clear hA hB hC hgk
      rcases (show z = 0 ∨ (z = 1 ∧ y = 0) ∨ (z = 1 ∧ 0 < y) ∨ (z = 2 ∧ y < x) ∨ (z = 2 ∧ x ≤ y) ∨ z = 3 by omega) with rfl | ⟨rfl, rfl⟩ | ⟨rfl, hyp⟩ | ⟨rfl, hyx⟩ | ⟨rfl, hyx⟩ | rfl
      · have hval := Lib.hid (show combV 0 x y = y from rfl)
        go_upto_region 19 with fail
        go_quiet (fail)
        have hd := below_drewN (B := wr.heap.size) (Below.refl wr.heap.size wr) nq
        have hbel := below_drewN hbel nq
        have hown := own_kept hown hd
        have hsz := hbel.size
        clear hd
        generalize wr.drewN nq = W2 at *
        go_wp2_with (first | (go_at_call 23; refine (round_any _ _ _ (by omega) (by omega) (by omega) (by omega)).mono ?_; rintro e w' ⟨rfl, rfl⟩) | (at_builtin; refine wpList_append_src rfl _ _ 32 rfl wb.heap.size 3 i0 (.int .i64 0) 8 Try.underlying32 hi0 hz0 hz1 hz2 rfl (.slice E k d2) k (((List.range k).map (combAt be ab ki)).map (.int .i64)) (by rfl) (own_kept hown ((Below.refl _ _).alloc (Nat.le_refl _) _)) (some ⟨W2.heap.size, 0, none⟩) 1 1 [.int .i64 y] (by rfl) rfl (cells_one _ _ _ _ rfl) (one_int _) (by simp only [maxLen]; omega) (by omega) (by simp; omega) ?_; intro A' c' w5 hown5 hgrow5))
        have hown6 := own_of_eq hown5 (show k + 1 = k + 1 from rfl) (show _ = ((List.range (k + 1)).map (combAt be ab ki)).map (Value.int .i64) by rw [hr.out, List.map_append, hv.out, hval.out]; rfl)
        have hb5 : Below wb.heap.size wb w5 := Below.trans (show Below wb.heap.size wb (W2.alloc (.cells #[.int .i64 y] 3)) from (by repeat (first | assumption | exact Below.refl _ _ | refine below_drewN ?_ _ | refine Below.drew ?_ | refine Below.setCell ?_ (by first | exact Nat.le_refl _ | assumption | (simp; done) | (simp; omega) | omega) _ | refine Below.alloc ?_ (by first | exact Nat.le_refl _ | assumption | (simp; done) | omega | exact Below.size (by assumption) | (simp; omega)) _))) (below_grown hgrow5 (by simp; omega) (fun g' h => own_base hown g' h))
        clear hown5 hgrow5
        go_roundg (gk - 1)
        case measure => have := HG.out; omega
        case rel => exact ⟨k + 1, A', c', by have := HG.out; omega, by go_num, rfl, hown6, hb5⟩
      · have hval := Lib.hid (show combV 1 x 0 = x from if_neg (by omega))
        have yb : ((0 : Int) == 0) = true := by decide
        go_upto_region 19 with fail
        go_quiet (fail)
        have hd := below_drewN (B := wr.heap.size) (Below.refl wr.heap.size wr) nq
        have hbel := below_drewN hbel nq
        have hown := own_kept hown hd
        have hsz := hbel.size
        clear hd
        generalize wr.drewN nq = W2 at *
        go_wp2_with (first | (go_at_call 23; refine (round_any _ _ _ (by omega) (by omega) (by omega) (by omega)).mono ?_; rintro e w' ⟨rfl, rfl⟩) | (at_builtin; refine wpList_append_src rfl _ _ 32 rfl wb.heap.size 3 i0 (.int .i64 0) 8 Try.underlying32 hi0 hz0 hz1 hz2 rfl (.slice E k d2) k (((List.range k).map (combAt be ab ki)).map (.int .i64)) (by rfl) (own_kept hown ((Below.refl _ _).alloc (Nat.le_refl _) _)) (some ⟨W2.heap.size, 0, none⟩) 1 1 [.int .i64 x] (by rfl) rfl (cells_one _ _ _ _ rfl) (one_int _) (by simp only [maxLen]; omega) (by omega) (by simp; omega) ?_; intro A' c' w5 hown5 hgrow5))
        have hown6 := own_of_eq hown5 (show k + 1 = k + 1 from rfl) (show _ = ((List.range (k + 1)).map (combAt be ab ki)).map (Value.int .i64) by rw [hr.out, List.map_append, hv.out, hval.out]; rfl)
        have hb5 : Below wb.heap.size wb w5 := Below.trans (show Below wb.heap.size wb (W2.alloc (.cells #[.int .i64 x] 3)) from (by repeat (first | assumption | exact Below.refl _ _ | refine below_drewN ?_ _ | refine Below.drew ?_ | refine Below.setCell ?_ (by first | exact Nat.le_refl _ | assumption | (simp; done) | (simp; omega) | omega) _ | refine Below.alloc ?_ (by first | exact Nat.le_refl _ | assumption | (simp; done) | omega | exact Below.size (by assumption) | (simp; omega)) _))) (below_grown hgrow5 (by simp; omega) (fun g' h => own_base hown g' h))
        clear hown5 hgrow5
        go_roundg (gk - 1)
        case measure => have := HG.out; omega
        case rel => exact ⟨k + 1, A', c', by have := HG.out; omega, by go_num, rfl, hown6, hb5⟩
      · have hval := Lib.hid (show combV 1 x y = y from if_pos hyp)
        have yb : (y == 0) = false := by rw [beq_eq_false_iff_ne]; omega
        go_upto_region 19 with fail
        go_quiet (fail)
        have hd := below_drewN (B := wr.heap.size) (Below.refl wr.heap.size wr) nq
        have hbel := below_drewN hbel nq
        have hown := own_kept hown hd
        have hsz := hbel.size
        clear hd
        generalize wr.drewN nq = W2 at *
        go_wp2_with (first | (go_at_call 23; refine (round_any _ _ _ (by omega) (by omega) (by omega) (by omega)).mono ?_; rintro e w' ⟨rfl, rfl⟩) | (at_builtin; refine wpList_append_src rfl _ _ 32 rfl wb.heap.size 3 i0 (.int .i64 0) 8 Try.underlying32 hi0 hz0 hz1 hz2 rfl (.slice E k d2) k (((List.range k).map (combAt be ab ki)).map (.int .i64)) (by rfl) (own_kept hown ((Below.refl _ _).alloc (Nat.le_refl _) _)) (some ⟨W2.heap.size, 0, none⟩) 1 1 [.int .i64 y] (by rfl) rfl (cells_one _ _ _ _ rfl) (one_int _) (by simp only [maxLen]; omega) (by omega) (by simp; omega) ?_; intro A' c' w5 hown5 hgrow5))
        have hown6 := own_of_eq hown5 (show k + 1 = k + 1 from rfl) (show _ = ((List.range (k + 1)).map (combAt be ab ki)).map (Value.int .i64) by rw [hr.out, List.map_append, hv.out, hval.out]; rfl)
        have hb5 : Below wb.heap.size wb w5 := Below.trans (show Below wb.heap.size wb (W2.alloc (.cells #[.int .i64 y] 3)) from (by repeat (first | assumption | exact Below.refl _ _ | refine below_drewN ?_ _ | refine Below.drew ?_ | refine Below.setCell ?_ (by first | exact Nat.le_refl _ | assumption | (simp; done) | (simp; omega) | omega) _ | refine Below.alloc ?_ (by first | exact Nat.le_refl _ | assumption | (simp; done) | omega | exact Below.size (by assumption) | (simp; omega)) _))) (below_grown hgrow5 (by simp; omega) (fun g' h => own_base hown g' h))
        clear hown5 hgrow5
        go_roundg (gk - 1)
        case measure => have := HG.out; omega
        case rel => exact ⟨k + 1, A', c', by have := HG.out; omega, by go_num, rfl, hown6, hb5⟩
      · have hval := Lib.hid (show combV 2 x y = x from by show max x y = x; omega)
        go_upto_region 19 with fail
        go_quiet (fail)
        have hd := below_drewN (B := wr.heap.size) (Below.refl wr.heap.size wr) nq
        have hbel := below_drewN hbel nq
        have hown := own_kept hown hd
        have hsz := hbel.size
        clear hd
        generalize wr.drewN nq = W2 at *
        go_wp2_with (first | (go_at_call 23; refine (round_any _ _ _ (by omega) (by omega) (by omega) (by omega)).mono ?_; rintro e w' ⟨rfl, rfl⟩) | (at_builtin; refine wpList_append_src rfl _ _ 32 rfl wb.heap.size 3 i0 (.int .i64 0) 8 Try.underlying32 hi0 hz0 hz1 hz2 rfl (.slice E k d2) k (((List.range k).map (combAt be ab ki)).map (.int .i64)) (by rfl) (own_kept hown ((Below.refl _ _).alloc (Nat.le_refl _) _)) (some ⟨W2.heap.size, 0, none⟩) 1 1 [.int .i64 x] (by rfl) rfl (cells_one _ _ _ _ rfl) (one_int _) (by simp only [maxLen]; omega) (by omega) (by simp; omega) ?_; intro A' c' w5 hown5 hgrow5))
        have hown6 := own_of_eq hown5 (show k + 1 = k + 1 from rfl) (show _ = ((List.range (k + 1)).map (combAt be ab ki)).map (Value.int .i64) by rw [hr.out, List.map_append, hv.out, hval.out]; rfl)
        have hb5 : Below wb.heap.size wb w5 := Below.trans (show Below wb.heap.size wb (W2.alloc (.cells #[.int .i64 x] 3)) from (by repeat (first | assumption | exact Below.refl _ _ | refine below_drewN ?_ _ | refine Below.drew ?_ | refine Below.setCell ?_ (by first | exact Nat.le_refl _ | assumption | (simp; done) | (simp; omega) | omega) _ | refine Below.alloc ?_ (by first | exact Nat.le_refl _ | assumption | (simp; done) | omega | exact Below.size (by assumption) | (simp; omega)) _))) (below_grown hgrow5 (by simp; omega) (fun g' h => own_base hown g' h))
        clear hown5 hgrow5
        go_roundg (gk - 1)
        case measure => have := HG.out; omega
        case rel => exact ⟨k + 1, A', c', by have := HG.out; omega, by go_num, rfl, hown6, hb5⟩
      · have hval := Lib.hid (show combV 2 x y = y from by show max x y = y; omega)
        go_upto_region 19 with fail
        go_quiet (fail)
        have hd := below_drewN (B := wr.heap.size) (Below.refl wr.heap.size wr) nq
        have hbel := below_drewN hbel nq
        have hown := own_kept hown hd
        have hsz := hbel.size
        clear hd
        generalize wr.drewN nq = W2 at *
        go_wp2_with (first | (go_at_call 23; refine (round_any _ _ _ (by omega) (by omega) (by omega) (by omega)).mono ?_; rintro e w' ⟨rfl, rfl⟩) | (at_builtin; refine wpList_append_src rfl _ _ 32 rfl wb.heap.size 3 i0 (.int .i64 0) 8 Try.underlying32 hi0 hz0 hz1 hz2 rfl (.slice E k d2) k (((List.range k).map (combAt be ab ki)).map (.int .i64)) (by rfl) (own_kept hown ((Below.refl _ _).alloc (Nat.le_refl _) _)) (some ⟨W2.heap.size, 0, none⟩) 1 1 [.int .i64 y] (by rfl) rfl (cells_one _ _ _ _ rfl) (one_int _) (by simp only [maxLen]; omega) (by omega) (by simp; omega) ?_; intro A' c' w5 hown5 hgrow5))
        have hown6 := own_of_eq hown5 (show k + 1 = k + 1 from rfl) (show _ = ((List.range (k + 1)).map (combAt be ab ki)).map (Value.int .i64) by rw [hr.out, List.map_append, hv.out, hval.out]; rfl)
        have hb5 : Below wb.heap.size wb w5 := Below.trans (show Below wb.heap.size wb (W2.alloc (.cells #[.int .i64 y] 3)) from (by repeat (first | assumption | exact Below.refl _ _ | refine below_drewN ?_ _ | refine Below.drew ?_ | refine Below.setCell ?_ (by first | exact Nat.le_refl _ | assumption | (simp; done) | (simp; omega) | omega) _ | refine Below.alloc ?_ (by first | exact Nat.le_refl _ | assumption | (simp; done) | omega | exact Below.size (by assumption) | (simp; omega)) _))) (below_grown hgrow5 (by simp; omega) (fun g' h => own_base hown g' h))
        clear hown5 hgrow5
        go_roundg (gk - 1)
        case measure => have := HG.out; omega
        case rel => exact ⟨k + 1, A', c', by have := HG.out; omega, by go_num, rfl, hown6, hb5⟩
      · have hval := Lib.hid (show combV 3 x y = (255 - rnd ((255 - y) * (255 - x)) 255) from by show 255 - rnd ((255 - x) * (255 - y)) 255 = _; rw [Int.mul_comm])
        obtain ⟨m1, m2⟩ := mul_bd (a := 255 - y) (b := 255 - x) (m := 255) (n := 255) (by omega) (by omega) (by omega) (by omega)
        obtain ⟨r1, r2⟩ := rnd_bd (d := 255) (by omega) m1 m2
        go_upto_region 19 with fail
        go_quiet (fail)
        have hd := below_drewN (B := wr.heap.size) (Below.refl wr.heap.size wr) nq
        have hbel := below_drewN hbel nq
        have hown := own_kept hown hd
        have hsz := hbel.size
        clear hd
        generalize wr.drewN nq = W2 at *
        go_wp2_with (first | (go_at_call 23; refine (round_any _ _ _ (by omega) (by omega) (by omega) (by omega)).mono ?_; rintro e w' ⟨rfl, rfl⟩) | (at_builtin; refine wpList_append_src rfl _ _ 32 rfl wb.heap.size 3 i0 (.int .i64 0) 8 Try.underlying32 hi0 hz0 hz1 hz2 rfl (.slice E k d2) k (((List.range k).map (combAt be ab ki)).map (.int .i64)) (by rfl) (own_kept hown ((Below.refl _ _).alloc (Nat.le_refl _) _)) (some ⟨W2.heap.size, 0, none⟩) 1 1 [.int .i64 (255 - rnd ((255 - y) * (255 - x)) 255)] (by rfl) rfl (cells_one _ _ _ _ rfl) (one_int _) (by simp only [maxLen]; omega) (by omega) (by simp; omega) ?_; intro A' c' w5 hown5 hgrow5))
        have hown6 := own_of_eq hown5 (show k + 1 = k + 1 from rfl) (show _ = ((List.range (k + 1)).map (combAt be ab ki)).map (Value.int .i64) by rw [hr.out, List.map_append, hv.out, hval.out]; rfl)
        have hb5 : Below wb.heap.size wb w5 := Below.trans (show Below wb.heap.size wb (W2.alloc (.cells #[.int .i64 (255 - rnd ((255 - y) * (255 - x)) 255)] 3)) from (by repeat (first | assumption | exact Below.refl _ _ | refine below_drewN ?_ _ | refine Below.drew ?_ | refine Below.setCell ?_ (by first | exact Nat.le_refl _ | assumption | (simp; done) | (simp; omega) | omega) _ | refine Below.alloc ?_ (by first | exact Nat.le_refl _ | assumption | (simp; done) | omega | exact Below.size (by assumption) | (simp; omega)) _))) (below_grown hgrow5 (by simp; omega) (fun g' h => own_base hown g' h))
        clear hown5 hgrow5
        go_roundg (gk - 1)
        case measure => have := HG.out; omega
        case rel => exact ⟨k + 1, A', c', by have := HG.out; omega, by go_num, rfl, hown6, hb5⟩
    · obtain rfl : k = ki.length := by omega
      have hL := Lib.hid (show (List.range ki.length).map (combAt be ab ki) = combL be ab ki by unfold combL; rw [HKL.out])
      rw [hL.out] at hown
      have hLl := Lib.hid (show (combL be ab ki).length = ki.length by rw [combL_length, HKL.out])
      have hio := own_ints hown
      have hi2 := hi.kept hbel
      have hll : (combL be ab ki).length ≤ maxLen := by rw [hLl.out]; exact hlC
      clear hown
      go_wp2_with (go_at_call 27; refine (sameInts_len (xs := combL be ab ki) _ (Lib.hid rfl) hLl hll hi2 hio).mono ?_; rintro e w9 ⟨rfl, hb⟩)
      go_ret
      exact ⟨rfl, Below.trans (by repeat (first | assumption | exact Below.refl _ _ | refine below_drewN ?_ _ | refine Below.drew ?_ | refine Below.setCell ?_ (by first | exact Nat.le_refl _ | assumption | (simp; done) | (simp; omega) | omega) _ | refine Below.alloc ?_ (by first | exact Nat.le_refl _ | assumption | (simp; done) | omega | exact Below.size (by assumption) | (simp; omega)) _)) (hb.mono hbw.size)⟩
theorem overprintCombines_walk (A B C : Option Addr) (be ab ki : List Int) (ca cb cc : Nat) (w : World) (hlA : be.length ≤ maxLen) (hlB : ab.length ≤ maxLen) (hlC : ki.length ≤ maxLen) (hA : Ints w A be) (hB : Ints w B ab) (hC : Ints w C ki) :
    Calls Try.prog 5 #[.slice A be.length ca, .slice B ab.length cb, .slice C ki.length cc] w fun e w' => e = .returned (.bool true) ∧ Below w.heap.size w w' := by
  by_cases h : combE be ab ki = 0
  · exact combines_good w hlA hlB hlC hA hB hC h
  · exact combines_bad w hlA hlB hlC hA hB hC h
end Go.Proofs.Ytlbnicapkfmdoaa
