/- Walk of Combine. -/
import Derived.Test.YtlbnicapkfmdoaaOver1
namespace Go.Proofs.Ytlbnicapkfmdoaa
open Go.RowKit

theorem addr_ne {b o b' o' : Nat} (h : b ≠ b') : (⟨b, o, none⟩ : Addr) ≠ ⟨b', o', none⟩ := fun e => h (by injection e)
theorem eqf_0 (w : World) : (binOp .eql 31 (.func (.func 70) #[] #[]) .nilFunc).run Try.prog w = .ok (.bool false) w := by kernel_rfl
theorem eqf_1 (w : World) : (binOp .eql 31 (.func (.func 71) #[] #[]) .nilFunc).run Try.prog w = .ok (.bool false) w := by kernel_rfl
theorem eqf_2 (w : World) : (binOp .eql 31 (.func (.func 72) #[] #[]) .nilFunc).run Try.prog w = .ok (.bool false) w := by kernel_rfl
theorem eqf_3 (w : World) : (binOp .eql 31 (.func (.func 73) #[] #[]) .nilFunc).run Try.prog w = .ok (.bool false) w := by kernel_rfl
theorem eqf_n (w : World) : (binOp .eql 31 .nilFunc .nilFunc).run Try.prog w = .ok (.bool true) w := by kernel_rfl
theorem tones_len {A : Option Addr} {xs : List Int} {c n : Nat} (m : Int) (w : World) (hN : Hid (xs.length = n)) (hl : n ≤ maxLen) (h : Ints w A xs) :
    Calls Try.prog 56 #[.slice A n c, .int .i64 m] w fun e w' => e = .returned (.int .i64 (tonesE xs m 255)) ∧ w = w' := by
  have e := hN.out
  subst e
  exact tones_any A xs c m w hl h
set_option maxRecDepth 20000 in
set_option maxHeartbeats 8000000 in
theorem combine_loop {A B C : Option Addr} {be ab ki : List Int} {ca cb cc : Nat} {p : List Int} {q : Int} (w : World) (hA : Ints w A be) (hB : Ints w B ab) (hC : Ints w C ki)
    (hn : be.length ≤ 8) (he1 : tonesE be be.length 255 = 0) (he2 : tonesE ab be.length 255 = 0) (hkl : ki.length = be.length) (hF : combF be ab ki = (p, q)) :
    Calls Try.prog 25 #[.slice A be.length ca, .slice B ab.length cb, .slice C ki.length cc] w (OutInts p q w) := by
  have hl : be.length ≤ maxLen := by unfold maxLen; omega
  obtain ⟨hbl, hball⟩ := tonesE_ok he1
  obtain ⟨habl, haall⟩ := tonesE_ok he2
  have hal : ab.length = be.length := by omega
  have x1 : (tonesE be be.length 255 != 0) = false := by simp [he1]
  have x2 : (tonesE ab be.length 255 != 0) = false := by simp [he2]
  have HF := Lib.hid hF
  have HE1 := Lib.hid he1
  have HE2 := Lib.hid he2
  have HB := Lib.hid hball
  have HA := Lib.hid haall
  have HAL := Lib.hid hal
  have HKL := Lib.hid hkl
  rw [hal, hkl]
  clear hF he1 he2 hball haall hbl habl hal hkl
  generalize hN : be.length = n at *
  have HN := Lib.hid hN
  clear hN
  obtain ⟨i0, hi, hz0, hz1, hz2⟩ := info_parts intInfo
  have hl8 := hn
  have nb : ((n : Int) != (n : Int)) = false := by simp
  go_enter Try.func25, Try.ntmps25
  go_wp2_with (first | (go_at_call 56; (with_reducible refine (tones_len (A := A) (xs := be) (n := n) _ _ HN hl hA).mono ?_); rintro e w' ⟨rfl, rfl⟩) | (go_at_call 56; (with_reducible refine (tones_len (A := B) (xs := ab) (n := n) _ _ HAL hl hB).mono ?_); rintro e w' ⟨rfl, rfl⟩) | (at_make; refine wpList_make_full _ rfl _ _ 32 rfl w.heap.size 3 i0 (.int .i64 0) 1 Try.underlying32 hi hz0 hz1 _ _ _ _ n rfl rfl rfl rfl (by rw [hz2]; omega) (by simp only [maxLen]; omega) (Nat.le_refl _) ?_; intro w3 hown hgrow; rw [madeInts, ← partL_zero n (combAt be ab ki)] at hown; have hb4 := below_of_grown hgrow))
  go_loopg [11, 40] n (fun gk _ i wr => ∃ k : Nat, k + gk = n ∧ i = .int .i64 k ∧ wr.ownsRow w.heap.size 3 1 (.slice (some ⟨w.heap.size, 0, none⟩) n n) n ((partL n (combAt be ab ki) k).map (.int .i64)) ∧ Below w.heap.size w wr ∧ Hid ((ki.take k).all (fun v => within v 0 3) = true))
  case atStart => exact ⟨0, by omega, rfl, hown, hb4, rfl⟩
  case round =>
    obtain ⟨k, hgk, rfl, hown, hbel, hall⟩ := hrel
    by_cases hlt : k < n
    · obtain ⟨b1, o1, x, rfl, hx, hc1⟩ := hA.at (i := k) (by rw [HN.out]; exact hlt)
      obtain ⟨b2, o2, y, rfl, hy, hc2⟩ := hB.at (i := k) (by rw [HAL.out]; exact hlt)
      obtain ⟨b3, o3, z, rfl, hz, hc3⟩ := hC.at (i := k) (by rw [HKL.out]; exact hlt)
      have nb1 : b1 ≠ w.heap.size := Nat.ne_of_lt (lt_of_cell hc1)
      have nb2 : b2 ≠ w.heap.size := Nat.ne_of_lt (lt_of_cell hc2)
      have hc1 := cell_kept hbel hc1
      have hc2 := cell_kept hbel hc2
      have hc3 := cell_kept hbel hc3
      obtain ⟨x0, x3⟩ := all_get HB.out hx.out
      obtain ⟨y0, y3⟩ := all_get HA.out hy.out
      have hk0 : (0 : Int) ≤ (k : Int) := by omega
      have hk1 : (k : Int) < (n : Int) := by omega
      have hw := Lib.hid (show ∀ v, combV z x y = v → combAt be ab ki k = v from fun v e => by unfold combAt; rw [← e]; simp [List.getD_eq_getElem?_getD, hx.out, hy.out, hz.out])
      have HI := Lib.hid hA
      have HI' := Lib.hid hB
      have HI'' := Lib.hid hC
      have HG := Lib.hid hgk
      clear hA hB hC hgk
      rcases (show z = 0 ∨ z = 1 ∨ z = 2 ∨ z = 3 ∨ (z < 0 ∨ 3 < z) by omega) with rfl | rfl | rfl | rfl | hbad
      · have hcg := (hown.cellAt k (by omega)).trans (partL_at hlt)
        have hfg := hown.frozenAt k
        have hv := Lib.hid (hw.out _ rfl)
        have hall' := all_upto hall.out hz.out (within_mk (lo := 0) (hi := 3) (by omega) (by omega))
        have HALL := Lib.hid hall'
        have HOWN := Lib.hid hown
        clear hall' hown hw
        have hq := eqf_0
        go_upto_region 18 with (go_at_call 57; refine (kind_0 _).mono ?_; rintro e w' ⟨rfl, rfl⟩)
        refine wp_region_planW (S := fun w' => w'.cell? ⟨b1, o1 + k, none⟩ = some (.int .i64 x) ∧ w'.cell? ⟨b2, o2 + k, none⟩ = some (.int .i64 y)) (w1 := wr.drew.setCell ⟨w.heap.size, k, none⟩ (.int .i64 (combV 0 x y))) (ks := 13) (by kernel_rfl) (by kernel_rfl) (by decide) ?_ (b := ?planb0) ?plan0 ?planr0
        case plan0 =>
          iterate 11 (refine PlanW.yield (v := ?_) (by first | rfl | go_simp) (by decide) (fun w hw => ?_) ?_; rotate_left; (· (go_simp; try with_reducible rfl)); (try simp only [Act.put]); (try simp only [List.setIfInBounds_toArray, List.set_cons_succ, List.set_cons_zero]))
          refine PlanW.call (v := .int .i64 (combV 0 x y)) (args := ?_) (f := ?_) (by rfl) (by decide) (fun w => ?_) (fun w hw => ?_) ?_
          rotate_left 2; (· (go_simp; constructor <;> with_reducible rfl))
          · refine (comb_0 x y _).mono ?_
            rintro e w' ⟨rfl, rfl⟩
            exact ⟨rfl, rfl⟩
          (try simp only [Act.put]); (try simp only [List.setIfInBounds_toArray, List.set_cons_succ, List.set_cons_zero])
          refine PlanW.yield (v := ?_) (by first | rfl | go_simp) (by decide) (fun w hw => ?_) ?_; rotate_left; (· (go_simp; try with_reducible rfl)); (try simp only [Act.put]); (try simp only [List.setIfInBounds_toArray, List.set_cons_succ, List.set_cons_zero])
          refine PlanW.store (by rfl) ?_ ?_ ?_
          · go_simp
          · exact ⟨by rw [World.cell?_setCell_other _ _ _ _ (addr_ne nb1.symm)]; simpa [go_sem] using hc1, by rw [World.cell?_setCell_other _ _ _ _ (addr_ne nb2.symm)]; simpa [go_sem] using hc2⟩
          (try simp only [Act.put]); (try simp only [List.setIfInBounds_toArray, List.set_cons_succ, List.set_cons_zero])
          exact PlanW.done
        case planr0 =>
          intro hS
          go_wp2
          go_roundg (gk - 1)
          case measure => have := HG.out; omega
          case rel =>
            have hd : Below wr.heap.size wr wr.drew := Below.drew (Below.refl _ _)
            have hs := ((own_kept HOWN.out hd).stored k (.int .i64 (combV 0 x y))).1
            rw [map_set_int, ← hv.out, partL_set] at hs
            exact ⟨k + 1, by have := HG.out; omega, by go_num, by rw [← hv.out]; exact hs, (Below.drew hbel).setCell (Nat.le_refl _) _, HALL⟩
        exact ⟨by simpa [go_sem] using hc1, by simpa [go_sem] using hc2⟩
      · have hcg := (hown.cellAt k (by omega)).trans (partL_at hlt)
        have hfg := hown.frozenAt k
        have hv := Lib.hid (hw.out _ rfl)
        have hall' := all_upto hall.out hz.out (within_mk (lo := 0) (hi := 3) (by omega) (by omega))
        have HALL := Lib.hid hall'
        have HOWN := Lib.hid hown
        clear hall' hown hw
        have hq := eqf_1
        go_upto_region 18 with (go_at_call 57; refine (kind_1 _).mono ?_; rintro e w' ⟨rfl, rfl⟩)
        refine wp_region_planW (S := fun w' => w'.cell? ⟨b1, o1 + k, none⟩ = some (.int .i64 x) ∧ w'.cell? ⟨b2, o2 + k, none⟩ = some (.int .i64 y)) (w1 := wr.drew.setCell ⟨w.heap.size, k, none⟩ (.int .i64 (combV 1 x y))) (ks := 13) (by kernel_rfl) (by kernel_rfl) (by decide) ?_ (b := ?planb1) ?plan1 ?planr1
        case plan1 =>
          iterate 11 (refine PlanW.yield (v := ?_) (by first | rfl | go_simp) (by decide) (fun w hw => ?_) ?_; rotate_left; (· (go_simp; try with_reducible rfl)); (try simp only [Act.put]); (try simp only [List.setIfInBounds_toArray, List.set_cons_succ, List.set_cons_zero]))
          refine PlanW.call (v := .int .i64 (combV 1 x y)) (args := ?_) (f := ?_) (by rfl) (by decide) (fun w => ?_) (fun w hw => ?_) ?_
          rotate_left 2; (· (go_simp; constructor <;> with_reducible rfl))
          · refine (comb_1 x y _).mono ?_
            rintro e w' ⟨rfl, rfl⟩
            exact ⟨rfl, rfl⟩
          (try simp only [Act.put]); (try simp only [List.setIfInBounds_toArray, List.set_cons_succ, List.set_cons_zero])
          refine PlanW.yield (v := ?_) (by first | rfl | go_simp) (by decide) (fun w hw => ?_) ?_; rotate_left; (· (go_simp; try with_reducible rfl)); (try simp only [Act.put]); (try simp only [List.setIfInBounds_toArray, List.set_cons_succ, List.set_cons_zero])
          refine PlanW.store (by rfl) ?_ ?_ ?_
          · go_simp
          · exact ⟨by rw [World.cell?_setCell_other _ _ _ _ (addr_ne nb1.symm)]; simpa [go_sem] using hc1, by rw [World.cell?_setCell_other _ _ _ _ (addr_ne nb2.symm)]; simpa [go_sem] using hc2⟩
          (try simp only [Act.put]); (try simp only [List.setIfInBounds_toArray, List.set_cons_succ, List.set_cons_zero])
          exact PlanW.done
        case planr1 =>
          intro hS
          go_wp2
          go_roundg (gk - 1)
          case measure => have := HG.out; omega
          case rel =>
            have hd : Below wr.heap.size wr wr.drew := Below.drew (Below.refl _ _)
            have hs := ((own_kept HOWN.out hd).stored k (.int .i64 (combV 1 x y))).1
            rw [map_set_int, ← hv.out, partL_set] at hs
            exact ⟨k + 1, by have := HG.out; omega, by go_num, by rw [← hv.out]; exact hs, (Below.drew hbel).setCell (Nat.le_refl _) _, HALL⟩
        exact ⟨by simpa [go_sem] using hc1, by simpa [go_sem] using hc2⟩
      · have hcg := (hown.cellAt k (by omega)).trans (partL_at hlt)
        have hfg := hown.frozenAt k
        have hv := Lib.hid (hw.out _ rfl)
        have hall' := all_upto hall.out hz.out (within_mk (lo := 0) (hi := 3) (by omega) (by omega))
        have HALL := Lib.hid hall'
        have HOWN := Lib.hid hown
        clear hall' hown hw
        have hq := eqf_2
        go_upto_region 18 with (go_at_call 57; refine (kind_2 _).mono ?_; rintro e w' ⟨rfl, rfl⟩)
        refine wp_region_planW (S := fun w' => w'.cell? ⟨b1, o1 + k, none⟩ = some (.int .i64 x) ∧ w'.cell? ⟨b2, o2 + k, none⟩ = some (.int .i64 y)) (w1 := wr.drew.setCell ⟨w.heap.size, k, none⟩ (.int .i64 (combV 2 x y))) (ks := 13) (by kernel_rfl) (by kernel_rfl) (by decide) ?_ (b := ?planb2) ?plan2 ?planr2
        case plan2 =>
          iterate 11 (refine PlanW.yield (v := ?_) (by first | rfl | go_simp) (by decide) (fun w hw => ?_) ?_; rotate_left; (· (go_simp; try with_reducible rfl)); (try simp only [Act.put]); (try simp only [List.setIfInBounds_toArray, List.set_cons_succ, List.set_cons_zero]))
          refine PlanW.call (v := .int .i64 (combV 2 x y)) (args := ?_) (f := ?_) (by rfl) (by decide) (fun w => ?_) (fun w hw => ?_) ?_
          rotate_left 2; (· (go_simp; constructor <;> with_reducible rfl))
          · refine (comb_2 x y _).mono ?_
            rintro e w' ⟨rfl, rfl⟩
            exact ⟨rfl, rfl⟩
          (try simp only [Act.put]); (try simp only [List.setIfInBounds_toArray, List.set_cons_succ, List.set_cons_zero])
          refine PlanW.yield (v := ?_) (by first | rfl | go_simp) (by decide) (fun w hw => ?_) ?_; rotate_left; (· (go_simp; try with_reducible rfl)); (try simp only [Act.put]); (try simp only [List.setIfInBounds_toArray, List.set_cons_succ, List.set_cons_zero])
          refine PlanW.store (by rfl) ?_ ?_ ?_
          · go_simp
          · exact ⟨by rw [World.cell?_setCell_other _ _ _ _ (addr_ne nb1.symm)]; simpa [go_sem] using hc1, by rw [World.cell?_setCell_other _ _ _ _ (addr_ne nb2.symm)]; simpa [go_sem] using hc2⟩
          (try simp only [Act.put]); (try simp only [List.setIfInBounds_toArray, List.set_cons_succ, List.set_cons_zero])
          exact PlanW.done
        case planr2 =>
          intro hS
          go_wp2
          go_roundg (gk - 1)
          case measure => have := HG.out; omega
          case rel =>
            have hd : Below wr.heap.size wr wr.drew := Below.drew (Below.refl _ _)
            have hs := ((own_kept HOWN.out hd).stored k (.int .i64 (combV 2 x y))).1
            rw [map_set_int, ← hv.out, partL_set] at hs
            exact ⟨k + 1, by have := HG.out; omega, by go_num, by rw [← hv.out]; exact hs, (Below.drew hbel).setCell (Nat.le_refl _) _, HALL⟩
        exact ⟨by simpa [go_sem] using hc1, by simpa [go_sem] using hc2⟩
      · have hcg := (hown.cellAt k (by omega)).trans (partL_at hlt)
        have hfg := hown.frozenAt k
        have hv := Lib.hid (hw.out _ rfl)
        have hall' := all_upto hall.out hz.out (within_mk (lo := 0) (hi := 3) (by omega) (by omega))
        have HALL := Lib.hid hall'
        have HOWN := Lib.hid hown
        clear hall' hown hw
        have hq := eqf_3
        go_upto_region 18 with (go_at_call 57; refine (kind_3 _).mono ?_; rintro e w' ⟨rfl, rfl⟩)
        refine wp_region_planW (S := fun w' => w'.cell? ⟨b1, o1 + k, none⟩ = some (.int .i64 x) ∧ w'.cell? ⟨b2, o2 + k, none⟩ = some (.int .i64 y)) (w1 := wr.drew.setCell ⟨w.heap.size, k, none⟩ (.int .i64 (combV 3 x y))) (ks := 13) (by kernel_rfl) (by kernel_rfl) (by decide) ?_ (b := ?planb3) ?plan3 ?planr3
        case plan3 =>
          iterate 11 (refine PlanW.yield (v := ?_) (by first | rfl | go_simp) (by decide) (fun w hw => ?_) ?_; rotate_left; (· (go_simp; try with_reducible rfl)); (try simp only [Act.put]); (try simp only [List.setIfInBounds_toArray, List.set_cons_succ, List.set_cons_zero]))
          refine PlanW.call (v := .int .i64 (combV 3 x y)) (args := ?_) (f := ?_) (by rfl) (by decide) (fun w => ?_) (fun w hw => ?_) ?_
          rotate_left 2; (· (go_simp; constructor <;> with_reducible rfl))
          · refine (comb_3 x y _ x0 x3 y0 y3).mono ?_
            rintro e w' ⟨rfl, rfl⟩
            exact ⟨rfl, rfl⟩
          (try simp only [Act.put]); (try simp only [List.setIfInBounds_toArray, List.set_cons_succ, List.set_cons_zero])
          refine PlanW.yield (v := ?_) (by first | rfl | go_simp) (by decide) (fun w hw => ?_) ?_; rotate_left; (· (go_simp; try with_reducible rfl)); (try simp only [Act.put]); (try simp only [List.setIfInBounds_toArray, List.set_cons_succ, List.set_cons_zero])
          refine PlanW.store (by rfl) ?_ ?_ ?_
          · go_simp
          · exact ⟨by rw [World.cell?_setCell_other _ _ _ _ (addr_ne nb1.symm)]; simpa [go_sem] using hc1, by rw [World.cell?_setCell_other _ _ _ _ (addr_ne nb2.symm)]; simpa [go_sem] using hc2⟩
          (try simp only [Act.put]); (try simp only [List.setIfInBounds_toArray, List.set_cons_succ, List.set_cons_zero])
          exact PlanW.done
        case planr3 =>
          intro hS
          go_wp2
          go_roundg (gk - 1)
          case measure => have := HG.out; omega
          case rel =>
            have hd : Below wr.heap.size wr wr.drew := Below.drew (Below.refl _ _)
            have hs := ((own_kept HOWN.out hd).stored k (.int .i64 (combV 3 x y))).1
            rw [map_set_int, ← hv.out, partL_set] at hs
            exact ⟨k + 1, by have := HG.out; omega, by go_num, by rw [← hv.out]; exact hs, (Below.drew hbel).setCell (Nat.le_refl _) _, HALL⟩
        exact ⟨by simpa [go_sem] using hc1, by simpa [go_sem] using hc2⟩
      · have hE := Lib.hid (show tonesE ki n 3 = 3 by
          unfold tonesE
          rw [if_neg (by rw [HKL.out]; simp), all_not (p := fun v => within v 0 3) hz.out (within_not hbad)]
          rfl)
        have hG := Lib.hid (show ([], (3 : Int)) = (p, q) by
          have hc : combE be ab ki = 3 := by
            unfold combE
            rw [HN.out, HE1.out, HE2.out, hE.out, if_neg (by omega), if_neg (by simp), if_neg (by simp)]
          have := HF.out
          unfold combF at this
          rw [hc, if_pos (by decide)] at this
          exact this)
        have hq := eqf_n
        go_wp2_with (go_at_call 57; refine (kind_no z _ hbad).mono ?_; rintro e w' ⟨rfl, rfl⟩)
        obtain ⟨rfl, rfl⟩ := Prod.mk.inj hG.out
        go_ret2
        exact ⟨_, _, rfl, Ints.nil _ _, hbel⟩
    · obtain rfl : k = n := by omega
      rw [partL_all] at hown
      have ha := hall.out
      have hG := Lib.hid (show (combL be ab ki, (0 : Int)) = (p, q) by
        have hE : tonesE ki k 3 = 0 := by
          unfold tonesE
          rw [if_neg (by rw [HKL.out]; simp)]
          rw [List.take_of_length_le (by rw [HKL.out]; exact Nat.le_refl _)] at ha
          rw [if_pos ha]
        have hc : combE be ab ki = 0 := by
          unfold combE
          rw [HN.out, HE1.out, HE2.out, hE, if_neg (by omega), if_neg (by simp), if_neg (by simp)]
        have := HF.out
        unfold combF at this
        rw [hc, if_neg (by decide)] at this
        exact this)
      clear ha
      go_wp2
      obtain ⟨rfl, rfl⟩ := Prod.mk.inj hG.out
      go_ret2
      have hL : (combL be ab ki).length = k := by rw [combL_length, HN.out]
      have hown2 : Ints wr (some ⟨w.heap.size, 0, none⟩) (combL be ab ki) := by
        unfold combL
        rw [HN.out]
        exact own_ints hown
      exact ⟨_, k, by rw [hL]; rfl, hown2, hbel⟩
end Go.Proofs.Ytlbnicapkfmdoaa
