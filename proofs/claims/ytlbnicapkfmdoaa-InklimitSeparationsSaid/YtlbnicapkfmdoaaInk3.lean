/- Walk of the reference's Limited. -/
import Derived.Test.YtlbnicapkfmdoaaInk2
namespace Go.Proofs.Ytlbnicapkfmdoaa
open Go.RowKit

theorem own_new0 (w : World) (base : Nat) (e : TypeId) (s H : Nat) (hH : w.heap.size = H) (hb : base ≤ H) : (w.alloc (.cells #[] e)).ownsRow base e s (.slice (some ⟨H, 0, none⟩) 0 0) 0 [] := by
  subst hH
  exact ⟨by simp, .inr ⟨w.heap.size, 0, #[], rfl, hb, heap_alloc_new w _, Nat.le_refl _, by simp [maxLen], by simp, by simp⟩⟩

set_option maxRecDepth 20000 in
set_option maxHeartbeats 4000000 in
theorem rlimited_any (A : Option Addr) (xs : List Int) (c : Nat) (b t : Int) (w : World) (hl : xs.length ≤ 8) (hall : xs.all (fun v => within v 0 255) = true) (h : Ints w A xs) (hb0 : -1 ≤ b) (hb1 : b < xs.length) (ht0 : 0 ≤ t) (ht1 : t ≤ 2040) :
    Calls Try.prog 38 #[.slice A xs.length c, .int .i64 b, .int .i64 t] w (OutInts1 (limL xs b t) w) := by
  obtain ⟨i0, hi, hz0, hz1, hz2⟩ := info_parts intInfo
  have HA := Lib.hid hall
  clear hall
  have hsum := sum_bd HA.out
  have hs0 := hsum.1
  have hs1 : xs.sum ≤ 2040 := by have := hsum.2; omega
  have ha0 : Below w.heap.size w (w.alloc (.cells #[] 3)) := (Below.refl _ _).alloc (Nat.le_refl _) _
  by_cases hle : xs.sum ≤ t
  · have hF := Lib.hid (show limL xs b t = xs from if_pos hle)
    clear hsum
    go_enter Try.func38, Try.ntmps38
    go_wp2_with (first | (at_builtin; refine wpList_append_src rfl _ _ 32 rfl w.heap.size 3 i0 (.int .i64 0) 8 Try.underlying32 hi hz0 hz1 hz2 rfl (.slice (some ⟨w.heap.size, 0, none⟩) 0 0) 0 [] (by rfl) (own_new0 _ _ _ _ _ rfl (Nat.le_refl _)) A xs.length c (xs.map (.int .i64)) (by rfl) (by simp) (h.kept ha0) (ints_one xs) (by simp only [maxLen]; omega) (by omega) ha0.size ?_; intro A' c' w1 hown hgrow; simp only [Nat.zero_add, List.nil_append] at hown; have hb : Below w.heap.size w w1 := ha0.grown hgrow ha0.size (fun k hk => by simp [Value.ownBlock] at hk; omega)) | (go_at_call 41; refine (rtotal_any _ _ _ _ (by omega) HA.out (h.kept hb)).mono ?_; rintro e w' ⟨rfl, rfl⟩))
    go_ret
    rw [hF.out]
    exact ⟨A', c', by simp, own_ints hown, hb⟩
  · have hF := Lib.hid (show limL xs b t = (List.range xs.length).map (limV xs b t) from if_neg hle)
    have hle' : t < xs.sum := by omega
    have hlen8 : (xs.length : Int) ≤ 8 := by omega
    clear hsum hle
    by_cases hbn : b < 0
    · obtain rfl : b = -1 := by omega
      have hK := Lib.hid (show keptI xs (-1) t = 0 from rfl)
      have hR := Lib.hid (show restI xs (-1) = xs.sum from rfl)
      have hpos : 0 < xs.sum := by omega
      clear hbn hb0 hb1
      go_enter Try.func38, Try.ntmps38
      go_wp2_with (first | (at_builtin; refine wpList_append_src rfl _ _ 32 rfl w.heap.size 3 i0 (.int .i64 0) 8 Try.underlying32 hi hz0 hz1 hz2 rfl (.slice (some ⟨w.heap.size, 0, none⟩) 0 0) 0 [] (by rfl) (own_new0 _ _ _ _ _ rfl (Nat.le_refl _)) A xs.length c (xs.map (.int .i64)) (by rfl) (by simp) (h.kept ha0) (ints_one xs) (by simp only [maxLen]; omega) (by omega) ha0.size ?_; intro A' c' w1 hown hgrow; simp only [Nat.zero_add, List.nil_append] at hown; have hb : Below w.heap.size w w1 := ha0.grown hgrow ha0.size (fun k hk => by simp [Value.ownBlock] at hk; omega)) | (go_at_call 41; refine (rtotal_any _ _ _ _ (by omega) HA.out (h.kept hb)).mono ?_; rintro e w' ⟨rfl, rfl⟩))
      go_loopg [9, 10, 27] xs.length (fun gk _ _ i wr => ∃ k : Nat, k + gk = xs.length ∧ i = .int .i64 k ∧ wr.ownsRow w.heap.size 3 1 (.slice A' xs.length c') xs.length ((mixL xs (limV xs (-1) t) k).map (.int .i64)) ∧ Below w.heap.size w wr)
      case atStart => exact ⟨0, by omega, rfl, by rw [mixL_zero]; exact hown, hb⟩
      case round =>
        obtain ⟨k, hgk, rfl, hown, hbel⟩ := hrel
        by_cases hlt : k < xs.length
        · obtain ⟨b2, o2, x, hA2, hx, hc⟩ := (h.kept hbel).at hlt
          subst hA2
          obtain ⟨g, cap, hv, hgb, _⟩ := hown.form (by omega)
          injection hv with hv1 _ hv2
          subst hv1
          subst hv2
          obtain ⟨old, hold⟩ := mixL_at (xs := xs) (f := limV xs (-1) t) hlt
          have hcg := (hown.cellAt k (by omega)).trans hold
          have hfg := hown.frozenAt k
          have hgw : g < wr.heap.size := lt_of_cell hcg
          have hxx := tones_in HA.out hx.out
          have hx0 := hxx.1
          have hx1 := hxx.2
          obtain ⟨m1, m2⟩ := mul_bd (a := x) (b := t) (m := 255) (n := 2040) hx0 hx1 (by omega) (by omega)
          have hgx := Lib.hid (show xs.getD k 0 = x by rw [List.getD, hx.out]; rfl)
          have HO := Lib.hid hown
          have HG := Lib.hid hgk
          have HOLD := Lib.hid hold
          have HH := Lib.hid h
          clear hown hgk hxx hold h
          have fin : ∀ (v : Int), v = limV xs (-1) t k → ∀ W, W = wr.setCell ⟨g, k, none⟩ (.int .i64 v) → W.ownsRow w.heap.size 3 1 (.slice (some ⟨g, 0, none⟩) xs.length c') xs.length ((mixL xs (limV xs (-1) t) (k + 1)).map (.int .i64)) ∧ Below w.heap.size w W := by
            intro v hv W hW
            subst hW
            subst hv
            refine ⟨?_, hbel.setCell hgb _⟩
            have hs := (HO.out.stored k (.int .i64 (limV xs (-1) t k))).1
            rw [map_set_int, mixL_set] at hs
            exact hs
          have FIN := Lib.hid fin
          clear fin
          have hne := Lib.hid (show ¬ (k : Int) = -1 by omega)
          go_wp2
          go_roundg (gk - 1)
          case measure => have := HG.out; omega
          case rel =>
            have := FIN.out (x * t / xs.sum) (by unfold limV; rw [if_neg hne.out, hR.out, hK.out, if_pos hpos, hgx.out]; rw [Int.sub_zero]) _ rfl
            refine ⟨k + 1, by have := HG.out; omega, by go_num, ?_, ?_⟩
            · first | exact this.1 | (rw [setCell_twice]; exact this.1)
            · first | exact this.2 | (rw [setCell_twice]; exact this.2)
        · obtain rfl : k = xs.length := by omega
          rw [mixL_all] at hown
          go_wp2
          go_ret
          rw [hF.out]
          exact ⟨A', c', by simp, own_ints hown, hbel⟩
    · obtain ⟨bn, rfl⟩ := Int.eq_ofNat_of_zero_le (show 0 ≤ b by omega)
      obtain ⟨bb, o, xb, rfl, hx, hc⟩ := h.at (i := bn) (by omega)
      have hxb := tones_in HA.out hx.out
      have hxs := le_sum HA.out hx.out
      have hww : bb < w.heap.size := lt_of_cell hc
      have hK := Lib.hid (show keptI xs bn t = min xb t by unfold keptI; rw [if_neg hbn, Int.toNat_natCast, List.getD, hx.out]; rfl)
      have hR := Lib.hid (show restI xs bn = xs.sum - xb by unfold restI; rw [if_neg hbn, Int.toNat_natCast, List.getD, hx.out]; rfl)
      have hbn' : (0 : Int) ≤ bn := by omega
      clear hbn hb0
      by_cases hmin : xb < t
      · have hK := Lib.hid (hK.out.trans (Int.min_eq_left (Int.le_of_lt hmin)))
        have hpos : 0 < xs.sum - xb := by omega
        have hmin2 : xb ≤ t := by omega
        go_enter Try.func38, Try.ntmps38
        go_wp2_with (first | (at_builtin; refine wpList_append_src rfl _ _ 32 rfl w.heap.size 3 i0 (.int .i64 0) 8 Try.underlying32 hi hz0 hz1 hz2 rfl (.slice (some ⟨w.heap.size, 0, none⟩) 0 0) 0 [] (by rfl) (own_new0 _ _ _ _ _ rfl (Nat.le_refl _)) (some ⟨bb, o, none⟩) xs.length c (xs.map (.int .i64)) (by rfl) (by simp) (h.kept ha0) (ints_one xs) (by simp only [maxLen]; omega) (by omega) ha0.size ?_; intro A' c' w1 hown hgrow; simp only [Nat.zero_add, List.nil_append] at hown; have hb : Below w.heap.size w w1 := ha0.grown hgrow ha0.size (fun k hk => by simp [Value.ownBlock] at hk; omega); have hc1 := cell_kept hb hc) | (go_at_call 41; refine (rtotal_any _ _ _ _ (by omega) HA.out (h.kept hb)).mono ?_; rintro e w' ⟨rfl, rfl⟩))
        go_loopg [12, 13, 48, 65, 75] xs.length (fun gk _ _ i _ _ wr => ∃ k : Nat, k + gk = xs.length ∧ i = .int .i64 k ∧ wr.ownsRow w.heap.size 3 1 (.slice A' xs.length c') xs.length ((mixL xs (limV xs bn t) k).map (.int .i64)) ∧ Below w.heap.size w wr)
        case atStart => exact ⟨0, by omega, rfl, by rw [mixL_zero]; exact hown, hb⟩
        case round =>
          obtain ⟨k, hgk, rfl, hown, hbel⟩ := hrel
          by_cases hlt : k < xs.length
          · obtain ⟨b2, o2, x, hA2, hx, hc⟩ := (h.kept hbel).at hlt
            obtain ⟨rfl, rfl⟩ : bb = b2 ∧ o = o2 := by injection hA2 with e; injection e with e1 e2; exact ⟨e1, e2⟩
            obtain ⟨g, cap, hv, hgb, _⟩ := hown.form (by omega)
            injection hv with hv1 _ hv2
            subst hv1
            subst hv2
            obtain ⟨old, hold⟩ := mixL_at (xs := xs) (f := limV xs bn t) hlt
            have hcg := (hown.cellAt k (by omega)).trans hold
            have hfg := hown.frozenAt k
            have hgw : g < wr.heap.size := lt_of_cell hcg
            have hxx := tones_in HA.out hx.out
            have hx0 := hxx.1
            have hx1 := hxx.2
            obtain ⟨m1, m2⟩ := mul_bd (a := x) (b := (t - xb)) (m := 255) (n := 2040) hx0 hx1 (by omega) (by omega)
            have hgx := Lib.hid (show xs.getD k 0 = x by rw [List.getD, hx.out]; rfl)
            have HO := Lib.hid hown
            have HG := Lib.hid hgk
            have HOLD := Lib.hid hold
            have HH := Lib.hid h
            clear hown hgk hxx hold h
            have fin : ∀ (v : Int), v = limV xs bn t k → ∀ W, W = wr.setCell ⟨g, k, none⟩ (.int .i64 v) → W.ownsRow w.heap.size 3 1 (.slice (some ⟨g, 0, none⟩) xs.length c') xs.length ((mixL xs (limV xs bn t) (k + 1)).map (.int .i64)) ∧ Below w.heap.size w W := by
              intro v hv W hW
              subst hW
              subst hv
              refine ⟨?_, hbel.setCell hgb _⟩
              have hs := (HO.out.stored k (.int .i64 (limV xs bn t k))).1
              rw [map_set_int, mixL_set] at hs
              exact hs
            have FIN := Lib.hid fin
            clear fin
            by_cases hkb : k = bn
            · subst hkb
              have heq : ((k : Int) == (k : Int)) = true := by simp
              go_wp2
              go_roundg (gk - 1)
              case measure => have := HG.out; omega
              case rel =>
                have := FIN.out (xb) (by unfold limV; rw [if_pos rfl, hK.out]) _ rfl
                refine ⟨k + 1, by have := HG.out; omega, by go_num, ?_, ?_⟩
                · first | exact this.1 | (rw [setCell_twice]; exact this.1)
                · first | exact this.2 | (rw [setCell_twice]; exact this.2)
            · have heq : ((k : Int) == (bn : Int)) = false := by rw [beq_eq_false_iff_ne]; omega
              have hne := Lib.hid (show ¬ (k : Int) = (bn : Int) by omega)
              clear hkb
              go_wp2
              go_roundg (gk - 1)
              case measure => have := HG.out; omega
              case rel =>
                have := FIN.out (x * (t - xb) / (xs.sum - xb)) (by unfold limV; rw [if_neg hne.out, hR.out, hK.out, if_pos hpos, hgx.out]) _ rfl
                refine ⟨k + 1, by have := HG.out; omega, by go_num, ?_, ?_⟩
                · first | exact this.1 | (rw [setCell_twice]; exact this.1)
                · first | exact this.2 | (rw [setCell_twice]; exact this.2)
          · obtain rfl : k = xs.length := by omega
            rw [mixL_all] at hown
            go_wp2
            go_ret
            rw [hF.out]
            exact ⟨A', c', by simp, own_ints hown, hbel⟩
      by_cases hEq : t = xb
      · subst hEq
        have hK := Lib.hid (hK.out.trans (Int.min_eq_right (Int.le_refl _)))
        have h00 := Lib.hid (show ∀ q r : Int, (if 0 < r then q * (t - t) / r else 0) = 0 by intro q r; split <;> simp)
        go_enter Try.func38, Try.ntmps38
        go_wp2_with (first | (at_builtin; refine wpList_append_src rfl _ _ 32 rfl w.heap.size 3 i0 (.int .i64 0) 8 Try.underlying32 hi hz0 hz1 hz2 rfl (.slice (some ⟨w.heap.size, 0, none⟩) 0 0) 0 [] (by rfl) (own_new0 _ _ _ _ _ rfl (Nat.le_refl _)) (some ⟨bb, o, none⟩) xs.length c (xs.map (.int .i64)) (by rfl) (by simp) (h.kept ha0) (ints_one xs) (by simp only [maxLen]; omega) (by omega) ha0.size ?_; intro A' c' w1 hown hgrow; simp only [Nat.zero_add, List.nil_append] at hown; have hb : Below w.heap.size w w1 := ha0.grown hgrow ha0.size (fun k hk => by simp [Value.ownBlock] at hk; omega); have hc1 := cell_kept hb hc) | (go_at_call 41; refine (rtotal_any _ _ _ _ (by omega) HA.out (h.kept hb)).mono ?_; rintro e w' ⟨rfl, rfl⟩))
        go_loopg [12, 13, 48, 65, 75] xs.length (fun gk _ _ i _ _ wr => ∃ k : Nat, k + gk = xs.length ∧ i = .int .i64 k ∧ wr.ownsRow w.heap.size 3 1 (.slice A' xs.length c') xs.length ((mixL xs (limV xs bn t) k).map (.int .i64)) ∧ Below w.heap.size w wr)
        case atStart => exact ⟨0, by omega, rfl, by rw [mixL_zero]; exact hown, hb⟩
        case round =>
          obtain ⟨k, hgk, rfl, hown, hbel⟩ := hrel
          by_cases hlt : k < xs.length
          · obtain ⟨b2, o2, x, hA2, hx, hc⟩ := (h.kept hbel).at hlt
            obtain ⟨rfl, rfl⟩ : bb = b2 ∧ o = o2 := by injection hA2 with e; injection e with e1 e2; exact ⟨e1, e2⟩
            obtain ⟨g, cap, hv, hgb, _⟩ := hown.form (by omega)
            injection hv with hv1 _ hv2
            subst hv1
            subst hv2
            obtain ⟨old, hold⟩ := mixL_at (xs := xs) (f := limV xs bn t) hlt
            have hcg := (hown.cellAt k (by omega)).trans hold
            have hfg := hown.frozenAt k
            have hgw : g < wr.heap.size := lt_of_cell hcg
            have hxx := tones_in HA.out hx.out
            have hx0 := hxx.1
            have hx1 := hxx.2
            obtain ⟨m1, m2⟩ := mul_bd (a := x) (b := t) (m := 255) (n := 2040) hx0 hx1 (by omega) (by omega)
            have hgx := Lib.hid (show xs.getD k 0 = x by rw [List.getD, hx.out]; rfl)
            have HO := Lib.hid hown
            have HG := Lib.hid hgk
            have HOLD := Lib.hid hold
            have HH := Lib.hid h
            clear hown hgk hxx hold h
            have fin : ∀ (v : Int), v = limV xs bn t k → ∀ W, W = wr.setCell ⟨g, k, none⟩ (.int .i64 v) → W.ownsRow w.heap.size 3 1 (.slice (some ⟨g, 0, none⟩) xs.length c') xs.length ((mixL xs (limV xs bn t) (k + 1)).map (.int .i64)) ∧ Below w.heap.size w W := by
              intro v hv W hW
              subst hW
              subst hv
              refine ⟨?_, hbel.setCell hgb _⟩
              have hs := (HO.out.stored k (.int .i64 (limV xs bn t k))).1
              rw [map_set_int, mixL_set] at hs
              exact hs
            have FIN := Lib.hid fin
            clear fin
            by_cases hkb : k = bn
            · subst hkb
              have heq : ((k : Int) == (k : Int)) = true := by simp
              go_wp2
              go_roundg (gk - 1)
              case measure => have := HG.out; omega
              case rel =>
                have := FIN.out (t) (by unfold limV; rw [if_pos rfl, hK.out]) _ rfl
                refine ⟨k + 1, by have := HG.out; omega, by go_num, ?_, ?_⟩
                · first | exact this.1 | (rw [setCell_twice]; exact this.1)
                · first | exact this.2 | (rw [setCell_twice]; exact this.2)
            · have heq : ((k : Int) == (bn : Int)) = false := by rw [beq_eq_false_iff_ne]; omega
              have hne := Lib.hid (show ¬ (k : Int) = (bn : Int) by omega)
              clear hkb
              go_wp2
              go_roundg (gk - 1)
              case measure => have := HG.out; omega
              case rel =>
                have := FIN.out (0) (by unfold limV; rw [if_neg hne.out, hK.out]; exact (h00.out _ _).symm) _ rfl
                refine ⟨k + 1, by have := HG.out; omega, by go_num, ?_, ?_⟩
                · first | exact this.1 | (rw [setCell_twice]; exact this.1)
                · first | exact this.2 | (rw [setCell_twice]; exact this.2)
          · obtain rfl : k = xs.length := by omega
            rw [mixL_all] at hown
            go_wp2
            go_ret
            rw [hF.out]
            exact ⟨A', c', by simp, own_ints hown, hbel⟩
      · have hmin : t < xb := by omega
        have hK := Lib.hid (hK.out.trans (Int.min_eq_right (Int.le_of_lt hmin)))
        have h00 := Lib.hid (show ∀ q r : Int, (if 0 < r then q * (t - t) / r else 0) = 0 by intro q r; split <;> simp)
        go_enter Try.func38, Try.ntmps38
        go_wp2_with (first | (at_builtin; refine wpList_append_src rfl _ _ 32 rfl w.heap.size 3 i0 (.int .i64 0) 8 Try.underlying32 hi hz0 hz1 hz2 rfl (.slice (some ⟨w.heap.size, 0, none⟩) 0 0) 0 [] (by rfl) (own_new0 _ _ _ _ _ rfl (Nat.le_refl _)) (some ⟨bb, o, none⟩) xs.length c (xs.map (.int .i64)) (by rfl) (by simp) (h.kept ha0) (ints_one xs) (by simp only [maxLen]; omega) (by omega) ha0.size ?_; intro A' c' w1 hown hgrow; simp only [Nat.zero_add, List.nil_append] at hown; have hb : Below w.heap.size w w1 := ha0.grown hgrow ha0.size (fun k hk => by simp [Value.ownBlock] at hk; omega); have hc1 := cell_kept hb hc) | (go_at_call 41; refine (rtotal_any _ _ _ _ (by omega) HA.out (h.kept hb)).mono ?_; rintro e w' ⟨rfl, rfl⟩))
        go_loopg [12, 13, 48, 65, 75] xs.length (fun gk _ _ i _ _ wr => ∃ k : Nat, k + gk = xs.length ∧ i = .int .i64 k ∧ wr.ownsRow w.heap.size 3 1 (.slice A' xs.length c') xs.length ((mixL xs (limV xs bn t) k).map (.int .i64)) ∧ Below w.heap.size w wr)
        case atStart => exact ⟨0, by omega, rfl, by rw [mixL_zero]; exact hown, hb⟩
        case round =>
          obtain ⟨k, hgk, rfl, hown, hbel⟩ := hrel
          by_cases hlt : k < xs.length
          · obtain ⟨b2, o2, x, hA2, hx, hc⟩ := (h.kept hbel).at hlt
            obtain ⟨rfl, rfl⟩ : bb = b2 ∧ o = o2 := by injection hA2 with e; injection e with e1 e2; exact ⟨e1, e2⟩
            obtain ⟨g, cap, hv, hgb, _⟩ := hown.form (by omega)
            injection hv with hv1 _ hv2
            subst hv1
            subst hv2
            obtain ⟨old, hold⟩ := mixL_at (xs := xs) (f := limV xs bn t) hlt
            have hcg := (hown.cellAt k (by omega)).trans hold
            have hfg := hown.frozenAt k
            have hgw : g < wr.heap.size := lt_of_cell hcg
            have hxx := tones_in HA.out hx.out
            have hx0 := hxx.1
            have hx1 := hxx.2
            obtain ⟨m1, m2⟩ := mul_bd (a := x) (b := t) (m := 255) (n := 2040) hx0 hx1 (by omega) (by omega)
            have hgx := Lib.hid (show xs.getD k 0 = x by rw [List.getD, hx.out]; rfl)
            have HO := Lib.hid hown
            have HG := Lib.hid hgk
            have HOLD := Lib.hid hold
            have HH := Lib.hid h
            clear hown hgk hxx hold h
            have fin : ∀ (v : Int), v = limV xs bn t k → ∀ W, W = wr.setCell ⟨g, k, none⟩ (.int .i64 v) → W.ownsRow w.heap.size 3 1 (.slice (some ⟨g, 0, none⟩) xs.length c') xs.length ((mixL xs (limV xs bn t) (k + 1)).map (.int .i64)) ∧ Below w.heap.size w W := by
              intro v hv W hW
              subst hW
              subst hv
              refine ⟨?_, hbel.setCell hgb _⟩
              have hs := (HO.out.stored k (.int .i64 (limV xs bn t k))).1
              rw [map_set_int, mixL_set] at hs
              exact hs
            have FIN := Lib.hid fin
            clear fin
            by_cases hkb : k = bn
            · subst hkb
              have heq : ((k : Int) == (k : Int)) = true := by simp
              go_wp2
              go_roundg (gk - 1)
              case measure => have := HG.out; omega
              case rel =>
                have := FIN.out (t) (by unfold limV; rw [if_pos rfl, hK.out]) _ rfl
                refine ⟨k + 1, by have := HG.out; omega, by go_num, ?_, ?_⟩
                · first | exact this.1 | (rw [setCell_twice]; exact this.1)
                · first | exact this.2 | (rw [setCell_twice]; exact this.2)
            · have heq : ((k : Int) == (bn : Int)) = false := by rw [beq_eq_false_iff_ne]; omega
              have hne := Lib.hid (show ¬ (k : Int) = (bn : Int) by omega)
              clear hkb
              go_wp2
              go_roundg (gk - 1)
              case measure => have := HG.out; omega
              case rel =>
                have := FIN.out (0) (by unfold limV; rw [if_neg hne.out, hK.out]; exact (h00.out _ _).symm) _ rfl
                refine ⟨k + 1, by have := HG.out; omega, by go_num, ?_, ?_⟩
                · first | exact this.1 | (rw [setCell_twice]; exact this.1)
                · first | exact this.2 | (rw [setCell_twice]; exact this.2)
          · obtain rfl : k = xs.length := by omega
            rw [mixL_all] at hown
            go_wp2
            go_ret
            rw [hF.out]
            exact ⟨A', c', by simp, own_ints hown, hbel⟩
end Go.Proofs.Ytlbnicapkfmdoaa
