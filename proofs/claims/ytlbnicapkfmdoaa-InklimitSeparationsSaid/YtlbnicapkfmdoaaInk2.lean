/- Walk of inklimit.Quick. -/
import Derived.Test.YtlbnicapkfmdoaaInk1
import Derived.Test.YtlbnicapkfmdoaaPairs
namespace Go.Proofs.Ytlbnicapkfmdoaa
open Go.RowKit

/-- the first k elements by f, the rest as they were -/
def mixL (xs : List Int) (f : Nat → Int) (k : Nat) : List Int := (List.range xs.length).map fun v => if v < k then f v else xs.getD v 0
theorem mixL_length (xs : List Int) (f : Nat → Int) (k : Nat) : (mixL xs f k).length = xs.length := by simp [mixL]
theorem mixL_set {xs : List Int} {f : Nat → Int} {k : Nat} : (mixL xs f k).set k (f k) = mixL xs f (k + 1) := by
  apply List.ext_getElem
  · simp [mixL]
  · intro i h1 h2
    simp only [mixL, List.getElem_set, List.getElem_map, List.getElem_range]
    split
    · rename_i h; subst h; rw [if_pos (by omega)]
    · rename_i h
      by_cases hi : i < k
      · rw [if_pos hi, if_pos (by omega)]
      · rw [if_neg hi, if_neg (by omega)]
theorem mixL_zero (xs : List Int) (f : Nat → Int) : mixL xs f 0 = xs := by
  apply List.ext_getElem
  · simp [mixL]
  · intro i h1 h2
    simp [mixL, h2]
theorem mixL_all (xs : List Int) (f : Nat → Int) : mixL xs f xs.length = (List.range xs.length).map f := by
  apply List.ext_getElem
  · simp [mixL]
  · intro i h1 h2
    simp only [mixL, List.getElem_map, List.getElem_range]
    rw [if_pos (by simpa [mixL] using h1)]
theorem mixL_at {xs : List Int} {f : Nat → Int} {k : Nat} (h : k < xs.length) : ∃ x, ((mixL xs f k).map (Value.int .i64))[k]? = some (.int .i64 x) := by
  simp [mixL, h]

theorem setCell_twice (w : World) (p : Addr) (u v : Value) : (w.setCell p u).setCell p v = w.setCell p v := by
  unfold World.setCell
  congr 1
  apply Array.ext_getElem?
  intro i
  simp only [Array.getElem?_modify]
  by_cases h : p.block = i
  · simp only [h, if_true, Option.map_map]
    cases w.heap[i]? with
    | none => rfl
    | some x => cases x <;> simp <;> (try split) <;> simp
  · simp [h]

/-- black's part, what is left for the others -/
def keptI (xs : List Int) (b t : Int) : Int := if b < 0 then 0 else min (xs.getD b.toNat 0) t
def restI (xs : List Int) (b : Int) : Int := if b < 0 then xs.sum else xs.sum - xs.getD b.toNat 0
def limV (xs : List Int) (b t : Int) (i : Nat) : Int :=
  if (i : Int) = b then keptI xs b t else if 0 < restI xs b then xs.getD i 0 * (t - keptI xs b t) / restI xs b else 0
def limL (xs : List Int) (b t : Int) : List Int := if xs.sum ≤ t then xs else (List.range xs.length).map (limV xs b t)

theorem le_sum {xs : List Int} (h : xs.all (fun v => within v 0 255) = true) {i : Nat} {x : Int} (hx : xs[i]? = some x) : x ≤ xs.sum := by
  induction xs generalizing i with
  | nil => simp at hx
  | cons y ys ih =>
    simp only [List.all_cons, Bool.and_eq_true] at h
    have h1 := within_iff.1 h.1
    have h2 := sum_bd h.2
    rw [List.sum_cons]
    cases i with
    | zero => simp at hx; omega
    | succ i => have := ih h.2 (by simpa using hx); omega

set_option maxRecDepth 20000 in
set_option maxHeartbeats 4000000 in
theorem quick_any (A : Option Addr) (xs : List Int) (c : Nat) (b t : Int) (w : World) (hl : xs.length ≤ 8) (hall : xs.all (fun v => within v 0 255) = true) (h : Ints w A xs) (hb0 : -1 ≤ b) (hb1 : b < xs.length) (ht0 : 0 ≤ t) (ht1 : t ≤ 2040) :
    Calls Try.prog 63 #[.slice A xs.length c, .int .i64 b, .int .i64 t] w (OutInts1 (limL xs b t) w) := by
  obtain ⟨i0, hi, hz0, hz1, hz2⟩ := info_parts intInfo
  have HA := Lib.hid hall
  clear hall
  have hsum := sum_bd HA.out
  have hs0 := hsum.1
  have hs1 : xs.sum ≤ 2040 := by have := hsum.2; omega
  by_cases hle : xs.sum ≤ t
  · have hF := Lib.hid (show limL xs b t = xs from if_pos hle)
    clear hsum
    go_enter Try.func63, Try.ntmps63
    go_wp2_with (first
      | (at_builtin; refine wpList_append_src rfl _ _ 32 rfl w.heap.size 3 i0 (.int .i64 0) 8 Try.underlying32 hi hz0 hz1 hz2 rfl (.slice none 0 0) 0 [] (by rfl) (World.ownsRow_nil _ _ _ _) A xs.length c (xs.map (.int .i64)) (by rfl) (by simp) h (ints_one xs) (by simp only [maxLen]; omega) (by omega) (Nat.le_refl _) ?_; intro A' c' w1 hown hgrow; simp only [Nat.zero_add, List.nil_append] at hown; have hb := below_of_grown hgrow)
      | (go_at_call 65; refine (isum_any _ _ _ _ (by omega) HA.out (h.kept hb)).mono ?_; rintro e w' ⟨rfl, rfl⟩))
    go_ret
    rw [hF.out]
    exact ⟨A', c', by simp, own_ints hown, hb⟩
  · have hF := Lib.hid (show limL xs b t = (List.range xs.length).map (limV xs b t) from if_neg hle)
    have hle' : t < xs.sum := by omega
    have hlen8 : (xs.length : Int) ≤ 8 := by omega
    clear hsum hle
    by_cases hbn : b < 0
    · obtain rfl : b = -1 := by omega
      have hK := Lib.hid (show keptI xs (-1) t = 0 from rfl)
      have hR := Lib.hid (show restI xs (-1) = xs.sum from rfl)
      clear hbn hb0 hb1
      go_enter Try.func63, Try.ntmps63
      go_wp2_with (first | (at_builtin; refine wpList_append_src rfl _ _ 32 rfl w.heap.size 3 i0 (.int .i64 0) 8 Try.underlying32 hi hz0 hz1 hz2 rfl (.slice none 0 0) 0 [] (by rfl) (World.ownsRow_nil _ _ _ _) A xs.length c (xs.map (.int .i64)) (by rfl) (by simp) h (ints_one xs) (by simp only [maxLen]; omega) (by omega) (Nat.le_refl _) ?_; intro A' c' w1 hown hgrow; simp only [Nat.zero_add, List.nil_append] at hown; have hb := below_of_grown hgrow) | (go_at_call 65; refine (isum_any _ _ _ _ (by omega) HA.out (h.kept hb)).mono ?_; rintro e w' ⟨rfl, rfl⟩))
      go_loopg [10, 11, 36, 56] xs.length (fun gk _ _ i _ wr => ∃ k : Nat, k + gk = xs.length ∧ i = .int .i64 k ∧ wr.ownsRow w.heap.size 3 1 (.slice A' xs.length c') xs.length ((mixL xs (limV xs (-1) t) k).map (.int .i64)) ∧ Below w.heap.size w wr)
      case atStart => exact ⟨0, by omega, rfl, by rw [mixL_zero]; exact hown, hb⟩
      case round =>
        obtain ⟨k, hgk, rfl, hown, hbel⟩ := hrel
        by_cases hlt : k < xs.length
        · obtain ⟨b2, o2, x, hA2, hx, hc⟩ := (h.kept hbel).at hlt
          subst hA2
          obtain ⟨g, cap, hv, hgb, _⟩ := hown.form (by omega)
          injection hv with hv1 _ hv2
          subst hv1
          subst hv2
          obtain ⟨old, hold⟩ := mixL_at (xs := xs) (f := limV xs (-1) t) hlt
          have hcg := (hown.cellAt k (by omega)).trans hold
          have hfg := hown.frozenAt k
          have hgw : g < wr.heap.size := lt_of_cell hcg
          have hxx := tones_in HA.out hx.out
          have hx0 := hxx.1
          have hx1 := hxx.2
          obtain ⟨m1, m2⟩ := mul_bd (a := x) (b := t) (m := 255) (n := 2040) hx0 hx1 (by omega) (by omega)
          have hgx := Lib.hid (show xs.getD k 0 = x by rw [List.getD, hx.out]; rfl)
          have HO := Lib.hid hown
          have HG := Lib.hid hgk
          have HOLD := Lib.hid hold
          have HH := Lib.hid h
          clear hown hgk hxx hold h
          have fin : ∀ (v : Int), v = limV xs (-1) t k → ∀ W, W = wr.setCell ⟨g, k, none⟩ (.int .i64 v) → W.ownsRow w.heap.size 3 1 (.slice (some ⟨g, 0, none⟩) xs.length c') xs.length ((mixL xs (limV xs (-1) t) (k + 1)).map (.int .i64)) ∧ Below w.heap.size w W := by
            intro v hv W hW
            subst hW
            subst hv
            refine ⟨?_, hbel.setCell hgb _⟩
            have hs := (HO.out.stored k (.int .i64 (limV xs (-1) t k))).1
            rw [map_set_int, mixL_set] at hs
            exact hs
          have FIN := Lib.hid fin
          clear fin
          have heq : ((k : Int) == -1) = false := by rw [beq_eq_false_iff_ne]; omega
          have hne := Lib.hid (show ¬ (k : Int) = -1 by omega)
          by_cases hpos : 0 < xs.sum
          · have hP := Lib.hid hpos
            go_wp2
            go_roundg (gk - 1)
            case measure => have := HG.out; omega
            case rel =>
              have := FIN.out (x * t / xs.sum) (by unfold limV; rw [if_neg hne.out, hR.out, hK.out, if_pos hP.out, hgx.out]; rw [Int.sub_zero]) _ rfl
              refine ⟨k + 1, by have := HG.out; omega, by go_num, ?_, ?_⟩
              · first | exact this.1 | (rw [setCell_twice]; exact this.1)
              · first | exact this.2 | (rw [setCell_twice]; exact this.2)
          · omega
        · obtain rfl : k = xs.length := by omega
          rw [mixL_all] at hown
          go_wp2
          go_ret
          rw [hF.out]
          exact ⟨A', c', by simp, own_ints hown, hbel⟩
    · obtain ⟨bn, rfl⟩ := Int.eq_ofNat_of_zero_le (show 0 ≤ b by omega)
      obtain ⟨bb, o, xb, rfl, hx, hc⟩ := h.at (i := bn) (by omega)
      have hxb := tones_in HA.out hx.out
      have hxs := le_sum HA.out hx.out
      have hww : bb < w.heap.size := lt_of_cell hc
      have hK := Lib.hid (show keptI xs bn t = min xb t by unfold keptI; rw [if_neg hbn, Int.toNat_natCast, List.getD, hx.out]; rfl)
      have hR := Lib.hid (show restI xs bn = xs.sum - xb by unfold restI; rw [if_neg hbn, Int.toNat_natCast, List.getD, hx.out]; rfl)
      have hbn' : (0 : Int) ≤ bn := by omega
      clear hbn hb0
      by_cases hmin : xb ≤ t
      · have hK := Lib.hid (hK.out.trans (Int.min_eq_left hmin))
        go_enter Try.func63, Try.ntmps63
        go_wp2_with (first | (at_builtin; refine wpList_append_src rfl _ _ 32 rfl w.heap.size 3 i0 (.int .i64 0) 8 Try.underlying32 hi hz0 hz1 hz2 rfl (.slice none 0 0) 0 [] (by rfl) (World.ownsRow_nil _ _ _ _) (some ⟨bb, o, none⟩) xs.length c (xs.map (.int .i64)) (by rfl) (by simp) h (ints_one xs) (by simp only [maxLen]; omega) (by omega) (Nat.le_refl _) ?_; intro A' c' w1 hown hgrow; simp only [Nat.zero_add, List.nil_append] at hown; have hb := below_of_grown hgrow; have hc1 := cell_kept hb hc) | (go_at_call 65; refine (isum_any _ _ _ _ (by omega) HA.out (h.kept hb)).mono ?_; rintro e w' ⟨rfl, rfl⟩))
        go_loopg [10, 11, 36, 56] xs.length (fun gk _ _ i _ wr => ∃ k : Nat, k + gk = xs.length ∧ i = .int .i64 k ∧ wr.ownsRow w.heap.size 3 1 (.slice A' xs.length c') xs.length ((mixL xs (limV xs bn t) k).map (.int .i64)) ∧ Below w.heap.size w wr)
        case atStart => exact ⟨0, by omega, rfl, by rw [mixL_zero]; exact hown, hb⟩
        case round =>
          obtain ⟨k, hgk, rfl, hown, hbel⟩ := hrel
          by_cases hlt : k < xs.length
          · obtain ⟨b2, o2, x, hA2, hx, hc⟩ := (h.kept hbel).at hlt
            obtain ⟨rfl, rfl⟩ : bb = b2 ∧ o = o2 := by injection hA2 with e; injection e with e1 e2; exact ⟨e1, e2⟩
            obtain ⟨g, cap, hv, hgb, _⟩ := hown.form (by omega)
            injection hv with hv1 _ hv2
            subst hv1
            subst hv2
            obtain ⟨old, hold⟩ := mixL_at (xs := xs) (f := limV xs bn t) hlt
            have hcg := (hown.cellAt k (by omega)).trans hold
            have hfg := hown.frozenAt k
            have hgw : g < wr.heap.size := lt_of_cell hcg
            have hxx := tones_in HA.out hx.out
            have hx0 := hxx.1
            have hx1 := hxx.2
            obtain ⟨m1, m2⟩ := mul_bd (a := x) (b := (t - xb)) (m := 255) (n := 2040) hx0 hx1 (by omega) (by omega)
            have hgx := Lib.hid (show xs.getD k 0 = x by rw [List.getD, hx.out]; rfl)
            have HO := Lib.hid hown
            have HG := Lib.hid hgk
            have HOLD := Lib.hid hold
            have HH := Lib.hid h
            clear hown hgk hxx hold h
            have fin : ∀ (v : Int), v = limV xs bn t k → ∀ W, W = wr.setCell ⟨g, k, none⟩ (.int .i64 v) → W.ownsRow w.heap.size 3 1 (.slice (some ⟨g, 0, none⟩) xs.length c') xs.length ((mixL xs (limV xs bn t) (k + 1)).map (.int .i64)) ∧ Below w.heap.size w W := by
              intro v hv W hW
              subst hW
              subst hv
              refine ⟨?_, hbel.setCell hgb _⟩
              have hs := (HO.out.stored k (.int .i64 (limV xs bn t k))).1
              rw [map_set_int, mixL_set] at hs
              exact hs
            have FIN := Lib.hid fin
            clear fin
            by_cases hkb : k = bn
            · subst hkb
              have heq : ((k : Int) == (k : Int)) = true := by simp
              go_wp2
              go_roundg (gk - 1)
              case measure => have := HG.out; omega
              case rel =>
                have := FIN.out (xb) (by unfold limV; rw [if_pos rfl, hK.out]) _ rfl
                refine ⟨k + 1, by have := HG.out; omega, by go_num, ?_, ?_⟩
                · first | exact this.1 | (rw [setCell_twice]; exact this.1)
                · first | exact this.2 | (rw [setCell_twice]; exact this.2)
            · have heq : ((k : Int) == (bn : Int)) = false := by rw [beq_eq_false_iff_ne]; omega
              have hne := Lib.hid (show ¬ (k : Int) = (bn : Int) by omega)
              clear hkb
              by_cases hpos : 0 < xs.sum - xb
              · have hP := Lib.hid hpos
                go_wp2
                go_roundg (gk - 1)
                case measure => have := HG.out; omega
                case rel =>
                  have := FIN.out (x * (t - xb) / (xs.sum - xb)) (by unfold limV; rw [if_neg hne.out, hR.out, hK.out, if_pos hP.out, hgx.out]) _ rfl
                  refine ⟨k + 1, by have := HG.out; omega, by go_num, ?_, ?_⟩
                  · first | exact this.1 | (rw [setCell_twice]; exact this.1)
                  · first | exact this.2 | (rw [setCell_twice]; exact this.2)
              · omega
          · obtain rfl : k = xs.length := by omega
            rw [mixL_all] at hown
            go_wp2
            go_ret
            rw [hF.out]
            exact ⟨A', c', by simp, own_ints hown, hbel⟩
      · have hmin : t < xb := by omega
        have hK := Lib.hid (hK.out.trans (Int.min_eq_right (Int.le_of_lt hmin)))
        go_enter Try.func63, Try.ntmps63
        go_wp2_with (first | (at_builtin; refine wpList_append_src rfl _ _ 32 rfl w.heap.size 3 i0 (.int .i64 0) 8 Try.underlying32 hi hz0 hz1 hz2 rfl (.slice none 0 0) 0 [] (by rfl) (World.ownsRow_nil _ _ _ _) (some ⟨bb, o, none⟩) xs.length c (xs.map (.int .i64)) (by rfl) (by simp) h (ints_one xs) (by simp only [maxLen]; omega) (by omega) (Nat.le_refl _) ?_; intro A' c' w1 hown hgrow; simp only [Nat.zero_add, List.nil_append] at hown; have hb := below_of_grown hgrow; have hc1 := cell_kept hb hc) | (go_at_call 65; refine (isum_any _ _ _ _ (by omega) HA.out (h.kept hb)).mono ?_; rintro e w' ⟨rfl, rfl⟩))
        go_loopg [10, 11, 36, 56] xs.length (fun gk _ _ i _ wr => ∃ k : Nat, k + gk = xs.length ∧ i = .int .i64 k ∧ wr.ownsRow w.heap.size 3 1 (.slice A' xs.length c') xs.length ((mixL xs (limV xs bn t) k).map (.int .i64)) ∧ Below w.heap.size w wr)
        case atStart => exact ⟨0, by omega, rfl, by rw [mixL_zero]; exact hown, hb⟩
        case round =>
          obtain ⟨k, hgk, rfl, hown, hbel⟩ := hrel
          by_cases hlt : k < xs.length
          · obtain ⟨b2, o2, x, hA2, hx, hc⟩ := (h.kept hbel).at hlt
            obtain ⟨rfl, rfl⟩ : bb = b2 ∧ o = o2 := by injection hA2 with e; injection e with e1 e2; exact ⟨e1, e2⟩
            obtain ⟨g, cap, hv, hgb, _⟩ := hown.form (by omega)
            injection hv with hv1 _ hv2
            subst hv1
            subst hv2
            obtain ⟨old, hold⟩ := mixL_at (xs := xs) (f := limV xs bn t) hlt
            have hcg := (hown.cellAt k (by omega)).trans hold
            have hfg := hown.frozenAt k
            have hgw : g < wr.heap.size := lt_of_cell hcg
            have hxx := tones_in HA.out hx.out
            have hx0 := hxx.1
            have hx1 := hxx.2
            obtain ⟨m1, m2⟩ := mul_bd (a := x) (b := t) (m := 255) (n := 2040) hx0 hx1 (by omega) (by omega)
            have hgx := Lib.hid (show xs.getD k 0 = x by rw [List.getD, hx.out]; rfl)
            have HO := Lib.hid hown
            have HG := Lib.hid hgk
            have HOLD := Lib.hid hold
            have HH := Lib.hid h
            clear hown hgk hxx hold h
            have fin : ∀ (v : Int), v = limV xs bn t k → ∀ W, W = wr.setCell ⟨g, k, none⟩ (.int .i64 v) → W.ownsRow w.heap.size 3 1 (.slice (some ⟨g, 0, none⟩) xs.length c') xs.length ((mixL xs (limV xs bn t) (k + 1)).map (.int .i64)) ∧ Below w.heap.size w W := by
              intro v hv W hW
              subst hW
              subst hv
              refine ⟨?_, hbel.setCell hgb _⟩
              have hs := (HO.out.stored k (.int .i64 (limV xs bn t k))).1
              rw [map_set_int, mixL_set] at hs
              exact hs
            have FIN := Lib.hid fin
            clear fin
            by_cases hkb : k = bn
            · subst hkb
              have heq : ((k : Int) == (k : Int)) = true := by simp
              go_wp2
              go_roundg (gk - 1)
              case measure => have := HG.out; omega
              case rel =>
                have := FIN.out (t) (by unfold limV; rw [if_pos rfl, hK.out]) _ rfl
                refine ⟨k + 1, by have := HG.out; omega, by go_num, ?_, ?_⟩
                · first | exact this.1 | (rw [setCell_twice]; exact this.1)
                · first | exact this.2 | (rw [setCell_twice]; exact this.2)
            · have heq : ((k : Int) == (bn : Int)) = false := by rw [beq_eq_false_iff_ne]; omega
              have hne := Lib.hid (show ¬ (k : Int) = (bn : Int) by omega)
              clear hkb
              by_cases hpos : 0 < xs.sum - xb
              · have hP := Lib.hid hpos
                go_wp2
                go_roundg (gk - 1)
                case measure => have := HG.out; omega
                case rel =>
                  have := FIN.out (0) (by unfold limV; rw [if_neg hne.out, hR.out, hK.out, if_pos hP.out, hgx.out]; simp) _ rfl
                  refine ⟨k + 1, by have := HG.out; omega, by go_num, ?_, ?_⟩
                  · first | exact this.1 | (rw [setCell_twice]; exact this.1)
                  · first | exact this.2 | (rw [setCell_twice]; exact this.2)
              · have hP := Lib.hid hpos
                have hpos' : xs.sum - xb ≤ 0 := by omega
                go_wp2
                go_roundg (gk - 1)
                case measure => have := HG.out; omega
                case rel =>
                  have := FIN.out (0) (by unfold limV; rw [if_neg hne.out, hR.out, if_neg (Int.not_lt.2 hpos')]) _ rfl
                  refine ⟨k + 1, by have := HG.out; omega, by go_num, ?_, ?_⟩
                  · first | exact this.1 | (rw [setCell_twice]; exact this.1)
                  · first | exact this.2 | (rw [setCell_twice]; exact this.2)
          · obtain rfl : k = xs.length := by omega
            rw [mixL_all] at hown
            go_wp2
            go_ret
            rw [hF.out]
            exact ⟨A', c', by simp, own_ints hown, hbel⟩
end Go.Proofs.Ytlbnicapkfmdoaa
