/- Walks of shares, check, Weights, R.Weight, R.Power. -/
import Derived.Test.YtlbnicapkfmdoaaOverPlain
import Derived.Test.YtlbnicapkfmdoaaOver3
import Derived.WalkLawsBesides
namespace Go.Proofs.Ytlbnicapkfmdoaa
open Go.RowKit

theorem below_grown {a w : World} {row : Option Nat} {B : Nat} (h : a.grownBy w row) (hB : B ≤ a.heap.size) (hr : ∀ g, row = some g → B ≤ g) : Below B a w :=
  ⟨h.os, h.tape, h.output, h.size, fun i hi => h.block i (by omega) (by intro e; have := hr i e.symm; omega)⟩
theorem cells_one (w : World) (v : Value) (e : TypeId) (H : Nat) (hH : w.heap.size = H) : Cells (w.alloc (.cells #[v] e)) (some ⟨H, 0, none⟩) [v] := by
  intro i u hu
  subst hH
  have hi : i = 0 := by
    have := (List.getElem?_eq_some_iff.1 hu).1
    simp at this
    omega
  subst hi
  simp at hu
  subst hu
  exact ⟨_, 0, rfl, by simp [go_sem]⟩
theorem one_int (a : Int) : ∀ u ∈ [Value.int .i64 a], u.oneCell' = true := by
  intro u hu
  simp at hu
  subst hu
  rfl
theorem own_new1 (w : World) (base : Nat) (e : TypeId) (a : Value) (H : Nat) (hH : w.heap.size = H) (hb : base ≤ H) : (w.alloc (.cells #[a] e)).ownsRow base e 1 (.slice (some ⟨H, 0, none⟩) 1 1) 1 [a] := by
  subst hH
  exact ⟨rfl, .inr ⟨w.heap.size, 1, #[a], rfl, hb, heap_alloc_new w _, Nat.le_refl _, by simp [maxLen], rfl, rfl⟩⟩
theorem own_of_eq {w : World} {base : Nat} {e : TypeId} {v : Value} {n m : Nat} {xs ys : List Value} (h : w.ownsRow base e 1 v n xs) (hn : n = m) (hx : xs = ys) : w.ownsRow base e 1 v m ys := by
  subst hn; subst hx; exact h
/-- what a call of one result leaves: a slice of numbers of its own -/
def OutOwn1 (xs : List Int) (w : World) (e : Ending) (w' : World) : Prop :=
  ∃ A c, e = .returned (.slice A xs.length c) ∧ w'.ownsRow w.heap.size 3 1 (.slice A xs.length c) xs.length (xs.map (.int .i64)) ∧ Below w.heap.size w w'
theorem OutOwn1.ints {xs : List Int} {w w' : World} {e : Ending} (h : OutOwn1 xs w e w') : OutInts1 xs w e w' := by
  obtain ⟨A, c, h1, h2, h3⟩ := h
  exact ⟨A, c, h1, own_ints h2, h3⟩
set_option maxRecDepth 20000 in
set_option maxHeartbeats 8000000 in
theorem shares_own {A : Option Addr} {ts : List Int} {c : Nat} (w : World) (hA : Ints w A ts) (hn : ts.length ≤ 6) (ht : ∀ v ∈ ts, 0 ≤ v ∧ v ≤ 255) :
    Calls Try.prog 59 #[.slice A ts.length c] w (OutOwn1 (shareL ts) w) := by
  obtain ⟨i0, hi, hz0, hz1, hz2⟩ := info_parts intInfo
  have HT := Lib.hid ht
  clear ht
  go_enter Try.func59, Try.ntmps59
  go_wp2
  go_loopg [3, 12] ts.length (fun gk V i wr => ∃ (k L : Nat) (B : Option Addr) (d : Nat), k + gk = ts.length ∧ i = .int .i64 k ∧ V = .slice B L d ∧ Hid (L = 2 ^ k) ∧ wr.ownsRow w.heap.size 3 1 (.slice B L d) L ((shareK ts k).map (.int .i64)) ∧ Below w.heap.size w wr)
  case atStart => exact ⟨0, 1, _, 1, by omega, rfl, rfl, rfl, own_new1 w _ _ _ _ rfl (Nat.le_refl _), (by repeat (first | assumption | exact Below.refl _ _ | refine below_drewN ?_ _ | refine Below.drew ?_ | refine Below.setCell ?_ (by first | exact Nat.le_refl _ | assumption | (simp; done) | (simp; omega) | omega) _ | refine Below.alloc ?_ (by first | exact Nat.le_refl _ | assumption | (simp; done) | omega | exact Below.size (by assumption) | (simp; omega)) _))⟩
  case round =>
    obtain ⟨go, rfl⟩ : ∃ g : Nat, g = gk := ⟨_, rfl⟩
    obtain ⟨k, L, B, d, hgk, rfl, rfl, hL, hown, hbel⟩ := hrel
    by_cases hlt : k < ts.length
    · obtain ⟨b1, o1, x, rfl, hx, hc1⟩ := (hA.kept hbel).at (i := k) hlt
      obtain ⟨x0, x1⟩ := HT.out x (List.mem_of_getElem? hx.out)
      have hLl : L ≤ 64 := by
        have h1 := hL.out
        have h2 : 2 ^ k ≤ 2 ^ 6 := Nat.pow_le_pow_right (by omega) (by omega)
        omega
      have hacc := Lib.hid (shareK_bd HT.out (k := k) (by omega))
      have hlen := Lib.hid (show (shareK ts k).length = L by rw [shareK_length (by omega), hL.out])
      have hstep := Lib.hid (shareK_succ hx.out)
      have HI := Lib.hid hA
      have HG := Lib.hid hgk
      have HX := Lib.hid hx
      clear hA hgk
      generalize shareK ts k = acc at *
      have hk0 : (0 : Int) ≤ (k : Int) := by omega
      have hk1 : (k : Int) < (ts.length : Int) := by omega
      go_wp2
      go_loopg [3, 19] L (fun gj V i wr => ∃ (j : Nat) (B : Option Addr) (d : Nat), j + gj = L ∧ i = .int .i64 j ∧ V = .slice B (L + j) d ∧ wr.ownsRow w.heap.size 3 1 (.slice B (L + j) d) (L + j) ((accA acc x j).map (.int .i64)) ∧ Below w.heap.size w wr)
      case atStart => exact ⟨0, B, d, by omega, rfl, rfl, by rw [accA_zero]; exact hown, hbel⟩
      case round =>
        obtain ⟨j, B', d', hgj, rfl, rfl, hown', hbel'⟩ := hrel
        by_cases hjl : j < L
        · have hy : acc[j]? = some (acc[j]'(by rw [hlen.out]; exact hjl)) := List.getElem?_eq_getElem _
          generalize acc[j]'(by rw [hlen.out]; exact hjl) = y at hy
          obtain ⟨y0, y1⟩ := hacc.out y (List.mem_of_getElem? hy)
          obtain ⟨g, cap, hv, hgb, _⟩ := hown'.form (by omega)
          injection hv with hv1 _ hv2
          subst hv1
          subst hv2
          have hcg := (hown'.cellAt j (by omega)).trans (show ((accA acc x j).map (Value.int .i64))[j]? = some (.int .i64 y) by rw [List.getElem?_map, accA_at (by rw [hlen.out]; exact hjl), hy]; rfl)
          obtain ⟨m1, m2⟩ := mul_bd (a := y) (b := x) (m := 274941996890625) (n := 255) y0 y1 x0 x1
          have hj0 : (0 : Int) ≤ (j : Int) := by omega
          have hj1 : (j : Int) < ((L + j : Nat) : Int) := by omega
          have hsu := Lib.hid (accA_succ (x := x) hy)
          have HY := Lib.hid hy
          have HGJ := Lib.hid hgj
          have HO := Lib.hid hown'
          clear hy hgj hown'
          have hsz := hbel'.size
          go_wp2_with (at_builtin; refine wpList_append_src rfl _ _ 32 rfl w.heap.size 3 i0 (.int .i64 0) 8 Try.underlying32 hi hz0 hz1 hz2 rfl (.slice (some ⟨g, 0, none⟩) (L + j) d') (L + j) ((accA acc x j).map (.int .i64)) (by rfl) (own_kept HO.out ((Below.refl _ _).alloc (Nat.le_refl _) _)) (some ⟨wr.heap.size, 0, none⟩) 1 1 [.int .i64 (y * x)] (by rfl) rfl (cells_one _ _ _ _ rfl) (one_int _) (by simp only [maxLen]; omega) (by omega) (by simp; omega) ?_; intro A' c' w5 hown5 hgrow5)
          have hb5 : Below w.heap.size w w5 := Below.trans (show Below w.heap.size w (wr.alloc (.cells #[.int .i64 (y * x)] 3)) from (by repeat (first | assumption | exact Below.refl _ _ | refine below_drewN ?_ _ | refine Below.drew ?_ | refine Below.setCell ?_ (by first | exact Nat.le_refl _ | assumption | (simp; done) | (simp; omega) | omega) _ | refine Below.alloc ?_ (by first | exact Nat.le_refl _ | assumption | (simp; done) | omega | exact Below.size (by assumption) | (simp; omega)) _))) (below_grown hgrow5 (by simp; omega) (by intro g' h; simp [Value.ownBlock] at h; omega))
          have hown6 := own_of_eq hown5 (show L + j + 1 = L + (j + 1) from rfl) (show (accA acc x j).map (Value.int .i64) ++ [.int .i64 (y * x)] = (accA acc x (j + 1)).map (Value.int .i64) by rw [hsu.out, List.map_append]; rfl)
          clear hown5 hgrow5 hcg
          go_roundg (gk - 1)
          case measure => have := HGJ.out; omega
          case rel => exact ⟨j + 1, A', c', by have := HGJ.out; omega, by go_num, rfl, hown6, hb5⟩
        · obtain rfl : j = L := by omega
          have hall := Lib.hid (accA_all acc x)
          rw [hlen.out] at hall
          rw [hall.out] at hown'
          go_wp2
          go_loopg [33] j (fun gj i wr => ∃ m : Nat, m + gj = j ∧ i = .int .i64 m ∧ wr.ownsRow w.heap.size 3 1 (.slice B' (j + j) d') (j + j) ((accB acc x m).map (.int .i64)) ∧ Below w.heap.size w wr)
          case atStart => exact ⟨0, by omega, rfl, hown', hbel'⟩
          case round =>
            obtain ⟨m, hgm, rfl, hown2, hbel2⟩ := hrel
            by_cases hml : m < j
            · have hy : acc[m]? = some (acc[m]'(by rw [hlen.out]; exact hml)) := List.getElem?_eq_getElem _
              generalize acc[m]'(by rw [hlen.out]; exact hml) = y at hy
              obtain ⟨y0, y1⟩ := hacc.out y (List.mem_of_getElem? hy)
              obtain ⟨g, cap, hv, hgb, _⟩ := hown2.form (by omega)
              injection hv with hv1 _ hv2
              subst hv1
              subst hv2
              have hcg := (hown2.cellAt m (by omega)).trans (show ((accB acc x m).map (Value.int .i64))[m]? = some (.int .i64 y) by rw [List.getElem?_map, accB_at hy]; rfl)
              have hfg := hown2.frozenAt m
              obtain ⟨m1, m2⟩ := mul_bd (a := y) (b := 255 - x) (m := 274941996890625) (n := 255) y0 y1 (by omega) (by omega)
              have hm0 : (0 : Int) ≤ (m : Int) := by omega
              have hm1 : (m : Int) < ((j + j : Nat) : Int) := by omega
              have hse := Lib.hid (accB_set (x := x) hy)
              have HY := Lib.hid hy
              have HGM := Lib.hid hgm
              have HO := Lib.hid hown2
              clear hy hgm hown2
              go_wp2
              go_roundg (gk - 1)
              case measure => have := HGM.out; omega
              case rel =>
                have hs := (HO.out.stored m (.int .i64 (y * (255 - x)))).1
                rw [map_set_int, hse.out] at hs
                exact ⟨m + 1, by have := HGM.out; omega, by go_num, hs, hbel2.setCell hgb _⟩
            · obtain rfl : m = j := by omega
              have hall2 := Lib.hid (accB_all acc x)
              rw [hlen.out] at hall2
              rw [hall2.out] at hown2
              go_wp2
              go_roundg (go - 1)
              case measure => have := HG.out; omega
              case rel => exact ⟨k + 1, m + m, B', d', by have := HG.out; omega, by go_num, rfl, (by have := hL.out; show m + m = 2 ^ (k + 1); rw [Nat.pow_succ]; omega), by rw [hstep.out]; exact hown2, hbel2⟩
    · obtain rfl : k = ts.length := by omega
      rw [shareK_all] at hown
      obtain rfl : L = (shareL ts).length := by rw [shareL_length]; exact hL.out
      go_wp2
      go_ret
      exact ⟨B, d, rfl, hown, hbel⟩
theorem shares_any {A : Option Addr} {ts : List Int} {c : Nat} (w : World) (hA : Ints w A ts) (hn : ts.length ≤ 6) (ht : ∀ v ∈ ts, 0 ≤ v ∧ v ≤ 255) :
    Calls Try.prog 59 #[.slice A ts.length c] w (OutInts1 (shareL ts) w) := (shares_own w hA hn ht).mono fun _ _ h => h.ints
end Go.Proofs.Ytlbnicapkfmdoaa
