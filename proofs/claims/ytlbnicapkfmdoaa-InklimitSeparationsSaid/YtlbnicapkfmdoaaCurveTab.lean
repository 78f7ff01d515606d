/- Walk of curve.Table. -/
import Derived.Test.YtlbnicapkfmdoaaCurveInv2
import Derived.Test.YtlbnicapkfmdoaaOwn
namespace Go.Proofs.Ytlbnicapkfmdoaa
open Go.RowKit

def tabV (ps : List (Int × Int)) (v : Nat) : Int := rnd (curveAt ps (256 * (v : Int))) 256
def tabL (ps : List (Int × Int)) : List Int := (List.range 256).map (tabV ps)
theorem tabL_length (ps : List (Int × Int)) : (tabL ps).length = 256 := by simp [tabL]
def tableF (ps : List (Int × Int)) : List Int × Int := if curveE ps ≠ 0 then ([], curveE ps) else (tabL ps, 0)
set_option maxRecDepth 20000 in
set_option maxHeartbeats 2000000 in
theorem table_is {A : Option Addr} {ps : List (Int × Int)} {c : Nat} {p : List Int} {q : Int} (w : World) (hl : ps.length ≤ maxLen) (h : Pts w A ps) (hF : tableF ps = (p, q)) :
    Calls Try.prog 50 #[.agg #[.slice A ps.length c]] w (OutInts p q w) := by
  unfold tableF at hF
  have hb0 : Below w.heap.size w (w.alloc (.cells #[.slice A ps.length c] 49)) := (Below.refl _ _).alloc (Nat.le_refl _) _
  by_cases he : curveE ps = 0
  · rw [if_neg (by omega)] at hF
    cases hF
    have hok := curve_ok he
    have he' : (curveE ps != 0) = false := by simp [he]
    have HE := Lib.hid he
    obtain ⟨i0, hi, hz0, hz1, hz2⟩ := info_parts intInfo
    clear he
    go_enter Try.func50, Try.ntmps50
    go_wp2_with (first
      | (go_at_call 44; refine (ccheck_any _ _ _ _ hl (h.kept hb0)).mono ?_; rintro e w2 ⟨rfl, hb2⟩; have hbox := cell_kept (a := ⟨w.heap.size, 0, none⟩) hb2 (by simp [go_sem]; rfl); have hb3 := hb0.trans (hb2.mono hb0.size))
      | (at_make; refine wpList_make_full _ rfl _ _ 32 rfl w.heap.size 3 i0 (.int .i64 0) 1 Try.underlying32 hi hz0 hz1 _ _ _ _ 256 rfl rfl rfl rfl (by omega) (by simp [maxLen]) hb3.size ?_; intro w3 hown hgrow; rw [madeInts, ← partL_zero 256 (tabV ps)] at hown; have hb4 := below_of_grown hgrow))
    go_loopg [6, 15] 256 (fun gk _ i wr => ∃ k : Nat, k + gk = 256 ∧ i = .int .i64 k ∧ wr.ownsRow w.heap.size 3 1 (.slice (some ⟨w2.heap.size, 0, none⟩) 256 256) 256 ((partL 256 (tabV ps) k).map (.int .i64)) ∧ Below w.heap.size w wr ∧ wr.cell? ⟨w.heap.size, 0, none⟩ = some (.slice A ps.length c))
    case atStart => exact ⟨0, by omega, rfl, hown, hb3.trans (hb4.mono hb3.size), cell_kept hb4 hbox⟩
    case round =>
      obtain ⟨k, hgk, rfl, hown, hbel, hbox⟩ := hrel
      have hG : w.heap.size < w2.heap.size := lt_of_cell (cell_kept hb2 (a := ⟨w.heap.size, 0, none⟩) (by simp [go_sem]; rfl))
      by_cases hk : k < 256
      · have hkx : 256 * (k : Int) ≤ 65280 := by omega
        obtain ⟨v0, v1⟩ := curveAt_bd hok (x := 256 * (k : Int)) (by omega) hkx
        have HG := Lib.hid hgk
        clear hgk
        go_wp2_with (first
          | (go_at_call 67; refine (raw_any _ _ _ _ _ (h.kept hbel) hok (by omega) hkx).mono ?_; rintro e w5 ⟨rfl, hb5⟩; have hown5 := own_kept hown hb5; have hc5 := (hown5.cellAt k (by omega)).trans (partL_at hk); have hf5 := hown5.frozenAt k)
          | (go_at_call 54; refine (nearest_any _ _ _ (by omega) (by omega) (by omega) (by omega)).mono ?_; rintro e w' ⟨rfl, rfl⟩))
        go_roundg (gk - 1)
        case measure => have := HG.out; omega
        case rel =>
          refine ⟨k + 1, by have := HG.out; omega, by go_num, ?_, ?_, ?_⟩
          · have hs := (hown5.stored k (.int .i64 (tabV ps k))).1
            rw [map_set_int, partL_set] at hs
            exact hs
          · exact (hbel.trans (hb5.mono hbel.size)).setCell (Nat.le_of_lt hG) _
          · rw [World.cell?_setCell_other _ _ _ _ (by intro e; injection e with e1; omega)]
            exact cell_kept hb5 hbox
      · obtain rfl : k = 256 := by omega
        rw [partL_all] at hown
        go_wp2
        go_ret2
        refine ⟨_, 256, ?_, own_ints hown, hbel⟩
        rw [tabL_length]; rfl
  · rw [if_pos he] at hF
    cases hF
    have he' : (curveE ps != 0) = true := by simp [he]
    clear he
    go_enter Try.func50, Try.ntmps50
    go_wp2_with (go_at_call 44; refine (ccheck_any _ _ _ _ hl (h.kept hb0)).mono ?_; rintro e w2 ⟨rfl, hb2⟩; have hbox := cell_kept (a := ⟨w.heap.size, 0, none⟩) hb2 (by simp [go_sem]; rfl))
    go_ret2
    exact ⟨_, _, rfl, Ints.nil _ _, hb0.trans (hb2.mono hb0.size)⟩
end Go.Proofs.Ytlbnicapkfmdoaa
