/- Walk of the law CurveTables. -/
import Derived.Test.YtlbnicapkfmdoaaCurveLaw1
namespace Go.Proofs.Ytlbnicapkfmdoaa
open Go.RowKit

set_option maxRecDepth 100000 in
set_option maxHeartbeats 4000000 in
theorem curveTables_walk (A : Option Addr) (ps : List (Int × Int)) (c : Nat) (w : World) (hl : ps.length ≤ maxLen) (h : Pts w A ps) :
    Calls Try.prog 12 #[.agg #[.slice A ps.length c]] w fun e w' => e = .returned (.bool true) ∧ Below w.heap.size w w' := by
  have hacc : Below w.heap.size w (w.alloc (.cells #[.slice A ps.length c] 49)) := (Below.refl _ _).alloc (Nat.le_refl _) _
  have hbox : (w.alloc (.cells #[.slice A ps.length c] 49)).cell? ⟨w.heap.size, 0, none⟩ = some (.slice A ps.length c) := by simp [go_sem]
  by_cases he : curveE ps = 0
  · have hok := curve_ok he
    have he' : (curveE ps != 0) = false := by simp [he]
    have hF := Lib.hid (show tableF ps = (tabL ps, 0) from if_neg (by omega))
    have hlt : ((tabL ps).length : Int) = 256 := by rw [tabL_length]; rfl
    have hb256 : (((tabL ps).length : Int) != 256) = false := by simp [hlt]
    have HL := Lib.hid hlt
    clear he hlt
    go_enter Try.func12, Try.ntmps12
    go_wp2_with (first | (go_at_call 50; refine (table_is _ hl (h.kept hacc) hF.out).mono ?_; rintro e wa ⟨At, ct, rfl, hT, hb⟩; have hbox := cell_kept hb hbox; have hacc := hacc.trans (hb.mono hacc.size)) | (go_at_call 42; refine (curveWorks_any _).mono ?_; rintro e wa ⟨rfl, hb⟩; have hbox := cell_kept hb hbox; have hacc := hacc.trans (hb.mono hacc.size)) | (go_at_call 36; refine (curveErr_any _ _ _ _ hl (h.kept hacc)).mono ?_; rintro e wa ⟨rfl, hb⟩; have hbox := cell_kept hb hbox; have hacc := hacc.trans (hb.mono hacc.size); have hT := hT.kept hb) | (go_at_call 44; refine (ccheck_any _ _ _ _ hl (h.kept hacc)).mono ?_; rintro e wa ⟨rfl, hb⟩; have hbox := cell_kept hb hbox; have hacc := hacc.trans (hb.mono hacc.size)) | (go_at_call 16; refine (within_any _ _ _ _).mono ?_; rintro e w' ⟨rfl, rfl⟩) | (go_at_call 17; refine (none_any _ _ _ _).mono ?_; rintro e w' ⟨rfl, rfl⟩))
    go_loopg [6, 33] 256 (fun gk _ i wr => ∃ k : Nat, k + gk = 256 ∧ i = .int .i64 k ∧ Ints wr At (tabL ps) ∧ Below w.heap.size w wr ∧ wr.cell? ⟨w.heap.size, 0, none⟩ = some (.slice A ps.length c))
    case atStart => exact ⟨0, by omega, rfl, hT, hacc, hbox⟩
    case round =>
      obtain ⟨k, hgk, rfl, hT, hacc, hbox⟩ := hrel
      by_cases hk : k < 256
      · obtain ⟨b, o, t, rfl, ht, hc⟩ := hT.at (i := k) (by rw [tabL_length]; exact hk)
        have hk' : (k : Int) < ((tabL ps).length : Int) := by rw [HL.out]; omega
        have hkx : 256 * (k : Int) ≤ 65280 := by omega
        obtain ⟨v0, v1⟩ := curveAt_bd hok (x := 256 * (k : Int)) (by omega) hkx
        have iw := i64_in (a := 256 * (k : Int)) (by omega) (by omega)
        have htv : t = rnd (curveAt ps (256 * (k : Int))) 256 := by
          have := ht.out
          simp [tabL, hk, tabV] at this
          exact this.symm
        have hne : (t != rnd (curveAt ps (256 * (k : Int))) 256) = false := by rw [htv]; simp
        have HTV := Lib.hid htv
        have HG := Lib.hid hgk
        clear htv hgk
        go_upto_region 12 with fail
        go_cut [45] from 35 to 46 (fun s wx => s = .bool false ∧ Below wr.heap.size wr wx)
        case first =>
          go_region_held3 (fun w' => w'.cell? ⟨b, o + k, none⟩ = some (.int .i64 t) ∧ w'.cell? ⟨w.heap.size, 0, none⟩ = some (.slice A ps.length c) ∧ Below w.heap.size w w' ∧ Below wr.heap.size wr w') (first | exact ⟨hc, hbox, hacc.drew, (Below.refl _ _).drew⟩ | exact ⟨cell_kept (w := wr.drew) (by assumption) hc, cell_kept (w := wr.drew) (by assumption) hbox, hacc.drew.trans (Below.mono (by assumption : Below wr.drew.heap.size wr.drew _) hacc.size), (Below.refl _ _).drew.trans (by assumption)⟩)
            (first | (go_at_call 37; refine (rcurveAt_any _ _ _ _ _ (h.kept hacc.drew) hok (by omega) hkx).mono ?_; rintro e wa ⟨rfl, hb⟩) | (go_at_call 23; refine (round_any _ _ _ (by omega) (by omega) (by omega) (by omega)).mono ?_; rintro e w' ⟨rfl, rfl⟩))
          all_goals (go_wp2_with fail; go_meet; exact ⟨rfl, by first | assumption | exact (Below.refl _ _).drew.trans (by assumption)⟩)
        case rest =>
          obtain ⟨rfl, hbc⟩ := hcut
          go_wp2
          go_roundg (gk - 1)
          case measure => have := HG.out; omega
          case rel => exact ⟨k + 1, by have := HG.out; omega, by go_num, hT.kept hbc, hacc.trans (hbc.mono hacc.size), cell_kept hbc hbox⟩
      · obtain rfl : k = 256 := by omega
        have hk' : ((256 : Nat) : Int) = ((tabL ps).length : Int) := by rw [HL.out]; rfl
        go_wp2
        go_ret
        exact ⟨rfl, hacc⟩
  · have he' : (curveE ps != 0) = true := by simp [he]
    have hF := Lib.hid (show tableF ps = ([], curveE ps) from if_pos he)
    clear he
    go_enter Try.func12, Try.ntmps12
    go_wp2_with (first | (go_at_call 50; refine (table_is _ hl (h.kept hacc) hF.out).mono ?_; rintro e wa ⟨At, ct, rfl, hT, hb⟩; have hbox := cell_kept hb hbox; have hacc := hacc.trans (hb.mono hacc.size)) | (go_at_call 42; refine (curveWorks_any _).mono ?_; rintro e wa ⟨rfl, hb⟩; have hbox := cell_kept hb hbox; have hacc := hacc.trans (hb.mono hacc.size)) | (go_at_call 36; refine (curveErr_any _ _ _ _ hl (h.kept hacc)).mono ?_; rintro e wa ⟨rfl, hb⟩; have hbox := cell_kept hb hbox; have hacc := hacc.trans (hb.mono hacc.size)) | (go_at_call 44; refine (ccheck_any _ _ _ _ hl (h.kept hacc)).mono ?_; rintro e wa ⟨rfl, hb⟩; have hbox := cell_kept hb hbox; have hacc := hacc.trans (hb.mono hacc.size)) | (go_at_call 16; refine (within_any _ _ _ _).mono ?_; rintro e w' ⟨rfl, rfl⟩) | (go_at_call 17; refine (none_any _ _ _ _).mono ?_; rintro e w' ⟨rfl, rfl⟩))
    go_ret
    exact ⟨rfl, hacc⟩
end Go.Proofs.Ytlbnicapkfmdoaa
